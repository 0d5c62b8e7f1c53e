/- Proofs of beginnings: Check, Prove, Clash. -/
import Derived.Test.YtcnhhlnbmliihaaCons4
namespace Go.Proofs.Ytcnhhlnbmliihaa
open Go.RowKit
set_option linter.unusedVariables false
set_option linter.unusedSimpArgs false

def checkC (r : ByteArray × ByteArray × Nat) (f a : ByteArray) : Nat := if r.2.2 = 0 ∧ ¬ (r.1 = f ∧ r.2.1 = a) then 11 else r.2.2
theorem rootsC_two (w : Nat) (kn : ByteArray) (m n : Int) (p : List ByteArray) : (rootsC w kn m n p).2.2 ≤ 2 := by
  unfold rootsC; split
  · show (1 : Nat) ≤ 2; decide
  · split
    · show (0 : Nat) ≤ 2; decide
    · show (2 : Nat) ≤ 2; decide
set_option maxRecDepth 100000 in
theorem cCheckC (w m n : Int) (kn all : ByteArray) (A : Option Addr) (q c : Nat) (p : List ByteArray) (W : World) (hn : n ≤ 1000000) (hk : kn.size ≤ 200000) (hl : p.length = q) (hs : Strs W A p) (hqc : q ≤ c) (hq6 : q ≤ 1000000) (hz : ∀ s ∈ p, s.size ≤ 300000000) :
    Calls Try.prog 29 #[.int .i64 w, .int .i64 m, .int .i64 n, .string kn, .string all, .slice A q c] W fun e W' => e = .returned (.int .i64 (checkC (rootsC (wd w) kn m n p) kn all : Nat)) ∧ Below W.heap.size W W' := by
  have h1 := cRootsC w m n kn A q c p W hn hk hl hs hqc hq6 hz
  have h2 := rootsC_two (wd w) kn m n p
  obtain ⟨R, HR⟩ : ∃ x, Hid (rootsC (wd w) kn m n p = x) := ⟨_, Lib.hid rfl⟩
  rw [HR.out] at h1 h2 ⊢
  obtain ⟨a, b, e⟩ := R
  dsimp only [rT] at h1 h2 ⊢
  have H1 := Lib.hid h1
  clear h1 hl hs hz
  by_cases he : e = 0
  · subst he
    by_cases ha : a = kn
    · by_cases hb : b = all
      · have hc : checkC (a, b, 0) kn all = 0 := if_neg (fun h => h.2 ⟨ha, hb⟩)
        have ha2 : (a.toList == kn.toList) = true := by rw [ha]; exact beq_self_eq_true _
        have hb2 : (b.toList == all.toList) = true := by rw [hb]; exact beq_self_eq_true _
        rw [hc]
        clear ha hb hc
        go_enter Try.func29, Try.ntmps29
        go_wp2_with fail
        (with_reducible refine H1.out.mono ?_); rintro e w1 ⟨rfl, hb1⟩
        go_wp2_with fail
        go_ret
        exact ⟨rfl, hb1⟩
      · have hc : checkC (a, b, 0) kn all = 11 := if_pos ⟨rfl, fun h => hb h.2⟩
        have ha2 : (a.toList == kn.toList) = true := by rw [ha]; exact beq_self_eq_true _
        have hb2 := beq_text_ne hb
        rw [hc]
        clear ha hb hc
        go_enter Try.func29, Try.ntmps29
        go_wp2_with fail
        (with_reducible refine H1.out.mono ?_); rintro e w1 ⟨rfl, hb1⟩
        go_wp2_with fail
        go_ret
        exact ⟨rfl, hb1⟩
    · have hc : checkC (a, b, 0) kn all = 11 := if_pos ⟨rfl, fun h => ha h.1⟩
      have ha2 := beq_text_ne ha
      rw [hc]
      clear ha hc
      go_enter Try.func29, Try.ntmps29
      go_wp2_with fail
      (with_reducible refine H1.out.mono ?_); rintro e w1 ⟨rfl, hb1⟩
      go_wp2_with fail
      go_ret
      exact ⟨rfl, hb1⟩
  · have hc : checkC (a, b, e) kn all = e := if_neg (fun h => he h.1)
    have heI : ((e : Int) == 0) = false := by simp; omega
    rw [hc]
    clear hc
    go_enter Try.func29, Try.ntmps29
    go_wp2_with fail
    (with_reducible refine H1.out.mono ?_); rintro e w1 ⟨rfl, hb1⟩
    go_wp2_with fail
    go_ret
    exact ⟨rfl, hb1⟩
set_option maxRecDepth 100000 in
theorem cProveC_no (w m : Int) (A : Option Addr) (n c : Nat) (l : List ByteArray) (W : World) (h : m < 1 ∨ (n : Int) < m) :
    Calls Try.prog 23 #[.int .i64 w, .int .i64 m, .slice A n c] W fun e W' => e = .returned (.tuple #[.slice none 0 0, .int .i64 1]) ∧ W = W' := by
  rcases Int.lt_or_le m 1 with hm1 | hm1
  · clear h
    go_enter Try.func23, Try.ntmps23
    go_wp2_with fail
    go_ret2
    exact ⟨rfl, rfl⟩
  · have h2 : (n : Int) < m := by omega
    clear h
    go_enter Try.func23, Try.ntmps23
    go_wp2_with fail
    go_ret2
    exact ⟨rfl, rfl⟩
set_option maxRecDepth 100000 in
theorem cProveC (w : Int) (m n : Nat) (A : Option Addr) (c : Nat) (l : List ByteArray) (W : World) (hn : l.length = n) (hs : Strs W A l) (hnc : n ≤ c) (hn6 : n ≤ 1000000) (hz : ∀ s ∈ l, s.size ≤ 300000000) (h1 : 1 ≤ m) (hm : m ≤ n) :
    Calls Try.prog 23 #[.int .i64 w, .int .i64 m, .slice A n c] W fun e W' => ∃ A' c', e = .returned (.tuple #[.slice A' (sub (wd w) m l true).length c', .int .i64 0]) ∧ (sub (wd w) m l true).length ≤ c' ∧ SL W' W.heap.size 9 (.slice A' (sub (wd w) m l true).length c') ((sub (wd w) m l true).map Value.string) ∧ Below W.heap.size W W' := by
  have g1 := cSub w n m true A c l W hn hs hnc hn6 hz h1 hm
  obtain ⟨X, HX⟩ : ∃ x, Hid (sub (wd w) m l true = x) := ⟨_, Lib.hid rfl⟩
  simp only [HX.out] at g1 ⊢
  have G1 := Lib.hid g1
  have i1 : (1 : Int) ≤ (m : Int) := by omega
  have i2 : (m : Int) ≤ (n : Int) := by omega
  clear g1 hn hs hz
  go_enter Try.func23, Try.ntmps23
  go_wp2_with fail
  (with_reducible refine G1.out.mono ?_); rintro e w1 ⟨A', c', rfl, h2, h3, h4⟩
  go_wp2_with fail
  go_ret2
  exact ⟨A', c', rfl, h2, h3, h4⟩
/-- What a clash's three results are. -/
def oC (v : Option (ByteArray × ByteArray)) : Value := match v with
  | none => .tuple #[.string ⟨#[]⟩, .string ⟨#[]⟩, .bool false]
  | some (x, y) => .tuple #[.string (⟨#[1]⟩ ++ x), .string (⟨#[1]⟩ ++ y), .bool true]
theorem oC_none : oC none = .tuple #[.string ⟨#[]⟩, .string ⟨#[]⟩, .bool false] := rfl
theorem oC_some (x y : ByteArray) : oC (some (x, y)) = .tuple #[.string (⟨#[1]⟩ ++ x), .string (⟨#[1]⟩ ++ y), .bool true] := rfl
theorem take_all_le (l : List ByteArray) (m : Nat) : (l.take m).length ≤ m := by rw [List.length_take]; omega

end Go.Proofs.Ytcnhhlnbmliihaa
