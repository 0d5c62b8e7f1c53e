/- The laws ConsistProves, ConsistBack, ConsistRoots, ConsistClash, walked. -/
import Derived.Test.YtcnhhlnbmliihaaCons7
import Derived.Test.YtcnhhlnbmliihaaCons8
import Derived.Test.YtcnhhlnbmliihaaAnd
namespace Go.Proofs.Ytcnhhlnbmliihaa
open Go.RowKit
set_option linter.unusedVariables false
set_option linter.unusedSimpArgs false

theorem wdz {k : Int} {l : List ByteArray} (h : ∀ s ∈ l, s.size = wd k) : ∀ s ∈ l, s.size ≤ 200000 := fun s hs => by have := h s hs; have := wd_hi k; omega
theorem oC_form (v : Option (ByteArray × ByteArray)) : ∃ x y b, oC v = .tuple #[.string x, .string y, .bool b] := by
  cases v with
  | none => exact ⟨_, _, _, rfl⟩
  | some r => obtain ⟨x, y⟩ := r; exact ⟨_, _, _, rfl⟩
set_option maxRecDepth 100000 in
set_option maxHeartbeats 4000000 in
theorem consistProves_walk {w : World} (k : Int) (hk : (Lit.int .i64 k).wf = true) (m : Int) (hm : (Lit.int .i64 m).wf = true) (v : Value) (ss : List ByteArray) (hv : StrsIn w v ss) :
    Calls Try.prog 5 #[.int .i64 k, .int .i64 m, v] w fun e w' => e = .returned (.bool true) ∧ Below w.heap.size w w' := by
  have h0 := cSums40 k hv
  have H0 := Lib.hid h0
  clear h0 hv hk hm
  go_enter Try.func5, Try.ntmps5
  go_wp2_with fail
  (with_reducible refine H0.out.mono ?_); rintro e w1 ⟨A, n, c, l, rfl, hl, hnc, hn, hz, hs, hb1⟩
  clear H0
  by_cases hmn : m < 1 ∨ (n : Int) < m
  · have HP := Lib.hid fun W => cProveC_no k m A n c l W hmn
    rcases Int.lt_or_le m 1 with hm1 | hm1
    · clear hl hs hz hmn
      go_wp2_with fail
      (with_reducible refine (HP.out _).mono ?_); rintro e w2 ⟨rfl, rfl⟩
      go_wp2_with fail
      (with_reducible refine (cAwake40 _).mono ?_); rintro e w4 ⟨rfl, hb4⟩
      go_wp2_with fail
      go_ret
      exact ⟨rfl, hb1.trans (hb4.mono hb1.size)⟩
    · have hm2 : (n : Int) < m := by omega
      clear hl hs hz hmn
      go_wp2_with fail
      (with_reducible refine (HP.out _).mono ?_); rintro e w2 ⟨rfl, rfl⟩
      go_wp2_with fail
      (with_reducible refine (cAwake40 _).mono ?_); rintro e w4 ⟨rfl, hb4⟩
      go_wp2_with fail
      go_ret
      exact ⟨rfl, hb1.trans (hb4.mono hb1.size)⟩
  · obtain ⟨M, rfl⟩ : ∃ x : Nat, m = x := ⟨m.toNat, by omega⟩
    have h1M : 1 ≤ M := by omega
    have hMn : M ≤ n := by omega
    have p1 := fun W h => cProveC k M n A c l W hl h hnc (by omega) (zle (wdz hz)) h1M hMn
    have p2 := fun W h => crSub k n M true A c l W hl h hnc (by omega) (zle (wdz hz)) h1M hMn
    have hlen := sub_length (wd k) n M l true hl h1M hMn
    have hll := long_le 61 n M true (by omega) h1M hMn
    rw [← hlen] at hll
    have i1 : (1 : Int) ≤ (M : Int) := by omega
    have i2 : (M : Int) ≤ (n : Int) := by omega
    obtain ⟨P, HP⟩ : ∃ x, Hid (sub (wd k) M l true = x) := ⟨_, Lib.hid rfl⟩
    simp only [HP.out] at p1 p2
    rw [HP.out] at hll
    have sm := fun A B c d W h1 h2 => cSame A B P.length P.length c d P P W rfl rfl h1 h2 (by omega) (by omega)
    have edd : decide (P = P) = true := decide_eq_true rfl
    simp only [edd] at sm
    have P1 := Lib.hid p1
    have P2 := Lib.hid p2
    have SM := Lib.hid sm
    have HS := Lib.hid hs
    clear p1 p2 sm hs hl hz hmn edd hlen
    go_wp2_with fail
    (with_reducible refine (P1.out _ HS.out).mono ?_); rintro e w2 ⟨A', c', rfl, hc', hS2, hb2⟩
    have HS2 := Lib.hid (Strs.of_sl hS2)
    have HB2 := Lib.hid (hb1.trans (hb2.mono hb1.size))
    have HSS := Lib.hid (HS.out.fresh hb2)
    clear hS2 hb1 hb2
    go_wp2_with fail
    (with_reducible refine (P2.out _ HSS.out).mono ?_); rintro e w3 ⟨A3, c3, rfl, hc3, hS3, hb3⟩
    have HS3 := Lib.hid (Strs.of_sl hS3)
    have HB3 := Lib.hid (HB2.out.trans (hb3.mono HB2.out.size))
    have HS4 := Lib.hid (HS2.out.fresh hb3)
    clear hS3 hb3
    go_wp2_with fail
    (with_reducible refine (SM.out _ _ _ _ _ HS4.out HS3.out).mono ?_); rintro e w5 ⟨rfl, hb5⟩
    have HB5 := Lib.hid (HB3.out.trans (hb5.mono HB3.out.size))
    clear hb5
    go_wp2_with fail
    (with_reducible refine (cAwake40 _).mono ?_); rintro e w6 ⟨rfl, hb6⟩
    go_wp2_with fail
    go_ret
    exact ⟨rfl, HB5.out.trans (hb6.mono HB5.out.size)⟩
set_option maxRecDepth 100000 in
set_option maxHeartbeats 4000000 in
theorem consistBack_walk {w : World} (k : Int) (hk : (Lit.int .i64 k).wf = true) (m : Int) (hm : (Lit.int .i64 m).wf = true) (v : Value) (ss : List ByteArray) (hv : StrsIn w v ss) :
    Calls Try.prog 6 #[.int .i64 k, .int .i64 m, v] w fun e w' => e = .returned (.bool true) ∧ Below w.heap.size w w' := by
  have h0 := cSums40 k hv
  have H0 := Lib.hid h0
  have hm2 := wf_i64 hm
  clear h0 hv hk hm
  go_enter Try.func6, Try.ntmps6
  go_wp2_with fail
  (with_reducible refine H0.out.mono ?_); rintro e w1 ⟨A, n, c, l, rfl, hl, hnc, hn, hz, hs, hb1⟩
  clear H0
  by_cases hn0 : n = 0
  · subst hn0
    clear hl hs hz
    go_wp2_with fail
    (with_reducible refine (cAwake40 _).mono ?_); rintro e w4 ⟨rfl, hb4⟩
    go_wp2_with fail
    go_ret
    exact ⟨rfl, hb1.trans (hb4.mono hb1.size)⟩
  · have hn0I : ((n : Int) == 0) = false := by simp; omega
    have hn0K : (n == 0) = false := by simp; omega
    have hn0J : (0 : Int) < (n : Int) := by omega
    obtain ⟨j, hj, ej⟩ := turn_mod m n (by omega) (by omega)
    have hw := wd_hi k
    have E : ((1 + j : Nat) : Int) = 1 + (j : Int) := by omega
    have p1 := fun W h => cProveC k (1 + j) n A c l W hl h hnc (by omega) (zle (wdz hz)) (by omega) (by omega)
    have hrs := roots_sub (wd k) hw (1 + j) n l hl (by omega) (by omega) hz
    have hss := sub_sizes (wd k) hw n (1 + j) l true hl (by omega) (by omega) hz
    have hlen := sub_length (wd k) n (1 + j) l true hl (by omega) (by omega)
    have hll := long_le 61 n (1 + j) true (by omega) (by omega) (by omega)
    rw [← hlen] at hll
    have htl : (l.take (1 + j)).length = 1 + j := by rw [List.length_take]; omega
    have hrz := root_width (wd k) hw (l.take (1 + j)) (by omega) (fun s hs => hz s (List.mem_of_mem_take hs))
    have r1 := fun W h => crRoot k (1 + j) A c (l.take (1 + j)) W htl h (by omega) (by omega) (mem_take_le (zle (wdz hz)))
    have r2 := fun W h => crRoot k n A c l W hl h hnc (by omega) (zle (wdz hz))
    have q1 := fun A c W h hc => cRootsC k ((1 + j : Nat) : Int) n (root (wd k) (l.take (1 + j))) A _ c (sub (wd k) (1 + j) l true) W (by omega) (by omega) rfl h hc (by omega) (fun s hs => by have := hss s hs; omega)
    have q2 := fun A c W h hc => cCheckC k ((1 + j : Nat) : Int) n (root (wd k) (l.take (1 + j))) (root (wd k) l) A _ c (sub (wd k) (1 + j) l true) W (by omega) (by omega) rfl h hc (by omega) (fun s hs => by have := hss s hs; omega)
    simp only [hrs, checkC_ok, rT] at q1 q2
    simp only [E] at p1 q1 q2
    have hst := hs.take (1 + j)
    obtain ⟨P, HP⟩ : ∃ x, Hid (sub (wd k) (1 + j) l true = x) := ⟨_, Lib.hid rfl⟩
    simp only [HP.out] at p1 q1 q2
    obtain ⟨X, HX⟩ : ∃ x, Hid (root (wd k) (l.take (1 + j)) = x) := ⟨_, Lib.hid rfl⟩
    obtain ⟨Y, HY⟩ : ∃ x, Hid (root (wd k) l = x) := ⟨_, Lib.hid rfl⟩
    simp only [HX.out] at r1 q1 q2
    simp only [HY.out] at r2 q1 q2
    have P1 := Lib.hid p1
    have R1 := Lib.hid r1
    have R2 := Lib.hid r2
    have Q1 := Lib.hid q1
    have Q2 := Lib.hid q2
    have HS := Lib.hid hs
    have HST := Lib.hid hst
    have hxx : (X.toList == X.toList) = true := beq_self_eq_true _
    have hyy : (Y.toList == Y.toList) = true := beq_self_eq_true _
    have jn : 1 + (j : Int) ≤ (n : Int) := by omega
    have jn2 : (n : Int) ≤ (c : Int) := by omega
    have jn3 : (n : Int) ≤ 70 := by omega
    have jl : (j : Int) < (n : Int) := by omega
    obtain ⟨g, o, rfl, hg, _⟩ := HS.out (by omega)
    clear p1 r1 r2 q1 q2 hs hst hl hz hlen hll htl hrz hrs hss E hg
    go_wp2_with fail
    (with_reducible refine (P1.out _ HS.out).mono ?_); rintro e w2 ⟨A', c', rfl, hc', hS2, hb2⟩
    have HS2 := Lib.hid (Strs.of_sl hS2)
    have HB2 := Lib.hid (hb1.trans (hb2.mono hb1.size))
    have HSS := Lib.hid (HS.out.fresh hb2)
    have HSU := Lib.hid (HST.out.fresh hb2)
    clear hS2 hb1 hb2
    go_wp2_with fail
    (with_reducible refine (R1.out _ HSU.out).mono ?_); rintro e w3 ⟨rfl, hb3⟩
    go_wp2_with fail
    (with_reducible refine (R2.out _ (HSS.out.fresh hb3)).mono ?_); rintro e w4 ⟨rfl, hb4⟩
    have hb34 := hb3.trans (hb4.mono hb3.size)
    clear hb3 hb4
    go_wp2_with fail
    (with_reducible refine (Q1.out _ _ _ (HS2.out.fresh hb34) hc').mono ?_); rintro e w5 ⟨rfl, hb5⟩
    have hb35 := hb34.trans (hb5.mono hb34.size)
    clear hb34 hb5
    go_wp2_with fail
    (with_reducible refine (Q2.out _ _ _ (HS2.out.fresh hb35) hc').mono ?_); rintro e w6 ⟨rfl, hb6⟩
    have hb36 := hb35.trans (hb6.mono hb35.size)
    have HB6 := Lib.hid (HB2.out.trans (hb36.mono HB2.out.size))
    clear hb35 hb36 hb6
    go_wp2_with fail
    (with_reducible refine (cAwake40 _).mono ?_); rintro e w7 ⟨rfl, hb7⟩
    go_wp2_with fail
    go_ret
    exact ⟨rfl, HB6.out.trans (hb7.mono HB6.out.size)⟩
end Go.Proofs.Ytcnhhlnbmliihaa
