/- merkle.Up, merkle.Check. -/
import Derived.Test.YtgkjpemgfbkejaaMerkWay
import Derived.Test.YtgkjpemgfbkejaaTexts
namespace Go.Proofs.Ytgkjpemgfbkejaa
open Go.RowKit
set_option linter.unusedVariables false
set_option linter.unusedSimpArgs false

/-- All texts have that size? -/
def allW (d : Nat) (p : List ByteArray) : Bool := p.all fun s => decide (s.size = d)
theorem allW_get {d : Nat} {p : List ByteArray} (h : allW d p = true) {k : Nat} (hk : k < p.length) : (p.getD k ByteArray.empty).size = d := by
  unfold allW at h
  rw [List.all_eq_true] at h
  have := h _ (getD_mem hk)
  simpa using this
theorem allW_not {d : Nat} {p : List ByteArray} {k : Nat} (hk : k < p.length) (h : ¬ (p.getD k ByteArray.empty).size = d) : allW d p = false := by
  cases e : allW d p
  · rfl
  · exact absurd (allW_get e hk) h
theorem allW_all {d : Nat} {p : List ByteArray} (h : ∀ k, k < p.length → (p.getD k ByteArray.empty).size = d) : allW d p = true := by
  unfold allW
  rw [List.all_eq_true]
  intro s hs
  obtain ⟨k, hk, rfl⟩ := List.getElem_of_mem hs
  have := h k hk
  rw [List.getD_eq_getElem?_getD, List.getElem?_eq_getElem hk] at this
  exact decide_eq_true this
theorem allW_mem {d : Nat} {p : List ByteArray} (h : allW d p = true) : ∀ s ∈ p, s.size = d := by
  unfold allW at h
  rw [List.all_eq_true] at h
  intro s hs
  simpa using h s hs
/-- What 'Up' answers. -/
def upR (d i n : Nat) (leaf : ByteArray) (p : List ByteArray) : ByteArray × Nat :=
  if (way i n).length = p.length ∧ leaf.size = d ∧ allW d p = true then (climb d leaf (way i n) p, 0) else (ByteArray.empty, 2)
theorem upR_yes {d i n : Nat} {leaf : ByteArray} {p : List ByteArray} (h1 : (way i n).length = p.length) (h2 : leaf.size = d) (h3 : allW d p = true) : upR d i n leaf p = (climb d leaf (way i n) p, 0) := by
  unfold upR; rw [if_pos ⟨h1, h2, h3⟩]
theorem upR_no {d i n : Nat} {leaf : ByteArray} {p : List ByteArray} (h : ¬ ((way i n).length = p.length ∧ leaf.size = d ∧ allW d p = true)) : upR d i n leaf p = (ByteArray.empty, 2) := by
  unfold upR; rw [if_neg h]
theorem climb_take (d : Nat) (x : ByteArray) (bs : List Bool) (ss : List ByteArray) (k : Nat) (h : bs.length = ss.length) (hk : k < ss.length) :
    climb d x (bs.take (k + 1)) (ss.take (k + 1)) = if bs.getD k false then mnode d (ss.getD k ByteArray.empty) (climb d x (bs.take k) (ss.take k)) else mnode d (climb d x (bs.take k) (ss.take k)) (ss.getD k ByteArray.empty) := by
  rw [List.take_succ_eq_append_getElem (by omega : k < bs.length), List.take_succ_eq_append_getElem hk, climb_snoc _ _ _ _ _ _ (by simp; omega)]
  rw [List.getD_eq_getElem?_getD, List.getElem?_eq_getElem (by omega : k < bs.length), List.getD_eq_getElem?_getD, List.getElem?_eq_getElem hk]
  rfl
theorem climb_le (w : Nat) (hw : w ≤ 32) : ∀ (bs : List Bool) (ss : List ByteArray) (x : ByteArray), x.size ≤ 32 → (climb w x bs ss).size ≤ 32
  | b :: bs, s :: ss, x, _ => climb_le w hw bs ss _ (by split <;> rw [mnode_size w _ _ hw] <;> exact hw)
  | [], _, _, h => by simpa [climb] using h
  | _ :: _, [], _, h => by simpa [climb] using h
theorem climb_zero (d : Nat) (x : ByteArray) (bs : List Bool) (ss : List ByteArray) : x = climb d x (bs.take 0) (ss.take 0) := by rw [List.take_zero, List.take_zero]; rfl
attribute [irreducible] allW upR

theorem cUp_arg (w i n : Int) (leaf : ByteArray) (A : Option Addr) (m c : Nat) (W : World) (h : n < 1 ∨ i < 0 ∨ n ≤ i) :
    Calls Try.prog 47 #[.int .i64 w, .int .i64 i, .int .i64 n, .string leaf, .slice A m c] W fun e W' => e = .returned (.tuple #[.string ⟨#[]⟩, .int .i64 1]) ∧ W = W' := by
  have H := Lib.hid h
  clear h
  rcases Int.lt_or_le n 1 with h1 | h1
  · go_enter Try.func47, Try.ntmps47
    go_wp2_with fail
    go_ret2
    exact ⟨rfl, rfl⟩
  · have h0 : decide (n < 1) = false := decide_eq_false (by omega)
    rcases Int.lt_or_le i 0 with h2 | h2
    · go_enter Try.func47, Try.ntmps47
      go_wp2_with fail
      go_ret2
      exact ⟨rfl, rfl⟩
    · have h3 : n ≤ i := by have := H.out; omega
      have h4 : decide (i < 0) = false := decide_eq_false (by omega)
      go_enter Try.func47, Try.ntmps47
      go_wp2_with fail
      go_ret2
      exact ⟨rfl, rfl⟩

theorem Reads.bool_ {w : World} {B n : Nat} {A : Option Addr} {bs : List Bool} (h : Reads w B 1 A n (bs.map Value.bool)) (k : Nat) (hk : k < bs.length) : ∃ ad, A = some ad ∧ w.cell? (ad.add k) = some (.bool (bs.getD k false)) := by
  have hn : n = bs.length := by have := h.1; simp at this; omega
  obtain ⟨ad, u, e1, _, e2, e3⟩ := h.at_ (k := k) (by omega)
  refine ⟨ad, e1, ?_⟩
  rw [e3, ← e2]
  simp [hk]

set_option maxRecDepth 100000 in
theorem cUp (w : Int) (i n : Nat) (leaf : ByteArray) (A : Option Addr) (m c : Nat) (p : List ByteArray) (W : World) (hm : p.length = m) (hs : Strs W A p) (hi : i < n) (hn : n ≤ 2305843009213693952) (hm6 : m ≤ 140737488355328) :
    Calls Try.prog 47 #[.int .i64 w, .int .i64 i, .int .i64 n, .string leaf, .slice A m c] W fun e W' => e = .returned (.tuple #[.string (upR (wd w) i n leaf p).1, .int .i64 ((upR (wd w) i n leaf p).2 : Nat)]) ∧ Below W.heap.size W W' := by
  have h1 := fun W => cWay n i W hn hi
  have hbits := way_bits 61 i n (by omega)
  have h2 := fun W => cWidth w W
  have hw := wd_hi w
  have hy := upR_yes (d := wd w) (i := i) (n := n) (leaf := leaf) (p := p)
  have hno := upR_no (d := wd w) (i := i) (n := n) (leaf := leaf) (p := p)
  have hct := climb_take (wd w) leaf (way i n) p
  have hcz := climb_size (wd w) (wd_hi w)
  have h4 := fun a b W ha hb => cNode w a b W ha hb
  obtain ⟨d, HD⟩ : ∃ X, Hid (wd w = X) := ⟨_, Lib.hid rfl⟩
  obtain ⟨bs, HBS⟩ : ∃ X, Hid (way i n = X) := ⟨_, Lib.hid rfl⟩
  simp only [HD.out, HBS.out] at h1 h2 hw hy hno hct hcz h4 hbits
  rw [HD.out]
  obtain ⟨lb, HLB⟩ : ∃ x, Hid (bs.length = x) := ⟨_, Lib.hid rfl⟩
  rw [HLB.out] at hbits hy hno hct
  have H1 := Lib.hid h1
  have H2 := Lib.hid h2
  have H4 := Lib.hid h4
  have HY := Lib.hid hy
  have HNO := Lib.hid hno
  have HCT := Lib.hid hct
  have HCZ := Lib.hid hcz
  have HM := Lib.hid hm
  have HS := Lib.hid hs
  have hiI : (i : Int) < (n : Int) := by omega
  have hnI : (1 : Int) ≤ (n : Int) := by omega
  have hnB : (n : Int) ≤ 2305843009213693952 := by omega
  have hmI : (m : Int) ≤ 140737488355328 := by omega
  have g1 : decide ((n : Int) < 1) = false := decide_eq_false (by omega)
  have g2 : decide ((i : Int) < 0) = false := decide_eq_false (by omega)
  have g3 : decide ((n : Int) ≤ (i : Int)) = false := decide_eq_false (by omega)
  clear h1 h2 h4 hy hno hct hcz hm hs
  by_cases hlb : lb = m
  · subst hlb
    by_cases hls : leaf.size = d
    · have hlsI : ((leaf.size : Int) != (d : Int)) = false := by simp; omega
      go_enter Try.func47, Try.ntmps47
      go_wp2_with fail
      (with_reducible refine (H1.out _).mono ?_); rintro e w1 ⟨v, rfl, hS, hb1⟩
      obtain ⟨A2, c2, rfl, hc2⟩ := hS.open_
      rw [HLB.out] at hS hc2 ⊢
      have HR := Lib.hid hS.reads
      have HB1 := Lib.hid hb1
      clear hS hb1
      go_wp2_with fail
      (with_reducible refine (H2.out _).mono ?_); rintro e w2 ⟨rfl, rfl⟩
      go_wp2_with fail
      have hb0 := Below.refl w1.heap.size w1
      go_loopw [3, 43] (fun u v wr => ∃ (k : Nat) (x : ByteArray), k ≤ lb ∧ v = .int .i64 k ∧ u = .string x ∧ x = climb d leaf (bs.take k) (p.take k) ∧ x.size = d ∧ (∀ j, j < k → (p.getD j ByteArray.empty).size = d) ∧ Below w1.heap.size w1 wr)
        (fun _ v _ => lb - (intOf v).toNat)
      case atStart => exact ⟨0, leaf, by omega, rfl, rfl, climb_zero _ _ _ _, hls, fun j hj => absurd hj (by omega), hb0⟩
      case round =>
        clear hb0
        obtain ⟨k, x, hk, rfl, rfl, hx, hxz, hall, hb⟩ := hrel
        have HX := Lib.hid hx
        have HALL := Lib.hid hall
        have HB := Lib.hid hb
        have HBW := Lib.hid (HB1.out.trans (hb.mono HB1.out.size))
        clear hx hall hb
        by_cases hlk : k < lb
        · have hdk : decide ((k : Int) < (lb : Int)) = true := decide_eq_true (by omega)
          have hkI : (k : Int) < (lb : Int) := by omega
          obtain ⟨g1, o1, rfl, c1⟩ := (HS.out.fresh HBW.out).cell_ k (by rw [HM.out]; exact hlk)
          obtain ⟨ad, rfl, cb⟩ := (HR.out.below HB.out).bool_ k (by rw [HLB.out]; exact hlk)
          have hstep := HCT.out k HM.out.symm (by rw [HM.out]; exact hlk)
          rw [← HX.out] at hstep
          have hal2 : (p.getD k ByteArray.empty).size = d → ∀ j, j < k + 1 → (p.getD j ByteArray.empty).size = d := fun h j hj => by
            rcases Nat.lt_or_ge j k with h5 | h5
            · exact HALL.out j h5
            · have : j = k := by omega
              subst this; exact h
          have hnot : ¬ (p.getD k ByteArray.empty).size = d → allW d p = false := fun h => allW_not (by rw [HM.out]; exact hlk) h
          obtain ⟨s, HSS⟩ : ∃ s, Hid (p.getD k ByteArray.empty = s) := ⟨_, Lib.hid rfl⟩
          obtain ⟨bb, HBB⟩ : ∃ s, Hid (bs.getD k false = s) := ⟨_, Lib.hid rfl⟩
          rw [HSS.out] at c1 hstep hal2 hnot
          rw [HBB.out] at cb hstep
          have HST := Lib.hid hstep
          have HAL := Lib.hid hal2
          have HNT := Lib.hid hnot
          clear hstep hal2 hnot
          by_cases hsz : s.size = d
          · have hszI : ((s.size : Int) != (d : Int)) = false := by simp; omega
            cases bb with
            | true =>
              have h5 := fun W => H4.out s x W (by omega) (by omega)
              have e5 : mnode d s x = climb d leaf (bs.take (k + 1)) (p.take (k + 1)) := by rw [HST.out]; rfl
              have z5 : (mnode d s x).size = d := mnode_size d s x hw
              obtain ⟨y, HYY⟩ : ∃ y, Hid (mnode d s x = y) := ⟨_, Lib.hid rfl⟩
              simp only [HYY.out] at h5 e5 z5
              have H5 := Lib.hid h5
              have E5 := Lib.hid e5
              clear h5 e5
              go_wp2_with fail
              (with_reducible refine (H2.out _).mono ?_); rintro e w2 ⟨rfl, rfl⟩
              go_wp2_with fail
              (with_reducible refine (H5.out _).mono ?_); rintro e w2 ⟨rfl, hb2⟩
              go_wp2_with fail
              go_roundw
              case rel => exact ⟨k + 1, y, by omega, by go_num, rfl, E5.out, z5, HAL.out hsz, HB.out.trans (hb2.mono HB.out.size)⟩
              case measure => simp [intOf]; omega
            | false =>
              have h5 := fun W => H4.out x s W (by omega) (by omega)
              have e5 : mnode d x s = climb d leaf (bs.take (k + 1)) (p.take (k + 1)) := by rw [HST.out]; rfl
              have z5 : (mnode d x s).size = d := mnode_size d x s hw
              obtain ⟨y, HYY⟩ : ∃ y, Hid (mnode d x s = y) := ⟨_, Lib.hid rfl⟩
              simp only [HYY.out] at h5 e5 z5
              have H5 := Lib.hid h5
              have E5 := Lib.hid e5
              clear h5 e5
              go_wp2_with fail
              (with_reducible refine (H2.out _).mono ?_); rintro e w2 ⟨rfl, rfl⟩
              go_wp2_with fail
              (with_reducible refine (H5.out _).mono ?_); rintro e w2 ⟨rfl, hb2⟩
              go_wp2_with fail
              go_roundw
              case rel => exact ⟨k + 1, y, by omega, by go_num, rfl, E5.out, z5, HAL.out hsz, HB.out.trans (hb2.mono HB.out.size)⟩
              case measure => simp [intOf]; omega
          · have hszI : ((s.size : Int) != (d : Int)) = true := by simp; omega
            have hn5 := HNO.out (fun h => by rw [HNT.out hsz] at h; exact absurd h.2.2 (by decide))
            have HN5 := Lib.hid hn5
            clear hn5
            go_wp2_with fail
            (with_reducible refine (H2.out _).mono ?_); rintro e w2 ⟨rfl, rfl⟩
            go_wp2_with fail
            go_ret2
            exact ⟨by rw [HN5.out]; rfl, HBW.out⟩
        · have hdk : decide ((k : Int) < (lb : Int)) = false := decide_eq_false (by omega)
          have e : k = lb := by omega
          subst e
          have hy5 := HY.out HM.out.symm hls (allW_all fun j hj => HALL.out j (by rw [HM.out] at hj; exact hj))
          have e6 : climb d leaf (bs.take k) (p.take k) = climb d leaf bs p := by rw [List.take_of_length_le (by rw [HLB.out]; omega), List.take_of_length_le (by rw [HM.out]; omega)]
          have HY5 := Lib.hid hy5
          have E6 := Lib.hid e6
          clear hy5 e6
          go_wp2_with fail
          go_ret2
          exact ⟨by rw [HY5.out, HX.out, E6.out]; rfl, HBW.out⟩
    · have hlsI : ((leaf.size : Int) != (d : Int)) = true := by simp; omega
      have hn5 := HNO.out (fun h => hls h.2.1)
      have HN5 := Lib.hid hn5
      clear hn5
      go_enter Try.func47, Try.ntmps47
      go_wp2_with fail
      (with_reducible refine (H1.out _).mono ?_); rintro e w1 ⟨v, rfl, hS, hb1⟩
      obtain ⟨A2, c2, rfl, hc2⟩ := hS.open_
      rw [HLB.out] at hS hc2 ⊢
      clear hS
      go_wp2_with fail
      (with_reducible refine (H2.out _).mono ?_); rintro e w2 ⟨rfl, rfl⟩
      go_wp2_with fail
      go_ret2
      exact ⟨by rw [HN5.out]; rfl, hb1⟩
  · have hlmI : ((lb : Int) == (m : Int)) = false := by simp; omega
    have hlmJ : ((lb : Int) != (m : Int)) = true := by simp; omega
    have hn5 := HNO.out (fun h => hlb (by rw [← HM.out]; exact h.1))
    have HN5 := Lib.hid hn5
    clear hn5
    go_enter Try.func47, Try.ntmps47
    go_wp2_with fail
    (with_reducible refine (H1.out _).mono ?_); rintro e w1 ⟨v, rfl, hS, hb1⟩
    obtain ⟨A2, c2, rfl, hc2⟩ := hS.open_
    rw [HLB.out] at hS hc2 ⊢
    clear hS
    go_wp2_with fail
    go_ret2
    exact ⟨by rw [HN5.out]; rfl, hb1⟩
end Go.Proofs.Ytgkjpemgfbkejaa
