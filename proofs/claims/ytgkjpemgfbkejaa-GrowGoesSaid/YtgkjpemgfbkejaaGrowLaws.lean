/- The laws of chapter 16, walked: GrowRoots. -/
import Derived.Test.YtgkjpemgfbkejaaGrow6
import Derived.Test.YtgkjpemgfbkejaaLeaves
namespace Go.Proofs.Ytgkjpemgfbkejaa
open Go.RowKit
set_option linter.unusedVariables false
set_option linter.unusedSimpArgs false

theorem TR.start {w : World} {g d : Nat} (h : TR w g d 0 []) : TR w g d ([] : List ByteArray).length (peaks d []) := by rw [peaks_nil d [] rfl]; exact h
set_option maxRecDepth 100000 in
/-- The root of a tree. -/
theorem cTRootA (W : World) (g d : Nat) (l : List ByteArray) (h : TR W g d l.length (peaks d l)) (h1 : 1 ≤ d) (h2 : d ≤ 32) (hz : ∀ s ∈ l, s.size = d) (hl : l.length ≤ 100000) :
    Calls Try.prog 23 #[.pointer (some ⟨g, 0, none⟩)] W fun e W' => e = .returned (.string (root d l)) ∧ Below W.heap.size W W' := by
  have hpl : (peaks d l).length ≤ 17 := by rw [peaks_length d l.length l rfl]; exact ones_le 17 l.length (by omega)
  rcases Nat.eq_zero_or_pos l.length with h0 | h0
  · have e : l = [] := List.eq_nil_of_length_eq_zero h0
    subst e
    rw [peaks_nil d [] rfl] at h
    obtain ⟨A, c, hb, hc, hs⟩ := h
    have b0 : W.cell? ⟨g, 0, none⟩ = some (.int .i64 (d : Int)) := (hb.cell 0).trans rfl
    have b2 : W.cell? ⟨g, 2, none⟩ = some (.slice A 0 c) := (hb.cell 2).trans rfl
    have h3 := cRoot d 0 none 0 [] W rfl (Strs.nil _ _) (Nat.le_refl _) (by omega) (by simp)
    rw [wd_self d h1 h2] at h3
    obtain ⟨X, HX⟩ : ∃ X, Hid (root d [] = X) := ⟨_, Lib.hid rfl⟩
    rw [HX.out] at h3
    rw [HX.out]
    have H3 := Lib.hid h3
    clear h3 hb hs hz
    go_enter Try.func23, Try.ntmps23
    go_wp2_with fail
    (with_reducible refine H3.out.mono ?_); rintro e w1 ⟨rfl, hb1⟩
    go_wp2_with fail
    go_ret
    exact ⟨rfl, hb1⟩
  · have hu := upP_peaks d l.length l rfl h0
    have := cTRoot W g d l.length (peaks d l) h h1 h2 (peaks_size d h2 l.length l rfl hz) (peaks_length_pos d l h0) (by omega)
    rw [hu] at this
    exact this
theorem topn_three : topn 3 = 2 := topn_eq 3 1 (by decide) (by decide)
theorem peaks_three (d : Nat) (a b c : ByteArray) : peaks d [a, b, c] = [mnode d a b, c] := by
  rw [peaks_cons d _ (by simp)]
  have e : topn [a, b, c].length = 2 := topn_three
  rw [e]
  show root d [a, b] :: peaks d [c] = _
  rw [root_two, peaks_pow d 0 [c] rfl, root_one d [c] rfl]; rfl
set_option maxRecDepth 100000 in
set_option maxHeartbeats 4000000 in
theorem cAwake16 (w : World) : Calls Try.prog 28 #[] w fun e w' => e = .returned (.bool true) ∧ Below w.heap.size w w' := by
  have l1 := fun W => crLeaf 32 ⟨#[97]⟩ W (by decide)
  have l2 := fun W => crLeaf 32 ⟨#[98]⟩ W (by decide)
  have l3 := fun W => crLeaf 32 ⟨#[99]⟩ W (by decide)
  have hz1 := mleaf_size (wd 32) ⟨#[97]⟩ (wd_hi 32)
  have hz2 := mleaf_size (wd 32) ⟨#[98]⟩ (wd_hi 32)
  have hz3 := mleaf_size (wd 32) ⟨#[99]⟩ (wd_hi 32)
  obtain ⟨a, HA⟩ : ∃ x, Hid (mleaf (wd 32) ⟨#[97]⟩ = x) := ⟨_, Lib.hid rfl⟩
  obtain ⟨b, HB⟩ : ∃ x, Hid (mleaf (wd 32) ⟨#[98]⟩ = x) := ⟨_, Lib.hid rfl⟩
  obtain ⟨c, HC⟩ : ∃ x, Hid (mleaf (wd 32) ⟨#[99]⟩ = x) := ⟨_, Lib.hid rfl⟩
  simp only [HA.out] at l1 hz1
  simp only [HB.out] at l2 hz2
  simp only [HC.out] at l3 hz3
  rw [wd_32] at hz1 hz2 hz3
  have n0 := fun W => cTNew 32 W
  have n1 := fun W => crNode 32 a b W (by omega) (by omega)
  have n2 := fun W => crNode 32 (mnode (wd 32) a b) c W (by rw [mnode_size _ _ _ (wd_hi 32)]; decide) (by omega)
  rw [wd_32] at n0 n1 n2
  have a1 := fun W g h => cTAdd W g 32 [] a h (by decide) (by decide) (by simp) hz1 (by simp)
  have a2 := fun W g h => cTAdd W g 32 [a] b h (by decide) (by decide) (by simp [hz1]) hz2 (by simp)
  have a3 := fun W g h => cTAdd W g 32 [a, b] c h (by decide) (by decide) (by simp [hz1, hz2]) hz3 (by simp)
  have p1 := fun W g (h : TR W g 32 3 [mnode 32 a b, c]) => cTPeaks W g 32 3 [mnode 32 a b, c] h (by simp)
  have r1 := fun W g (h : TR W g 32 [a, b, c].length (peaks 32 [a, b, c])) => cTRootA W g 32 [a, b, c] h (by decide) (by decide) (by simp [hz1, hz2, hz3]) (by simp)
  have e3 := peaks_three 32 a b c
  rw [root_three] at r1
  rw [e3] at r1
  obtain ⟨x, HX⟩ : ∃ x, Hid (mnode 32 a b = x) := ⟨_, Lib.hid rfl⟩
  simp only [HX.out] at n1 n2 p1 r1 e3
  obtain ⟨y, HY⟩ : ∃ y, Hid (mnode 32 x c = y) := ⟨_, Lib.hid rfl⟩
  simp only [HY.out] at n2 r1
  have a4 : ∀ W g, TR W g 32 [a, b].length (peaks 32 [a, b]) → Calls Try.prog 27 #[.pointer (some ⟨g, 0, none⟩), .string c] W fun e W' => e = .returned (.int .i64 0) ∧ TR W' g 32 3 [x, c] ∧ Only (fun k => k = g) W W' := fun W g h => by
    have := a3 W g h
    rw [← e3]
    exact this
  have hst := fun w g (h : TR w g 32 0 []) => TR.start h
  obtain ⟨P0, HP0⟩ : ∃ y, Hid (peaks 32 [] = y) := ⟨_, Lib.hid rfl⟩
  obtain ⟨P1, HP1⟩ : ∃ y, Hid (peaks 32 [a] = y) := ⟨_, Lib.hid rfl⟩
  obtain ⟨P2, HP2⟩ : ∃ y, Hid (peaks 32 [a, b] = y) := ⟨_, Lib.hid rfl⟩
  simp only [List.nil_append, HP1.out, HP0.out, List.length_nil] at a1 hst
  simp only [HP1.out, List.cons_append, List.nil_append, HP2.out, List.length_cons, List.length_nil] at a2
  simp only [HP2.out, List.length_cons, List.length_nil] at a4
  have L1 := Lib.hid l1
  have L2 := Lib.hid l2
  have L3 := Lib.hid l3
  have N0 := Lib.hid n0
  have N1 := Lib.hid n1
  have N2 := Lib.hid n2
  have A1 := Lib.hid a1
  have A2 := Lib.hid a2
  have A4 := Lib.hid a4
  have P1' := Lib.hid p1
  have R1 := Lib.hid r1
  have HST := Lib.hid hst
  have hyy : (y.toList == y.toList) = true := beq_self_eq_true _
  clear l1 l2 l3 n0 n1 n2 a1 a2 a3 a4 p1 r1 hst e3 hz1 hz2 hz3
  go_enter Try.func28, Try.ntmps28
  go_wp2_with fail
  (with_reducible refine (N0.out _).mono ?_); rintro e w1 ⟨g, rfl, hg, hT, hb1⟩
  go_wp2_with fail
  (with_reducible refine (L1.out _).mono ?_); rintro e w2 ⟨rfl, hb2⟩
  go_wp2_with fail
  (with_reducible refine (L2.out _).mono ?_); rintro e w3 ⟨rfl, hb3⟩
  go_wp2_with fail
  (with_reducible refine (L3.out _).mono ?_); rintro e w4 ⟨rfl, hb4⟩
  have q2 := hb2.trans (hb3.mono hb2.size)
  have q3 := q2.trans (hb4.mono q2.size)
  have hT4 := Lib.hid (HST.out _ _ (hT.fresh q3))
  have O4 := Lib.hid ((Only.of_below (hb1.trans (q3.mono hb1.size)) (fun k hk h => absurd h (by omega)) : Only (fun k => k = g) w w4))
  clear hT hb1 hb2 hb3 hb4 q2 q3
  go_wp2_with fail
  (with_reducible refine (A1.out _ _ hT4.out).mono ?_); rintro e w5 ⟨rfl, hT5, ho5⟩
  have HT5 := Lib.hid hT5
  clear hT5
  go_wp2_with fail
  (with_reducible refine (A2.out _ _ HT5.out).mono ?_); rintro e w6 ⟨rfl, hT6, ho6⟩
  have HT6 := Lib.hid hT6
  clear hT6
  go_wp2_with fail
  (with_reducible refine (A4.out _ _ HT6.out).mono ?_); rintro e w7 ⟨rfl, hT7, ho7⟩
  have HT7 := Lib.hid hT7
  have O7 := O4.out.trans' (ho5.trans' (ho6.trans' ho7))
  have hB7 : Below w.heap.size w w7 := O7.below (Nat.le_refl _) (fun k hk => by omega)
  clear hT7 ho5 ho6 ho7 O7
  go_wp2_with fail
  (with_reducible refine (N1.out _).mono ?_); rintro e w8 ⟨rfl, hb8⟩
  have HT8 := Lib.hid (HT7.out.fresh hb8)
  have hB8 := hB7.trans (hb8.mono hB7.size)
  clear hB7 hb8
  go_wp2_with fail
  (with_reducible refine (P1'.out _ _ HT8.out).mono ?_); rintro e w9 ⟨A9, c9, rfl, hc9, hs9, hb9⟩
  have HT9 := Lib.hid (HT8.out.fresh hb9)
  have hB9 := hB8.trans (hb9.mono hB8.size)
  clear hB8 hb9
  have s1 := cSame A9 (some ⟨w9.heap.size, 0, none⟩) 2 2 c9 2 [x, c] [x, c] (w9.alloc (.cells #[.string x, .string c] 9)) rfl rfl (hs9.alloc _) (Strs.two _ _ _ _) (by omega) (by omega)
  rw [decide_eq_true rfl] at s1
  have S1 := Lib.hid s1
  have hBa := hB9.alloc hB9.size (.cells #[.string x, .string c] 9)
  have HTa := Lib.hid (HT9.out.fresh ((Below.refl _ _).alloc (Nat.le_refl _) (.cells #[.string x, .string c] 9)))
  clear s1 hs9 hB9
  go_wp2_with fail
  (with_reducible refine S1.out.mono ?_); rintro e w10 ⟨rfl, hb10⟩
  have HT10 := Lib.hid (HTa.out.fresh hb10)
  have hB10 := hBa.trans (hb10.mono hBa.size)
  clear hBa hb10
  go_wp2_with fail
  (with_reducible refine (R1.out _ _ HT10.out).mono ?_); rintro e w11 ⟨rfl, hb11⟩
  have HT11 := Lib.hid (HT10.out.fresh hb11)
  have hB11 := hB10.trans (hb11.mono hB10.size)
  clear hB10 hb11
  go_wp2_with fail
  (with_reducible refine (N2.out _).mono ?_); rintro e w12 ⟨rfl, hb12⟩
  have HT12 := Lib.hid (HT11.out.fresh hb12)
  have hB12 := hB11.trans (hb12.mono hB11.size)
  clear hB11 hb12
  go_wp2_with fail
  (with_reducible refine (cTLen _ _ _ _ _ HT12.out).mono ?_); rintro e w13 ⟨rfl, rfl⟩
  go_wp2_with fail
  go_ret
  exact ⟨rfl, hB12⟩
end Go.Proofs.Ytgkjpemgfbkejaa
