/- Clashes: Valid, of both; the reference's top, Root. -/
import Derived.Test.YtgkjpemgfbkejaaClashS
import Derived.Test.YtgkjpemgfbkejaaRefMerk
import Derived.Test.YtgkjpemgfbkejaaTexts
import Derived.Test.YtgkjpemgfbkejaaOrd
namespace Go.Proofs.Ytgkjpemgfbkejaa
open Go.RowKit
set_option linter.unusedVariables false
set_option linter.unusedSimpArgs false

def validC (d : Nat) (a b : ByteArray) : Bool := decide (a ≠ b ∧ msum d a = msum d b)
theorem validC_same (d : Nat) (a b : ByteArray) (h : a = b) : validC d a b = false := decide_eq_false fun g => g.1 h
theorem validC_yes (d : Nat) (a b : ByteArray) (h : ¬ a = b) (h2 : msum d a = msum d b) : validC d a b = true := decide_eq_true ⟨h, h2⟩
theorem validC_no (d : Nat) (a b : ByteArray) (h2 : ¬ msum d a = msum d b) : validC d a b = false := decide_eq_false fun g => h2 g.2
theorem beq_same (x : ByteArray) : (x.toList == x.toList) = true := beq_self_eq_true _
attribute [irreducible] validC
theorem cValid (w : Int) (a b : ByteArray) (W : World) (ha : a.size ≤ 900000000) (hb : b.size ≤ 900000000) :
    Calls Try.prog 13 #[.int .i64 w, .string a, .string b] W fun e W' => e = .returned (.bool (validC (wd w) a b)) ∧ Below W.heap.size W W' := by
  have h1 := fun W => cMSum1 w a W (by omega)
  have h2 := fun W => cMSum1 w b W (by omega)
  have v1 := validC_same (wd w) a b
  have v2 := validC_yes (wd w) a b
  have v3 := validC_no (wd w) a b
  obtain ⟨X, HX⟩ : ∃ x, Hid (msum (wd w) a = x) := ⟨_, Lib.hid rfl⟩
  obtain ⟨Y, HY⟩ : ∃ x, Hid (msum (wd w) b = x) := ⟨_, Lib.hid rfl⟩
  obtain ⟨V, HV⟩ : ∃ x, Hid (validC (wd w) a b = x) := ⟨_, Lib.hid rfl⟩
  simp only [HX.out, HY.out, HV.out] at h1 h2 v1 v2 v3
  rw [HV.out]
  have H1 := Lib.hid h1
  have H2 := Lib.hid h2
  have V1 := Lib.hid v1
  have V2 := Lib.hid v2
  have V3 := Lib.hid v3
  clear h1 h2 v1 v2 v3
  by_cases hab : a = b
  · have hv := V1.out hab
    have hbe : (a.toList == b.toList) = true := by rw [hab]; exact beq_same _
    subst hv
    have HAB := Lib.hid hab
    clear hab
    go_enter Try.func13, Try.ntmps13
    go_wp2_with fail
    go_ret
    exact ⟨rfl, Below.refl _ _⟩
  · have hbe := beq_text_ne hab
    by_cases hxy : X = Y
    · have hv := V2.out hab hxy
      have hxe : (X.toList == Y.toList) = true := by rw [hxy]; exact beq_same _
      subst hv
      have HXY := Lib.hid hxy
      clear hxy hab
      go_enter Try.func13, Try.ntmps13
      go_wp2_with fail
      (with_reducible refine (H1.out _).mono ?_); rintro e w1 ⟨rfl, hb1⟩
      go_wp2_with fail
      (with_reducible refine (H2.out _).mono ?_); rintro e w2 ⟨rfl, hb2⟩
      go_wp2_with fail
      go_ret
      exact ⟨rfl, hb1.trans (hb2.mono hb1.size)⟩
    · have hv := V3.out hxy
      have hxe := beq_text_ne hxy
      subst hv
      clear hxy hab
      go_enter Try.func13, Try.ntmps13
      go_wp2_with fail
      (with_reducible refine (H1.out _).mono ?_); rintro e w1 ⟨rfl, hb1⟩
      go_wp2_with fail
      (with_reducible refine (H2.out _).mono ?_); rintro e w2 ⟨rfl, hb2⟩
      go_wp2_with fail
      go_ret
      exact ⟨rfl, hb1.trans (hb2.mono hb1.size)⟩
theorem crValid (w : Int) (a b : ByteArray) (W : World) (ha : a.size ≤ 900000000) (hb : b.size ≤ 900000000) :
    Calls Try.prog 14 #[.int .i64 w, .string a, .string b] W fun e W' => e = .returned (.bool (validC (wd w) a b)) ∧ Below W.heap.size W W' := by
  have h1 := fun W => crMSum w a W (by omega)
  have h2 := fun W => crMSum w b W (by omega)
  have v1 := validC_same (wd w) a b
  have v2 := validC_yes (wd w) a b
  have v3 := validC_no (wd w) a b
  obtain ⟨X, HX⟩ : ∃ x, Hid (msum (wd w) a = x) := ⟨_, Lib.hid rfl⟩
  obtain ⟨Y, HY⟩ : ∃ x, Hid (msum (wd w) b = x) := ⟨_, Lib.hid rfl⟩
  obtain ⟨V, HV⟩ : ∃ x, Hid (validC (wd w) a b = x) := ⟨_, Lib.hid rfl⟩
  simp only [HX.out, HY.out, HV.out] at h1 h2 v1 v2 v3
  rw [HV.out]
  have H1 := Lib.hid h1
  have H2 := Lib.hid h2
  have V1 := Lib.hid v1
  have V2 := Lib.hid v2
  have V3 := Lib.hid v3
  clear h1 h2 v1 v2 v3
  by_cases hab : a = b
  · have hv := V1.out hab
    have hbe : (a.toList == b.toList) = true := by rw [hab]; exact beq_same _
    subst hv
    have HAB := Lib.hid hab
    clear hab
    go_enter Try.func14, Try.ntmps14
    go_wp2_with fail
    go_ret
    exact ⟨rfl, Below.refl _ _⟩
  · have hbe := beq_text_ne hab
    by_cases hxy : X = Y
    · have hv := V2.out hab hxy
      have hxe : (X.toList == Y.toList) = true := by rw [hxy]; exact beq_same _
      subst hv
      have HXY := Lib.hid hxy
      clear hxy hab
      go_enter Try.func14, Try.ntmps14
      go_wp2_with fail
      (with_reducible refine (H1.out _).mono ?_); rintro e w1 ⟨rfl, hb1⟩
      go_wp2_with fail
      (with_reducible refine (H2.out _).mono ?_); rintro e w2 ⟨rfl, hb2⟩
      go_wp2_with fail
      go_ret
      exact ⟨rfl, hb1.trans (hb2.mono hb1.size)⟩
    · have hv := V3.out hxy
      have hxe := beq_text_ne hxy
      subst hv
      clear hxy hab
      go_enter Try.func14, Try.ntmps14
      go_wp2_with fail
      (with_reducible refine (H1.out _).mono ?_); rintro e w1 ⟨rfl, hb1⟩
      go_wp2_with fail
      (with_reducible refine (H2.out _).mono ?_); rintro e w2 ⟨rfl, hb2⟩
      go_wp2_with fail
      go_ret
      exact ⟨rfl, hb1.trans (hb2.mono hb1.size)⟩
theorem mem_take_s {b k : Nat} {l : List ByteArray} (h : ∀ s ∈ l, s.size ≤ b) : ∀ s ∈ l.take k, s.size ≤ b := fun s hs => h s (List.mem_of_mem_take hs)
theorem mem_drop_s {b k : Nat} {l : List ByteArray} (h : ∀ s ∈ l, s.size ≤ b) : ∀ s ∈ l.drop k, s.size ≤ b := fun s hs => h s (List.mem_of_mem_drop hs)
theorem top_le (w : Nat) (hw : w ≤ 32) (l : List ByteArray) (h : ∀ s ∈ l, s.size ≤ 200000) : (top w l).size ≤ 200001 := top_size w hw l 200001 (by omega) (fun s hs => by have := h s hs; omega)
set_option maxRecDepth 100000 in
set_option maxHeartbeats 1000000 in
theorem crTop (w : Int) : ∀ (n : Nat) (A : Option Addr) (c : Nat) (ss : List ByteArray) (W : World), ss.length = n → Strs W A ss → n ≤ c → n ≤ 1000000 → (∀ s ∈ ss, s.size ≤ 200000) →
    Calls Try.prog 41 #[.int .i64 w, .slice A n c] W fun e W' => e = .returned (.string (top (wd w) ss)) ∧ Below W.heap.size W W' := by
  intro n
  induction n using Nat.strongRecOn with
  | _ n ih =>
    intro A c ss W hn hs hnc hn6 hb
    rcases Nat.lt_or_ge n 1 with h1 | h1
    · have e0 : n = 0 := by omega
      subst e0
      rw [top_nil (wd w) ss hn]
      clear ih hs hb hn
      go_enter Try.func41, Try.ntmps41
      go_wp2_with fail
      go_ret
      exact ⟨rfl, Below.refl _ _⟩
    · obtain ⟨g, o, rfl, hg, hcell⟩ := hs (by omega)
      rcases Nat.lt_or_ge n 2 with h2 | h2
      · have e1 : n = 1 := by omega
        subst e1
        have hr := top_one (wd w) ss hn
        have c0 := hcell 0 (by omega)
        have hz := hb _ (getD_mem (by omega : 0 < ss.length))
        rw [Nat.add_zero] at c0
        rw [hr]
        obtain ⟨X, HX⟩ : ∃ X, Hid (ss.getD 0 ByteArray.empty = X) := ⟨_, Lib.hid rfl⟩
        rw [HX.out] at c0 hz
        rw [HX.out]
        have hzI : (X.size : Int) ≤ 200000 := by omega
        clear hr hcell ih hs hb hn
        go_enter Try.func41, Try.ntmps41
        go_wp2_with fail
        go_ret
        exact ⟨rfl, Below.refl _ _⟩
      · have hr := top_cut (wd w) ss (by omega)
        rw [hn] at hr
        have hcl := cut_lt n h2
        have hcp := cut_pos n
        have h3 := fun W => crCut n W (by omega)
        have ht : (ss.take (cut n)).length = cut n := by rw [List.length_take]; omega
        have hd : (ss.drop (cut n)).length = n - cut n := by rw [List.length_drop, hn]
        have hst := hs.take (cut n)
        have hsd := hs.from_ (cut n) (by omega) (c := c) (by omega)
        have i1 := fun W (h : Strs W (some ⟨g, o, none⟩) (ss.take (cut n))) => ih (cut n) hcl (some ⟨g, o, none⟩) c (ss.take (cut n)) W ht h (by omega) (by omega) (mem_take_s hb)
        have i2 := fun W (h : Strs W (some ⟨g, o + cut n, none⟩) (ss.drop (cut n))) => ih (n - cut n) (by omega) (some ⟨g, o + cut n, none⟩) (c - cut n) (ss.drop (cut n)) W hd h (by omega) (by omega) (mem_drop_s hb)
        have z1 := top_le (wd w) (wd_hi w) (ss.take (cut n)) (mem_take_s hb)
        have z2 := top_le (wd w) (wd_hi w) (ss.drop (cut n)) (mem_drop_s hb)
        have m1 := fun W => crMSum w (top (wd w) (ss.take (cut n))) W (by omega)
        have m2 := fun W => crMSum w (top (wd w) (ss.drop (cut n))) W (by omega)
        have z3 := msum_size (wd w) (top (wd w) (ss.take (cut n))) (wd_hi w)
        have z4 := msum_size (wd w) (top (wd w) (ss.drop (cut n))) (wd_hi w)
        have hwd := wd_hi w
        rw [hr]
        obtain ⟨X, HX⟩ : ∃ X, Hid (top (wd w) (ss.take (cut n)) = X) := ⟨_, Lib.hid rfl⟩
        obtain ⟨Y, HY⟩ : ∃ X, Hid (top (wd w) (ss.drop (cut n)) = X) := ⟨_, Lib.hid rfl⟩
        simp only [HX.out] at i1 m1 z3
        simp only [HY.out] at i2 m2 z4
        rw [HX.out, HY.out]
        obtain ⟨P, HP⟩ : ∃ V, Hid (msum (wd w) X = V) := ⟨_, Lib.hid rfl⟩
        obtain ⟨Q, HQ⟩ : ∃ V, Hid (msum (wd w) Y = V) := ⟨_, Lib.hid rfl⟩
        simp only [HP.out] at m1 z3
        simp only [HQ.out] at m2 z4
        rw [HP.out, HQ.out]
        obtain ⟨k, HK⟩ : ∃ k, Hid (cut n = k) := ⟨_, Lib.hid rfl⟩
        simp only [HK.out] at h3 i1 i2 hst hsd hcl hcp
        have H3 := Lib.hid h3
        have I1 := Lib.hid i1
        have I2 := Lib.hid i2
        have M1 := Lib.hid m1
        have M2 := Lib.hid m2
        have HST := Lib.hid hst
        have HSD := Lib.hid hsd
        have hB0 : Below W.heap.size W W.drew := (Below.refl W.heap.size W).drew
        have hkn : (k : Int) ≤ (n : Int) := by omega
        have hkc : (k : Int) ≤ (c : Int) := by omega
        have hnc2 : (n : Int) ≤ (c : Int) := by omega
        have hck : ¬ c = k := by omega
        have hPI : (P.size : Int) ≤ 32 := by omega
        have hQI : (Q.size : Int) ≤ 32 := by omega
        clear h3 i1 i2 m1 m2 hst hsd hr z1 z2 z3 z4 ht hd ih hb hs hcell hn hwd
        go_enter Try.func41, Try.ntmps41
        go_wp2_with fail
        (with_reducible refine (H3.out _).mono ?_); rintro e w1 ⟨rfl, rfl⟩
        go_wp2_with fail
        refine wp_region_lexX [] (by kernel_rfl) (by kernel_rfl) ?_
        repeat (first | (refine wpX_pure rfl rfl rfl ?_; intro K hK; go_big_quiet_op; refine hK _ ?_; clear hK K) | (refine wpX_eff rfl rfl ?_; intro K hK; go_wp2_with fail; refine hK _ _ trivial ?_; clear hK K))
        refine wpX_eff rfl rfl ?_; intro K hK; go_wp2_with fail
        (with_reducible refine (I1.out _ HST.out.drew).mono ?_); rintro e w1 ⟨rfl, hb1⟩
        go_wp2_with fail
        refine hK _ _ trivial ?_; clear hK K
        have hB1 := hB0.trans (hb1.mono hB0.size)
        clear hb1 hB0
        repeat (first | (refine wpX_pure rfl rfl rfl ?_; intro K hK; go_big_quiet_op; refine hK _ ?_; clear hK K) | (refine wpX_eff rfl rfl ?_; intro K hK; go_wp2_with fail; refine hK _ _ trivial ?_; clear hK K))
        refine wpX_eff rfl rfl ?_; intro K hK; go_wp2_with fail
        (with_reducible refine (M1.out _).mono ?_); rintro e w2 ⟨rfl, hb2⟩
        go_wp2_with fail
        refine hK _ _ trivial ?_; clear hK K
        have hB2 := hB1.trans (hb2.mono hB1.size)
        clear hb2 hB1
        repeat (first | (refine wpX_pure rfl rfl rfl ?_; intro K hK; go_big_quiet_op; refine hK _ ?_; clear hK K) | (refine wpX_eff rfl rfl ?_; intro K hK; go_wp2_with fail; refine hK _ _ trivial ?_; clear hK K))
        refine wpX_eff rfl rfl ?_; intro K hK; go_wp2_with fail
        (with_reducible refine (I2.out _ (HSD.out.fresh hB2)).mono ?_); rintro e w3 ⟨rfl, hb3⟩
        go_wp2_with fail
        refine hK _ _ trivial ?_; clear hK K
        have hB3 := hB2.trans (hb3.mono hB2.size)
        clear hb3 hB2
        repeat (first | (refine wpX_pure rfl rfl rfl ?_; intro K hK; go_big_quiet_op; refine hK _ ?_; clear hK K) | (refine wpX_eff rfl rfl ?_; intro K hK; go_wp2_with fail; refine hK _ _ trivial ?_; clear hK K))
        refine wpX_eff rfl rfl ?_; intro K hK; go_wp2_with fail
        (with_reducible refine (M2.out _).mono ?_); rintro e w4 ⟨rfl, hb4⟩
        go_wp2_with fail
        refine hK _ _ trivial ?_; clear hK K
        have hB4 := hB3.trans (hb4.mono hB3.size)
        clear hb4 hB3
        repeat (first | (refine wpX_pure rfl rfl rfl ?_; intro K hK; go_big_quiet_op; refine hK _ ?_; clear hK K) | (refine wpX_eff rfl rfl ?_; intro K hK; go_wp2_with fail; refine hK _ _ trivial ?_; clear hK K))
        refine wpX_nil ?_
        go_wp2_with fail
        go_ret
        exact ⟨rfl, hB4⟩
theorem crRoot17 (w : Int) (A : Option Addr) (n c : Nat) (ss : List ByteArray) (W : World) (hn : ss.length = n) (hs : Strs W A ss) (hnc : n ≤ c) (hn6 : n ≤ 1000000) (hb : ∀ s ∈ ss, s.size ≤ 200000) :
    Calls Try.prog 18 #[.int .i64 w, .slice A n c] W fun e W' => e = .returned (.string (msum (wd w) (top (wd w) ss))) ∧ Below W.heap.size W W' := by
  have h1 := crTop w n A c ss W hn hs hnc hn6 hb
  have z1 := top_le (wd w) (wd_hi w) ss hb
  have h2 := fun W => crMSum w (top (wd w) ss) W (by omega)
  obtain ⟨X, HX⟩ : ∃ X, Hid (top (wd w) ss = X) := ⟨_, Lib.hid rfl⟩
  simp only [HX.out] at h1 h2
  rw [HX.out]
  obtain ⟨Y, HY⟩ : ∃ Y, Hid (msum (wd w) X = Y) := ⟨_, Lib.hid rfl⟩
  simp only [HY.out] at h2
  rw [HY.out]
  have H1 := Lib.hid h1
  have H2 := Lib.hid h2
  clear h1 h2 z1 hs hb hn
  go_enter Try.func18, Try.ntmps18
  go_wp2_with fail
  (with_reducible refine H1.out.mono ?_); rintro e w1 ⟨rfl, hb1⟩
  go_wp2_with fail
  (with_reducible refine (H2.out _).mono ?_); rintro e w2 ⟨rfl, hb2⟩
  go_wp2_with fail
  go_ret
  exact ⟨rfl, hb1.trans (hb2.mono hb1.size)⟩
end Go.Proofs.Ytgkjpemgfbkejaa
