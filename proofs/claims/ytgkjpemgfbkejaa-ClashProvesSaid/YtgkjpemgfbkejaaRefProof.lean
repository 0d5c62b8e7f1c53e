/- The reference's Proof. -/
import Derived.Test.YtgkjpemgfbkejaaRefMerk
import Derived.Test.YtgkjpemgfbkejaaTexts
namespace Go.Proofs.Ytgkjpemgfbkejaa
open Go.RowKit
set_option linter.unusedVariables false
set_option linter.unusedSimpArgs false

set_option maxRecDepth 100000 in
theorem crProof (w : Int) : ∀ (n i : Nat) (A : Option Addr) (c : Nat) (l : List ByteArray) (W : World), l.length = n → Strs W A l → n ≤ c → n ≤ 1000000 → (∀ s ∈ l, s.size ≤ 300000000) → i < n →
    Calls Try.prog 33 #[.int .i64 w, .int .i64 i, .slice A n c] W fun e W' => ∃ A' c', e = .returned (.slice A' (proof (wd w) i l).length c') ∧ (proof (wd w) i l).length ≤ c' ∧ SL W' W.heap.size 9 (.slice A' (proof (wd w) i l).length c') ((proof (wd w) i l).map Value.string) ∧ Below W.heap.size W W' := by
  intro n
  induction n using Nat.strongRecOn with
  | _ n ih =>
    intro i A c l W hn hs hnc hn6 hz hi
    have hnI : (n : Int) ≤ 1000000 := by omega
    rcases Nat.lt_or_ge n 2 with h2 | h2
    · rw [proof_one _ _ _ (by omega)]
      clear ih hs hz
      go_enter Try.func33, Try.ntmps33
      go_wp2_with fail
      go_ret
      exact ⟨none, 0, rfl, by simp, SL.nil _ _ _, Below.refl _ _⟩
    · have hcl := cut_lt n h2
      have hcp := cut_pos n
      have h3 := fun W => crCut n W (by omega)
      obtain ⟨g, o, rfl, hg, _⟩ := hs (by omega)
      have hst := hs.take (cut n)
      have hsd := hs.from_ (cut n) (by omega) (c := c) (by omega)
      have ht : (l.take (cut n)).length = cut n := by rw [List.length_take]; omega
      have hd : (l.drop (cut n)).length = n - cut n := by rw [List.length_drop, hn]
      have i1 := fun W h h2 => ih (cut n) hcl i (some ⟨g, o, none⟩) c (l.take (cut n)) W ht h2 (by omega) (by omega) (mem_take_le hz) h
      have i2 := fun W h h2 => ih (n - cut n) (by omega) (i - cut n) (some ⟨g, o + cut n, none⟩) (c - cut n) (l.drop (cut n)) W hd h2 (by omega) (by omega) (mem_drop_le hz) h
      have r1 := fun W h => crRoot w (n - cut n) (some ⟨g, o + cut n, none⟩) (c - cut n) (l.drop (cut n)) W hd h (by omega) (by omega) (mem_drop_le hz)
      have r2 := fun W h => crRoot w (cut n) (some ⟨g, o, none⟩) c (l.take (cut n)) W ht h (by omega) (by omega) (mem_take_le hz)
      have hpl := proof_left (wd w) i l (by omega)
      have hpr := proof_right (wd w) i l (by omega)
      have hll := fun h => (way_proof (wd w) (cut n) i (l.take (cut n)) ht h).1 ▸ way_bits 61 i (cut n) (by omega)
      have hlr := fun h => (way_proof (wd w) (n - cut n) (i - cut n) (l.drop (cut n)) hd h).1 ▸ way_bits 61 (i - cut n) (n - cut n) (by omega)
      rw [hn] at hpl hpr
      obtain ⟨k, HK⟩ : ∃ k, Hid (cut n = k) := ⟨_, Lib.hid rfl⟩
      simp only [HK.out] at h3 hst hsd hpl hpr hcl hcp i1 i2 r1 r2 hll hlr
      obtain ⟨X, HX⟩ : ∃ x, Hid (root (wd w) (l.take k) = x) := ⟨_, Lib.hid rfl⟩
      obtain ⟨Y, HY⟩ : ∃ x, Hid (root (wd w) (l.drop k) = x) := ⟨_, Lib.hid rfl⟩
      simp only [HX.out] at r2
      simp only [HY.out] at r1
      have H3 := Lib.hid h3
      have HST := Lib.hid hst
      have HSD := Lib.hid hsd
      have HPL := Lib.hid hpl
      have HPR := Lib.hid hpr
      have I1 := Lib.hid i1
      have I2 := Lib.hid i2
      have R1 := Lib.hid r1
      have R2 := Lib.hid r2
      have HLL := Lib.hid hll
      have HLR := Lib.hid hlr
      have hkn : (k : Int) ≤ (n : Int) := by omega
      have hkn2 : (k : Int) < (n : Int) := by omega
      have hkc : (k : Int) ≤ (c : Int) := by omega
      have hnc2 : (n : Int) ≤ (c : Int) := by omega
      have hck : ¬ c = k := by omega
      have h2I : ¬ (n : Int) < 2 := by omega
      clear h3 hst hsd hpl hpr i1 i2 r1 r2 hll hlr ih hs hz ht hd
      by_cases hjk : i < k
      · have hd := HPL.out hjk
        have i3 := fun W h => I1.out W hjk h
        have hlen : (proof (wd w) i (l.take k)).length ≤ 61 := HLL.out hjk
        obtain ⟨q, HQ⟩ : ∃ x, Hid ((proof (wd w) i (l.take k)) = x) := ⟨_, Lib.hid rfl⟩
        simp only [HQ.out] at i3 hd hlen
        have hjI : (i : Int) < (k : Int) := by omega
        have HD := Lib.hid hd
        have I3 := Lib.hid i3
        have hB0 : Below W.heap.size W W.drew := (Below.refl W.heap.size W).drew
        clear hd i3
        go_enter Try.func33, Try.ntmps33
        go_wp2_with fail
        (with_reducible refine (H3.out _).mono ?_); rintro e w1 ⟨rfl, rfl⟩
        go_wp2_with fail
        refine wp_region_lexX [] (by kernel_rfl) (by kernel_rfl) ?_
        repeat (refine wpX_pure rfl rfl rfl ?_; intro K hK; go_big_quiet_op; refine hK _ ?_; clear hK K)
        refine wpX_eff rfl rfl ?_; intro K hK; go_wp2_with fail
        (with_reducible refine (I3.out _ HST.out.drew).mono ?_); rintro e w1 ⟨A3, c3, rfl, hc3, hS1, hb1⟩
        go_wp2_with fail
        refine hK _ _ trivial ?_; clear hK K
        have HS1 := Lib.hid hS1
        have hBB1 := hB0.trans (hb1.mono hB0.size)
        have HB1 := Lib.hid hBB1
        have hsz1 : W.heap.size ≤ w1.heap.size := hBB1.size
        clear hS1 hb1 hBB1 hB0
        repeat (refine wpX_pure rfl rfl rfl ?_; intro K hK; go_big_quiet_op; refine hK _ ?_; clear hK K)
        refine wpX_eff rfl rfl ?_; intro K hK; go_wp2_with fail
        (with_reducible refine (R1.out _ (HSD.out.fresh HB1.out)).mono ?_); rintro e w2 ⟨rfl, hb2⟩
        go_wp2_with fail
        refine hK _ _ trivial ?_; clear hK K
        have HS2 := Lib.hid (HS1.out.below hb2 (Nat.le_refl _))
        have HB2 := Lib.hid (HB1.out.trans (hb2.mono HB1.out.size))
        have hsz2 : W.heap.size ≤ w2.heap.size := HB2.out.size
        clear hb2
        refine wpX_eff rfl rfl ?_; intro K hK; go_wp2_with fail
        refine hK _ _ trivial ?_; clear hK K
        refine wpX_eff rfl rfl ?_; intro K hK
        (refine wpList_app1 Value.string (fun _ => rfl) str_elem rfl (.tmp 22) (.tmp 28) rfl W.heap.size A3 q.length c3 _ Y _ rfl rfl HS2.out rfl _ rfl rfl (by omega) (by decide) hsz2 ?_; intro A4 c4 w3 hS3 hc4 hb3; dsimp only [Act.put])
        refine wpList_nil (hK _ _ trivial ?_); clear hK K
        simp only [Act.put, List.setIfInBounds_toArray, List.set_cons_zero, List.set_cons_succ]
        refine wpX_pure rfl rfl rfl ?_; intro K hK; go_big_quiet_op; refine hK _ ?_; clear hK K
        refine wpX_nil ?_
        go_wp2_with fail
        go_ret
        rw [HD.out, HY.out]
        exact ⟨A4, c4, by rw [List.length_append]; rfl, by rw [List.length_append]; exact hc4, by rw [List.length_append]; exact hS3, HB2.out.trans hb3⟩
      · have hd := HPR.out (by omega)
        have i3 := fun W h => I2.out W (by omega) h
        have hlen : (proof (wd w) (i - k) (l.drop k)).length ≤ 61 := HLR.out (by omega)
        obtain ⟨q, HQ⟩ : ∃ x, Hid ((proof (wd w) (i - k) (l.drop k)) = x) := ⟨_, Lib.hid rfl⟩
        simp only [HQ.out] at i3 hd hlen
        have E1 : ((i - k : Nat) : Int) = (i : Int) - (k : Int) := by omega
        simp only [E1] at i3
        clear E1
        have hjI : ¬ (i : Int) < (k : Int) := by omega
        have HD := Lib.hid hd
        have I3 := Lib.hid i3
        have hB0 : Below W.heap.size W W.drew := (Below.refl W.heap.size W).drew
        clear hd i3
        go_enter Try.func33, Try.ntmps33
        go_wp2_with fail
        (with_reducible refine (H3.out _).mono ?_); rintro e w1 ⟨rfl, rfl⟩
        go_wp2_with fail
        refine wp_region_lexX [] (by kernel_rfl) (by kernel_rfl) ?_
        repeat (refine wpX_pure rfl rfl rfl ?_; intro K hK; go_big_quiet_op; refine hK _ ?_; clear hK K)
        refine wpX_eff rfl rfl ?_; intro K hK; go_wp2_with fail
        (with_reducible refine (I3.out _ HSD.out.drew).mono ?_); rintro e w1 ⟨A3, c3, rfl, hc3, hS1, hb1⟩
        go_wp2_with fail
        refine hK _ _ trivial ?_; clear hK K
        have HS1 := Lib.hid hS1
        have hBB1 := hB0.trans (hb1.mono hB0.size)
        have HB1 := Lib.hid hBB1
        have hsz1 : W.heap.size ≤ w1.heap.size := hBB1.size
        clear hS1 hb1 hBB1 hB0
        repeat (refine wpX_pure rfl rfl rfl ?_; intro K hK; go_big_quiet_op; refine hK _ ?_; clear hK K)
        refine wpX_eff rfl rfl ?_; intro K hK; go_wp2_with fail
        (with_reducible refine (R2.out _ (HST.out.fresh HB1.out)).mono ?_); rintro e w2 ⟨rfl, hb2⟩
        go_wp2_with fail
        refine hK _ _ trivial ?_; clear hK K
        have HS2 := Lib.hid (HS1.out.below hb2 (Nat.le_refl _))
        have HB2 := Lib.hid (HB1.out.trans (hb2.mono HB1.out.size))
        have hsz2 : W.heap.size ≤ w2.heap.size := HB2.out.size
        clear hb2
        refine wpX_eff rfl rfl ?_; intro K hK; go_wp2_with fail
        refine hK _ _ trivial ?_; clear hK K
        refine wpX_eff rfl rfl ?_; intro K hK
        (refine wpList_app1 Value.string (fun _ => rfl) str_elem rfl (.tmp 37) (.tmp 43) rfl W.heap.size A3 q.length c3 _ X _ rfl rfl HS2.out rfl _ rfl rfl (by omega) (by decide) hsz2 ?_; intro A4 c4 w3 hS3 hc4 hb3; dsimp only [Act.put])
        refine wpList_nil (hK _ _ trivial ?_); clear hK K
        simp only [Act.put, List.setIfInBounds_toArray, List.set_cons_zero, List.set_cons_succ]
        refine wpX_pure rfl rfl rfl ?_; intro K hK; go_big_quiet_op; refine hK _ ?_; clear hK K
        refine wpX_nil ?_
        go_wp2_with fail
        go_ret
        rw [HD.out, HX.out]
        exact ⟨A4, c4, by rw [List.length_append]; rfl, by rw [List.length_append]; exact hc4, by rw [List.length_append]; exact hS3, HB2.out.trans hb3⟩
end Go.Proofs.Ytgkjpemgfbkejaa
