/- The law GrowRoots, walked. -/
import Derived.Test.YtgkjpemgfbkejaaGrowLaws
import Derived.Test.YtgkjpemgfbkejaaOrd
namespace Go.Proofs.Ytgkjpemgfbkejaa
open Go.RowKit
set_option linter.unusedVariables false
set_option linter.unusedSimpArgs false

theorem TR.drew {w : World} {g d n : Nat} {ps : List ByteArray} (h : TR w g d n ps) : TR w.drew g d n ps := h
set_option maxRecDepth 100000 in
set_option maxHeartbeats 4000000 in
theorem growRoots_walk {w : World} (k : Int) (hk : (Lit.int .i64 k).wf = true) (v : Value) (ss : List ByteArray) (hv : StrsIn w v ss) :
    Calls Try.prog 6 #[.int .i64 k, v] w fun e w' => e = .returned (.bool true) ∧ Below w.heap.size w w' := by
  have h0 := cLeaves16 k hv
  have h1 := fun W => cTNew k W
  have hd1 := wd_lo k
  have hd2 := wd_hi k
  have hr := fun n A c ss W h1 h2 h3 h4 h5 => crRoot k n A c ss W h1 h2 h3 h4 h5
  have hp := fun A n c l W h1 h2 h3 h4 h5 => crPeaks k A n c l W h1 h2 h3 h4 h5
  obtain ⟨d, HD⟩ : ∃ x, Hid (wd k = x) := ⟨_, Lib.hid rfl⟩
  simp only [HD.out] at h0 h1 hd1 hd2 hr hp
  have H0 := Lib.hid h0
  have H1 := Lib.hid h1
  have HRO := Lib.hid hr
  have HPK := Lib.hid hp
  clear h0 h1 hr hp hv hk
  go_enter Try.func6, Try.ntmps6
  go_wp2_with fail
  (with_reducible refine H0.out.mono ?_); rintro e w1 ⟨A, n, c, l, rfl, hl, hnc, hn, hz, hs, hb1⟩
  have HL := Lib.hid hl
  have HZ := Lib.hid hz
  have HB1 := Lib.hid hb1
  have HS1 := Lib.hid hs
  clear hl hz hs hb1 H0
  go_wp2_with fail
  (with_reducible refine (H1.out _).mono ?_); rintro e w2 ⟨g, rfl, hg, hT, hb2⟩
  have HT2 := Lib.hid hT.start
  have HS2 := Lib.hid (HS1.out.fresh hb2)
  have HB2 := Lib.hid (HB1.out.trans (hb2.mono HB1.out.size))
  have hgw : w.heap.size ≤ g := Nat.le_trans HB1.out.size hg
  have hO2 : Only (fun k => k = g) w2 w2 := Only.refl _ _
  clear hT hb2
  go_wp2_with fail
  go_loopw [7] (fun u wr => ∃ i : Nat, u = .int .i64 i ∧ i ≤ n + 1 ∧ TR wr g d (l.take i).length (peaks d (l.take i)) ∧ Strs wr A l ∧ Only (fun k => k = g) w2 wr) (fun u _ => n + 1 - (intOf u).toNat)
  case atStart => exact ⟨0, rfl, by omega, HT2.out, HS2.out, hO2⟩
  case round =>
    clear hO2
    obtain ⟨i, rfl, hin, hT, hs, hO⟩ := hrel
    have HT := Lib.hid hT
    have HS := Lib.hid hs
    have HO := Lib.hid hO
    clear hT hs hO
    by_cases hi : i ≤ n
    · have hdk : decide ((i : Int) ≤ (n : Int)) = true := decide_eq_true (by omega)
      have hli : (l.take i).length = i := by rw [List.length_take, HL.out]; omega
      have hzt : ∀ s ∈ l.take i, s.size = d := fun s hs => HZ.out s (List.mem_of_mem_take hs)
      have hzb : ∀ s ∈ l.take i, s.size ≤ 300000000 := fun s hs => by have := hzt s hs; omega
      have r1 := fun W h => cTRootA W g d (l.take i) h hd1 hd2 hzt (by omega)
      have r2 := fun W h => HRO.out i A c (l.take i) W hli h (by omega) (by omega) hzb
      have p1 := fun W h => cTPeaks W g d i (peaks d (l.take i)) h (by rw [peaks_length d i _ hli]; have := ones_le 17 i (by omega); omega)
      have p2 := fun W h => HPK.out A i c (l.take i) W hli h (by omega) (by omega) hzb
      have hst := HS.out.take i
      have hT := HT.out
      have hadd := fun W (x : ByteArray) h hx => cTAdd W g d (l.take i) x h hd1 hd2 hzt hx (by omega)
      have hnx := fun (h : i < n) => (show l.take (i + 1) = l.take i ++ [l.getD i ByteArray.empty] by
        rw [List.take_succ_eq_append_getElem (by rw [HL.out]; exact h), List.getD_eq_getElem?_getD, List.getElem?_eq_getElem (by rw [HL.out]; exact h)]; rfl)
      rw [hli] at hT
      simp only [hli] at r1 hadd
      obtain ⟨X, HX⟩ : ∃ x, Hid (root d (l.take i) = x) := ⟨_, Lib.hid rfl⟩
      obtain ⟨P, HP⟩ : ∃ x, Hid (peaks d (l.take i) = x) := ⟨_, Lib.hid rfl⟩
      simp only [HX.out, HP.out] at r1 r2
      simp only [HP.out] at p1 p2 hT hadd
      have hPl : P.length ≤ 17 := by rw [← HP.out, peaks_length d i _ hli]; exact ones_le 17 i (by omega)
      have HTR := Lib.hid (TR.drew hT)
      have HST := Lib.hid hst.drew
      have R1 := Lib.hid r1
      have R2 := Lib.hid r2
      have P1 := Lib.hid p1
      have P2 := Lib.hid p2
      have HADD := Lib.hid hadd
      have HNX := Lib.hid hnx
      have hiI : ((i : Int) != (i : Int)) = false := by simp
      have hxx : (X.toList == X.toList) = true := beq_self_eq_true _
      have hic : (i : Int) ≤ (c : Int) := by omega
      have hB0 := Below.refl wr.drew.heap.size wr.drew
      clear r1 r2 p1 p2 hst hT hzt hzb hli hadd hnx
      go_wp2_with fail
      refine wp_region_lexX [] (by kernel_rfl) (by kernel_rfl) ?_
      repeat (first | (refine wpX_pure rfl rfl rfl ?_; intro K hK; go_big_quiet_op; refine hK _ ?_; clear hK K) | (refine wpX_eff rfl rfl ?_; intro K hK; go_wp2_with fail; refine hK _ _ trivial ?_; clear hK K))
      refine wpX_eff rfl rfl ?_; intro K hK; go_wp2_with fail
      (with_reducible refine (cTLen _ _ _ _ _ HTR.out).mono ?_); rintro e w5 ⟨rfl, rfl⟩
      go_wp2_with fail
      refine hK _ _ trivial ?_; clear hK K
      repeat (first | (refine wpX_pure rfl rfl rfl ?_; intro K hK; go_big_quiet_op; refine hK _ ?_; clear hK K) | (refine wpX_eff rfl rfl ?_; intro K hK; go_wp2_with fail; refine hK _ _ trivial ?_; clear hK K))
      refine wpX_eff rfl rfl ?_; intro K hK; go_wp2_with fail
      (with_reducible refine (R1.out _ HTR.out).mono ?_); rintro e w5 ⟨rfl, hb5⟩
      go_wp2_with fail
      refine hK _ _ trivial ?_; clear hK K
      repeat (first | (refine wpX_pure rfl rfl rfl ?_; intro K hK; go_big_quiet_op; refine hK _ ?_; clear hK K) | (refine wpX_eff rfl rfl ?_; intro K hK; go_wp2_with fail; refine hK _ _ trivial ?_; clear hK K))
      refine wpX_eff rfl rfl ?_; intro K hK; go_wp2_with fail
      (with_reducible refine (R2.out _ (HST.out.fresh hb5)).mono ?_); rintro e w6 ⟨rfl, hb6⟩
      go_wp2_with fail
      refine hK _ _ trivial ?_; clear hK K
      have hB6 := hb5.trans (hb6.mono hb5.size)
      clear hb5 hb6
      repeat (first | (refine wpX_pure rfl rfl rfl ?_; intro K hK; go_big_quiet_op; refine hK _ ?_; clear hK K) | (refine wpX_eff rfl rfl ?_; intro K hK; go_wp2_with fail; refine hK _ _ trivial ?_; clear hK K))
      refine wpX_eff rfl rfl ?_; intro K hK; go_wp2_with fail
      (with_reducible refine (P1.out _ (HTR.out.fresh hB6)).mono ?_); rintro e w7 ⟨A7, c7, rfl, hc7, hs7, hb7⟩
      go_wp2_with fail
      refine hK _ _ trivial ?_; clear hK K
      have HS7 := Lib.hid hs7
      have hB7 := hB6.trans (hb7.mono hB6.size)
      clear hb7 hB6 hs7
      repeat (first | (refine wpX_pure rfl rfl rfl ?_; intro K hK; go_big_quiet_op; refine hK _ ?_; clear hK K) | (refine wpX_eff rfl rfl ?_; intro K hK; go_wp2_with fail; refine hK _ _ trivial ?_; clear hK K))
      refine wpX_eff rfl rfl ?_; intro K hK; go_wp2_with fail
      (with_reducible refine (P2.out _ (HST.out.fresh hB7)).mono ?_); rintro e w8 ⟨A8, c8, rfl, hc8, hs8, hb8⟩
      go_wp2_with fail
      refine hK _ _ trivial ?_; clear hK K
      have s1 := cSame A7 A8 P.length P.length c7 c8 P P w8 rfl rfl (HS7.out.fresh hb8) hs8 (by omega) (by omega)
      rw [decide_eq_true rfl] at s1
      have S1 := Lib.hid s1
      have hB8 := hB7.trans (hb8.mono hB7.size)
      clear hb8 hB7 hs8 s1
      repeat (first | (refine wpX_pure rfl rfl rfl ?_; intro K hK; go_big_quiet_op; refine hK _ ?_; clear hK K) | (refine wpX_eff rfl rfl ?_; intro K hK; go_wp2_with fail; refine hK _ _ trivial ?_; clear hK K))
      refine wpX_eff rfl rfl ?_; intro K hK; go_wp2_with fail
      (with_reducible refine S1.out.mono ?_); rintro e w9 ⟨rfl, hb9⟩
      go_wp2_with fail
      refine hK _ _ trivial ?_; clear hK K
      have hB9 := hB8.trans (hb9.mono hB8.size)
      have HT9 := Lib.hid (HTR.out.fresh hB9)
      have HS9 := Lib.hid (HS.out.drew.fresh hB9)
      have HO9 := Lib.hid (HO.out.drew.trans (Only.fresh hB9 : Only (fun k => k = g) _ _) (fun _ _ h => h))
      clear hb9 hB8 hB9 hB0
      repeat (first | (refine wpX_pure rfl rfl rfl ?_; intro K hK; go_big_quiet_op; refine hK _ ?_; clear hK K) | (refine wpX_eff rfl rfl ?_; intro K hK; go_wp2_with fail; refine hK _ _ trivial ?_; clear hK K))
      refine wpX_nil ?_
      by_cases hlt : i < n
      · have hdk2 : decide ((i : Int) < (n : Int)) = true := decide_eq_true (by omega)
        obtain ⟨g1, o1, rfl, cl⟩ := HS9.out.cell_ i (by rw [HL.out]; exact hlt)
        have hzx := HZ.out _ (getD_mem (by rw [HL.out]; exact hlt : i < l.length))
        have hnx := HNX.out hlt
        have ha := fun W h => HADD.out W (l.getD i ByteArray.empty) h hzx
        rw [← hnx] at ha
        obtain ⟨x, HXX⟩ : ∃ s, Hid (l.getD i ByteArray.empty = s) := ⟨_, Lib.hid rfl⟩
        rw [HXX.out] at cl hzx
        simp only [HXX.out] at ha
        have hli2 : (l.take (i + 1)).length = i + 1 := by rw [List.length_take, HL.out]; omega
        have HA := Lib.hid ha
        clear ha hnx
        go_wp2_with fail
        (with_reducible refine (HA.out _ HT9.out).mono ?_); rintro e w10 ⟨rfl, hT10, hO10⟩
        go_wp2_with fail
        go_roundw
        case rel => exact ⟨i + 1, by go_num, by omega, by rw [hli2]; exact hT10, HT9.out.strs HS9.out hO10, HO9.out.trans' hO10⟩
        case measure => simp [intOf]; omega
      · have hdk2 : decide ((i : Int) < (n : Int)) = false := decide_eq_false (by omega)
        have hf : l.take (i + 1) = l.take i := by rw [List.take_of_length_le (by rw [HL.out]; omega), List.take_of_length_le (by rw [HL.out]; omega)]
        have hli2 : (l.take i).length = i := by rw [List.length_take, HL.out]; omega
        go_wp2_with fail
        go_roundw
        case rel => exact ⟨i + 1, by go_num, by omega, by rw [hf, hli2, HP.out]; exact HT9.out, HS9.out, HO9.out⟩
        case measure => simp [intOf]; omega
    · have hdk : decide ((i : Int) ≤ (n : Int)) = false := decide_eq_false (by omega)
      have hBw : Below w.heap.size w wr := HB2.out.trans (HO.out.below HB2.out.size (fun k hk => by omega))
      go_wp2_with fail
      (with_reducible refine (cAwake16 _).mono ?_); rintro e w5 ⟨rfl, hb5⟩
      go_wp2_with fail
      go_ret
      exact ⟨rfl, hBw.trans (hb5.mono hBw.size)⟩
end Go.Proofs.Ytgkjpemgfbkejaa
