/- The law GrowGoes, walked. -/
import Derived.Test.YtgkjpemgfbkejaaGrowRoots
namespace Go.Proofs.Ytgkjpemgfbkejaa
open Go.RowKit
set_option linter.unusedVariables false
set_option linter.unusedSimpArgs false

theorem TR.keep {w w' : World} {g d n : Nat} {ps : List ByteArray} {S : Nat → Prop} (h : TR w g d n ps) (ho : Only S w w') (hg : ¬ S g) (hs : ∀ A c, Blk w g 62 #[.int .i64 (d : Nat), .int .i64 (n : Nat), .slice A ps.length c] → ∀ x o, A = some ⟨x, o, none⟩ → ¬ S x) : TR w' g d n ps := by
  obtain ⟨A, c, h1, h2, h3⟩ := h
  exact ⟨A, c, ho.blk h1 hg, h2, h3.only ho (fun x o e => hs A c h1 x o e)⟩
set_option maxRecDepth 100000 in
set_option maxHeartbeats 8000000 in
theorem growGoes_walk {w : World} (k : Int) (hk : (Lit.int .i64 k).wf = true) (at_ : Int) (hat : (Lit.int .i64 at_).wf = true) (v : Value) (ss : List ByteArray) (hv : StrsIn w v ss) :
    Calls Try.prog 10 #[.int .i64 k, .int .i64 at_, v] w fun e w' => e = .returned (.bool true) ∧ Below w.heap.size w w' := by
  have h0 := cLeaves16 k hv
  have h1 := fun W => cTNew k W
  have hd1 := wd_lo k
  have hd2 := wd_hi k
  have hat2 := wf_i64 hat
  have hr := fun n A c ss W h1 h2 h3 h4 h5 => crRoot k n A c ss W h1 h2 h3 h4 h5
  have hf := fun n A m c ps W h1 h2 h3 h4 h5 => cFrom k n A m c ps W h1 h2 h3 h4 h5
  obtain ⟨d, HD⟩ : ∃ x, Hid (wd k = x) := ⟨_, Lib.hid rfl⟩
  simp only [HD.out] at h0 h1 hd1 hd2 hr hf
  have H0 := Lib.hid h0
  have H1 := Lib.hid h1
  have HRO := Lib.hid hr
  have HFR := Lib.hid hf
  clear h0 h1 hv hk hr hf hat
  go_enter Try.func10, Try.ntmps10
  go_wp2_with fail
  (with_reducible refine H0.out.mono ?_); rintro e w1 ⟨A, n, c, l, rfl, hl, hnc, hn, hz, hs, hb1⟩
  have HL := Lib.hid hl
  have HZ := Lib.hid hz
  have HB1 := Lib.hid hb1
  have HS1 := Lib.hid hs
  clear hl hz hs hb1 H0
  by_cases hn0 : n = 0
  · subst hn0
    go_wp2_with fail
    (with_reducible refine (cAwake16 _).mono ?_); rintro e w5 ⟨rfl, hb5⟩
    go_wp2_with fail
    go_ret
    exact ⟨rfl, HB1.out.trans (hb5.mono HB1.out.size)⟩
  · have hn0I : ((n : Int) == 0) = false := by simp; omega
    have hn0K : (n == 0) = false := by simp; omega
    have hn0J : (0 : Int) < (n : Int) := by omega
    obtain ⟨a, ha, ea⟩ := turn_mod at_ n (by omega) (by omega)
    go_wp2_with fail
    (with_reducible refine (H1.out _).mono ?_); rintro e w2 ⟨g, rfl, hg, hT, hb2⟩
    have HT2 := Lib.hid hT.start
    have HS2 := Lib.hid (HS1.out.fresh hb2)
    have HB2 := Lib.hid (HB1.out.trans (hb2.mono HB1.out.size))
    have hgw : w.heap.size ≤ g := Nat.le_trans HB1.out.size hg
    have hO2 : Only (fun k => k = g) w2 w2 := Only.refl _ _
    clear hT hb2
    go_wp2_with fail
    go_loopw [9] (fun u wr => ∃ i : Nat, u = .int .i64 i ∧ i ≤ a ∧ TR wr g d (l.take i).length (peaks d (l.take i)) ∧ Strs wr A l ∧ Only (fun k => k = g) w2 wr) (fun u _ => a - (intOf u).toNat)
    case atStart => exact ⟨0, rfl, by omega, HT2.out, HS2.out, hO2⟩
    case round =>
      clear hO2
      obtain ⟨i, rfl, hin, hT, hs, hO⟩ := hrel
      have HT := Lib.hid hT
      have HS := Lib.hid hs
      have HO := Lib.hid hO
      clear hT hs hO
      have hli : (l.take i).length = i := by rw [List.length_take, HL.out]; omega
      by_cases hi : i < a
      · have hdk : decide ((i : Int) < (a : Int)) = true := decide_eq_true (by omega)
        have hiI : (i : Int) < (n : Int) := by omega
        have hzt : ∀ s ∈ l.take i, s.size = d := fun s hs => HZ.out s (List.mem_of_mem_take hs)
        have hadd := fun W (x : ByteArray) h hx => cTAdd W g d (l.take i) x h hd1 hd2 hzt hx (by omega)
        have hnx : l.take (i + 1) = l.take i ++ [l.getD i ByteArray.empty] := by
          rw [List.take_succ_eq_append_getElem (by rw [HL.out]; omega), List.getD_eq_getElem?_getD, List.getElem?_eq_getElem (by rw [HL.out]; omega)]; rfl
        obtain ⟨g1, o1, rfl, cl⟩ := HS.out.cell_ i (by rw [HL.out]; omega)
        have hzx := HZ.out _ (getD_mem (by rw [HL.out]; omega : i < l.length))
        have ha := fun W h => hadd W (l.getD i ByteArray.empty) h hzx
        rw [← hnx] at ha
        obtain ⟨x, HXX⟩ : ∃ s, Hid (l.getD i ByteArray.empty = s) := ⟨_, Lib.hid rfl⟩
        rw [HXX.out] at cl hzx
        simp only [HXX.out] at ha
        have hli2 : (l.take (i + 1)).length = (l.take i).length + 1 := by rw [hli, List.length_take, HL.out]; omega
        have HA := Lib.hid ha
        clear ha hnx hadd hzt
        go_wp2_with fail
        (with_reducible refine (HA.out _ HT.out).mono ?_); rintro e w10 ⟨rfl, hT10, hO10⟩
        go_wp2_with fail
        go_roundw
        case rel => exact ⟨i + 1, by go_num, by omega, by rw [hli2]; exact hT10, HT.out.strs HS.out hO10, HO.out.trans' hO10⟩
        case measure => simp [intOf]; omega
      · have hdk : decide ((i : Int) < (a : Int)) = false := decide_eq_false (by omega)
        have e : i = a := by omega
        subst e
        have hzt : ∀ s ∈ l.take i, s.size = d := fun s hs => HZ.out s (List.mem_of_mem_take hs)
        have hT := HT.out
        rw [hli] at hT
        have hpl := peaks_length d i (l.take i) hli
        have hole := ones_le 17 i (by omega)
        have hpz := peaks_size d hd2 i (l.take i) hli hzt
        have p1 := fun W h => cTPeaks W g d i (peaks d (l.take i)) h (by omega)
        have f1 := fun A c W h hc => HFR.out i A (ones i) c (peaks d (l.take i)) W (by omega) hpl rfl h hc
        rw [hpl] at p1
        have hBw : Below w.heap.size w wr := HB2.out.trans (HO.out.below HB2.out.size (fun k hk => by omega))
        obtain ⟨P, HP⟩ : ∃ x, Hid (peaks d (l.take i) = x) := ⟨_, Lib.hid rfl⟩
        obtain ⟨r, HR⟩ : ∃ x, Hid (ones i = x) := ⟨_, Lib.hid rfl⟩
        simp only [HP.out] at hT hpz
        simp only [HP.out, HR.out] at p1 f1
        have HTT := Lib.hid hT
        have P1 := Lib.hid p1
        have F1 := Lib.hid f1
        have HPZ := Lib.hid hpz
        clear p1 f1 hT hpz hzt hpl hole HT hli HO
        go_wp2_with fail
        (with_reducible refine (cTLen _ _ _ _ _ HTT.out).mono ?_); rintro e w5 ⟨rfl, rfl⟩
        go_wp2_with fail
        (with_reducible refine (P1.out _ HTT.out).mono ?_); rintro e w6 ⟨A6, c6, rfl, hc6, hs6, hb6⟩
        have HS6 := Lib.hid hs6
        clear hs6
        go_wp2_with fail
        (with_reducible refine (F1.out _ _ _ HS6.out hc6).mono ?_); rintro e w7 ⟨hy, _, hb7⟩
        obtain ⟨g2, rfl, hg2, hT7⟩ := hy HPZ.out
        have hb67 := hb6.trans (hb7.mono hb6.size)
        have hTa := Lib.hid (HTT.out.fresh hb67)
        have hTb := Lib.hid hT7
        have hne : g2 ≠ g := fun e => by have := HTT.out.lt; have := hb6.size; omega
        have hSw := Lib.hid (HS.out.fresh hb67)
        have HBW := Lib.hid (hBw.trans (hb67.mono hBw.size))
        have hg2w : w.heap.size ≤ g2 := by have := hBw.size; have := hb6.size; omega
        have hO0 : Only (fun k => k = g ∨ k = g2) w7 w7 := Only.refl _ _
        clear hy hT7 hb6 hb7 hb67 hBw HS HTT P1 F1 HPZ
        go_wp2_with fail
        go_loopw [12] (fun u wr => ∃ j : Nat, u = .int .i64 j ∧ i ≤ j ∧ j ≤ n ∧ TR wr g d (l.take j).length (peaks d (l.take j)) ∧ TR wr g2 d (l.take j).length (peaks d (l.take j)) ∧ Strs wr A l ∧ Only (fun k => k = g ∨ k = g2) w7 wr) (fun u _ => n - (intOf u).toNat)
        case atStart => exact ⟨i, rfl, Nat.le_refl _, by omega, by rw [List.length_take, HL.out, Nat.min_eq_left (by omega), HP.out]; exact hTa.out, by rw [List.length_take, HL.out, Nat.min_eq_left (by omega), HP.out]; exact hTb.out, hSw.out, hO0⟩
        case round =>
          clear hO0
          obtain ⟨j, rfl, hij, hjn, hT1, hT2, hs, hO⟩ := hrel
          have HTA := Lib.hid hT1
          have HTB := Lib.hid hT2
          have HS := Lib.hid hs
          have HO := Lib.hid hO
          clear hT1 hT2 hs hO
          have hlj : (l.take j).length = j := by rw [List.length_take, HL.out]; omega
          by_cases hj : j < n
          · have hdk : decide ((j : Int) < (n : Int)) = true := decide_eq_true (by omega)
            have hjI : (j : Int) < (n : Int) := by omega
            have hzt : ∀ s ∈ l.take j, s.size = d := fun s hs => HZ.out s (List.mem_of_mem_take hs)
            have hzt2 : ∀ s ∈ l.take (j + 1), s.size = d := fun s hs => HZ.out s (List.mem_of_mem_take hs)
            have hadd := fun W g (x : ByteArray) h hx => cTAdd W g d (l.take j) x h hd1 hd2 hzt hx (by omega)
            have hnx : l.take (j + 1) = l.take j ++ [l.getD j ByteArray.empty] := by
              rw [List.take_succ_eq_append_getElem (by rw [HL.out]; omega), List.getD_eq_getElem?_getD, List.getElem?_eq_getElem (by rw [HL.out]; omega)]; rfl
            have cells := HS.out.cell_ j (by rw [HL.out]; omega)
            obtain ⟨g1, o1, rfl, cl⟩ := cells
            have hzx := HZ.out _ (getD_mem (by rw [HL.out]; omega : j < l.length))
            have ha := fun W g h => hadd W g (l.getD j ByteArray.empty) h hzx
            rw [← hnx] at ha
            have hlj2 : (l.take (j + 1)).length = j + 1 := by rw [List.length_take, HL.out]; omega
            have r1 := fun W g (h : TR W g d (j + 1) (peaks d (l.take (j + 1)))) => cTRootA W g d (l.take (j + 1)) (by rw [hlj2]; exact h) hd1 hd2 hzt2 (by omega)
            have p1 := fun W g h => cTPeaks W g d (j + 1) (peaks d (l.take (j + 1))) h (by rw [peaks_length d (j + 1) _ hlj2]; have := ones_le 17 (j + 1) (by omega); omega)
            have hPl : (peaks d (l.take (j + 1))).length ≤ 17 := by rw [peaks_length d (j + 1) _ hlj2]; exact ones_le 17 (j + 1) (by omega)
            have hTA := HTA.out
            have hTB := HTB.out
            rw [hlj] at hTA hTB
            simp only [hlj] at ha
            obtain ⟨x, HXX⟩ : ∃ s, Hid (l.getD j ByteArray.empty = s) := ⟨_, Lib.hid rfl⟩
            obtain ⟨X, HX⟩ : ∃ s, Hid (root d (l.take (j + 1)) = s) := ⟨_, Lib.hid rfl⟩
            obtain ⟨Q, HQ⟩ : ∃ s, Hid (peaks d (l.take (j + 1)) = s) := ⟨_, Lib.hid rfl⟩
            rw [HXX.out] at cl hzx
            simp only [HXX.out, HQ.out] at ha
            simp only [HX.out, HQ.out] at r1
            simp only [HQ.out] at p1 hPl
            have HA := Lib.hid ha
            have R1 := Lib.hid r1
            have P1 := Lib.hid p1
            have HTA2 := Lib.hid hTA
            have HTB2 := Lib.hid hTB
            have hxx : (X.toList == X.toList) = true := beq_self_eq_true _
            have hjj : ((j : Int) + 1 != (j : Int) + 1) = false := by simp
            clear ha hnx hadd hzt hzt2 r1 p1 hTA hTB
            go_wp2_with fail
            (with_reducible refine (HA.out _ _ HTA2.out).mono ?_); rintro e w10 ⟨rfl, hT10, hO10⟩
            have hSA := HTA2.out.strs HS.out hO10
            have hTB10 := Lib.hid (HTA2.out.other HTB2.out hne hO10)
            have cl10 : w10.cell? ⟨g1, o1 + j, none⟩ = some (.string x) := by
              obtain ⟨g', o', e1, _, e3⟩ := hSA (by rw [HL.out]; omega)
              injection e1 with e1; injection e1 with e1 e2 _
              subst e1; subst e2
              have := e3 j (by rw [HL.out]; omega)
              rw [HXX.out] at this
              exact this
            have HSA := Lib.hid hSA
            have HT10 := Lib.hid hT10
            have HO10 := Lib.hid (HO.out.trans hO10 (fun k _ h => .inl h))
            clear hSA hT10 hO10 cl
            go_wp2_with fail
            (with_reducible refine (HA.out _ _ hTB10.out).mono ?_); rintro e w11 ⟨rfl, hT11, hO11⟩
            have HS11 := Lib.hid (hTB10.out.strs HSA.out hO11)
            have HTA11 := Lib.hid (hTB10.out.other HT10.out (Ne.symm hne) hO11)
            have HTB11 := Lib.hid hT11
            have HO11 := Lib.hid (HO10.out.trans hO11 (fun k _ h => .inr h))
            clear hT11 hO11 cl10
            go_wp2_with fail
            (with_reducible refine (R1.out _ _ HTA11.out).mono ?_); rintro e w12 ⟨rfl, hb12⟩
            go_wp2_with fail
            (with_reducible refine (R1.out _ _ (HTB11.out.fresh hb12)).mono ?_); rintro e w13 ⟨rfl, hb13⟩
            have hB13 := hb12.trans (hb13.mono hb12.size)
            clear hb12 hb13
            go_wp2_with fail
            (with_reducible refine (P1.out _ _ (HTA11.out.fresh hB13)).mono ?_); rintro e w14 ⟨A14, c14, rfl, hc14, hs14, hb14⟩
            have HS14 := Lib.hid hs14
            have hB14 := hB13.trans (hb14.mono hB13.size)
            clear hb14 hB13 hs14
            go_wp2_with fail
            (with_reducible refine (P1.out _ _ (HTB11.out.fresh hB14)).mono ?_); rintro e w15 ⟨A15, c15, rfl, hc15, hs15, hb15⟩
            have s1 := cSame A14 A15 Q.length Q.length c14 c15 Q Q w15 rfl rfl (HS14.out.fresh hb15) hs15 (by omega) (by omega)
            rw [decide_eq_true rfl] at s1
            have S1 := Lib.hid s1
            have hB15 := hB14.trans (hb15.mono hB14.size)
            clear hb15 hB14 hs15 s1
            go_wp2_with fail
            (with_reducible refine S1.out.mono ?_); rintro e w16 ⟨rfl, hb16⟩
            have hB16 := hB15.trans (hb16.mono hB15.size)
            clear hb16 hB15
            have HTA16 := Lib.hid (HTA11.out.fresh hB16)
            have HTB16 := Lib.hid (HTB11.out.fresh hB16)
            have HS16 := Lib.hid (HS11.out.fresh hB16)
            have HO16 := Lib.hid (HO11.out.trans (Only.fresh hB16 : Only (fun k => k = g ∨ k = g2) _ _) (fun _ _ h => h))
            go_wp2_with fail
            (with_reducible refine (cTLen _ _ _ _ _ HTA16.out).mono ?_); rintro e w17 ⟨rfl, rfl⟩
            go_wp2_with fail
            (with_reducible refine (cTLen _ _ _ _ _ HTB16.out).mono ?_); rintro e w17 ⟨rfl, rfl⟩
            go_wp2_with fail
            go_roundw
            case rel => exact ⟨j + 1, by go_num, by omega, by omega, by rw [hlj2, HQ.out]; exact HTA16.out, by rw [hlj2, HQ.out]; exact HTB16.out, HS16.out, HO16.out⟩
            case measure => simp [intOf]; omega
          · have hdk : decide ((j : Int) < (n : Int)) = false := decide_eq_false (by omega)
            have e : j = n := by omega
            subst e
            have hfull : l.take j = l := List.take_of_length_le (by rw [HL.out]; omega)
            have hT := HTA.out
            rw [hfull] at hT
            have r1 := fun W h => cTRootA W g d l h hd1 hd2 HZ.out (by rw [HL.out]; omega)
            have r2 := fun W h => HRO.out j A c l W HL.out h hnc (by omega) (fun s hs => by have := HZ.out s hs; omega)
            obtain ⟨X, HX⟩ : ∃ s, Hid (root d l = s) := ⟨_, Lib.hid rfl⟩
            simp only [HX.out] at r1 r2
            have R1 := Lib.hid r1
            have R2 := Lib.hid r2
            have HT9 := Lib.hid hT
            have hxx : (X.toList == X.toList) = true := beq_self_eq_true _
            have hBw2 : Below w.heap.size w wr := HBW.out.trans (HO.out.below HBW.out.size (fun k hk => by omega))
            clear r1 r2 hT
            go_wp2_with fail
            (with_reducible refine (R1.out _ HT9.out).mono ?_); rintro e w12 ⟨rfl, hb12⟩
            go_wp2_with fail
            (with_reducible refine (R2.out _ (HS.out.fresh hb12)).mono ?_); rintro e w13 ⟨rfl, hb13⟩
            have hB12 := hBw2.trans (hb12.mono hBw2.size)
            have hB13 := hB12.trans (hb13.mono hB12.size)
            clear hb12 hb13 hB12 hBw2
            go_wp2_with fail
            (with_reducible refine (cAwake16 _).mono ?_); rintro e w14 ⟨rfl, hb14⟩
            go_wp2_with fail
            go_ret
            exact ⟨rfl, hB13.trans (hb14.mono hB13.size)⟩
end Go.Proofs.Ytgkjpemgfbkejaa
