/- The law GrowWidths, walked. -/
import Derived.Test.YtgkjpemgfbkejaaGrowRoots
namespace Go.Proofs.Ytgkjpemgfbkejaa
open Go.RowKit
set_option linter.unusedVariables false
set_option linter.unusedSimpArgs false

set_option maxRecDepth 100000 in
set_option maxHeartbeats 4000000 in
theorem growWidths_walk {w : World} (k : Int) (hk : (Lit.int .i64 k).wf = true) (v : Value) (ss : List ByteArray) (hv : StrsIn w v ss) (s : ByteArray) (hsz : s.size ≤ reachBytes) :
    Calls Try.prog 7 #[.int .i64 k, v, .string s] w fun e w' => e = .returned (.bool true) ∧ Below w.heap.size w w' := by
  have h0 := cLeaves16 k hv
  have h1 := fun W => cTNew k W
  have h2 := fun W => crWidth k W
  have hd1 := wd_lo k
  have hd2 := wd_hi k
  have hsr : s.size ≤ 140737488355328 := Nat.le_trans hsz (by decide)
  obtain ⟨d, HD⟩ : ∃ x, Hid (wd k = x) := ⟨_, Lib.hid rfl⟩
  simp only [HD.out] at h0 h1 h2 hd1 hd2
  have H0 := Lib.hid h0
  have H1 := Lib.hid h1
  have H2 := Lib.hid h2
  clear h0 h1 h2 hv hk hsz
  go_enter Try.func7, Try.ntmps7
  go_wp2_with fail
  (with_reducible refine H0.out.mono ?_); rintro e w1 ⟨A, n, c, l, rfl, hl, hnc, hn, hz, hs, hb1⟩
  have HL := Lib.hid hl
  have HZ := Lib.hid hz
  have HB1 := Lib.hid hb1
  have HS1 := Lib.hid hs
  clear hl hz hs hb1 H0
  go_wp2_with fail
  (with_reducible refine (H1.out _).mono ?_); rintro e w2 ⟨g, rfl, hg, hT, hb2⟩
  have HT2 := Lib.hid hT.start
  have HS2 := Lib.hid (HS1.out.fresh hb2)
  have HB2 := Lib.hid (HB1.out.trans (hb2.mono HB1.out.size))
  have hgw : w.heap.size ≤ g := Nat.le_trans HB1.out.size hg
  have hO2 : Only (fun k => k = g) w2 w2 := Only.refl _ _
  clear hT hb2
  go_wp2_with fail
  go_loopw [9] (fun u wr => ∃ i : Nat, u = .int .i64 i ∧ i ≤ n ∧ TR wr g d (l.take i).length (peaks d (l.take i)) ∧ Strs wr A l ∧ Only (fun k => k = g) w2 wr) (fun u _ => n - (intOf u).toNat)
  case atStart => exact ⟨0, rfl, by omega, HT2.out, HS2.out, hO2⟩
  case round =>
    clear hO2
    obtain ⟨i, rfl, hin, hT, hs, hO⟩ := hrel
    have HT := Lib.hid hT
    have HS := Lib.hid hs
    have HO := Lib.hid hO
    clear hT hs hO
    have hli : (l.take i).length = i := by rw [List.length_take, HL.out]; omega
    by_cases hi : i < n
    · have hdk : decide ((i : Int) < (n : Int)) = true := decide_eq_true (by omega)
      have hzt : ∀ s ∈ l.take i, s.size = d := fun s hs => HZ.out s (List.mem_of_mem_take hs)
      have hadd := fun W (x : ByteArray) h hx => cTAdd W g d (l.take i) x h hd1 hd2 hzt hx (by omega)
      have hnx : l.take (i + 1) = l.take i ++ [l.getD i ByteArray.empty] := by
        rw [List.take_succ_eq_append_getElem (by rw [HL.out]; exact hi), List.getD_eq_getElem?_getD, List.getElem?_eq_getElem (by rw [HL.out]; exact hi)]; rfl
      obtain ⟨g1, o1, rfl, cl⟩ := HS.out.cell_ i (by rw [HL.out]; exact hi)
      have hzx := HZ.out _ (getD_mem (by rw [HL.out]; exact hi : i < l.length))
      have ha := fun W h => hadd W (l.getD i ByteArray.empty) h hzx
      rw [← hnx] at ha
      obtain ⟨x, HXX⟩ : ∃ s, Hid (l.getD i ByteArray.empty = s) := ⟨_, Lib.hid rfl⟩
      rw [HXX.out] at cl hzx
      simp only [HXX.out] at ha
      have hli2 : (l.take (i + 1)).length = (l.take i).length + 1 := by rw [hli, List.length_take, HL.out]; omega
      have HA := Lib.hid ha
      clear ha hnx hadd hzt
      go_wp2_with fail
      (with_reducible refine (HA.out _ HT.out).mono ?_); rintro e w10 ⟨rfl, hT10, hO10⟩
      go_wp2_with fail
      go_roundw
      case rel => exact ⟨i + 1, by go_num, by omega, by rw [hli2]; exact hT10, HT.out.strs HS.out hO10, HO.out.trans' hO10⟩
      case measure => simp [intOf]; omega
    · have hdk : decide ((i : Int) < (n : Int)) = false := decide_eq_false (by omega)
      have e : i = n := by omega
      subst e
      have hfull : l.take i = l := List.take_of_length_le (by rw [HL.out]; omega)
      have hT := HT.out
      rw [hfull, HL.out] at hT
      have r1 := fun W (h : TR W g d i (peaks d l)) => cTRootA W g d l (by rw [HL.out]; exact h) hd1 hd2 HZ.out (by rw [HL.out]; omega)
      have ln := fun W (h : TR W g d i (peaks d l)) => cTLen W g d i (peaks d l) h
      have af := fun W (h : TR W g d i (peaks d l)) (x : ByteArray) hx => cTAdd_form W g d i (peaks d l) h x hx
      have ay := fun W (h : TR W g d i (peaks d l)) (x : ByteArray) hx => cTAdd W g d l x (by rw [HL.out]; exact h) hd1 hd2 HZ.out hx (by rw [HL.out]; omega)
      obtain ⟨X, HX⟩ : ∃ x, Hid (root d l = x) := ⟨_, Lib.hid rfl⟩
      obtain ⟨P, HP⟩ : ∃ x, Hid (peaks d l = x) := ⟨_, Lib.hid rfl⟩
      simp only [HX.out, HP.out] at r1 ln af ay
      rw [HP.out] at hT
      have HTT := Lib.hid hT
      have R1 := Lib.hid r1
      have LN := Lib.hid ln
      have AF := Lib.hid af
      have AY := Lib.hid ay
      have hxx : (X.toList == X.toList) = true := beq_self_eq_true _
      have hBw : Below w.heap.size w wr := HB2.out.trans (HO.out.below HB2.out.size (fun k hk => by omega))
      have hii : ((i : Int) == (i : Int)) = true := by simp
      clear r1 ln af ay hT hfull hli HT
      go_wp2_with fail
      (with_reducible refine (R1.out _ HTT.out).mono ?_); rintro e w5 ⟨rfl, hb5⟩
      have HT5 := Lib.hid (HTT.out.fresh hb5)
      have hB5 := hBw.trans (hb5.mono hBw.size)
      clear hb5 hBw HTT
      by_cases h100 : s.size ≤ 100
      · have hsI : (s.size : Int) ≤ 100 := by omega
        have hsD : decide ((100 : Int) < (s.size : Int)) = false := decide_eq_false (by omega)
        go_wp2_with fail
        (with_reducible refine (cTAdd_nil _ _).mono ?_); rintro e w6 ⟨rfl, rfl⟩
        go_wp2_with fail
        (with_reducible refine (cTLen_nil _).mono ?_); rintro e w6 ⟨rfl, rfl⟩
        go_wp2_with fail
        (with_reducible refine (cTPeaks_nil _).mono ?_); rintro e w6 ⟨rfl, rfl⟩
        go_wp2_with fail
        (with_reducible refine (cTRoot_nil _).mono ?_); rintro e w6 ⟨rfl, rfl⟩
        go_wp2_with fail
        (with_reducible refine (H2.out _).mono ?_); rintro e w6 ⟨rfl, rfl⟩
        by_cases hzd : s.size = d
        · have hzI : ((s.size : Int) == (d : Int)) = true := by simp; omega
          go_wp2_with fail
          (with_reducible refine (AY.out _ HT5.out s hzd).mono ?_); rintro e w7 ⟨rfl, hT7, hO7⟩
          have hB7 := hB5.trans (hO7.below hB5.size (fun k hk => by omega))
          clear hO7 hT7
          go_wp2_with fail
          (with_reducible refine (cAwake16 _).mono ?_); rintro e w8 ⟨rfl, hb8⟩
          go_wp2_with fail
          go_ret
          exact ⟨rfl, hB7.trans (hb8.mono hB7.size)⟩
        · have hzI : ((s.size : Int) == (d : Int)) = false := by simp; omega
          go_wp2_with fail
          (with_reducible refine (AF.out _ HT5.out s hzd).mono ?_); rintro e w7 ⟨rfl, rfl⟩
          go_wp2_with fail
          (with_reducible refine (R1.out _ HT5.out).mono ?_); rintro e w8 ⟨rfl, hb8⟩
          have HT8 := Lib.hid (HT5.out.fresh hb8)
          have hB8 := hB5.trans (hb8.mono hB5.size)
          clear hb8
          go_wp2_with fail
          (with_reducible refine (LN.out _ HT8.out).mono ?_); rintro e w9 ⟨rfl, rfl⟩
          go_wp2_with fail
          (with_reducible refine (cAwake16 _).mono ?_); rintro e w9 ⟨rfl, hb9⟩
          go_wp2_with fail
          go_ret
          exact ⟨rfl, hB8.trans (hb9.mono hB8.size)⟩
      · have hsI : (100 : Int) < (s.size : Int) := by omega
        have hsD : decide ((100 : Int) < (s.size : Int)) = true := decide_eq_true hsI
        have hsK : (s.size : Int) ≤ 140737488355328 := by omega
        obtain ⟨t, ht⟩ : ∃ t, s.extract 0 100 = t := ⟨_, rfl⟩
        go_wp2_with fail
        (with_reducible refine (cTAdd_nil _ _).mono ?_); rintro e w6 ⟨rfl, rfl⟩
        go_wp2_with fail
        (with_reducible refine (cTLen_nil _).mono ?_); rintro e w6 ⟨rfl, rfl⟩
        go_wp2_with fail
        (with_reducible refine (cTPeaks_nil _).mono ?_); rintro e w6 ⟨rfl, rfl⟩
        go_wp2_with fail
        (with_reducible refine (cTRoot_nil _).mono ?_); rintro e w6 ⟨rfl, rfl⟩
        go_wp2_with fail
        (with_reducible refine (H2.out _).mono ?_); rintro e w6 ⟨rfl, rfl⟩
        by_cases hzd : t.size = d
        · have hzI : ((t.size : Int) == (d : Int)) = true := by simp; omega
          go_wp2_with fail
          (with_reducible refine (AY.out _ HT5.out t hzd).mono ?_); rintro e w7 ⟨rfl, hT7, hO7⟩
          have hB7 := hB5.trans (hO7.below hB5.size (fun k hk => by omega))
          clear hO7 hT7
          go_wp2_with fail
          (with_reducible refine (cAwake16 _).mono ?_); rintro e w8 ⟨rfl, hb8⟩
          go_wp2_with fail
          go_ret
          exact ⟨rfl, hB7.trans (hb8.mono hB7.size)⟩
        · have hzI : ((t.size : Int) == (d : Int)) = false := by simp; omega
          go_wp2_with fail
          (with_reducible refine (AF.out _ HT5.out t hzd).mono ?_); rintro e w7 ⟨rfl, rfl⟩
          go_wp2_with fail
          (with_reducible refine (R1.out _ HT5.out).mono ?_); rintro e w8 ⟨rfl, hb8⟩
          have HT8 := Lib.hid (HT5.out.fresh hb8)
          have hB8 := hB5.trans (hb8.mono hB5.size)
          clear hb8
          go_wp2_with fail
          (with_reducible refine (LN.out _ HT8.out).mono ?_); rintro e w9 ⟨rfl, rfl⟩
          go_wp2_with fail
          (with_reducible refine (cAwake16 _).mono ?_); rintro e w9 ⟨rfl, hb9⟩
          go_wp2_with fail
          go_ret
          exact ⟨rfl, hB8.trans (hb9.mono hB8.size)⟩
end Go.Proofs.Ytgkjpemgfbkejaa
