/- The law GrowFroms, walked. -/
import Derived.Test.YtgkjpemgfbkejaaGrowRoots
namespace Go.Proofs.Ytgkjpemgfbkejaa
open Go.RowKit
set_option linter.unusedVariables false
set_option linter.unusedSimpArgs false

set_option maxRecDepth 100000 in
set_option maxHeartbeats 4000000 in
theorem growFroms_walk {w : World} (k : Int) (hk : (Lit.int .i64 k).wf = true) (n : Int) (hn : (Lit.int .i64 n).wf = true) (v : Value) (ss : List ByteArray) (hv : StrsIn w v ss) :
    Calls Try.prog 11 #[.int .i64 k, .int .i64 n, v] w fun e w' => e = .returned (.bool true) ∧ Below w.heap.size w w' := by
  have h0 := cFewV hv
  have hn2 := wf_i64 hn
  have H0 := Lib.hid h0
  clear h0 hv hk hn
  go_enter Try.func11, Try.ntmps11
  go_wp2_with fail
  (with_reducible refine H0.out.mono ?_); rintro e w1 ⟨A, m, c, l, rfl, hl, hs, hmc, hm, hz, rfl⟩
  have HL := Lib.hid hl
  have HZ := Lib.hid hz
  have HS := Lib.hid hs
  have hm70 : (m : Int) ≤ 70 := by omega
  clear hl hz hs H0
  by_cases hneg : n < 0
  · have hnD : decide (n < 0) = true := decide_eq_true hneg
    go_wp2_with fail
    (with_reducible refine (cFrom_neg k n A m c _ hneg).mono ?_); rintro e w2 ⟨rfl, rfl⟩
    go_wp2_with fail
    (with_reducible refine (cAwake16 _).mono ?_); rintro e w8 ⟨rfl, hb8⟩
    go_wp2_with fail
    go_ret
    exact ⟨rfl, hb8⟩
  · obtain ⟨q, rfl⟩ : ∃ q : Nat, n = (q : Int) := ⟨n.toNat, by omega⟩
    have hq : q < 9223372036854775808 := by omega
    have hnD : decide ((q : Int) < 0) = false := decide_eq_false hneg
    have h1 := fun W => crOnes q W hq
    have hle := ones_le 63 q (by omega)
    by_cases ho : ones q = m
    · have h2 := cFrom k q A m c l w hq HL.out ho HS.out hmc
      have h3 := fun W => crWidth k W
      simp only [ho] at h1
      obtain ⟨d, HD⟩ : ∃ x, Hid (wd k = x) := ⟨_, Lib.hid rfl⟩
      simp only [HD.out] at h2 h3
      have hmm : ((m : Int) != (m : Int)) = false := by simp
      have H1 := Lib.hid h1
      have H2 := Lib.hid h2
      have H3 := Lib.hid h3
      clear h1 h2 h3 hle ho
      by_cases hall : ∀ s ∈ l, s.size = d
      · have HALL := Lib.hid hall
        clear hall
        go_wp2_with fail
        (with_reducible refine H2.out.mono ?_); rintro e w2 ⟨hy, _, hb2⟩
        obtain ⟨g, rfl, hg, hT⟩ := hy HALL.out
        have HT := Lib.hid hT
        have HB := Lib.hid hb2
        clear hy hT hb2
        go_wp2_with fail
        (with_reducible refine (H1.out _).mono ?_); rintro e w3 ⟨rfl, rfl⟩
        go_wp2_with fail
        have hb0 := Below.refl w2.heap.size w2
        go_loopw [9] (fun u wr => ∃ i : Nat, u = .int .i64 i ∧ i ≤ m ∧ Below w2.heap.size w2 wr) (fun u _ => m - (intOf u).toNat)
        case atStart => exact ⟨0, rfl, by omega, hb0⟩
        case round =>
          clear hb0
          obtain ⟨i, rfl, hi, hb⟩ := hrel
          have HBR := Lib.hid hb
          clear hb
          by_cases hlt : i < m
          · have hdk : decide ((i : Int) < (m : Int)) = true := decide_eq_true (by omega)
            obtain ⟨g1, o1, rfl, c1⟩ := (HS.out.fresh (HB.out.trans (HBR.out.mono HB.out.size))).cell_ i (by rw [HL.out]; exact hlt)
            have hg1 : g1 < wr.heap.size := by
              obtain ⟨g', o', e1, e2, _⟩ := (HS.out.fresh (HB.out.trans (HBR.out.mono HB.out.size))) (by rw [HL.out]; omega)
              injection e1 with e1; injection e1 with e1 _ _; omega
            have hsz := HALL.out _ (getD_mem (by rw [HL.out]; exact hlt : i < l.length))
            obtain ⟨s, HSS⟩ : ∃ s, Hid (l.getD i ByteArray.empty = s) := ⟨_, Lib.hid rfl⟩
            rw [HSS.out] at c1 hsz
            have hzI : ((s.size : Int) != (d : Int)) = false := by simp; omega
            have c1 : wr.drew.cell? ⟨g1, o1 + i, none⟩ = some (.string s) := c1
            have hg1 : g1 < wr.drew.heap.size := hg1
            go_wp2_with fail
            have hS0 := Below.refl wr.drew.heap.size wr.drew
            refine wp_region_lexS (fun w' => Below wr.drew.heap.size wr.drew w') 0 [] (by kernel_rfl) (by kernel_rfl) hS0 ?_
            repeat (first
              | (refine wpX_load0 rfl rfl _ _ rfl _ rfl _ rfl Try.underlying9 _ (fun w' h => (h.cell hg1).trans c1) hS0 ?_; simp only [Act.put, List.setIfInBounds_toArray, List.set_cons_zero, List.set_cons_succ, List.getElem_toArray, List.getElem_cons_zero, List.getElem_cons_succ])
              | (refine wpX_pure rfl rfl rfl ?_; intro K hK; go_big_quiet_op; refine hK _ ?_; clear hK K))
            refine wpX_eff rfl rfl ?_; intro K hK; go_wp2_with fail
            (with_reducible refine (H3.out _).mono ?_); rintro e w5 ⟨rfl, rfl⟩
            go_wp2_with fail
            refine hK _ _ hS0 ?_; clear hK K
            repeat (refine wpX_pure rfl rfl rfl ?_; intro K hK; go_big_quiet_op; refine hK _ ?_; clear hK K)
            refine wpX_nil ?_
            go_wp2_with fail
            go_roundw
            case rel => exact ⟨i + 1, by go_num, by omega, HBR.out.drew⟩
            case measure => simp [intOf]; omega
          · have hdk : decide ((i : Int) < (m : Int)) = false := decide_eq_false (by omega)
            have hT5 := Lib.hid (HT.out.fresh HBR.out)
            have hBw := HB.out.trans (HBR.out.mono HB.out.size)
            have p1 := fun W h => cTPeaks W g d q l h (by rw [HL.out]; omega)
            rw [HL.out] at p1
            have P1 := Lib.hid p1
            have hSw := HS.out.fresh hBw
            have HSW := Lib.hid hSw
            have hqq : ((q : Int) == (q : Int)) = true := by simp
            clear p1 hSw
            go_wp2_with fail
            (with_reducible refine (cTLen _ _ _ _ _ hT5.out).mono ?_); rintro e w6 ⟨rfl, rfl⟩
            go_wp2_with fail
            (with_reducible refine (P1.out _ hT5.out).mono ?_); rintro e w7 ⟨A7, c7, rfl, hc7, hs7, hb7⟩
            have s1 := cSame A7 A m m c7 c l l w7 HL.out HL.out hs7 (HSW.out.fresh hb7) (by omega) (by omega)
            rw [decide_eq_true rfl] at s1
            have S1 := Lib.hid s1
            have hB7 := hBw.trans (hb7.mono hBw.size)
            clear s1 hs7 hb7 hBw
            go_wp2_with fail
            (with_reducible refine S1.out.mono ?_); rintro e w8 ⟨rfl, hb8⟩
            have hB8 := hB7.trans (hb8.mono hB7.size)
            clear hb8 hB7
            go_wp2_with fail
            (with_reducible refine (cAwake16 _).mono ?_); rintro e w9 ⟨rfl, hb9⟩
            go_wp2_with fail
            go_ret
            exact ⟨rfl, hB8.trans (hb9.mono hB8.size)⟩
      · have HALL := Lib.hid hall
        clear hall
        go_wp2_with fail
        (with_reducible refine H2.out.mono ?_); rintro e w2 ⟨_, hn, hb2⟩
        obtain rfl := hn HALL.out
        have HB := Lib.hid hb2
        clear hn hb2
        go_wp2_with fail
        (with_reducible refine (H1.out _).mono ?_); rintro e w3 ⟨rfl, rfl⟩
        go_wp2_with fail
        have hb0 := Below.refl w2.heap.size w2
        go_loopw [9] (fun u wr => ∃ i : Nat, u = .int .i64 i ∧ i ≤ m ∧ (∀ j, j < i → (l.getD j ByteArray.empty).size = d) ∧ Below w2.heap.size w2 wr) (fun u _ => m - (intOf u).toNat)
        case atStart => exact ⟨0, rfl, by omega, fun j hj => absurd hj (by omega), hb0⟩
        case round =>
          clear hb0
          obtain ⟨i, rfl, hi, hsm, hb⟩ := hrel
          have HBR := Lib.hid hb
          have HSM := Lib.hid hsm
          clear hb hsm
          by_cases hlt : i < m
          · have hdk : decide ((i : Int) < (m : Int)) = true := decide_eq_true (by omega)
            obtain ⟨g1, o1, rfl, c1⟩ := (HS.out.fresh (HB.out.trans (HBR.out.mono HB.out.size))).cell_ i (by rw [HL.out]; exact hlt)
            have hg1 : g1 < wr.heap.size := by
              obtain ⟨g', o', e1, e2, _⟩ := (HS.out.fresh (HB.out.trans (HBR.out.mono HB.out.size))) (by rw [HL.out]; omega)
              injection e1 with e1; injection e1 with e1 _ _; omega
            have hnext : (l.getD i ByteArray.empty).size = d → ∀ j, j < i + 1 → (l.getD j ByteArray.empty).size = d := fun h j hj => by
              rcases Nat.lt_or_ge j i with h5 | h5
              · exact HSM.out j h5
              · have : j = i := by omega
                subst this; exact h
            obtain ⟨s, HSS⟩ : ∃ s, Hid (l.getD i ByteArray.empty = s) := ⟨_, Lib.hid rfl⟩
            rw [HSS.out] at c1 hnext
            have HNX := Lib.hid hnext
            clear hnext
            have c1 : wr.drew.cell? ⟨g1, o1 + i, none⟩ = some (.string s) := c1
            have hg1 : g1 < wr.drew.heap.size := hg1
            by_cases hsz : s.size = d
            · have hzI : ((s.size : Int) != (d : Int)) = false := by simp; omega
              go_wp2_with fail
              have hS0 := Below.refl wr.drew.heap.size wr.drew
              refine wp_region_lexS (fun w' => Below wr.drew.heap.size wr.drew w') 0 [] (by kernel_rfl) (by kernel_rfl) hS0 ?_
              repeat (first
                | (refine wpX_load0 rfl rfl _ _ rfl _ rfl _ rfl Try.underlying9 _ (fun w' h => (h.cell hg1).trans c1) hS0 ?_; simp only [Act.put, List.setIfInBounds_toArray, List.set_cons_zero, List.set_cons_succ, List.getElem_toArray, List.getElem_cons_zero, List.getElem_cons_succ])
                | (refine wpX_pure rfl rfl rfl ?_; intro K hK; go_big_quiet_op; refine hK _ ?_; clear hK K))
              refine wpX_eff rfl rfl ?_; intro K hK; go_wp2_with fail
              (with_reducible refine (H3.out _).mono ?_); rintro e w5 ⟨rfl, rfl⟩
              go_wp2_with fail
              refine hK _ _ hS0 ?_; clear hK K
              repeat (refine wpX_pure rfl rfl rfl ?_; intro K hK; go_big_quiet_op; refine hK _ ?_; clear hK K)
              refine wpX_nil ?_
              go_wp2_with fail
              go_roundw
              case rel => exact ⟨i + 1, by go_num, by omega, HNX.out hsz, HBR.out.drew⟩
              case measure => simp [intOf]; omega
            · have hzI : ((s.size : Int) != (d : Int)) = true := by simp; omega
              have hBw := (HB.out.trans (HBR.out.mono HB.out.size)).drew
              go_wp2_with fail
              have hS0 := Below.refl wr.drew.heap.size wr.drew
              refine wp_region_lexS (fun w' => Below wr.drew.heap.size wr.drew w') 0 [] (by kernel_rfl) (by kernel_rfl) hS0 ?_
              repeat (first
                | (refine wpX_load0 rfl rfl _ _ rfl _ rfl _ rfl Try.underlying9 _ (fun w' h => (h.cell hg1).trans c1) hS0 ?_; simp only [Act.put, List.setIfInBounds_toArray, List.set_cons_zero, List.set_cons_succ, List.getElem_toArray, List.getElem_cons_zero, List.getElem_cons_succ])
                | (refine wpX_pure rfl rfl rfl ?_; intro K hK; go_big_quiet_op; refine hK _ ?_; clear hK K))
              refine wpX_eff rfl rfl ?_; intro K hK; go_wp2_with fail
              (with_reducible refine (H3.out _).mono ?_); rintro e w5 ⟨rfl, rfl⟩
              go_wp2_with fail
              refine hK _ _ hS0 ?_; clear hK K
              repeat (refine wpX_pure rfl rfl rfl ?_; intro K hK; go_big_quiet_op; refine hK _ ?_; clear hK K)
              refine wpX_nil ?_
              go_wp2_with fail
              (with_reducible refine (cAwake16 _).mono ?_); rintro e w9 ⟨rfl, hb9⟩
              go_wp2_with fail
              go_ret
              exact ⟨rfl, hBw.trans (hb9.mono hBw.size)⟩
          · exfalso
            have e : i = m := by omega
            subst e
            refine HALL.out fun s hs => ?_
            obtain ⟨j, hj, rfl⟩ := List.getElem_of_mem hs
            have := HSM.out j (by rw [HL.out] at hj; exact hj)
            rw [List.getD_eq_getElem?_getD, List.getElem?_eq_getElem hj] at this
            exact this
    · obtain ⟨r, HR⟩ : ∃ x, Hid (ones q = x) := ⟨_, Lib.hid rfl⟩
      simp only [HR.out] at h1 hle
      have h2 := cFrom_arg k q A m c w hq ho
      rw [HR.out] at ho
      have hmm : ((r : Int) != (m : Int)) = true := by simp; omega
      have H1 := Lib.hid h1
      have H2 := Lib.hid h2
      clear h1 h2
      go_wp2_with fail
      (with_reducible refine H2.out.mono ?_); rintro e w2 ⟨rfl, rfl⟩
      go_wp2_with fail
      (with_reducible refine (H1.out _).mono ?_); rintro e w3 ⟨rfl, rfl⟩
      go_wp2_with fail
      (with_reducible refine (cAwake16 _).mono ?_); rintro e w8 ⟨rfl, hb8⟩
      go_wp2_with fail
      go_ret
      exact ⟨rfl, hb8⟩
end Go.Proofs.Ytgkjpemgfbkejaa
