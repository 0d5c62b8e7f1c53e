/- The reference's Peaks. -/
import Derived.Test.YtgkjpemgfbkejaaGrow5
namespace Go.Proofs.Ytgkjpemgfbkejaa
open Go.RowKit
set_option linter.unusedVariables false
set_option linter.unusedSimpArgs false

set_option maxRecDepth 100000 in
set_option maxHeartbeats 4000000 in
theorem crPeaks (w : Int) (A : Option Addr) (n c : Nat) (l : List ByteArray) (W : World) (hn : l.length = n) (hs : Strs W A l) (hnc : n ≤ c) (hn6 : n ≤ 1000000) (hz : ∀ s ∈ l, s.size ≤ 300000000) :
    Calls Try.prog 26 #[.int .i64 w, .slice A n c] W fun e W' => ∃ A' c', e = .returned (.slice A' (peaks (wd w) l).length c') ∧ (peaks (wd w) l).length ≤ c' ∧ Strs W' A' (peaks (wd w) l) ∧ Below W.heap.size W W' := by
  have hpc := fun (r : List ByteArray) h => peaks_cons (wd w) r h
  have hpn := peaks_nil (wd w)
  obtain ⟨P, HP⟩ : ∃ X, Hid (peaks (wd w) l = X) := ⟨_, Lib.hid rfl⟩
  have HPC := Lib.hid hpc
  have HPN := Lib.hid hpn
  have HS := Lib.hid hs
  have HZ := Lib.hid hz
  have HN := Lib.hid hn
  rw [HP.out]
  have hB0 := Below.refl W.heap.size W
  clear hpc hpn hs hz hn
  go_enter Try.func26, Try.ntmps26
  go_wp2_with fail
  go_loopw [1, 5] (fun v1 v5 wr => ∃ (r : List ByteArray) (A1 : Option Addr) (n1 c1 k c5 : Nat) (A5 : Option Addr) (dn : List ByteArray), v1 = .slice A1 n1 c1 ∧ v5 = .slice A5 k c5 ∧ r.length = n1 ∧ n1 ≤ c1 ∧ Strs W A1 r ∧ (∀ s ∈ r, s.size ≤ 300000000) ∧
    dn.length = k ∧ k ≤ c5 ∧ k + n1 ≤ n ∧ dn ++ peaks (wd w) r = P ∧ SL wr W.heap.size 9 (.slice A5 k c5) (dn.map Value.string) ∧ Below W.heap.size W wr) (fun v1 _ _ => match v1 with | .slice _ n _ => n | _ => 0)
  case atStart => exact ⟨l, A, n, c, 0, 0, none, [], rfl, rfl, HN.out, hnc, HS.out, HZ.out, rfl, Nat.le_refl _, by omega, by rw [List.nil_append]; exact HP.out, SL.nil _ _ _, hB0⟩
  case round =>
    clear hB0
    obtain ⟨r, A1, n1, c1, k, c5, A5, dn, rfl, rfl, hr, hrc, hrs, hrz, hdn, hkc, hkn, hcat, hSL, hB⟩ := hrel
    have HR := Lib.hid hr
    have HRS := Lib.hid hrs
    have HRZ := Lib.hid hrz
    have HCAT := Lib.hid hcat
    have HSL := Lib.hid hSL
    have HB := Lib.hid hB
    have hbs := hB.size
    clear hr hrs hrz hcat hSL hB
    rcases Nat.eq_zero_or_pos n1 with h0 | h0
    · subst h0
      have hP := HCAT.out
      rw [HPN.out r HR.out, List.append_nil] at hP
      subst hP
      go_wp2_with fail
      go_ret
      rw [hdn]
      exact ⟨A5, c5, rfl, hkc, Strs.of_sl HSL.out, HB.out⟩
    · obtain ⟨g1, o1, rfl, hg1, hcell⟩ := HRS.out (by rw [HR.out]; exact h0)
      clear hcell
      have h0I : (0 : Int) < (n1 : Int) := by omega
      have hn1I : (n1 : Int) ≤ 1000000 := by omega
      obtain ⟨w2, hw2⟩ : ∃ x, wr = x := ⟨_, rfl⟩
      subst hw2
      go_wp2_with fail
      go_loop [6] (fun u => ∃ j : Nat, u = .int .i64 ((2 ^ j : Nat) : Int) ∧ 2 ^ j ≤ n1) (fun u => n1 + 1 - (intOf u).toNat)
      case atStart => exact ⟨0, rfl, h0⟩
      case round =>
        obtain ⟨j, rfl, hj⟩ := hrel
        have hp := Nat.one_le_two_pow (n := j)
        have hs : 2 ^ (j + 1) = 2 ^ j * 2 := Nat.pow_succ 2 j
        have hpc := topn_eq n1 j hj
        obtain ⟨q, HQ⟩ : ∃ q, Hid (2 ^ j = q) := ⟨_, Lib.hid rfl⟩
        rw [HQ.out] at hp hs hj hpc
        rw [HQ.out]
        have HS2 := Lib.hid hs
        have HPC2 := Lib.hid hpc
        clear hs hpc
        have hqI : (q : Int) ≤ 1000000 := by omega
        by_cases hlt : (q : Int) * 2 ≤ (n1 : Int)
        · go_wp2_with fail
          go_round
          case rel => exact ⟨j + 1, by rw [HS2.out]; go_num, by rw [HS2.out]; omega⟩
          case measure => simp [intOf]; omega
        · have hltD : decide ((q : Int) * 2 ≤ (n1 : Int)) = false := decide_eq_false hlt
          have ht := HPC2.out (by omega)
          have hcons := HPC.out r (by rw [HR.out]; omega)
          rw [HR.out, ht] at hcons
          have hcat := HCAT.out
          rw [hcons] at hcat
          have htl : (r.take q).length = q := by rw [List.length_take, HR.out]; omega
          have hdl : (r.drop q).length = n1 - q := by rw [List.length_drop, HR.out]
          have hr1 := fun W h => crRoot w q (some ⟨g1, o1, none⟩) c1 (r.take q) W htl h (by omega) (by omega) (mem_take_le HRZ.out)
          have hst := HRS.out.take q
          have hsd : Strs W (some ⟨g1, o1 + q, none⟩) (r.drop q) := by
            rcases Nat.lt_or_ge q n1 with h | h
            · exact HRS.out.from_ q (by rw [HR.out]; omega) (c := c1) (by rw [HR.out]; omega)
            · exact fun hl => absurd hl (by rw [hdl]; omega)
          have HSD := Lib.hid hsd
          clear hsd
          obtain ⟨R, HRR⟩ : ∃ x, Hid (root (wd w) (r.take q) = x) := ⟨_, Lib.hid rfl⟩
          rw [HRR.out] at hcat
          simp only [HRR.out] at hr1
          have HCAT2 := Lib.hid hcat
          have R1 := Lib.hid hr1
          have HST := Lib.hid hst
          have hqn : (q : Int) ≤ (n1 : Int) := by omega
          have hqc : (q : Int) ≤ (c1 : Int) := by omega
          have hnc2 : (n1 : Int) ≤ (c1 : Int) := by omega
          clear hcat hr1 hst hcons ht
          by_cases hck : c1 = q
          · have e1 : n1 = q := by omega
            subst hck
            subst e1
            have hrd : r.drop n1 = [] := List.drop_of_length_le (by rw [HR.out]; omega)
            go_wp2_with fail
            (with_reducible refine (R1.out _ (HST.out.fresh HB.out)).mono ?_); rintro e w5 ⟨rfl, hb5⟩
            have HSL5 := Lib.hid (HSL.out.below hb5 (Nat.le_refl _))
            have HB5 := Lib.hid (HB.out.trans (hb5.mono hbs))
            have hbs5 := HB5.out.size
            clear hb5
            go_wp2_with (refine wpList_app1 Value.string (fun _ => rfl) str_elem rfl (.tmp 17) (.tmp 23) rfl W.heap.size A5 k c5 dn R _ hdn rfl HSL5.out rfl _ rfl rfl (by omega) (by decide) hbs5 ?_; intro A6 c6 w6 hS6 hc6 hb6; dsimp only [Act.put])
            have hcc : (dn ++ [R]) ++ peaks (wd w) (r.drop n1) = P := by rw [List.append_assoc]; exact HCAT2.out
            go_roundw
            case rel => exact ⟨[], _, _, _, k + 1, c6, A6, dn ++ [R], rfl, rfl, rfl, Nat.le_refl _, Strs.nil _ _, (by simp), by rw [List.length_append, hdn]; rfl, hc6, by omega, by rw [← hcc, hrd], hS6, HB5.out.trans hb6⟩
            case measure => show 0 < n1; omega
          · go_wp2_with fail
            (with_reducible refine (R1.out _ (HST.out.fresh HB.out)).mono ?_); rintro e w5 ⟨rfl, hb5⟩
            have HSL5 := Lib.hid (HSL.out.below hb5 (Nat.le_refl _))
            have HB5 := Lib.hid (HB.out.trans (hb5.mono hbs))
            have hbs5 := HB5.out.size
            clear hb5
            go_wp2_with (refine wpList_app1 Value.string (fun _ => rfl) str_elem rfl (.tmp 17) (.tmp 23) rfl W.heap.size A5 k c5 dn R _ hdn rfl HSL5.out rfl _ rfl rfl (by omega) (by decide) hbs5 ?_; intro A6 c6 w6 hS6 hc6 hb6; dsimp only [Act.put])
            have hcc : (dn ++ [R]) ++ peaks (wd w) (r.drop q) = P := by rw [List.append_assoc]; exact HCAT2.out
            go_roundw
            case rel => exact ⟨r.drop q, _, _, _, k + 1, c6, A6, dn ++ [R], rfl, rfl, hdl, by omega, HSD.out, mem_drop_le HRZ.out, by rw [List.length_append, hdn]; rfl, hc6, by omega, hcc, hS6, HB5.out.trans hb6⟩
            case measure => show n1 - q < n1; omega
end Go.Proofs.Ytgkjpemgfbkejaa
