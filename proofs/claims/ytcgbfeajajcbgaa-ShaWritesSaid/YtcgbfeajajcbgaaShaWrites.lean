/- The law ShaWrites, walked. -/
import Derived.Test.YtcgbfeajajcbgaaShaLaws
namespace Go.Proofs.Ytcgbfeajajcbgaa
open Go.RowKit

set_option maxRecDepth 100000 in
set_option maxHeartbeats 1000000 in
theorem shaWrites_walk (v : Value) (ss : List ByteArray) (w : World) (hv : StrsIn w v ss) : Calls Try.prog 5 #[v] w fun e w' => e = .returned (.bool true) ∧ Below w.heap.size w w' := by
  obtain ⟨⟨A, c, rfl, hc, hs⟩, hl, hsm⟩ := hv
  have hf := cfew A ss.length c ss w rfl hs hl hc hsm
  have HF := Lib.hid hf
  clear hf
  go_enter Try.func5, Try.ntmps5
  go_wp2_with fail
  (with_reducible refine HF.out.mono ?_); rintro e w1 ⟨m, hm1, hm2, rfl, hj, rfl⟩
  have hs2 := hs.take m
  have hlm : (ss.take m).length = m := by rw [List.length_take]; omega
  obtain ⟨tt, HTT⟩ : ∃ x, Hid (ss.take m = x) := ⟨_, Lib.hid rfl⟩
  rw [HTT.out] at hs2 hlm hj
  have HS2 := Lib.hid hs2
  have HLM := Lib.hid hlm
  clear hs hs2 hlm HF
  go_wp2_with fail
  (with_reducible refine (cNew _).mono ?_); rintro e w1 ⟨rfl, hh, hb⟩
  go_wp2_with fail
  go_loopw [4, 5] (fun u i wr => ∃ (k : Nat) (v : Value) (t : ByteArray), k ≤ m ∧ k ≤ 8 ∧ i = .int .i64 k ∧ u = .string t ∧ t = str (joinL (tt.take k)) ∧ HSv wr w.heap.size w.heap.size v (joinL (tt.take k)) ∧ Below w.heap.size w wr)
    (fun _ i _ => 8 - (intOf i).toNat)
  case atStart => exact ⟨0, _, ⟨#[]⟩, by omega, by omega, rfl, rfl, by rw [List.take_zero, joinL_nil]; rfl, by rw [List.take_zero, joinL_nil]; exact hh, hb⟩
  case round =>
    clear hh hb
    obtain ⟨k, v, t, hk, hk8, rfl, rfl, ht, hh, hb⟩ := hrel
    have hbs := hb.size
    by_cases hlk : k < m ∧ k < 8
    · obtain ⟨hlk, hl8⟩ := hlk
      have hdk : decide ((k : Int) < (m : Int)) = true := decide_eq_true (by omega)
      have hd8 : decide ((k : Int) < 8) = true := decide_eq_true (by omega)
      obtain ⟨g, o, ha, hg, hcl⟩ := (HS2.out.fresh hb) (by rw [HLM.out]; omega)
      subst ha
      have hck := hcl k (by rw [HLM.out]; exact hlk)
      have hck2 : ∀ W, Below w.heap.size w W → W.cell? ⟨g, o + k, none⟩ = some (.string (tt.getD k ByteArray.empty)) := fun W hW => by
        obtain ⟨g2, o2, ha2, hg2, hcl2⟩ := (HS2.out.fresh hW) (by rw [HLM.out]; omega)
        injection ha2 with ha2
        injection ha2 with e1 e2
        subst e1 e2
        exact hcl2 k (by rw [HLM.out]; exact hlk)
      have hjl := joinL_get_le tt k (by rw [HLM.out]; exact hlk)
      have hjt := joinL_take tt k (by rw [HLM.out]; exact hlk)
      have hjt2 := joinL_take_le tt (k + 1)
      obtain ⟨s, HS⟩ : ∃ s, Hid (tt.getD k ByteArray.empty = s) := ⟨_, Lib.hid rfl⟩
      simp only [HS.out] at hck hjl hjt hck2
      have hts : t.size ≤ 20000 := by rw [ht, str_size]; have := joinL_take_le tt k; omega
      have hss : s.size ≤ 20000 := by omega
      have htn : t ++ s = str (joinL (tt.take (k + 1))) := by rw [ht, str_app, hjt]
      obtain ⟨J, HJ⟩ : ∃ J, Hid (joinL (tt.take (k + 1)) = J) := ⟨_, Lib.hid rfl⟩
      rw [HJ.out] at hjt hjt2 htn
      have hJ : J.length ≤ 20000 := by omega
      have h1 := fun W v (h : HSv W w.heap.size w.heap.size v J) => cHSum _ _ _ _ W h (by omega)
      have h2 := fun W => crSum (str J) W (by rw [str_size]; omega)
      have h3 := fun W => cSum1 (str J) W (by rw [str_size]; omega)
      rw [bytes_str] at h2 h3
      obtain ⟨X, HX⟩ : ∃ X, Hid (str (sha J) = X) := ⟨_, Lib.hid rfl⟩
      obtain ⟨Y, HY⟩ : ∃ X, Hid (str J = X) := ⟨_, Lib.hid rfl⟩
      simp only [HX.out, HY.out] at h1 h2 h3
      rw [HY.out] at htn
      have HTN := Lib.hid htn
      have HJT := Lib.hid hjt
      have H1 := Lib.hid h1
      have H2 := Lib.hid h2
      have H3 := Lib.hid h3
      have HC2 := Lib.hid hck2
      have HH := Lib.hid hh
      have HBB := Lib.hid hb
      have HT := Lib.hid ht
      have hji : (joinL (tt.take k)).length + s.size ≤ 1000000000 := by omega
      clear hcl hjt hjt2 hjl hh hb h1 h2 h3 hck2 ht htn
      go_wp2_with fail
      (with_reducible refine (cWrite _ _ _ _ _ _ HH.out hbs hji).mono ?_); rintro e' w2 ⟨rfl, v2, hv2, hf2, ho2⟩
      have hb2 := HBB.out.trans (ho2.below (B := w.heap.size) hbs (fun j hj => by
          rcases hj with rfl | hj
          · exact Nat.le_refl _
          · exact (HH.out.own j hj).2))
      rw [← HJT.out] at hv2
      have hc2 := HC2.out w2 hb2
      have HV2 := Lib.hid hv2
      have HB2 := Lib.hid hb2
      clear hv2 hf2 ho2 hb2
      go_wp2_with fail
      rw [HTN.out]
      (with_reducible refine (H1.out _ _ HV2.out).mono ?_); rintro e' w3 ⟨rfl, hb3⟩
      go_wp2_with fail
      (with_reducible refine (H2.out _).mono ?_); rintro e' w4 ⟨rfl, hb4⟩
      have hv4 := (HV2.out.fresh hb3).fresh hb4
      have hB4 := (HB2.out.trans (hb3.mono HB2.out.size)).trans (hb4.mono (HB2.out.trans (hb3.mono HB2.out.size)).size)
      have HV4 := Lib.hid hv4
      have HB4 := Lib.hid hB4
      clear hb3 hb4 hv4 hB4
      go_wp2_with fail
      (with_reducible refine (H1.out _ _ HV4.out).mono ?_); rintro e' w5 ⟨rfl, hb5⟩
      go_wp2_with fail
      (with_reducible refine (H3.out _).mono ?_); rintro e' w6 ⟨rfl, hb6⟩
      have hv6 := (HV4.out.fresh hb5).fresh hb6
      have hB6 := (HB4.out.trans (hb5.mono HB4.out.size)).trans (hb6.mono (HB4.out.trans (hb5.mono HB4.out.size)).size)
      have HV6 := Lib.hid hv6
      have HB6 := Lib.hid hB6
      clear hb5 hb6 hv6 hB6
      go_wp2_with fail
      go_roundw
      case rel => exact ⟨k + 1, v2, Y, by omega, by omega, by go_num, rfl, by rw [HJ.out, HY.out], by rw [HJ.out]; exact HV6.out, HB6.out⟩
      case measure => simp [intOf]; omega
    · have HBB := Lib.hid hb
      clear hh hb ht
      by_cases hkm : k < m
      · have hdk : decide ((k : Int) < (m : Int)) = true := decide_eq_true (by omega)
        have hd8 : decide ((k : Int) < 8) = false := decide_eq_false (by omega)
        go_wp2_with fail
        (with_reducible refine (cAwake02 _).mono ?_); rintro e w3 ⟨rfl, hb3⟩
        go_wp2_with fail
        go_ret
        exact ⟨rfl, HBB.out.trans (hb3.mono hbs)⟩
      · have hdk : decide ((k : Int) < (m : Int)) = false := decide_eq_false (by omega)
        go_wp2_with fail
        (with_reducible refine (cAwake02 _).mono ?_); rintro e w3 ⟨rfl, hb3⟩
        go_wp2_with fail
        go_ret
        exact ⟨rfl, HBB.out.trans (hb3.mono hbs)⟩
end Go.Proofs.Ytcgbfeajajcbgaa
