/- mac.Tag. -/
import Derived.Test.YtbofmfocnbennaaMac2
namespace Go.Proofs.Ytbofmfocnbennaa
open Go.RowKit
set_option linter.unusedVariables false
set_option linter.unusedSimpArgs false

theorem cpad54 (s : ByteArray) (w : World) (hs : s.size ≤ 1000000000) : Calls Try.prog 57 #[.string s, .int .u8 54] w fun e w' => e = .returned (.string (str (padK s.data.toList 54))) ∧ Below w.heap.size w w' := cpad s 54 w hs
theorem cpad92 (s : ByteArray) (w : World) (hs : s.size ≤ 1000000000) : Calls Try.prog 57 #[.string s, .int .u8 92] w fun e w' => e = .returned (.string (str (padK s.data.toList 92))) ∧ Below w.heap.size w w' := cpad s 92 w hs

set_option maxRecDepth 100000 in
set_option maxHeartbeats 1000000 in
theorem cTagL (key : ByteArray) (A : Option Addr) (n c : Nat) (ss : List ByteArray) (w : World) (hn : ss.length = n) (hs : Strs w A ss) (hk : key.size ≤ 1000000000) (hl : (joinL ss).length ≤ 900000000) (hn2 : n ≤ 900000000) :
    Calls Try.prog 43 #[.string key, .slice A n c] w fun e w' => e = .returned (.string (str (tagL key.data.toList (joinL ss)))) ∧ Below w.heap.size w w' := by
  have HN := Lib.hid hn
  have hn3 : (n : Int) ≤ 900000000 := by omega
  have h1 := fun W => cpad54 key W hk
  have h2 := fun W => cpad92 key W hk
  have hpl := padK_length key.data.toList 54
  have hql := padK_length key.data.toList 92
  have htag : tagL key.data.toList (joinL ss) = sha (padK key.data.toList 92 ++ sha (padK key.data.toList 54 ++ joinL ss)) := by unfold tagL; rfl
  obtain ⟨p, HP⟩ : ∃ x, Hid (padK key.data.toList 54 = x) := ⟨_, Lib.hid rfl⟩
  obtain ⟨q, HQ⟩ : ∃ x, Hid (padK key.data.toList 92 = x) := ⟨_, Lib.hid rfl⟩
  rw [HP.out] at hpl htag
  rw [HQ.out] at hql htag
  simp only [HP.out] at h1
  simp only [HQ.out] at h2
  have H1 := Lib.hid h1
  have H2 := Lib.hid h2
  have HPL := Lib.hid hpl
  have HQL := Lib.hid hql
  have HTAG := Lib.hid htag
  have HS0 := Lib.hid hs
  clear hn h1 h2 hpl hql htag hs
  go_enter Try.func43, Try.ntmps43
  go_wp2_with fail
  (with_reducible refine (cNew _).mono ?_); rintro e w1 ⟨rfl, hh, hb⟩
  go_wp2_with fail
  (with_reducible refine (H1.out _).mono ?_); rintro e w2 ⟨rfl, hb2⟩
  have hB2 := hb.trans (hb2.mono hb.size)
  have hh2 := hh.fresh hb2
  have hbs := hB2.size
  have HB2 := Lib.hid hB2
  have HH2 := Lib.hid hh2
  clear hh hb hb2 hB2 hh2
  go_wp2_with fail
  (with_reducible refine (cWrite _ _ _ _ _ _ HH2.out hbs (by rw [str_size, HPL.out]; simp)).mono ?_); rintro e' w3 ⟨rfl, v3, hv3, hf3, ho3⟩
  have hb3 := HB2.out.trans (ho3.below (B := w.heap.size) hbs (fun j hj => by
      rcases hj with rfl | hj
      · exact Nat.le_refl _
      · exact (HH2.out.own j hj).2))
  rw [List.nil_append, bytes_str] at hv3
  clear hf3 ho3 hbs
  go_wp2_with fail
  go_loopw [15] (fun i wr => ∃ (k : Nat) (v : Value), k ≤ n ∧ i = .int .i64 k ∧ HSv wr w.heap.size w.heap.size v (p ++ joinL (ss.take k)) ∧ Below w.heap.size w wr)
    (fun i _ => n - (intOf i).toNat)
  case atStart => exact ⟨0, _, by omega, rfl, by rw [List.take_zero, joinL_nil, List.append_nil]; exact hv3, hb3⟩
  case round =>
    clear hv3 hb3
    obtain ⟨k, v, hk, rfl, hh, hb⟩ := hrel
    have hbs := hb.size
    by_cases hlk : k < n
    · have hdk : decide ((k : Int) < (n : Int)) = true := decide_eq_true (by omega)
      obtain ⟨g, o, ha, hg, hc⟩ := (HS0.out.fresh hb) (by rw [HN.out]; omega)
      subst ha
      have hck := hc k (by rw [HN.out]; exact hlk)
      have hjl := joinL_get_le ss k (by rw [HN.out]; exact hlk)
      have hjt := joinL_take ss k (by rw [HN.out]; exact hlk)
      obtain ⟨s, HS⟩ : ∃ s, Hid (ss.getD k ByteArray.empty = s) := ⟨_, Lib.hid rfl⟩
      rw [HS.out] at hck hjl hjt
      have HJT := Lib.hid hjt
      have HH := Lib.hid hh
      have HBB := Lib.hid hb
      have hwl : (p ++ joinL (ss.take k)).length + s.size ≤ 1000000000 := by rw [List.length_append, HPL.out]; omega
      clear hc hjt hh hb
      go_wp2_with (go_at_call 56; ((with_reducible refine (cWrite _ _ _ _ _ _ HH.out hbs hwl).mono ?_); rintro e' w2 ⟨rfl, v2, hv2, hf2, ho2⟩))
      go_roundw
      case rel =>
        have hb2 := HBB.out.trans (ho2.below (B := w.heap.size) hbs (fun j hj => by
          rcases hj with rfl | hj
          · exact Nat.le_refl _
          · exact (HH.out.own j hj).2))
        exact ⟨k + 1, v2, by omega, by go_num, by rw [HJT.out, ← List.append_assoc]; exact hv2, hb2⟩
      case measure => simp [intOf]; omega
    · have hdk : decide ((k : Int) < (n : Int)) = false := decide_eq_false (by omega)
      have e : ss.take k = ss := List.take_of_length_le (by rw [HN.out]; omega)
      rw [e] at hh
      have hwl : (p ++ joinL ss).length ≤ 1000000000 := by rw [List.length_append, HPL.out]; omega
      have h3 := fun W (h : HSv W w.heap.size w.heap.size v (p ++ joinL ss)) => cHSum _ _ _ _ W h hwl
      have h4 := fun W => cSum2 (str q) (str (sha (p ++ joinL ss))) W (by rw [str_size, str_size, HQL.out, sha_length]; omega)
      rw [str_str, bytes_str, ← HTAG.out] at h4
      obtain ⟨Q, HQ2⟩ : ∃ x, Hid (str q = x) := ⟨_, Lib.hid rfl⟩
      obtain ⟨Y, HY⟩ : ∃ x, Hid (str (sha (p ++ joinL ss)) = x) := ⟨_, Lib.hid rfl⟩
      rw [HQ2.out, HY.out] at h4
      simp only [HY.out] at h3
      have H3 := Lib.hid h3
      have H4 := Lib.hid h4
      have HH := Lib.hid hh
      have HBB := Lib.hid hb
      clear hh hb e h3 h4 hwl
      go_wp2_with fail
      (with_reducible refine (H2.out _).mono ?_); rintro e' w5 ⟨rfl, hb5⟩
      rw [HQ2.out]
      have hB5 := HBB.out.trans (hb5.mono hbs)
      go_wp2_with fail
      (with_reducible refine (H3.out _ (HH.out.fresh hb5)).mono ?_); rintro e' w6 ⟨rfl, hb6⟩
      have hB6 := hB5.trans (hb6.mono hB5.size)
      go_wp2_with fail
      (with_reducible refine (H4.out _).mono ?_); rintro e' w7 ⟨rfl, hb7⟩
      have hB7 := hB6.trans (hb7.mono hB6.size)
      clear hB5 hB6 hb5 hb6 hb7
      go_wp2_with fail
      go_ret
      exact ⟨rfl, hB7⟩
end Go.Proofs.Ytbofmfocnbennaa
