/- The reference's Expand; Keys of both. -/
import Derived.Test.YtbofmfocnbennaaKdf
import Derived.Test.YtbofmfocnbennaaRefFixed
namespace Go.Proofs.Ytbofmfocnbennaa
open Go.RowKit
set_option maxRecDepth 100000
set_option linter.unusedVariables false
set_option linter.unusedSimpArgs false

set_option maxRecDepth 100000 in
theorem crExpand (key info : ByteArray) (n : Nat) (w : World) (hk : key.size ≤ 1000000) (hi : info.size ≤ 1000000) (hn : n ≤ 8160) :
    Calls Try.prog 41 #[.string key, .string info, .int .i64 n] w fun e w' => e = .returned (.tuple #[.string (str (expL key.data.toList info.data.toList n)), .int .i64 0]) ∧ Below w.heap.size w w' := by
  have hn9 : (n : Int) ≤ 8160 := by omega
  have hn0 : (0 : Int) ≤ (n : Int) := by omega
  have hiI : (info.size : Int) ≤ 1000000 := by omega
  have hB0 := Below.refl w.heap.size w
  go_enter Try.func41, Try.ntmps41
  go_wp2_with fail
  go_loopw [8, 9, 10] (fun u t i wr => ∃ (k : Nat), 32 * k < n + 32 ∧ i = .int .i64 ((k : Int) + 1) ∧ t = .string (str (tK key.data.toList info.data.toList k)) ∧ u = .string (str (okm key.data.toList info.data.toList k)) ∧ Below w.heap.size w wr)
    (fun _ _ i _ => 300 - (intOf i).toNat)
  case atStart => exact ⟨0, by omega, rfl, by rw [tK_zero]; rfl, by rw [okm_zero]; rfl, hB0⟩
  case round =>
    clear hB0
    obtain ⟨k, hk32, rfl, rfl, rfl, hB⟩ := hrel
    have hbs := hB.size
    have hol := okm_length key.data.toList info.data.toList k
    have hsz : (str (okm key.data.toList info.data.toList k)).size = 32 * k := by rw [str_size, hol]
    obtain ⟨O, HO⟩ : ∃ m, Hid (str (okm key.data.toList info.data.toList k) = m) := ⟨_, Lib.hid rfl⟩
    rw [HO.out] at hsz
    rw [HO.out]
    have hm1 : O.size ≤ 32 * k := by omega
    have hm2 : 32 * k ≤ O.size := by omega
    have hmI : (O.size : Int) ≤ 10000 := by omega
    clear hol hsz
    have HB := Lib.hid hB
    clear hB
    by_cases hlt : O.size < n
    · have hdk : decide (O.size < n) = true := decide_eq_true hlt
      have hts := tK_le key.data.toList info.data.toList k
      have hb : (k : Int) + 1 = (((nb ((k : Int) + 1) 0).toNat : Nat) : Int) := by rw [nb_val]; simp; omega
      have hcv := fun W => lit_byte W 5 (nb ((k : Int) + 1) 0) (P := Try.prog) Try.underlying43 Try.underlying5 Try.underlying9
      simp only [← hb] at hcv
      clear hb
      have hz1 : (str [nb ((k : Int) + 1) 0]).size = 1 := by rw [str_size]; rfl
      have hz2 : (str (tK key.data.toList info.data.toList k)).size ≤ 32 := by rw [str_size]; exact hts
      have h2 := fun W => crTag key (str (tK key.data.toList info.data.toList k) ++ info ++ str [nb ((k : Int) + 1) 0]) W (by omega) (by rw [ByteArray.size_append, ByteArray.size_append]; omega)
      have e2 : (str (tK key.data.toList info.data.toList k) ++ info ++ str [nb ((k : Int) + 1) 0]).data.toList = tK key.data.toList info.data.toList k ++ info.data.toList ++ be ((k + 1 : Nat) : Int) 1 := by
        rw [ByteArray.data_append, ByteArray.data_append, Array.toList_append, Array.toList_append, bytes_str, bytes_str, be_succ, be_zero]; rfl
      rw [e2, ← tK_succ] at h2
      have hz3 : (str (tK key.data.toList info.data.toList (k + 1))).size ≤ 32 := by rw [str_size, tK_length]; omega
      have e3 : O ++ str (tK key.data.toList info.data.toList (k + 1)) = str (okm key.data.toList info.data.toList (k + 1)) := by rw [← HO.out, str_append, okm_succ]
      obtain ⟨Y, HY⟩ : ∃ X, Hid (str [nb ((k : Int) + 1) 0] = X) := ⟨_, Lib.hid rfl⟩
      obtain ⟨T, HT⟩ : ∃ X, Hid (str (tK key.data.toList info.data.toList k) = X) := ⟨_, Lib.hid rfl⟩
      obtain ⟨T2, HT2⟩ : ∃ X, Hid (str (tK key.data.toList info.data.toList (k + 1)) = X) := ⟨_, Lib.hid rfl⟩
      simp only [HY.out] at h2 hz1 hcv
      simp only [HT.out, HT2.out] at h2 hz3 e3 hz2
      rw [HT.out]
      have hcv1 := hcv wr
      have H2 := Lib.hid h2
      have H3 := Lib.hid e3
      have hz1I : (Y.size : Int) ≤ 1 := by omega
      have hz2I : (T.size : Int) ≤ 32 := by omega
      have hz3I : (T2.size : Int) ≤ 32 := by omega
      clear h2 e2 e3 hz1 hz2 hz3 hcv
      go_wp2_with fail
      (with_reducible refine (H2.out _).mono ?_); rintro e w2 ⟨rfl, hb2⟩
      have hB2 := (HB.out.alloc hbs _).trans (hb2.mono (by simp; omega))
      clear hb2
      go_wp2_with fail
      go_roundw
      case rel => exact ⟨k + 1, by omega, by go_num, by rw [← HT2.out], by rw [H3.out], hB2⟩
      case measure => simp [intOf]; omega
    · have hdk : decide (O.size < n) = false := decide_eq_false hlt
      have hnm : (n : Int) ≤ (O.size : Int) := by omega
      have hex : O.extract 0 n = str (expL key.data.toList info.data.toList n) := by
        apply ba_ext
        rw [← HO.out, ← expL_of _ _ k n (by omega), bytes_str]
        simp [str]
      have HEX := Lib.hid hex
      clear hlt hex
      go_wp2_with fail
      go_ret2
      exact ⟨by rw [← HEX.out]; rfl, HB.out⟩
theorem crExpand_no (key info : ByteArray) (n : Int) (w : World) (hn : n < 0 ∨ 8160 < n) :
    Calls Try.prog 41 #[.string key, .string info, .int .i64 n] w fun e w' => e = .returned (.tuple #[.string ⟨#[]⟩, .int .i64 10]) ∧ Below w.heap.size w w' := by
  rcases hn with hn | hn
  · go_enter Try.func41, Try.ntmps41
    go_wp2_with fail
    go_ret2
    exact ⟨rfl, Below.refl _ _⟩
  · have h0 : ¬ n < 0 := by omega
    go_enter Try.func41, Try.ntmps41
    go_wp2_with fail
    go_ret2
    exact ⟨rfl, Below.refl _ _⟩
end Go.Proofs.Ytbofmfocnbennaa
