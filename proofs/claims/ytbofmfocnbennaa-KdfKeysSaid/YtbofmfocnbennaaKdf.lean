/- kdf.Extract, kdf.Expand, kdf.Keys, and the reference's. -/
import Derived.Test.YtbofmfocnbennaaMacOne
import Derived.Test.YtbofmfocnbennaaKdfS
import Derived.Test.YtbofmfocnbennaaApp1
import Derived.Test.YtbofmfocnbennaaFixed
import Derived.Test.YtbofmfocnbennaaRefMac
namespace Go.Proofs.Ytbofmfocnbennaa
open Go.RowKit
set_option maxRecDepth 100000
set_option linter.unusedVariables false
set_option linter.unusedSimpArgs false

theorem cExtract (salt secret : ByteArray) (w : World) (h1 : salt.size ≤ 1000000) (h2 : secret.size ≤ 1000000) :
    Calls Try.prog 39 #[.string salt, .string secret] w fun e w' => e = .returned (.string (str (tagL salt.data.toList secret.data.toList))) ∧ Below w.heap.size w w' := by
  have h := fun W => cTag1 salt secret W (by omega) (by omega)
  obtain ⟨X, HX⟩ : ∃ X, Hid (str (tagL salt.data.toList secret.data.toList) = X) := ⟨_, Lib.hid rfl⟩
  simp only [HX.out] at h
  have H := Lib.hid h
  clear h
  rw [HX.out]
  go_enter Try.func39, Try.ntmps39
  go_wp2_with fail
  (with_reducible refine (H.out _).mono ?_); rintro e w1 ⟨rfl, hb⟩
  go_wp2_with fail
  go_ret
  exact ⟨rfl, hb⟩

theorem cFixed1 (n : Int) (w : World) : Calls Try.prog 54 #[.int .i64 n, .int .i64 1] w fun e w' => e = .returned (.string (str (be n 1))) ∧ Below w.heap.size w w' := cFixed n 1 w (by omega) (by omega)

set_option maxRecDepth 100000 in
theorem cExpand (key info : ByteArray) (n : Nat) (w : World) (hk : key.size ≤ 1000000) (hi : info.size ≤ 1000000) (hn : n ≤ 8160) :
    Calls Try.prog 42 #[.string key, .string info, .int .i64 n] w fun e w' => e = .returned (.tuple #[.string (str (expL key.data.toList info.data.toList n)), .int .i64 0]) ∧ Below w.heap.size w w' := by
  have hn9 : (n : Int) ≤ 8160 := by omega
  have hn0 : (0 : Int) ≤ (n : Int) := by omega
  have hB0 := Below.refl w.heap.size w
  go_enter Try.func42, Try.ntmps42
  go_wp2_with fail
  go_loopw [8, 9, 10] (fun v t i wr => ∃ (k : Nat), 32 * k < n + 32 ∧ i = .int .i64 ((k : Int) + 1) ∧ t = .string (str (tK key.data.toList info.data.toList k)) ∧ SL wr w.heap.size 5 v ((okm key.data.toList info.data.toList k).map bv) ∧ Below w.heap.size w wr)
    (fun _ _ i _ => 300 - (intOf i).toNat)
  case atStart => exact ⟨0, by omega, rfl, by rw [tK_zero]; rfl, by rw [okm_zero]; exact SL.nil _ _ _, hB0⟩
  case round =>
    clear hB0
    obtain ⟨k, hk32, rfl, rfl, hS, hB⟩ := hrel
    have hbs := hB.size
    have hol := okm_length key.data.toList info.data.toList k
    obtain ⟨A2, c2, rfl, hc2⟩ := hS.open_
    obtain ⟨m, HM⟩ : ∃ m, Hid ((okm key.data.toList info.data.toList k).length = m) := ⟨_, Lib.hid rfl⟩
    rw [HM.out] at hS hc2 hol
    rw [HM.out]
    have hm1 : m ≤ 32 * k := by omega
    have hm2 : 32 * k ≤ m := by omega
    have HS := Lib.hid hS
    have HB := Lib.hid hB
    clear hS hB hol
    by_cases hlt : m < n
    · have hdk : decide (m < n) = true := decide_eq_true hlt
      have hts := tK_le key.data.toList info.data.toList k
      have h1 := fun W => cFixed1 ((k : Int) + 1) W
      have hz1 : (str (be ((k : Int) + 1) 1)).size = 1 := by rw [str_size, be_length]
      have hz2 : (str (tK key.data.toList info.data.toList k)).size ≤ 32 := by rw [str_size]; exact hts
      have h2 := fun W => cTag3 key (str (tK key.data.toList info.data.toList k)) info (str (be ((k : Int) + 1) 1)) W (by omega) (by omega)
      have e2 : (str (tK key.data.toList info.data.toList k) ++ info ++ str (be ((k : Int) + 1) 1)).data.toList = tK key.data.toList info.data.toList k ++ info.data.toList ++ be ((k + 1 : Nat) : Int) 1 := by
        rw [ByteArray.data_append, ByteArray.data_append, Array.toList_append, Array.toList_append, bytes_str, bytes_str]; rfl
      rw [e2, ← tK_succ] at h2
      have hz3 : (str (tK key.data.toList info.data.toList (k + 1))).size = 32 := by rw [str_size, tK_length]
      have e3 : okm key.data.toList info.data.toList k ++ (str (tK key.data.toList info.data.toList (k + 1))).data.toList = okm key.data.toList info.data.toList (k + 1) := by rw [bytes_str, okm_succ]
      obtain ⟨Y, HY⟩ : ∃ X, Hid (str (be ((k : Int) + 1) 1) = X) := ⟨_, Lib.hid rfl⟩
      obtain ⟨T, HT⟩ : ∃ X, Hid (str (tK key.data.toList info.data.toList k) = X) := ⟨_, Lib.hid rfl⟩
      obtain ⟨T2, HT2⟩ : ∃ X, Hid (str (tK key.data.toList info.data.toList (k + 1)) = X) := ⟨_, Lib.hid rfl⟩
      simp only [HY.out] at h1 h2
      simp only [HT.out, HT2.out] at h2 hz3 e3
      rw [HT.out]
      have H1 := Lib.hid h1
      have H2 := Lib.hid h2
      have HZ := Lib.hid hz3
      have H3 := Lib.hid e3
      clear h1 h2 e2 e3 hz1 hz2 hz3
      go_wp2_with fail
      (with_reducible refine (H1.out _).mono ?_); rintro e w1 ⟨rfl, hb1⟩
      have hB1 := HB.out.trans (hb1.mono hbs)
      have HS1 := Lib.hid (HS.out.below (hb1.mono (Nat.le_refl _)) (Nat.le_refl _))
      clear hb1
      go_wp2_with fail
      (with_reducible refine (H2.out _).mono ?_); rintro e w2 ⟨rfl, hb2⟩
      have hB2 := hB1.trans (hb2.mono hB1.size)
      have HS2 := Lib.hid (HS1.out.below (hb2.mono (Nat.le_refl _)) (Nat.le_refl _))
      have hbs2 := hB2.size
      clear hb2 hB1
      go_wp2_with (refine wpList_appS u8_elem Try.underlying9 rfl (.tmp 30) (.tmp 31) rfl w.heap.size A2 m c2 32 _ T2 HM.out rfl HS2.out rfl HZ.out (by omega) (by decide) hbs2 ?_; intro A3 c3 w3 hS3 hc3 hb3; dsimp only [Act.put])
      go_roundw
      case rel =>
        rw [H3.out] at hS3
        exact ⟨k + 1, by omega, by go_num, by rw [← HT2.out], hS3, hB2.trans hb3⟩
      case measure => simp [intOf]; omega
    · have hdk : decide (m < n) = false := decide_eq_false hlt
      have hnm : n ≤ m := by omega
      have hcv := conv_sl (P := Try.prog) Try.underlying43 Try.underlying5 Try.underlying9 HS.out n hnm
      rw [expL_of _ _ k n (by omega)] at hcv
      have hnc : (n : Int) ≤ (c2 : Int) := by omega
      obtain ⟨X, HX⟩ : ∃ X, Hid (str (expL key.data.toList info.data.toList n) = X) := ⟨_, Lib.hid rfl⟩
      rw [HX.out] at hcv
      clear hlt
      go_wp2_with fail
      go_ret2
      exact ⟨by rw [HX.out]; rfl, HB.out⟩

theorem cExpand_no (key info : ByteArray) (n : Int) (w : World) (hn : n < 0 ∨ 8160 < n) :
    Calls Try.prog 42 #[.string key, .string info, .int .i64 n] w fun e w' => e = .returned (.tuple #[.string ⟨#[]⟩, .int .i64 10]) ∧ Below w.heap.size w w' := by
  rcases hn with hn | hn
  · go_enter Try.func42, Try.ntmps42
    go_wp2_with fail
    go_ret2
    exact ⟨rfl, Below.refl _ _⟩
  · have h0 : ¬ n < 0 := by omega
    go_enter Try.func42, Try.ntmps42
    go_wp2_with fail
    go_ret2
    exact ⟨rfl, Below.refl _ _⟩
end Go.Proofs.Ytbofmfocnbennaa
