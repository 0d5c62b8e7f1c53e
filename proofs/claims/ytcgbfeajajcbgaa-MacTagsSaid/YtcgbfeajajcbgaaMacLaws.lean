/- The laws MacTags, MacParts, MacKeys, walked. -/
import Derived.Test.YtcgbfeajajcbgaaRefMac
import Derived.Test.YtcgbfeajajcbgaaMacEq
import Derived.Test.YtcgbfeajajcbgaaCut03
import Derived.Test.YtcgbfeajajcbgaaOpenStrs
import Derived.Test.YtcgbfeajajcbgaaShaFew
namespace Go.Proofs.Ytcgbfeajajcbgaa
open Go.RowKit
set_option linter.unusedVariables false
set_option linter.unusedSimpArgs false

def jefe : ByteArray := ⟨#[74, 101, 102, 101]⟩
def whatT : ByteArray := ⟨#[119, 104, 97, 116, 32, 100, 111, 32, 121, 97, 32, 119, 97, 110, 116, 32, 102, 111, 114, 32, 110, 111, 116, 104, 105, 110, 103, 63]⟩
theorem tag_jefe : str (tagL jefe.data.toList whatT.data.toList) = ⟨#[0x5b, 0xdc, 0xc1, 0x46, 0xbf, 0x60, 0x75, 0x4e, 0x6a, 0x04, 0x24, 0x26, 0x08, 0x95, 0x75, 0xc7, 0x5a, 0x00, 0x3f, 0x08, 0x9d, 0x27, 0x39, 0x83, 0x9d, 0xec, 0x58, 0xb9, 0x64, 0xec, 0x38, 0x43]⟩ := by decide +kernel

set_option maxRecDepth 100000 in
theorem cAwake03 (w : World) : Calls Try.prog 25 #[] w fun e w' => e = .returned (.bool true) ∧ Below w.heap.size w w' := by
  have h1 := fun W => cEqual ⟨#[97, 98]⟩ ⟨#[97, 99]⟩ W (by decide) (by decide)
  have e1 : decide ((⟨#[97, 98]⟩ : ByteArray) = ⟨#[97, 99]⟩) = false := by decide
  have e2 : ((max (⟨#[97, 98]⟩ : ByteArray).size (⟨#[97, 99]⟩ : ByteArray).size : Nat) : Int) = 2 := by decide
  simp only [e1, e2] at h1
  have h2 := fun W => cTag1 jefe whatT W (by decide) (by decide)
  rw [tag_jefe] at h2
  unfold jefe whatT at h2
  have H1 := Lib.hid h1
  have H2 := Lib.hid h2
  clear h1 h2 e1 e2
  go_enter Try.func25, Try.ntmps25
  go_wp2_with fail
  (with_reducible refine (H1.out _).mono ?_); rintro e w1 ⟨rfl, rfl⟩
  go_wp2_with fail
  (with_reducible refine (H2.out _).mono ?_); rintro e w1 ⟨rfl, hb⟩
  go_wp2_with fail
  go_ret
  exact ⟨rfl, hb⟩

theorem macTags_walk (key : ByteArray) (hk : key.size ≤ reachBytes) (s : ByteArray) (hs : s.size ≤ reachBytes) (w : World) : Calls Try.prog 9 #[.string key, .string s] w fun e w' => e = .returned (.bool true) ∧ Below w.heap.size w w' := by
  have h1 := fun W => ccut03 key 5000 5000 rfl W (reach_le hk) (by omega)
  have h2 := fun W => ccut03 s 10000 10000 rfl W (reach_le hs) (by omega)
  have hkz := cutB_size key 5000
  have hsz := cutB_size s 10000
  obtain ⟨k, HK⟩ : ∃ x, Hid (cutB key 5000 = x) := ⟨_, Lib.hid rfl⟩
  obtain ⟨t, HT⟩ : ∃ x, Hid (cutB s 10000 = x) := ⟨_, Lib.hid rfl⟩
  simp only [HK.out] at h1 hkz
  simp only [HT.out] at h2 hsz
  have h3 := fun W => cTag1 k t W (by omega) (by omega)
  have h4 := fun W => crTag k t W (by omega) (by omega)
  obtain ⟨X, HX⟩ : ∃ X, Hid (str (tagL k.data.toList t.data.toList) = X) := ⟨_, Lib.hid rfl⟩
  simp only [HX.out] at h3 h4
  have H1 := Lib.hid h1
  have H2 := Lib.hid h2
  have H3 := Lib.hid h3
  have H4 := Lib.hid h4
  clear h1 h2 h3 h4
  go_enter Try.func9, Try.ntmps9
  go_wp2_with fail
  (with_reducible refine (H1.out _).mono ?_); rintro e w1 ⟨rfl, rfl⟩
  go_wp2_with fail
  (with_reducible refine (H2.out _).mono ?_); rintro e w1 ⟨rfl, rfl⟩
  go_wp2_with fail
  (with_reducible refine (H3.out _).mono ?_); rintro e w1 ⟨rfl, hb1⟩
  go_wp2_with fail
  (with_reducible refine (H4.out _).mono ?_); rintro e w2 ⟨rfl, hb2⟩
  go_wp2_with fail
  (with_reducible refine (cAwake03 _).mono ?_); rintro e w3 ⟨rfl, hb3⟩
  go_wp2_with fail
  go_ret
  have hB := (hb1.trans (hb2.mono hb1.size))
  exact ⟨rfl, hB.trans (hb3.mono hB.size)⟩

theorem macKeys_walk (key : ByteArray) (hk : key.size ≤ reachBytes) (s : ByteArray) (hs : s.size ≤ reachBytes) (w : World) : Calls Try.prog 11 #[.string key, .string s] w fun e w' => e = .returned (.bool true) ∧ Below w.heap.size w w' := by
  have h1 := fun W => ccut03 key 5000 5000 rfl W (reach_le hk) (by omega)
  have h2 := fun W => ccut03 s 5000 5000 rfl W (reach_le hs) (by omega)
  have hkz := cutB_size key 5000
  have hsz := cutB_size s 5000
  obtain ⟨k, HK⟩ : ∃ x, Hid (cutB key 5000 = x) := ⟨_, Lib.hid rfl⟩
  obtain ⟨t, HT⟩ : ∃ x, Hid (cutB s 5000 = x) := ⟨_, Lib.hid rfl⟩
  simp only [HK.out] at h1 hkz
  simp only [HT.out] at h2 hsz
  have h3 := fun W => cTag1 k t W (by omega) (by omega)
  have hl := tagL_length k.data.toList t.data.toList
  have hz : (str (tagL k.data.toList t.data.toList)).size = 32 := by rw [str_size, hl]
  have h5 : ∀ k2 : ByteArray, k2.size ≤ 6000 → tagL k2.data.toList t.data.toList = tagL k.data.toList t.data.toList → ∀ W, Calls Try.prog 23 #[.string k2, .slice (some ⟨W.heap.size, 0, none⟩) 1 1] (W.alloc (.cells #[.string t] 9)) fun e w' => e = .returned (.string (str (tagL k.data.toList t.data.toList))) ∧ Below W.heap.size W w' := by
    intro k2 hk2 e W
    rw [← e]
    exact cTag1 k2 t W (by omega) (by omega)
  have h6 := fun W => crSum k W (by omega)
  have h7 : 64 < k.size → tagL (str (sha k.data.toList)).data.toList t.data.toList = tagL k.data.toList t.data.toList := fun h => by rw [bytes_str]; exact tagL_long _ _ (by rw [data_length]; exact h)
  have h8 : k.size < 64 → tagL (k ++ ⟨#[0]⟩).data.toList t.data.toList = tagL k.data.toList t.data.toList := fun h => by
    rw [ByteArray.data_append, Array.toList_append]; exact tagL_zero _ _ (by rw [data_length]; exact h)
  have hy : (str (sha k.data.toList)).size = 32 := by rw [str_size, sha_length]
  obtain ⟨X, HX⟩ : ∃ X, Hid (str (tagL k.data.toList t.data.toList) = X) := ⟨_, Lib.hid rfl⟩
  obtain ⟨Y, HY⟩ : ∃ X, Hid (str (sha k.data.toList) = X) := ⟨_, Lib.hid rfl⟩
  simp only [HX.out, HY.out] at h3 h5 h6 h7 hz hy
  have H1 := Lib.hid h1
  have H2 := Lib.hid h2
  have H3 := Lib.hid h3
  have H5 := Lib.hid h5
  have H6 := Lib.hid h6
  have H7 := Lib.hid h7
  have H8 := Lib.hid h8
  have HYZ := Lib.hid hy
  have hzi : ((X.size : Int) == 32) = true := by simp; omega
  have hzn : ((X.size : Int) != 32) = false := by simp; omega
  clear h1 h2 h3 h5 h6 h7 h8 hl hy
  have HZ := Lib.hid hz
  clear hz
  rcases Nat.lt_trichotomy k.size 64 with hc | hc | hc
  · have hI : (k.size : Int) < 64 := by omega
    have h9 := H5.out (k ++ ⟨#[0]⟩) (by rw [ByteArray.size_append]; have : (⟨#[0]⟩ : ByteArray).size = 1 := rfl; omega) (H8.out hc)
    have H9 := Lib.hid h9
    clear h9
    go_enter Try.func11, Try.ntmps11
    go_wp2_with fail
    (with_reducible refine (H1.out _).mono ?_); rintro e w1 ⟨rfl, rfl⟩
    go_wp2_with fail
    (with_reducible refine (H2.out _).mono ?_); rintro e w1 ⟨rfl, rfl⟩
    go_wp2_with fail
    (with_reducible refine (H3.out _).mono ?_); rintro e w1 ⟨rfl, hb1⟩
    go_wp2_with fail
    (with_reducible refine (H9.out _).mono ?_); rintro e w2 ⟨rfl, hb2⟩
    go_wp2_with fail
    (with_reducible refine (cAwake03 _).mono ?_); rintro e w3 ⟨rfl, hb3⟩
    go_wp2_with fail
    go_ret
    have hB := (hb1.trans (hb2.mono hb1.size))
    exact ⟨rfl, hB.trans (hb3.mono hB.size)⟩
  · have hI : (k.size : Int) ≤ 64 := by omega
    have hI2 : (64 : Int) ≤ (k.size : Int) := by omega
    clear hc
    go_enter Try.func11, Try.ntmps11
    go_wp2_with fail
    (with_reducible refine (H1.out _).mono ?_); rintro e w1 ⟨rfl, rfl⟩
    go_wp2_with fail
    (with_reducible refine (H2.out _).mono ?_); rintro e w1 ⟨rfl, rfl⟩
    go_wp2_with fail
    (with_reducible refine (H3.out _).mono ?_); rintro e w1 ⟨rfl, hb1⟩
    go_wp2_with fail
    (with_reducible refine (cAwake03 _).mono ?_); rintro e w3 ⟨rfl, hb3⟩
    go_wp2_with fail
    go_ret
    exact ⟨rfl, hb1.trans (hb3.mono hb1.size)⟩
  · have hI : (64 : Int) < (k.size : Int) := by omega
    have h9 := H5.out Y (by rw [HYZ.out]; omega) (H7.out hc)
    have H9 := Lib.hid h9
    clear h9
    go_enter Try.func11, Try.ntmps11
    go_wp2_with fail
    (with_reducible refine (H1.out _).mono ?_); rintro e w1 ⟨rfl, rfl⟩
    go_wp2_with fail
    (with_reducible refine (H2.out _).mono ?_); rintro e w1 ⟨rfl, rfl⟩
    go_wp2_with fail
    (with_reducible refine (H3.out _).mono ?_); rintro e w1 ⟨rfl, hb1⟩
    go_wp2_with fail
    (with_reducible refine (H6.out _).mono ?_); rintro e w2 ⟨rfl, hb2⟩
    go_wp2_with fail
    (with_reducible refine (H9.out _).mono ?_); rintro e w3 ⟨rfl, hb3⟩
    go_wp2_with fail
    (with_reducible refine (cAwake03 _).mono ?_); rintro e w4 ⟨rfl, hb4⟩
    go_wp2_with fail
    go_ret
    have hB := (hb1.trans (hb2.mono hb1.size))
    have hB2 := hB.trans (hb3.mono hB.size)
    exact ⟨rfl, hB2.trans (hb4.mono hB2.size)⟩

theorem cEqual_yes (a : ByteArray) (w : World) (ha : a.size ≤ 100000000) : Calls Try.prog 26 #[.string a, .string a] w fun e w' => e = .returned (.tuple #[.bool true, .int .i64 ((a.size : Nat) : Int)]) ∧ w = w' := by
  have h := cEqual a a w ha ha
  have e1 : decide (a = a) = true := decide_eq_true rfl
  rw [e1, Nat.max_self] at h
  exact h
theorem cEqual_no (a b : ByteArray) (w : World) (ha : a.size ≤ 100000000) (hb : b.size ≤ 100000000) (h : ¬ a = b) : Calls Try.prog 26 #[.string a, .string b] w fun e w' => e = .returned (.tuple #[.bool false, .int .i64 ((max a.size b.size : Nat) : Int)]) ∧ w = w' := by
  have h2 := cEqual a b w ha hb
  rw [decide_eq_false h] at h2
  exact h2
theorem macEquals_walk (a : ByteArray) (ha : a.size ≤ reachBytes) (b : ByteArray) (hb : b.size ≤ reachBytes) (w : World) : Calls Try.prog 12 #[.string a, .string b] w fun e w' => e = .returned (.bool true) ∧ Below w.heap.size w w' := by
  have h1 := fun W => ccut03 a 10000 10000 rfl W (reach_le ha) (by omega)
  have h2 := fun W => ccut03 b 10000 10000 rfl W (reach_le hb) (by omega)
  have haz := cutB_size a 10000
  have hbz := cutB_size b 10000
  obtain ⟨x, HA⟩ : ∃ x, Hid (cutB a 10000 = x) := ⟨_, Lib.hid rfl⟩
  obtain ⟨y, HB⟩ : ∃ x, Hid (cutB b 10000 = x) := ⟨_, Lib.hid rfl⟩
  simp only [HA.out] at h1 haz
  simp only [HB.out] at h2 hbz
  have h3 := fun W => cEqual_yes x W (by omega)
  have H1 := Lib.hid h1
  have H2 := Lib.hid h2
  have H3 := Lib.hid h3
  clear h1 h2 h3
  by_cases hxy : x = y
  · subst hxy
    go_enter Try.func12, Try.ntmps12
    go_wp2_with fail
    (with_reducible refine (H1.out _).mono ?_); rintro e w1 ⟨rfl, rfl⟩
    go_wp2_with fail
    (with_reducible refine (H2.out _).mono ?_); rintro e w1 ⟨rfl, rfl⟩
    go_wp2_with fail
    (with_reducible refine (H3.out _).mono ?_); rintro e w1 ⟨rfl, rfl⟩
    go_wp2_with fail
    (with_reducible refine (H3.out _).mono ?_); rintro e w1 ⟨rfl, rfl⟩
    go_wp2_with fail
    (with_reducible refine (H3.out _).mono ?_); rintro e w1 ⟨rfl, rfl⟩
    go_wp2_with fail
    (with_reducible refine (cAwake03 _).mono ?_); rintro e w3 ⟨rfl, hb3⟩
    go_wp2_with fail
    go_ret
    exact ⟨rfl, hb3⟩
  · have hne : (x.toList == y.toList) = false := by
      rw [ByteArray.toList_eq, ByteArray.toList_eq]
      refine beq_false_of_ne fun h => hxy (ba_ext h)
    have h4 := fun W => cEqual_no x y W (by omega) (by omega) hxy
    have h5 := fun W => cEqual_no y x W (by omega) (by omega) (fun h => hxy h.symm)
    have H4 := Lib.hid h4
    have H5 := Lib.hid h5
    clear h4 h5 hxy
    go_enter Try.func12, Try.ntmps12
    go_wp2_with fail
    (with_reducible refine (H1.out _).mono ?_); rintro e w1 ⟨rfl, rfl⟩
    go_wp2_with fail
    (with_reducible refine (H2.out _).mono ?_); rintro e w1 ⟨rfl, rfl⟩
    go_wp2_with fail
    (with_reducible refine (H4.out _).mono ?_); rintro e w1 ⟨rfl, rfl⟩
    go_wp2_with fail
    (with_reducible refine (H5.out _).mono ?_); rintro e w1 ⟨rfl, rfl⟩
    go_wp2_with fail
    (with_reducible refine (H3.out _).mono ?_); rintro e w1 ⟨rfl, rfl⟩
    go_wp2_with fail
    (with_reducible refine (cAwake03 _).mono ?_); rintro e w3 ⟨rfl, hb3⟩
    go_wp2_with fail
    go_ret
    exact ⟨rfl, hb3⟩
end Go.Proofs.Ytcgbfeajajcbgaa
