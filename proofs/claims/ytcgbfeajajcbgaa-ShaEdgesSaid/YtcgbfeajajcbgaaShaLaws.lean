/- The laws of chapter 2, walked. -/
import Derived.Test.YtcgbfeajajcbgaaShaFew
import Derived.Test.YtcgbfeajajcbgaaRefSha3
import Derived.Test.YtcgbfeajajcbgaaOpenStrs
namespace Go.Proofs.Ytcgbfeajajcbgaa
open Go.RowKit

theorem sha_none : str (sha []) = ⟨#[227, 176, 196, 66, 152, 252, 28, 20, 154, 251, 244, 200, 153, 111, 185, 36, 39, 174, 65, 228, 100, 155, 147, 76, 164, 149, 153, 27, 120, 82, 184, 85]⟩ := by decide +kernel
theorem sha_abc : str (sha [97, 98, 99]) = ⟨#[186, 120, 22, 191, 143, 1, 207, 234, 65, 65, 64, 222, 93, 174, 34, 35, 176, 3, 97, 163, 150, 23, 122, 156, 180, 16, 255, 97, 242, 0, 21, 173]⟩ := by decide +kernel

set_option maxRecDepth 100000 in
theorem cAwake02 (w : World) : Calls Try.prog 16 #[] w fun e w' => e = .returned (.bool true) ∧ Below w.heap.size w w' := by
  have h1 := fun W => cSumL none 0 0 [] W rfl (Strs.nil _ _) (by rw [joinL_nil]; simp) (by omega)
  simp only [joinL_nil, sha_none] at h1
  have h2 := fun (W : World) => cSumL (some ⟨W.heap.size, 0, none⟩) 1 1 [⟨#[97, 98, 99]⟩] (W.alloc (.cells #[.string ⟨#[97, 98, 99]⟩] 9)) rfl (Strs.one _ _ _) (by rw [joinL_one]; decide) (by omega)
  simp only [joinL_one, sha_abc] at h2
  have H1 := Lib.hid h1
  have H2 := Lib.hid h2
  clear h1 h2
  go_enter Try.func16, Try.ntmps16
  go_wp2_with fail
  (with_reducible refine (H1.out _).mono ?_); rintro e w1 ⟨rfl, hb1⟩
  go_wp2_with fail
  (with_reducible refine (H2.out _).mono ?_); rintro e w2 ⟨rfl, hb2⟩
  go_wp2_with fail
  go_ret
  exact ⟨rfl, (hb1.alloc (hb1.size) _).trans (hb2.mono (by simp; have := hb1.size; omega))⟩

/-- The sum of one text, of a slice made just ahead. -/
theorem cSum1 (s : ByteArray) (W : World) (h : s.size ≤ 1000000000) : Calls Try.prog 14 #[.slice (some ⟨W.heap.size, 0, none⟩) 1 1] (W.alloc (.cells #[.string s] 9)) fun e w' => e = .returned (.string (str (sha s.data.toList))) ∧ Below W.heap.size W w' := by
  refine (cSumL (some ⟨W.heap.size, 0, none⟩) 1 1 [s] (W.alloc (.cells #[.string s] 9)) rfl (Strs.one _ _ _) (by rw [joinL_one, data_length]; exact h) (by omega)).mono ?_
  rintro e w' ⟨rfl, hb⟩
  exact ⟨by rw [joinL_one], ((Below.refl _ _).alloc (Nat.le_refl _) _).trans (hb.mono (by simp))⟩
theorem cSum2 (s u : ByteArray) (W : World) (h : s.size + u.size ≤ 1000000000) : Calls Try.prog 14 #[.slice (some ⟨W.heap.size, 0, none⟩) 2 2] (W.alloc (.cells #[.string s, .string u] 9)) fun e w' => e = .returned (.string (str (sha (s ++ u).data.toList))) ∧ Below W.heap.size W w' := by
  refine (cSumL (some ⟨W.heap.size, 0, none⟩) 2 2 [s, u] (W.alloc (.cells #[.string s, .string u] 9)) rfl (Strs.two _ _ _ _) (by rw [joinL_two, data_length, ByteArray.size_append]; exact h) (by omega)).mono ?_
  rintro e w' ⟨rfl, hb⟩
  exact ⟨by rw [joinL_two], ((Below.refl _ _).alloc (Nat.le_refl _) _).trans (hb.mono (by simp))⟩

theorem shaSums_fit (s : ByteArray) (w : World) (hs : s.size ≤ 20000) : Calls Try.prog 3 #[.string s] w fun e w' => e = .returned (.bool true) ∧ Below w.heap.size w w' := by
  have h1 := fun W => cSum1 s W (by omega)
  have h2 := fun W => crSum s W (by omega)
  obtain ⟨X, HX⟩ : ∃ X, Hid (str (sha s.data.toList) = X) := ⟨_, Lib.hid rfl⟩
  simp only [HX.out] at h1 h2
  have H1 := Lib.hid h1
  have H2 := Lib.hid h2
  have hI : (s.size : Int) ≤ 20000 := by omega
  clear h1 h2
  go_enter Try.func3, Try.ntmps3
  go_wp2_with fail
  (with_reducible refine (H1.out _).mono ?_); rintro e w1 ⟨rfl, hb1⟩
  go_wp2_with fail
  (with_reducible refine (H2.out _).mono ?_); rintro e w2 ⟨rfl, hb2⟩
  go_wp2_with fail
  (with_reducible refine (cAwake02 _).mono ?_); rintro e w3 ⟨rfl, hb3⟩
  go_wp2_with fail
  go_ret
  have hB := (hb1.trans (hb2.mono hb1.size))
  exact ⟨rfl, hB.trans (hb3.mono hB.size)⟩
theorem shaSums_cut (s : ByteArray) (w : World) (hs : 20000 < s.size) (hs2 : s.size ≤ 9223372036854775807) : Calls Try.prog 3 #[.string s] w fun e w' => e = .returned (.bool true) ∧ Below w.heap.size w w' := by
  have hI : (20000 : Int) < (s.size : Int) := by omega
  have hz : (s.extract 0 20000).size ≤ 20000 := by simp; omega
  have h1 := fun W => cSum1 (s.extract 0 20000) W (by omega)
  have h2 := fun W => crSum (s.extract 0 20000) W (by omega)
  obtain ⟨X, HX⟩ : ∃ X, Hid (str (sha (s.extract 0 20000).data.toList) = X) := ⟨_, Lib.hid rfl⟩
  simp only [HX.out] at h1 h2
  have H1 := Lib.hid h1
  have H2 := Lib.hid h2
  clear h1 h2 hz
  go_enter Try.func3, Try.ntmps3
  go_wp2_with fail
  (with_reducible refine (H1.out _).mono ?_); rintro e w1 ⟨rfl, hb1⟩
  go_wp2_with fail
  (with_reducible refine (H2.out _).mono ?_); rintro e w2 ⟨rfl, hb2⟩
  go_wp2_with fail
  (with_reducible refine (cAwake02 _).mono ?_); rintro e w3 ⟨rfl, hb3⟩
  go_wp2_with fail
  go_ret
  have hB := (hb1.trans (hb2.mono hb1.size))
  exact ⟨rfl, hB.trans (hb3.mono hB.size)⟩
theorem shaSums_walk (s : ByteArray) (hs : s.size ≤ reachBytes) (w : World) : Calls Try.prog 3 #[.string s] w fun e w' => e = .returned (.bool true) ∧ Below w.heap.size w w' := by
  rcases Nat.lt_or_ge 20000 s.size with h | h
  · exact shaSums_cut s w h (by unfold reachBytes at hs; omega)
  · exact shaSums_fit s w h

theorem shaNone_walk (s : ByteArray) (hs : s.size ≤ reachBytes) (w : World) : Calls Try.prog 7 #[.string s] w fun e w' => e = .returned (.bool true) ∧ Below w.heap.size w w' := by
  go_enter Try.func7, Try.ntmps7
  go_wp2_with fail
  (with_reducible refine (cWrite_none _ _).mono ?_); rintro e w1 ⟨rfl, rfl⟩
  go_wp2_with fail
  (with_reducible refine (cHSum_none _).mono ?_); rintro e w1 ⟨rfl, rfl⟩
  go_wp2_with fail
  (with_reducible refine (cAwake02 _).mono ?_); rintro e w3 ⟨rfl, hb3⟩
  go_wp2_with fail
  go_ret
  exact ⟨rfl, hb3⟩

theorem shaParts_walk (v : Value) (ss : List ByteArray) (w : World) (hv : StrsIn w v ss) : Calls Try.prog 4 #[v] w fun e w' => e = .returned (.bool true) ∧ Below w.heap.size w w' := by
  obtain ⟨⟨A, c, rfl, hc, hs⟩, hl, hsm⟩ := hv
  have hf := cfew A ss.length c ss w rfl hs hl hc hsm
  have HF := Lib.hid hf
  clear hf
  go_enter Try.func4, Try.ntmps4
  go_wp2_with fail
  (with_reducible refine HF.out.mono ?_); rintro e w1 ⟨m, hm1, hm2, rfl, hj, rfl⟩
  have hs2 := hs.take m
  have hlm : (ss.take m).length = m := by rw [List.length_take]; omega
  have h1 := fun W (h : Strs W A (ss.take m)) => cSumL A m c (ss.take m) W hlm h (by omega) (by omega)
  have h2 := fun W (h : Strs W A (ss.take m)) => crJoin A m c (ss.take m) W hlm h (by omega) (by omega)
  have h3 := fun W => crSum (str (joinL (ss.take m))) W (by rw [str_size]; omega)
  rw [bytes_str] at h3
  obtain ⟨X, HX⟩ : ∃ X, Hid (str (sha (joinL (ss.take m))) = X) := ⟨_, Lib.hid rfl⟩
  obtain ⟨Y, HY⟩ : ∃ X, Hid (str (joinL (ss.take m)) = X) := ⟨_, Lib.hid rfl⟩
  simp only [HX.out, HY.out] at h1 h2 h3
  have H1 := Lib.hid h1
  have H2 := Lib.hid h2
  have H3 := Lib.hid h3
  clear h1 h2 h3 hlm
  go_wp2_with fail
  (with_reducible refine (H1.out _ hs2).mono ?_); rintro e w1 ⟨rfl, hb1⟩
  go_wp2_with fail
  (with_reducible refine (H2.out _ (hs2.fresh hb1)).mono ?_); rintro e w2 ⟨rfl, rfl⟩
  go_wp2_with fail
  (with_reducible refine (H3.out _).mono ?_); rintro e w2 ⟨rfl, hb2⟩
  go_wp2_with fail
  (with_reducible refine (cAwake02 _).mono ?_); rintro e w3 ⟨rfl, hb3⟩
  go_wp2_with fail
  go_ret
  have hB := (hb1.trans (hb2.mono hb1.size))
  exact ⟨rfl, hB.trans (hb3.mono hB.size)⟩
end Go.Proofs.Ytcgbfeajajcbgaa
