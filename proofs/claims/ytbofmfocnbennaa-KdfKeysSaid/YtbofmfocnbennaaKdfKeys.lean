/- kdf.Keys, the reference's Keys; the law KdfKeys, walked. -/
import Derived.Test.YtbofmfocnbennaaKdfLaws
import Derived.Laws.StructEq
import Derived.Deep.Slices
namespace Go.Proofs.Ytbofmfocnbennaa
open Go.RowKit
set_option linter.unusedVariables false
set_option linter.unusedSimpArgs false

def kx (salt secret : ByteArray) : ByteArray := str (tagL salt.data.toList secret.data.toList)
def ky (key info : ByteArray) : ByteArray := str (expL key.data.toList info.data.toList 32)
theorem kx_size (salt secret : ByteArray) : (kx salt secret).size = 32 := by unfold kx; rw [str_size, tagL_length]
theorem ky_size (key info : ByteArray) : (ky key info).size = 32 := by unfold ky; rw [str_size, expL_length]
attribute [irreducible] kx ky
theorem cExtract' (salt secret : ByteArray) (w : World) (h1 : salt.size ≤ 1000000) (h2 : secret.size ≤ 1000000) : Calls Try.prog 39 #[.string salt, .string secret] w fun e w' => e = .returned (.string (kx salt secret)) ∧ Below w.heap.size w w' := by
  unfold kx; exact cExtract salt secret w h1 h2
theorem crTag' (salt secret : ByteArray) (w : World) (h1 : salt.size ≤ 1000000) (h2 : secret.size ≤ 1000000) : Calls Try.prog 21 #[.string salt, .string secret] w fun e w' => e = .returned (.string (kx salt secret)) ∧ Below w.heap.size w w' := by
  unfold kx; exact crTag salt secret w (by omega) (by omega)
theorem crExpand' (key info : ByteArray) (w : World) (h1 : key.size ≤ 1000000) (h2 : info.size ≤ 1000000) : Calls Try.prog 41 #[.string key, .string info, .int .i64 32] w fun e w' => e = .returned (.tuple #[.string (ky key info), .int .i64 0]) ∧ Below w.heap.size w w' := by
  unfold ky; exact crExpand key info 32 w h1 h2 (by omega)
theorem cOf (key info : ByteArray) (w : World) (h1 : key.size ≤ 1000000) (h2 : info.size ≤ 1000000) : Calls Try.prog 40 #[.string info, .string key] w fun e w' => e = .returned (.string (ky key info)) ∧ Below w.heap.size w w' := by
  have h : Calls Try.prog 42 #[.string key, .string info, .int .i64 32] w fun e w' => e = .returned (.tuple #[.string (str (expL key.data.toList info.data.toList 32)), .int .i64 0]) ∧ Below w.heap.size w w' := cExpand key info 32 w h1 h2 (by omega)
  have e : str (expL key.data.toList info.data.toList 32) = ky key info := by unfold ky; rfl
  rw [e] at h
  obtain ⟨X, HX⟩ : ∃ x, Hid (ky key info = x) := ⟨_, Lib.hid rfl⟩
  rw [HX.out] at h
  rw [HX.out]
  have H := Lib.hid h
  clear h e
  go_enter Try.func40, Try.ntmps40
  go_wp2_with fail
  (with_reducible refine H.out.mono ?_); rintro e w1 ⟨rfl, hb1⟩
  go_wp2_with fail
  go_ret
  exact ⟨rfl, hb1⟩
abbrev nmB : ByteArray := ⟨#[115, 108, 101, 100, 103, 101, 32, 98, 121, 116, 101, 115]⟩
abbrev nmT : ByteArray := ⟨#[115, 108, 101, 100, 103, 101, 32, 116, 97, 103, 115]⟩
abbrev nmH : ByteArray := ⟨#[115, 108, 101, 100, 103, 101, 32, 104, 101, 97, 100, 115]⟩
theorem keys_size : (Try.prog.info? 34).map (·.size) = some 3 := by kernel_rfl
set_option maxRecDepth 100000 in
theorem cKeys (secret salt : ByteArray) (w : World) (h1 : secret.size ≤ 1000) (h2 : salt.size ≤ 1000) :
    Calls Try.prog 17 #[.string secret, .string salt] w fun e w' => e = .returned (.agg #[.string (ky (kx salt secret) nmB), .string (ky (kx salt secret) nmT), .string (ky (kx ⟨#[]⟩ secret) nmH)]) ∧ Below w.heap.size w w' := by
  have g1 := fun W => cExtract' salt secret W (by omega) (by omega)
  have g2 := fun W => cExtract' ⟨#[]⟩ secret W (by decide) (by omega)
  have z1 := kx_size salt secret
  have z2 := kx_size ⟨#[]⟩ secret
  obtain ⟨X, HX⟩ : ∃ x, Hid (kx salt secret = x) := ⟨_, Lib.hid rfl⟩
  obtain ⟨Y, HY⟩ : ∃ x, Hid (kx ⟨#[]⟩ secret = x) := ⟨_, Lib.hid rfl⟩
  simp only [HX.out] at g1 z1
  simp only [HY.out] at g2 z2
  rw [HX.out, HY.out]
  have o1 := fun W => cOf X nmB W (by omega) (by decide)
  have o2 := fun W => cOf X nmT W (by omega) (by decide)
  have o3 := fun W => cOf Y nmH W (by omega) (by decide)
  obtain ⟨A, HA⟩ : ∃ x, Hid (ky X nmB = x) := ⟨_, Lib.hid rfl⟩
  obtain ⟨B, HB⟩ : ∃ x, Hid (ky X nmT = x) := ⟨_, Lib.hid rfl⟩
  obtain ⟨C, HC⟩ : ∃ x, Hid (ky Y nmH = x) := ⟨_, Lib.hid rfl⟩
  simp only [HA.out] at o1
  simp only [HB.out] at o2
  simp only [HC.out] at o3
  rw [HA.out, HB.out, HC.out]
  have G1 := Lib.hid g1
  have G2 := Lib.hid g2
  have O1 := Lib.hid o1
  have O2 := Lib.hid o2
  have O3 := Lib.hid o3
  clear g1 g2 o1 o2 o3
  have HONE : Hid (∀ v ∈ (#[.string A, .string B, .string C] : Array Value).toList, v.oneCell' = true) := Lib.hid (by intro v hv; simp at hv; rcases hv with rfl | rfl | rfl <;> rfl)
  have hK := Blk.new w 34 #[.string ⟨#[]⟩, .string ⟨#[]⟩, .string ⟨#[]⟩]
  have hB : Below w.heap.size w (w.alloc (.cells #[.string ⟨#[]⟩, .string ⟨#[]⟩, .string ⟨#[]⟩] 34)) := (Below.refl _ _).alloc (Nat.le_refl _) _
  go_enter Try.func17, Try.ntmps17
  go_wp2_with fail
  (with_reducible refine (G1.out _).mono ?_); rintro e w1 ⟨rfl, hb⟩
  replace hK := hK.below hb hK.lt
  replace hB := hB.trans (hb.mono hB.size)
  clear hb
  go_wp2_with fail
  (with_reducible refine (O1.out _).mono ?_); rintro e w2 ⟨rfl, hb⟩
  replace hK := hK.below hb hK.lt
  replace hB := hB.trans (hb.mono hB.size)
  clear hb
  go_wp2_with fail
  (with_reducible refine (O2.out _).mono ?_); rintro e w3 ⟨rfl, hb⟩
  replace hK := hK.below hb hK.lt
  replace hB := hB.trans (hb.mono hB.size)
  clear hb
  go_wp2_with fail
  (with_reducible refine (G2.out _).mono ?_); rintro e w4 ⟨rfl, hb⟩
  replace hK := hK.below hb hK.lt
  replace hB := hB.trans (hb.mono hB.size)
  clear hb
  go_wp2_with fail
  (with_reducible refine (O3.out _).mono ?_); rintro e w5 ⟨rfl, hb⟩
  replace hK := hK.below hb hK.lt
  replace hB := hB.trans (hb.mono hB.size)
  clear hb
  go_wp2_with ((refine wpList_store_blk rfl 34 (.tmp 4) (.tmp 16) rfl w.heap.size #[.string A, .string B, .string C] #[.string ⟨#[]⟩, .string ⟨#[]⟩, .string ⟨#[]⟩] 34 rfl rfl hK keys_size rfl HONE.out ?_); dsimp only [Act.put])
  exact bodyPost_ret (results_cell_row rfl _ _ w.heap.size 34 #[.string A, .string B, .string C] (0, 0) _ rfl (hK.row _) Try.underlying34 rfl keys_size) rfl ⟨rfl, below_row hB (Nat.le_refl _) _⟩
set_option maxRecDepth 100000 in
theorem crKeys (secret salt : ByteArray) (w : World) (h1 : secret.size ≤ 1000) (h2 : salt.size ≤ 1000) :
    Calls Try.prog 18 #[.string secret, .string salt] w fun e w' => e = .returned (.agg #[.string (ky (kx salt secret) nmB), .string (ky (kx salt secret) nmT), .string (ky (kx ⟨#[]⟩ secret) nmH)]) ∧ Below w.heap.size w w' := by
  have g1 := fun W => crTag' salt secret W (by omega) (by omega)
  have g2 := fun W => crTag' ⟨#[]⟩ secret W (by decide) (by omega)
  have z1 := kx_size salt secret
  have z2 := kx_size ⟨#[]⟩ secret
  obtain ⟨X, HX⟩ : ∃ x, Hid (kx salt secret = x) := ⟨_, Lib.hid rfl⟩
  obtain ⟨Y, HY⟩ : ∃ x, Hid (kx ⟨#[]⟩ secret = x) := ⟨_, Lib.hid rfl⟩
  simp only [HX.out] at g1 z1
  simp only [HY.out] at g2 z2
  rw [HX.out, HY.out]
  have o1 := fun W => crExpand' X nmB W (by omega) (by decide)
  have o2 := fun W => crExpand' X nmT W (by omega) (by decide)
  have o3 := fun W => crExpand' Y nmH W (by omega) (by decide)
  obtain ⟨A, HA⟩ : ∃ x, Hid (ky X nmB = x) := ⟨_, Lib.hid rfl⟩
  obtain ⟨B, HB⟩ : ∃ x, Hid (ky X nmT = x) := ⟨_, Lib.hid rfl⟩
  obtain ⟨C, HC⟩ : ∃ x, Hid (ky Y nmH = x) := ⟨_, Lib.hid rfl⟩
  simp only [HA.out] at o1
  simp only [HB.out] at o2
  simp only [HC.out] at o3
  rw [HA.out, HB.out, HC.out]
  have G1 := Lib.hid g1
  have G2 := Lib.hid g2
  have O1 := Lib.hid o1
  have O2 := Lib.hid o2
  have O3 := Lib.hid o3
  clear g1 g2 o1 o2 o3
  have HONE : Hid (∀ v ∈ (#[.string A, .string B, .string C] : Array Value).toList, v.oneCell' = true) := Lib.hid (by intro v hv; simp at hv; rcases hv with rfl | rfl | rfl <;> rfl)
  have hK := Blk.new w 34 #[.string ⟨#[]⟩, .string ⟨#[]⟩, .string ⟨#[]⟩]
  have hB : Below w.heap.size w (w.alloc (.cells #[.string ⟨#[]⟩, .string ⟨#[]⟩, .string ⟨#[]⟩] 34)) := (Below.refl _ _).alloc (Nat.le_refl _) _
  go_enter Try.func18, Try.ntmps18
  go_wp2_with fail
  (with_reducible refine (G1.out _).mono ?_); rintro e w1 ⟨rfl, hb⟩
  replace hK := hK.below hb hK.lt
  replace hB := hB.trans (hb.mono hB.size)
  clear hb
  go_wp2_with fail
  (with_reducible refine (O1.out _).mono ?_); rintro e w2 ⟨rfl, hb⟩
  replace hK := hK.below hb hK.lt
  replace hB := hB.trans (hb.mono hB.size)
  clear hb
  go_wp2_with fail
  (with_reducible refine (O2.out _).mono ?_); rintro e w3 ⟨rfl, hb⟩
  replace hK := hK.below hb hK.lt
  replace hB := hB.trans (hb.mono hB.size)
  clear hb
  go_wp2_with fail
  (with_reducible refine (G2.out _).mono ?_); rintro e w4 ⟨rfl, hb⟩
  replace hK := hK.below hb hK.lt
  replace hB := hB.trans (hb.mono hB.size)
  clear hb
  go_wp2_with fail
  (with_reducible refine (O3.out _).mono ?_); rintro e w5 ⟨rfl, hb⟩
  replace hK := hK.below hb hK.lt
  replace hB := hB.trans (hb.mono hB.size)
  clear hb
  go_wp2_with ((refine wpList_store_blk rfl 34 (.tmp 4) (.tmp 34) rfl w.heap.size #[.string A, .string B, .string C] #[.string ⟨#[]⟩, .string ⟨#[]⟩, .string ⟨#[]⟩] 34 rfl rfl hK keys_size rfl HONE.out ?_); dsimp only [Act.put])
  exact bodyPost_ret (results_cell_row rfl _ _ w.heap.size 34 #[.string A, .string B, .string C] (0, 0) _ rfl (hK.row _) Try.underlying34 rfl keys_size) rfl ⟨rfl, below_row hB (Nat.le_refl _) _⟩
end Go.Proofs.Ytbofmfocnbennaa
