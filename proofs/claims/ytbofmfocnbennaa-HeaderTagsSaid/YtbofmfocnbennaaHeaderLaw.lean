/- The law's light, zeros, awake; the walk of HeaderPuts. -/
import Derived.Test.YtbofmfocnbennaaHeaderPut
import Derived.Test.YtbofmfocnbennaaSized
namespace Go.Proofs.Ytbofmfocnbennaa
open Go.RowKit
set_option linter.unusedVariables false
set_option linter.unusedSimpArgs false

def Hd.light (h : Hd) : Prop := (h.salt.size : Int) ≤ 1000 ∧ (h.root.size : Int) ≤ 1000 ∧ (h.tag.size : Int) ≤ 1000
set_option maxRecDepth 100000 in
theorem clight_yes (h : Hd) (w : World) (hm : h.light) : Calls Try.prog 12 #[.agg #[.int .i64 h.id, .string h.salt, .int .i64 h.n, .int .i64 h.bytes, .int .i64 h.raw, .string h.root, .string h.tag]] w fun e w' => e = .returned (.bool true) ∧ Below w.heap.size w w' := by
  obtain ⟨id, salt, n, bytes, raw, root, tag⟩ := h
  obtain ⟨q1, q2, q3⟩ := hm
  dsimp only at q1 q2 q3 ⊢
  go_enter Try.func12, Try.ntmps12
  go_wp2_with fail
  go_ret
  exact ⟨rfl, (Below.refl _ _).alloc (Nat.le_refl _) _⟩
set_option maxRecDepth 100000 in
theorem clight_no (h : Hd) (w : World) (hm : ¬ h.light) : Calls Try.prog 12 #[.agg #[.int .i64 h.id, .string h.salt, .int .i64 h.n, .int .i64 h.bytes, .int .i64 h.raw, .string h.root, .string h.tag]] w fun e w' => e = .returned (.bool false) ∧ Below w.heap.size w w' := by
  obtain ⟨id, salt, n, bytes, raw, root, tag⟩ := h
  have hm : Hid (¬ ((salt.size : Int) ≤ 1000 ∧ (root.size : Int) ≤ 1000 ∧ (tag.size : Int) ≤ 1000)) := Lib.hid hm
  dsimp only
  go_enter Try.func12, Try.ntmps12
  go_wp2_with fail
  all_goals first
    | (go_ret; exact ⟨rfl, (Below.refl _ _).alloc (Nat.le_refl _) _⟩)
    | (go_ret; refine ⟨?_, (Below.refl _ _).alloc (Nat.le_refl _) _⟩; have h := hm.out; simp at *; omega)

def zer (n : Nat) : ByteArray := str (List.replicate n 0)
theorem zer_size (n : Nat) : (zer n).size = n := by unfold zer; rw [str_size, List.length_replicate]
theorem run_mk (n : Nat) (hn : n ≤ 64) (w : World) (hm : madeCells (Value.int .u8 0).cells n = bcells (List.replicate n 0)) : (Instr.makeSlice 43 (.int .i64 (n : Int)) (.int .i64 (n : Int))).run Try.prog w = .ok (.slice (some ⟨w.heap.size, 0, none⟩) n n) (w.alloc (.cells (bcells (List.replicate n 0)) 5)) := by
  obtain ⟨i, hi, hz0, hz1, hz2⟩ := byte_elem.hi
  rw [run_makeSlice (P := Try.prog) w 43 5 i (.int .u8 0) byte_elem.ht hi hz0 .i64 .i64 n n (by omega) (by omega) (by rw [hz1]; omega) (by rw [hz2]; omega) (by omega)]
  simp only [Int.toNat_natCast, hz1, Nat.mul_one, hm]
theorem run_zer (n : Nat) (w : World) : (convert 43 9 (.slice (some ⟨w.heap.size, 0, none⟩) n n)).run Try.prog (w.alloc (.cells (bcells (List.replicate n 0)) 5)) = .ok (.string (zer n)) (w.alloc (.cells (bcells (List.replicate n 0)) 5)) :=
  conv_bytes (P := Try.prog) Try.underlying43 Try.underlying5 Try.underlying9 _ ⟨w.heap.size, 0, none⟩ n n (List.replicate n 0) List.length_replicate (fun j hj => blk_bytes (Blk.new w 5 (bcells (List.replicate n 0))) j (by rw [List.length_replicate]; exact hj))
theorem czeros16 (w : World) : Calls Try.prog 33 #[.int .i64 16] w fun e w' => e = .returned (.string (zer 16)) ∧ Below w.heap.size w w' := by
  have hcv := run_zer 16 w
  have hms : (Instr.makeSlice 43 (.int .i64 16) (.int .i64 16)).run Try.prog w = .ok (.slice (some ⟨w.heap.size, 0, none⟩) 16 16) (w.alloc (.cells (bcells (List.replicate 16 0)) 5)) := run_mk 16 (by omega) w (by kernel_rfl)
  have hB : Below w.heap.size w (w.alloc (.cells (bcells (List.replicate 16 0)) 5)) := (Below.refl _ _).alloc (Nat.le_refl _) _
  obtain ⟨w1, HW⟩ : ∃ w1, Hid (w.alloc (.cells (bcells (List.replicate 16 0)) 5) = w1) := ⟨_, Lib.hid rfl⟩
  rw [HW.out] at hcv hms hB
  go_enter Try.func33, Try.ntmps33
  go_wp2
  go_ret
  exact ⟨rfl, hB⟩
theorem czeros32 (w : World) : Calls Try.prog 33 #[.int .i64 32] w fun e w' => e = .returned (.string (zer 32)) ∧ Below w.heap.size w w' := by
  have hcv := run_zer 32 w
  have hms : (Instr.makeSlice 43 (.int .i64 32) (.int .i64 32)).run Try.prog w = .ok (.slice (some ⟨w.heap.size, 0, none⟩) 32 32) (w.alloc (.cells (bcells (List.replicate 32 0)) 5)) := run_mk 32 (by omega) w (by kernel_rfl)
  have hB : Below w.heap.size w (w.alloc (.cells (bcells (List.replicate 32 0)) 5)) := (Below.refl _ _).alloc (Nat.le_refl _) _
  obtain ⟨w1, HW⟩ : ∃ w1, Hid (w.alloc (.cells (bcells (List.replicate 32 0)) 5) = w1) := ⟨_, Lib.hid rfl⟩
  rw [HW.out] at hcv hms hB
  go_enter Try.func33, Try.ntmps33
  go_wp2
  go_ret
  exact ⟨rfl, hB⟩

def awakeH : Hd := ⟨7, zer 16, 1, 5, 9, zer 32, zer 32⟩
theorem awakeH_may : awakeH.may := by
  unfold Hd.may awakeH
  simp [zer_size]
theorem awakeH_bytes : (awakeH.fields ++ awakeH.tag).extract 0 8 = ⟨#[83, 76, 71, 49, 0, 0, 0, 7]⟩ := by decide +kernel
theorem awakeH_size : (awakeH.fields ++ awakeH.tag).size = 98 := by
  unfold Hd.fields awakeH
  simp only [ByteArray.size_append, str_size, be_length, mark_size, zer_size]
set_option maxRecDepth 100000 in
theorem cAwake18 (w : World) : Calls Try.prog 13 #[] w fun e w' => e = .returned (.bool true) ∧ Below w.heap.size w w' := by
  have hb := awakeH_bytes
  have hz := awakeH_size
  have hc := fun W => cPut_yes awakeH W awakeH_may
  obtain ⟨x, HX⟩ : ∃ x, Hid (awakeH.fields ++ awakeH.tag = x) := ⟨_, Lib.hid rfl⟩
  rw [HX.out] at hb hz
  go_enter Try.func13, Try.ntmps13
  go_wp2_with fail
  (with_reducible refine (czeros16 _).mono ?_); rintro e w1 ⟨rfl, hb1⟩
  go_wp2_with fail
  (with_reducible refine (czeros32 _).mono ?_); rintro e w2 ⟨rfl, hb2⟩
  go_wp2_with fail
  (with_reducible refine (czeros32 _).mono ?_); rintro e w3 ⟨rfl, hb3⟩
  go_wp2_with fail
  (refine (hc _).mono ?_); rw [HX.out]; rintro e w4 ⟨rfl, hb4⟩
  have q2 := hb1.trans (hb2.mono hb1.size)
  have q3 := q2.trans (hb3.mono q2.size)
  have q4 := q3.trans (hb4.mono q3.size)
  clear hb1 hb2 hb3 hb4 q2 q3 hc
  go_wp2
  go_ret
  exact ⟨rfl, q4⟩

end Go.Proofs.Ytbofmfocnbennaa
