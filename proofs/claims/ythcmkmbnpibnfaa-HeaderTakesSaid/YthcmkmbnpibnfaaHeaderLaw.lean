/- The law's light, zeros, awake; the walk of HeaderPuts. -/
import Derived.Test.YthcmkmbnpibnfaaHeaderPut
namespace Go.Proofs.Ythcmkmbnpibnfaa
open Go.RowKit

def Hd.light (h : Hd) : Prop := (h.salt.size : Int) ≤ 1000 ∧ (h.root.size : Int) ≤ 1000 ∧ (h.tag.size : Int) ≤ 1000
set_option maxRecDepth 100000 in
theorem clight_yes (h : Hd) (w : World) (hm : h.light) : Calls Try.prog 15 #[.agg #[.int .i64 h.id, .string h.salt, .int .i64 h.n, .int .i64 h.bytes, .int .i64 h.raw, .string h.root, .string h.tag]] w fun e w' => e = .returned (.bool true) ∧ Below w.heap.size w w' := by
  obtain ⟨id, salt, n, bytes, raw, root, tag⟩ := h
  obtain ⟨q1, q2, q3⟩ := hm
  dsimp only at q1 q2 q3 ⊢
  go_enter Try.func15, Try.ntmps15
  go_wp2_with fail
  go_ret
  exact ⟨rfl, (Below.refl _ _).alloc (Nat.le_refl _) _⟩
set_option maxRecDepth 100000 in
theorem clight_no (h : Hd) (w : World) (hm : ¬ h.light) : Calls Try.prog 15 #[.agg #[.int .i64 h.id, .string h.salt, .int .i64 h.n, .int .i64 h.bytes, .int .i64 h.raw, .string h.root, .string h.tag]] w fun e w' => e = .returned (.bool false) ∧ Below w.heap.size w w' := by
  obtain ⟨id, salt, n, bytes, raw, root, tag⟩ := h
  have hm : Hid (¬ ((salt.size : Int) ≤ 1000 ∧ (root.size : Int) ≤ 1000 ∧ (tag.size : Int) ≤ 1000)) := Lib.hid hm
  dsimp only
  go_enter Try.func15, Try.ntmps15
  go_wp2_with fail
  all_goals first
    | (go_ret; exact ⟨rfl, (Below.refl _ _).alloc (Nat.le_refl _) _⟩)
    | (go_ret; refine ⟨?_, (Below.refl _ _).alloc (Nat.le_refl _) _⟩; have h := hm.out; simp at *; omega)

def zer (n : Nat) : ByteArray := str (List.replicate n 0)
theorem zer_size (n : Nat) : (zer n).size = n := by unfold zer; rw [str_size, List.length_replicate]
theorem run_mk (n : Nat) (hn : n ≤ 64) (w : World) (hm : madeCells (Value.int .u8 0).cells n = bcells (List.replicate n 0)) : (Instr.makeSlice 58 (.int .i64 (n : Int)) (.int .i64 (n : Int))).run Try.prog w = .ok (.slice (some ⟨w.heap.size, 0, none⟩) n n) (w.alloc (.cells (bcells (List.replicate n 0)) 5)) := by
  obtain ⟨i, hi, hz0, hz1, hz2⟩ := byte_elem.hi
  rw [run_makeSlice (P := Try.prog) w 58 5 i (.int .u8 0) byte_elem.ht hi hz0 .i64 .i64 n n (by omega) (by omega) (by rw [hz1]; omega) (by rw [hz2]; omega) (by omega)]
  simp only [Int.toNat_natCast, hz1, Nat.mul_one, hm]
theorem run_zer (n : Nat) (w : World) : (convert 58 9 (.slice (some ⟨w.heap.size, 0, none⟩) n n)).run Try.prog (w.alloc (.cells (bcells (List.replicate n 0)) 5)) = .ok (.string (zer n)) (w.alloc (.cells (bcells (List.replicate n 0)) 5)) :=
  conv_bytes (P := Try.prog) Try.underlying58 Try.underlying5 Try.underlying9 _ ⟨w.heap.size, 0, none⟩ n n (List.replicate n 0) List.length_replicate (fun j hj => blk_bytes (Blk.new w 5 (bcells (List.replicate n 0))) j (by rw [List.length_replicate]; exact hj))
theorem czeros16 (w : World) : Calls Try.prog 30 #[.int .i64 16] w fun e w' => e = .returned (.string (zer 16)) ∧ Below w.heap.size w w' := by
  have hcv := run_zer 16 w
  have hms : (Instr.makeSlice 58 (.int .i64 16) (.int .i64 16)).run Try.prog w = .ok (.slice (some ⟨w.heap.size, 0, none⟩) 16 16) (w.alloc (.cells (bcells (List.replicate 16 0)) 5)) := run_mk 16 (by omega) w (by kernel_rfl)
  have hB : Below w.heap.size w (w.alloc (.cells (bcells (List.replicate 16 0)) 5)) := (Below.refl _ _).alloc (Nat.le_refl _) _
  obtain ⟨w1, HW⟩ : ∃ w1, Hid (w.alloc (.cells (bcells (List.replicate 16 0)) 5) = w1) := ⟨_, Lib.hid rfl⟩
  rw [HW.out] at hcv hms hB
  go_enter Try.func30, Try.ntmps30
  go_wp2
  go_ret
  exact ⟨rfl, hB⟩
theorem czeros32 (w : World) : Calls Try.prog 30 #[.int .i64 32] w fun e w' => e = .returned (.string (zer 32)) ∧ Below w.heap.size w w' := by
  have hcv := run_zer 32 w
  have hms : (Instr.makeSlice 58 (.int .i64 32) (.int .i64 32)).run Try.prog w = .ok (.slice (some ⟨w.heap.size, 0, none⟩) 32 32) (w.alloc (.cells (bcells (List.replicate 32 0)) 5)) := run_mk 32 (by omega) w (by kernel_rfl)
  have hB : Below w.heap.size w (w.alloc (.cells (bcells (List.replicate 32 0)) 5)) := (Below.refl _ _).alloc (Nat.le_refl _) _
  obtain ⟨w1, HW⟩ : ∃ w1, Hid (w.alloc (.cells (bcells (List.replicate 32 0)) 5) = w1) := ⟨_, Lib.hid rfl⟩
  rw [HW.out] at hcv hms hB
  go_enter Try.func30, Try.ntmps30
  go_wp2
  go_ret
  exact ⟨rfl, hB⟩

def awakeH : Hd := ⟨7, zer 16, 1, 5, 9, zer 32, zer 32⟩
theorem awakeH_may : awakeH.may := by
  unfold Hd.may awakeH
  simp [zer_size]
theorem awakeH_bytes : (awakeH.fields ++ awakeH.tag).extract 0 8 = ⟨#[83, 76, 71, 49, 0, 0, 0, 7]⟩ := by decide +kernel
theorem awakeH_size : (awakeH.fields ++ awakeH.tag).size = 98 := by
  unfold Hd.fields awakeH
  simp only [ByteArray.size_append, str_size, be_length, mark_size, zer_size]
set_option maxRecDepth 100000 in
theorem cAwake18 (w : World) : Calls Try.prog 16 #[] w fun e w' => e = .returned (.bool true) ∧ Below w.heap.size w w' := by
  have hb := awakeH_bytes
  have hz := awakeH_size
  have hc := fun W => cPut_yes awakeH W awakeH_may
  obtain ⟨x, HX⟩ : ∃ x, Hid (awakeH.fields ++ awakeH.tag = x) := ⟨_, Lib.hid rfl⟩
  rw [HX.out] at hb hz
  go_enter Try.func16, Try.ntmps16
  go_wp2_with fail
  (with_reducible refine (czeros16 _).mono ?_); rintro e w1 ⟨rfl, hb1⟩
  go_wp2_with fail
  (with_reducible refine (czeros32 _).mono ?_); rintro e w2 ⟨rfl, hb2⟩
  go_wp2_with fail
  (with_reducible refine (czeros32 _).mono ?_); rintro e w3 ⟨rfl, hb3⟩
  go_wp2_with fail
  (refine (hc _).mono ?_); rw [HX.out]; rintro e w4 ⟨rfl, hb4⟩
  have q2 := hb1.trans (hb2.mono hb1.size)
  have q3 := q2.trans (hb3.mono q2.size)
  have q4 := q3.trans (hb4.mono q3.size)
  clear hb1 hb2 hb3 hb4 q2 q3 hc
  go_wp2
  go_ret
  exact ⟨rfl, q4⟩

set_option maxRecDepth 100000 in
theorem headerPuts_walk (h : Hd) (w : World) :
    Calls Try.prog 4 #[.agg #[.int .i64 h.id, .string h.salt, .int .i64 h.n, .int .i64 h.bytes, .int .i64 h.raw, .string h.root, .string h.tag]] w fun e w' => e = .returned (.bool true) ∧ Below w.heap.size w w' := by
  have hS := Blk.new w 27 #[.int .i64 h.id, .string h.salt, .int .i64 h.n, .int .i64 h.bytes, .int .i64 h.raw, .string h.root, .string h.tag]
  have hB : Below w.heap.size w (w.alloc (.cells #[.int .i64 h.id, .string h.salt, .int .i64 h.n, .int .i64 h.bytes, .int .i64 h.raw, .string h.root, .string h.tag] 27)) := (Below.refl _ _).alloc (Nat.le_refl _) _
  by_cases hl : h.light
  · have HL := Lib.hid hl
    clear hl
    have hx : ∃ (x : ByteArray) (n : Int), ∀ W : World,
        (Calls Try.prog 17 #[.agg #[.int .i64 h.id, .string h.salt, .int .i64 h.n, .int .i64 h.bytes, .int .i64 h.raw, .string h.root, .string h.tag]] W fun e w' => e = .returned (.tuple #[.string x, .int .i64 n]) ∧ Below W.heap.size W w') ∧
        (Calls Try.prog 18 #[.agg #[.int .i64 h.id, .string h.salt, .int .i64 h.n, .int .i64 h.bytes, .int .i64 h.raw, .string h.root, .string h.tag]] W fun e w' => e = .returned (.tuple #[.string x, .int .i64 n]) ∧ Below W.heap.size W w') ∧
        (Calls Try.prog 19 #[.agg #[.int .i64 h.id, .string h.salt, .int .i64 h.n, .int .i64 h.bytes, .int .i64 h.raw, .string h.root, .string h.tag]] W fun e w' => e = .returned (.int .i64 n) ∧ Below W.heap.size W w') := by
      by_cases hm : h.may
      · exact ⟨_, _, fun W => ⟨cPut_yes h W hm, crPut_yes h W hm, cCheck_yes h W hm⟩⟩
      · exact ⟨_, _, fun W => ⟨cPut_no h W hm, crPut_no h W hm, cCheck_no h W hm⟩⟩
    obtain ⟨x, n, hx⟩ := hx
    have HX := Lib.hid hx
    clear hx
    go_enter Try.func4, Try.ntmps4
    go_wp2_with ((with_reducible refine wpList_load_row rfl 27 (.tmp 1) rfl w.heap.size rfl 27 #[.int .i64 h.id, .string h.salt, .int .i64 h.n, .int .i64 h.bytes, .int .i64 h.raw, .string h.root, .string h.tag] (0, 0) _ hS Try.underlying27 rfl header_size ?_); simp only [Act.put, List.setIfInBounds_toArray, List.set_cons_zero, List.set_cons_succ])
    (with_reducible refine (clight_yes h _ HL.out).mono ?_); rintro e w1 ⟨rfl, hb⟩
    replace hS := hS.below hb hS.lt
    replace hB := hB.trans (hb.mono hB.size)
    clear hb
    go_wp2_with ((refine wpList_load_row rfl 27 (.tmp 1) rfl w.heap.size rfl 27 #[.int .i64 h.id, .string h.salt, .int .i64 h.n, .int .i64 h.bytes, .int .i64 h.raw, .string h.root, .string h.tag] (0, 0) _ hS Try.underlying27 rfl header_size ?_); simp only [Act.put, List.setIfInBounds_toArray, List.set_cons_zero, List.set_cons_succ])
    (with_reducible refine (HX.out _).1.mono ?_); rintro e w2 ⟨rfl, hb⟩
    replace hS := hS.below hb hS.lt
    replace hB := hB.trans (hb.mono hB.size)
    clear hb
    go_wp2_with ((refine wpList_load_row rfl 27 (.tmp 1) rfl w.heap.size rfl 27 #[.int .i64 h.id, .string h.salt, .int .i64 h.n, .int .i64 h.bytes, .int .i64 h.raw, .string h.root, .string h.tag] (0, 0) _ hS Try.underlying27 rfl header_size ?_); simp only [Act.put, List.setIfInBounds_toArray, List.set_cons_zero, List.set_cons_succ])
    (with_reducible refine (HX.out _).2.1.mono ?_); rintro e w3 ⟨rfl, hb⟩
    replace hS := hS.below hb hS.lt
    replace hB := hB.trans (hb.mono hB.size)
    clear hb
    have c0 : w3.cell? ⟨w.heap.size, 0, none⟩ = some (.int .i64 h.id) := (hS.cell 0).trans rfl
    have c1 : w3.cell? ⟨w.heap.size, 1, none⟩ = some (.string h.salt) := (hS.cell 1).trans rfl
    have c2 : w3.cell? ⟨w.heap.size, 2, none⟩ = some (.int .i64 h.n) := (hS.cell 2).trans rfl
    have c3 : w3.cell? ⟨w.heap.size, 3, none⟩ = some (.int .i64 h.bytes) := (hS.cell 3).trans rfl
    have c4 : w3.cell? ⟨w.heap.size, 4, none⟩ = some (.int .i64 h.raw) := (hS.cell 4).trans rfl
    have c5 : w3.cell? ⟨w.heap.size, 5, none⟩ = some (.string h.root) := (hS.cell 5).trans rfl
    have c6 : w3.cell? ⟨w.heap.size, 6, none⟩ = some (.string h.tag) := (hS.cell 6).trans rfl
    go_wp2_with fail
    (with_reducible refine (HX.out _).2.2.mono ?_); rintro e w4 ⟨rfl, hb⟩
    replace hB := hB.trans (hb.mono hB.size)
    clear hb
    go_wp2_with fail
    (with_reducible refine (cAwake18 _).mono ?_); rintro e w5 ⟨rfl, hb⟩
    replace hB := hB.trans (hb.mono hB.size)
    go_wp2
    go_ret
    exact ⟨rfl, hB⟩
  · have HL := Lib.hid hl
    clear hl
    go_enter Try.func4, Try.ntmps4
    go_wp2_with ((with_reducible refine wpList_load_row rfl 27 (.tmp 1) rfl w.heap.size rfl 27 #[.int .i64 h.id, .string h.salt, .int .i64 h.n, .int .i64 h.bytes, .int .i64 h.raw, .string h.root, .string h.tag] (0, 0) _ hS Try.underlying27 rfl header_size ?_); simp only [Act.put, List.setIfInBounds_toArray, List.set_cons_zero, List.set_cons_succ])
    (with_reducible refine (clight_no h _ HL.out).mono ?_); rintro e w1 ⟨rfl, hb⟩
    replace hB := hB.trans (hb.mono hB.size)
    clear hb
    go_wp2_with fail
    (with_reducible refine (cAwake18 _).mono ?_); rintro e w2 ⟨rfl, hb⟩
    replace hB := hB.trans (hb.mono hB.size)
    go_wp2
    go_ret
    exact ⟨rfl, hB⟩
end Go.Proofs.Ythcmkmbnpibnfaa
