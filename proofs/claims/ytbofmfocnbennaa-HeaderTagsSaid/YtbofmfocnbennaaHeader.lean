/- header.fields, Check, Put and the reference's. -/
import Derived.Test.YtbofmfocnbennaaRefFixed
namespace Go.Proofs.Ytbofmfocnbennaa
open Go.RowKit
set_option linter.unusedVariables false
set_option linter.unusedSimpArgs false
set_option maxRecDepth 100000

structure Hd where
  id : Int
  salt : ByteArray
  n : Int
  bytes : Int
  raw : Int
  root : ByteArray
  tag : ByteArray
def Hd.cells (h : Hd) : Array Value := #[.int .i64 h.id, .string h.salt, .int .i64 h.n, .int .i64 h.bytes, .int .i64 h.raw, .string h.root, .string h.tag]
def Hd.val (h : Hd) : Value := .agg h.cells
/-- The bytes without the tag. -/
def Hd.fields (h : Hd) : ByteArray := (⟨#[83, 76, 71, 49]⟩ : ByteArray) ++ str (be h.id 4) ++ h.salt ++ str (be h.n 2) ++ str (be h.bytes 4) ++ str (be h.raw 4) ++ h.root

theorem mark_size : (⟨#[83, 76, 71, 49]⟩ : ByteArray).size = 4 := rfl

set_option maxRecDepth 100000 in
theorem cfields (h : Hd) (w : World) (hs : h.salt.size ≤ 1000) (hr : h.root.size ≤ 1000) : Calls Try.prog 35 #[.agg #[.int .i64 h.id, .string h.salt, .int .i64 h.n, .int .i64 h.bytes, .int .i64 h.raw, .string h.root, .string h.tag]] w fun e w' => e = .returned (.string h.fields) ∧ Below w.heap.size w w' := by
  obtain ⟨id, salt, n, bytes, raw, root, tag⟩ := h
  dsimp only at hs hr ⊢
  unfold Hd.fields
  have z1 : (str (be id 4)).size = 4 := by rw [str_size, be_length]
  have z2 : (str (be n 2)).size = 2 := by rw [str_size, be_length]
  have z3 : (str (be bytes 4)).size = 4 := by rw [str_size, be_length]
  have z4 : (str (be raw 4)).size = 4 := by rw [str_size, be_length]
  have z0 := mark_size
  go_enter Try.func35, Try.ntmps35
  go_wp2_with fail
  have hS := Blk.new w 23 #[.int .i64 id, .string salt, .int .i64 n, .int .i64 bytes, .int .i64 raw, .string root, .string tag]
  have hB : Below w.heap.size w (w.alloc (.cells #[.int .i64 id, .string salt, .int .i64 n, .int .i64 bytes, .int .i64 raw, .string root, .string tag] 23)) := (Below.refl _ _).alloc (Nat.le_refl _) _
  refine wp_region_lexS (fun w' => Blk w' w.heap.size 23 #[.int .i64 id, .string salt, .int .i64 n, .int .i64 bytes, .int .i64 raw, .string root, .string tag]) 0 [] (by kernel_rfl) (by kernel_rfl) hS.drew ?_
  replace hS := hS.drew
  replace hB := below_drewN hB 1
  repeat (first
    | (refine wpX_load0 rfl rfl _ _ rfl _ rfl _ rfl Try.underlying3 _ (fun w' h => (Blk.cell h _).trans rfl) hS ?_; simp only [Act.put, List.setIfInBounds_toArray, List.set_cons_zero, List.set_cons_succ, List.getElem_toArray, List.getElem_cons_zero, List.getElem_cons_succ])
    | (refine wpX_load0 rfl rfl _ _ rfl _ rfl _ rfl Try.underlying9 _ (fun w' h => (Blk.cell h _).trans rfl) hS ?_; simp only [Act.put, List.setIfInBounds_toArray, List.set_cons_zero, List.set_cons_succ, List.getElem_toArray, List.getElem_cons_zero, List.getElem_cons_succ])
    | (refine wpX_pure rfl rfl rfl ?_; intro K hK; go_big_quiet_op; refine hK _ ?_; clear hK K)
    | (refine wpX_eff rfl rfl ?_; intro K hK; go_wp2_with (go_at_call 54; ((first | with_reducible refine (cFixed4 _ _).mono ?_ | with_reducible refine (cFixed2 _ _).mono ?_); rintro e w' ⟨rfl, hb⟩)); refine hK _ _ (hS.below hb hS.lt) ?_; clear hK K; replace hB := hB.trans (hb.mono hB.size); replace hS := hS.below hb hS.lt; clear hb))
  refine wpX_nil ?_
  go_wp2
  go_ret
  exact ⟨rfl, hB⟩

/-- A header may be. -/
def Hd.may (h : Hd) : Prop := (1 ≤ h.id ∧ h.id ≤ 4294967295 ∧ (h.salt.size : Int) = 16 ∧ (h.root.size : Int) = 32 ∧ (h.tag.size : Int) = 32) ∧ (1 ≤ h.bytes ∧ h.bytes ≤ 49152 ∧ h.n = (h.bytes + 191) / 192 ∧ 1 ≤ h.raw ∧ h.raw ≤ 134217728)

set_option maxRecDepth 100000 in
theorem cCheck_yes (h : Hd) (w : World) (hm : h.may) : Calls Try.prog 34 #[.agg #[.int .i64 h.id, .string h.salt, .int .i64 h.n, .int .i64 h.bytes, .int .i64 h.raw, .string h.root, .string h.tag]] w fun e w' => e = .returned (.int .i64 0) ∧ Below w.heap.size w w' := by
  obtain ⟨id, salt, n, bytes, raw, root, tag⟩ := h
  obtain ⟨⟨q1, q2, q3, q4, q5⟩, q6, q7, q8, q9, q10⟩ := hm
  dsimp only at q1 q2 q3 q4 q5 q6 q7 q8 q9 q10 ⊢
  have e1 : ((salt.size : Int) == 16) = true := by simp; omega
  have e2 : ((root.size : Int) == 32) = true := by simp; omega
  have e3 : ((tag.size : Int) == 32) = true := by simp; omega
  have e4 : (n == (bytes + 191) / 192) = true := by simp; omega
  subst q8
  go_enter Try.func34, Try.ntmps34
  go_wp2_with fail
  go_ret
  exact ⟨rfl, (Below.refl _ _).alloc (Nat.le_refl _) _⟩

set_option maxRecDepth 100000 in
theorem cCheck_no (h : Hd) (w : World) (hm : ¬ h.may) : Calls Try.prog 34 #[.agg #[.int .i64 h.id, .string h.salt, .int .i64 h.n, .int .i64 h.bytes, .int .i64 h.raw, .string h.root, .string h.tag]] w fun e w' => e = .returned (.int .i64 1) ∧ Below w.heap.size w w' := by
  obtain ⟨id, salt, n, bytes, raw, root, tag⟩ := h
  have hm : Hid (¬ ((1 ≤ id ∧ id ≤ 4294967295 ∧ (salt.size : Int) = 16 ∧ (root.size : Int) = 32 ∧ (tag.size : Int) = 32) ∧ (1 ≤ bytes ∧ bytes ≤ 49152 ∧ n = (bytes + 191) / 192 ∧ 1 ≤ raw ∧ raw ≤ 134217728))) := Lib.hid hm
  dsimp only
  go_enter Try.func34, Try.ntmps34
  go_wp2_with fail
  all_goals first
    | (go_ret; exact ⟨rfl, (Below.refl _ _).alloc (Nat.le_refl _) _⟩)
    | (exfalso; have h := hm.out; simp at *; omega)

/-! ### the reference's -/
set_option maxRecDepth 100000 in
theorem crFields (h : Hd) (w : World) (hs : h.salt.size ≤ 1000) (hr : h.root.size ≤ 1000) : Calls Try.prog 22 #[.agg #[.int .i64 h.id, .string h.salt, .int .i64 h.n, .int .i64 h.bytes, .int .i64 h.raw, .string h.root, .string h.tag]] w fun e w' => e = .returned (.string h.fields) ∧ Below w.heap.size w w' := by
  obtain ⟨id, salt, n, bytes, raw, root, tag⟩ := h
  dsimp only at hs hr ⊢
  unfold Hd.fields
  have z1 : (str (be id 4)).size = 4 := by rw [str_size, be_length]
  have z2 : (str (be n 2)).size = 2 := by rw [str_size, be_length]
  have z3 : (str (be bytes 4)).size = 4 := by rw [str_size, be_length]
  have z4 : (str (be raw 4)).size = 4 := by rw [str_size, be_length]
  have z0 := mark_size
  go_enter Try.func22, Try.ntmps22
  go_wp2_with fail
  have hS := Blk.new w 23 #[.int .i64 id, .string salt, .int .i64 n, .int .i64 bytes, .int .i64 raw, .string root, .string tag]
  have hB : Below w.heap.size w (w.alloc (.cells #[.int .i64 id, .string salt, .int .i64 n, .int .i64 bytes, .int .i64 raw, .string root, .string tag] 23)) := (Below.refl _ _).alloc (Nat.le_refl _) _
  refine wp_region_lexS (fun w' => Blk w' w.heap.size 23 #[.int .i64 id, .string salt, .int .i64 n, .int .i64 bytes, .int .i64 raw, .string root, .string tag]) 0 [] (by kernel_rfl) (by kernel_rfl) hS.drew ?_
  replace hS := hS.drew
  replace hB := below_drewN hB 1
  repeat (first
    | (refine wpX_load0 rfl rfl _ _ rfl _ rfl _ rfl Try.underlying3 _ (fun w' h => (Blk.cell h _).trans rfl) hS ?_; simp only [Act.put, List.setIfInBounds_toArray, List.set_cons_zero, List.set_cons_succ, List.getElem_toArray, List.getElem_cons_zero, List.getElem_cons_succ])
    | (refine wpX_load0 rfl rfl _ _ rfl _ rfl _ rfl Try.underlying9 _ (fun w' h => (Blk.cell h _).trans rfl) hS ?_; simp only [Act.put, List.setIfInBounds_toArray, List.set_cons_zero, List.set_cons_succ, List.getElem_toArray, List.getElem_cons_zero, List.getElem_cons_succ])
    | (refine wpX_pure rfl rfl rfl ?_; intro K hK; go_big_quiet_op; refine hK _ ?_; clear hK K)
    | (refine wpX_eff rfl rfl ?_; intro K hK; go_wp2_with (go_at_call 46; ((first | with_reducible refine (crFixed4 _ _).mono ?_ | with_reducible refine (crFixed2 _ _).mono ?_); rintro e w' ⟨rfl, hb⟩)); refine hK _ _ (hS.below hb hS.lt) ?_; clear hK K; replace hB := hB.trans (hb.mono hB.size); replace hS := hS.below hb hS.lt; clear hb))
  refine wpX_nil ?_
  go_wp2
  go_ret
  exact ⟨rfl, hB⟩

set_option maxRecDepth 100000 in
theorem cMay_yes (h : Hd) (w : World) (hm : h.may) : Calls Try.prog 25 #[.agg #[.int .i64 h.id, .string h.salt, .int .i64 h.n, .int .i64 h.bytes, .int .i64 h.raw, .string h.root, .string h.tag]] w fun e w' => e = .returned (.bool true) ∧ Below w.heap.size w w' := by
  obtain ⟨id, salt, n, bytes, raw, root, tag⟩ := h
  obtain ⟨⟨q1, q2, q3, q4, q5⟩, q6, q7, q8, q9, q10⟩ := hm
  dsimp only at q1 q2 q3 q4 q5 q6 q7 q8 q9 q10 ⊢
  have e1 : ((salt.size : Int) == 16) = true := by simp; omega
  have e2 : ((root.size : Int) == 32) = true := by simp; omega
  have e3 : ((tag.size : Int) == 32) = true := by simp; omega
  have hQ := Lib.hid q8
  clear q8
  go_enter Try.func25, Try.ntmps25
  go_wp2_with fail
  all_goals
    go_ret
    refine ⟨?_, (Below.refl _ _).alloc (Nat.le_refl _) _⟩
    have := hQ.out
    simp
    omega

set_option maxRecDepth 100000 in
theorem cMay_no (h : Hd) (w : World) (hm : ¬ h.may) : Calls Try.prog 25 #[.agg #[.int .i64 h.id, .string h.salt, .int .i64 h.n, .int .i64 h.bytes, .int .i64 h.raw, .string h.root, .string h.tag]] w fun e w' => e = .returned (.bool false) ∧ Below w.heap.size w w' := by
  obtain ⟨id, salt, n, bytes, raw, root, tag⟩ := h
  have hm : Hid (¬ ((1 ≤ id ∧ id ≤ 4294967295 ∧ (salt.size : Int) = 16 ∧ (root.size : Int) = 32 ∧ (tag.size : Int) = 32) ∧ (1 ≤ bytes ∧ bytes ≤ 49152 ∧ n = (bytes + 191) / 192 ∧ 1 ≤ raw ∧ raw ≤ 134217728))) := Lib.hid hm
  dsimp only
  go_enter Try.func25, Try.ntmps25
  go_wp2_with fail
  all_goals first
    | (go_ret; exact ⟨rfl, (Below.refl _ _).alloc (Nat.le_refl _) _⟩)
    | (go_ret; refine ⟨?_, (Below.refl _ _).alloc (Nat.le_refl _) _⟩; have h := hm.out; simp at *; omega)
end Go.Proofs.Ytbofmfocnbennaa
