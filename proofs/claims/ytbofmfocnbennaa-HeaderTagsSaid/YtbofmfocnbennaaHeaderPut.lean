/- header.Put and the reference's Put; the law's light, zeros, awake; the walk of HeaderPuts. -/
import Derived.Test.YtbofmfocnbennaaHeader
namespace Go.Proofs.Ytbofmfocnbennaa
open Go.RowKit
set_option linter.unusedVariables false
set_option linter.unusedSimpArgs false
set_option maxRecDepth 100000

def Hd.row (h : Hd) : Array Value := #[.int .i64 h.id, .string h.salt, .int .i64 h.n, .int .i64 h.bytes, .int .i64 h.raw, .string h.root, .string h.tag]
theorem header_size : (Try.prog.info? 23).map (·.size) = some 7 := by kernel_rfl
theorem fields_size (h : Hd) (hs : h.salt.size ≤ 1000) (hr : h.root.size ≤ 1000) : h.fields.size ≤ 3000 := by
  unfold Hd.fields
  simp only [ByteArray.size_append, str_size, be_length, mark_size]
  omega

set_option maxRecDepth 100000 in
theorem cPut_yes (h : Hd) (w : World) (hm : h.may) : Calls Try.prog 14 #[.agg #[.int .i64 h.id, .string h.salt, .int .i64 h.n, .int .i64 h.bytes, .int .i64 h.raw, .string h.root, .string h.tag]] w fun e w' => e = .returned (.tuple #[.string (h.fields ++ h.tag), .int .i64 0]) ∧ Below w.heap.size w w' := by
  have HM := Lib.hid hm
  obtain ⟨⟨q1, q2, q3, q4, q5⟩, q6, q7, q8, q9, q10⟩ := hm
  have hs : h.salt.size ≤ 1000 := by omega
  have hr : h.root.size ≤ 1000 := by omega
  have ht : h.tag.size ≤ 1000 := by omega
  have hf := fields_size h hs hr
  clear q1 q2 q3 q4 q5 q6 q7 q8 q9 q10
  have hS := Blk.new w 23 #[.int .i64 h.id, .string h.salt, .int .i64 h.n, .int .i64 h.bytes, .int .i64 h.raw, .string h.root, .string h.tag]
  go_enter Try.func14, Try.ntmps14
  go_wp2_with (first
    | ((with_reducible refine wpList_load_row rfl 23 (.tmp 1) rfl w.heap.size rfl 23 #[.int .i64 h.id, .string h.salt, .int .i64 h.n, .int .i64 h.bytes, .int .i64 h.raw, .string h.root, .string h.tag] (0, 0) _ hS Try.underlying23 rfl header_size ?_); simp only [Act.put, List.setIfInBounds_toArray, List.set_cons_zero, List.set_cons_succ])
    | (go_at_call 34; ((with_reducible refine (cCheck_yes h _ HM.out).mono ?_); rintro e w1 ⟨rfl, hb⟩)))
  have hS1 := hS.below hb hS.lt
  have hB : Below w.heap.size w w1 := ((Below.refl _ _).alloc (Nat.le_refl _) _).trans (hb.mono (by simp))
  clear hS hb
  refine wp_region_lexS (fun w' => Blk w' w.heap.size 23 #[.int .i64 h.id, .string h.salt, .int .i64 h.n, .int .i64 h.bytes, .int .i64 h.raw, .string h.root, .string h.tag]) 0 [(0, 2)] (by kernel_rfl) (by kernel_rfl) hS1.drew ?_
  have hS := hS1.drew
  replace hB := below_drewN hB 1
  refine wpX_eff rfl rfl ?_; intro K hK
  (refine wpList_load_row rfl 23 (.tmp 1) rfl w.heap.size rfl 23 #[.int .i64 h.id, .string h.salt, .int .i64 h.n, .int .i64 h.bytes, .int .i64 h.raw, .string h.root, .string h.tag] (0, 0) _ hS Try.underlying23 rfl header_size ?_)
  refine wpList_nil (hK _ _ hS ?_); clear hK K
  simp only [Act.put, List.setIfInBounds_toArray, List.set_cons_zero, List.set_cons_succ]
  repeat (first
    | (refine wpX_load0 rfl rfl _ _ rfl _ rfl _ rfl Try.underlying9 _ (fun w' h => (Blk.cell h _).trans rfl) hS ?_; simp only [Act.put, List.setIfInBounds_toArray, List.set_cons_zero, List.set_cons_succ, List.getElem_toArray, List.getElem_cons_zero, List.getElem_cons_succ])
    | (refine wpX_pure rfl rfl rfl ?_; intro K hK; go_big_quiet_op; refine hK _ ?_; clear hK K)
    | (refine wpX_eff rfl rfl ?_; intro K hK; go_wp2_with (go_at_call 35; (with_reducible refine (cfields h _ hs hr).mono ?_); rintro e w' ⟨rfl, hb⟩); refine hK _ _ (hS.below hb hS.lt) ?_; clear hK K; replace hB := hB.trans (hb.mono hB.size); replace hS := hS.below hb hS.lt; clear hb))
  refine wpX_nil ?_
  go_wp2
  go_ret2
  exact ⟨rfl, hB⟩

set_option maxRecDepth 100000 in
theorem cPut_no (h : Hd) (w : World) (hm : ¬ h.may) : Calls Try.prog 14 #[.agg #[.int .i64 h.id, .string h.salt, .int .i64 h.n, .int .i64 h.bytes, .int .i64 h.raw, .string h.root, .string h.tag]] w fun e w' => e = .returned (.tuple #[.string ⟨#[]⟩, .int .i64 1]) ∧ Below w.heap.size w w' := by
  have HM := Lib.hid hm
  clear hm
  have hS := Blk.new w 23 #[.int .i64 h.id, .string h.salt, .int .i64 h.n, .int .i64 h.bytes, .int .i64 h.raw, .string h.root, .string h.tag]
  go_enter Try.func14, Try.ntmps14
  go_wp2_with (first
    | ((with_reducible refine wpList_load_row rfl 23 (.tmp 1) rfl w.heap.size rfl 23 #[.int .i64 h.id, .string h.salt, .int .i64 h.n, .int .i64 h.bytes, .int .i64 h.raw, .string h.root, .string h.tag] (0, 0) _ hS Try.underlying23 rfl header_size ?_); simp only [Act.put, List.setIfInBounds_toArray, List.set_cons_zero, List.set_cons_succ])
    | (go_at_call 34; ((with_reducible refine (cCheck_no h _ HM.out).mono ?_); rintro e w1 ⟨rfl, hb⟩)))
  go_ret2
  exact ⟨rfl, ((Below.refl _ _).alloc (Nat.le_refl _) _).trans (hb.mono (by simp))⟩

end Go.Proofs.Ytbofmfocnbennaa
