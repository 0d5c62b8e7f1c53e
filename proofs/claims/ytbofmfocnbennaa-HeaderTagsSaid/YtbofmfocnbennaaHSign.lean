/- header.Sign, header.Verify, the reference's Verify. -/
import Derived.Test.YtbofmfocnbennaaHBackL
import Derived.Test.YtbofmfocnbennaaMacOne
import Derived.Test.YtbofmfocnbennaaRefMac
import Derived.Test.YtbofmfocnbennaaMacEq
import Derived.Test.YtbofmfocnbennaaOnly
namespace Go.Proofs.Ytbofmfocnbennaa
open Go.RowKit
set_option linter.unusedVariables false
set_option linter.unusedSimpArgs false

/-- The tag of a header's fields. -/
def htag (key : ByteArray) (h : Hd) : ByteArray := str (tagL key.data.toList h.fields.data.toList)
theorem htag_size (key : ByteArray) (h : Hd) : (htag key h).size = 32 := by unfold htag; rw [str_size, tagL_length]
attribute [irreducible] htag
theorem cTagH (key : ByteArray) (h : Hd) (W : World) (hk : key.size ≤ 1000000) (hs : h.salt.size ≤ 1000) (hr : h.root.size ≤ 1000) : Calls Try.prog 43 #[.string key, .slice (some ⟨W.heap.size, 0, none⟩) 1 1] (W.alloc (.cells #[.string h.fields] 9)) fun e w' => e = .returned (.string (htag key h)) ∧ Below W.heap.size W w' := by
  unfold htag
  have := fields_size h hs hr
  exact cTag1 key h.fields W (by omega) (by omega)
theorem crTagH (key : ByteArray) (h : Hd) (W : World) (hk : key.size ≤ 1000000) (hs : h.salt.size ≤ 1000) (hr : h.root.size ≤ 1000) : Calls Try.prog 21 #[.string key, .string h.fields] W fun e w' => e = .returned (.string (htag key h)) ∧ Below W.heap.size W w' := by
  unfold htag
  have := fields_size h hs hr
  exact crTag key h.fields W (by omega) (by omega)
theorem Blk.range' {w : World} {g : Nat} {t : TypeId} {cs : List Value} (h : Blk w g t cs.toArray) : w.rangeAt g 0 cs := fun j v hj => by
  rw [Nat.zero_add, h.cell]; simpa using hj
set_option maxRecDepth 100000 in
set_option maxHeartbeats 4000000 in
theorem cSign (key : ByteArray) (h : Hd) (w : World) (hk : key.size ≤ 1000000) (hs : h.salt.size ≤ 1000) (hr : h.root.size ≤ 1000) :
    Calls Try.prog 20 #[.string key, .agg #[.int .i64 h.id, .string h.salt, .int .i64 h.n, .int .i64 h.bytes, .int .i64 h.raw, .string h.root, .string h.tag]] w fun e w' => e = .returned (.agg #[.int .i64 h.id, .string h.salt, .int .i64 h.n, .int .i64 h.bytes, .int .i64 h.raw, .string h.root, .string (htag key h)]) ∧ Below w.heap.size w w' := by
  have f1 := fun W => cfields h W hs hr
  have t1 := fun W => cTagH key h W hk hs hr
  obtain ⟨F, HF⟩ : ∃ x, Hid (h.fields = x) := ⟨_, Lib.hid rfl⟩
  obtain ⟨G, HG⟩ : ∃ x, Hid (htag key h = x) := ⟨_, Lib.hid rfl⟩
  simp only [HF.out] at f1 t1
  simp only [HG.out] at t1
  rw [HG.out]
  have F1 := Lib.hid f1
  have T1 := Lib.hid t1
  have HONE : Hid (∀ v ∈ (#[.int .i64 h.id, .string h.salt, .int .i64 h.n, .int .i64 h.bytes, .int .i64 h.raw, .string h.root, .string G] : Array Value).toList, v.oneCell' = true) := Lib.hid (by intro v hv; simp at hv; rcases hv with rfl | rfl | rfl | rfl | rfl | rfl | rfl <;> rfl)
  have hS := (Blk.new w 23 #[.int .i64 h.id, .string h.salt, .int .i64 h.n, .int .i64 h.bytes, .int .i64 h.raw, .string h.root, .string h.tag]).alloc (.cells #[.int .i64 0, .string ⟨#[]⟩, .int .i64 0, .int .i64 0, .int .i64 0, .string ⟨#[]⟩, .string ⟨#[]⟩] 23)
  have hR := Blk.new (w.alloc (.cells #[.int .i64 h.id, .string h.salt, .int .i64 h.n, .int .i64 h.bytes, .int .i64 h.raw, .string h.root, .string h.tag] 23)) 23 #[.int .i64 0, .string ⟨#[]⟩, .int .i64 0, .int .i64 0, .int .i64 0, .string ⟨#[]⟩, .string ⟨#[]⟩]
  have hsz : (w.alloc (.cells #[.int .i64 h.id, .string h.salt, .int .i64 h.n, .int .i64 h.bytes, .int .i64 h.raw, .string h.root, .string h.tag] 23)).heap.size = w.heap.size + 1 := by simp
  rw [hsz] at hR
  have hB : Below w.heap.size w ((w.alloc (.cells #[.int .i64 h.id, .string h.salt, .int .i64 h.n, .int .i64 h.bytes, .int .i64 h.raw, .string h.root, .string h.tag] 23)).alloc (.cells #[.int .i64 0, .string ⟨#[]⟩, .int .i64 0, .int .i64 0, .int .i64 0, .string ⟨#[]⟩, .string ⟨#[]⟩] 23)) := ((Below.refl _ _).alloc (Nat.le_refl _) _).alloc (by rw [hsz]; omega) _
  clear f1 t1 hsz
  have c0 : ((w.alloc (.cells #[.int .i64 h.id, .string h.salt, .int .i64 h.n, .int .i64 h.bytes, .int .i64 h.raw, .string h.root, .string h.tag] 23)).alloc (.cells #[.int .i64 0, .string ⟨#[]⟩, .int .i64 0, .int .i64 0, .int .i64 0, .string ⟨#[]⟩, .string ⟨#[]⟩] 23)).cell? ⟨w.heap.size, 0, none⟩ = some (.int .i64 h.id) := (hS.cell 0).trans rfl
  have c1 : ((w.alloc (.cells #[.int .i64 h.id, .string h.salt, .int .i64 h.n, .int .i64 h.bytes, .int .i64 h.raw, .string h.root, .string h.tag] 23)).alloc (.cells #[.int .i64 0, .string ⟨#[]⟩, .int .i64 0, .int .i64 0, .int .i64 0, .string ⟨#[]⟩, .string ⟨#[]⟩] 23)).cell? ⟨w.heap.size, 1, none⟩ = some (.string h.salt) := (hS.cell 1).trans rfl
  have c2 : ((w.alloc (.cells #[.int .i64 h.id, .string h.salt, .int .i64 h.n, .int .i64 h.bytes, .int .i64 h.raw, .string h.root, .string h.tag] 23)).alloc (.cells #[.int .i64 0, .string ⟨#[]⟩, .int .i64 0, .int .i64 0, .int .i64 0, .string ⟨#[]⟩, .string ⟨#[]⟩] 23)).cell? ⟨w.heap.size, 2, none⟩ = some (.int .i64 h.n) := (hS.cell 2).trans rfl
  have c3 : ((w.alloc (.cells #[.int .i64 h.id, .string h.salt, .int .i64 h.n, .int .i64 h.bytes, .int .i64 h.raw, .string h.root, .string h.tag] 23)).alloc (.cells #[.int .i64 0, .string ⟨#[]⟩, .int .i64 0, .int .i64 0, .int .i64 0, .string ⟨#[]⟩, .string ⟨#[]⟩] 23)).cell? ⟨w.heap.size, 3, none⟩ = some (.int .i64 h.bytes) := (hS.cell 3).trans rfl
  have c4 : ((w.alloc (.cells #[.int .i64 h.id, .string h.salt, .int .i64 h.n, .int .i64 h.bytes, .int .i64 h.raw, .string h.root, .string h.tag] 23)).alloc (.cells #[.int .i64 0, .string ⟨#[]⟩, .int .i64 0, .int .i64 0, .int .i64 0, .string ⟨#[]⟩, .string ⟨#[]⟩] 23)).cell? ⟨w.heap.size, 4, none⟩ = some (.int .i64 h.raw) := (hS.cell 4).trans rfl
  have c5 : ((w.alloc (.cells #[.int .i64 h.id, .string h.salt, .int .i64 h.n, .int .i64 h.bytes, .int .i64 h.raw, .string h.root, .string h.tag] 23)).alloc (.cells #[.int .i64 0, .string ⟨#[]⟩, .int .i64 0, .int .i64 0, .int .i64 0, .string ⟨#[]⟩, .string ⟨#[]⟩] 23)).cell? ⟨w.heap.size, 5, none⟩ = some (.string h.root) := (hS.cell 5).trans rfl
  have c6 : ((w.alloc (.cells #[.int .i64 h.id, .string h.salt, .int .i64 h.n, .int .i64 h.bytes, .int .i64 h.raw, .string h.root, .string h.tag] 23)).alloc (.cells #[.int .i64 0, .string ⟨#[]⟩, .int .i64 0, .int .i64 0, .int .i64 0, .string ⟨#[]⟩, .string ⟨#[]⟩] 23)).cell? ⟨w.heap.size, 6, none⟩ = some (.string h.tag) := (hS.cell 6).trans rfl
  go_enter Try.func20, Try.ntmps20
  go_wp2_with fail
  (with_reducible refine (F1.out _).mono ?_); rintro e w1 ⟨rfl, hb⟩
  replace hS := hS.below hb hS.lt
  replace hR := hR.below hb hR.lt
  replace hB := hB.trans (hb.mono hB.size)
  clear hb c0 c1 c2 c3 c4 c5 c6
  go_wp2_with fail
  (with_reducible refine (T1.out _).mono ?_); rintro e w2 ⟨rfl, hb⟩
  replace hS := hS.below hb hS.lt
  replace hR := hR.below hb hR.lt
  replace hB := hB.trans (hb.mono hB.size)
  clear hb
  have c6 : w2.cell? ⟨w.heap.size, 6, none⟩ = some (.string h.tag) := (hS.cell 6).trans rfl
  have f6 : w2.frozen? ⟨w.heap.size, 6, none⟩ = false := hS.frozen 6
  have hS3 : Blk (w2.setCell ⟨w.heap.size, 6, none⟩ (.string G)) w.heap.size 23 #[.int .i64 h.id, .string h.salt, .int .i64 h.n, .int .i64 h.bytes, .int .i64 h.raw, .string h.root, .string G] := hS.set_ 6 (.string G)
  have hR3 := hR.far (p := ⟨w.heap.size, 6, none⟩) (by show w.heap.size + 1 ≠ w.heap.size; omega) (.string G)
  have hB3 := hB.setCell (p := ⟨w.heap.size, 6, none⟩) (Nat.le_refl _) (.string G)
  have d0 : (w2.setCell ⟨w.heap.size, 6, none⟩ (.string G)).cell? ⟨w.heap.size, 0, none⟩ = some (.int .i64 h.id) := (hS3.cell 0).trans rfl
  have d1 : (w2.setCell ⟨w.heap.size, 6, none⟩ (.string G)).cell? ⟨w.heap.size, 1, none⟩ = some (.string h.salt) := (hS3.cell 1).trans rfl
  have d2 : (w2.setCell ⟨w.heap.size, 6, none⟩ (.string G)).cell? ⟨w.heap.size, 2, none⟩ = some (.int .i64 h.n) := (hS3.cell 2).trans rfl
  have d3 : (w2.setCell ⟨w.heap.size, 6, none⟩ (.string G)).cell? ⟨w.heap.size, 3, none⟩ = some (.int .i64 h.bytes) := (hS3.cell 3).trans rfl
  have d4 : (w2.setCell ⟨w.heap.size, 6, none⟩ (.string G)).cell? ⟨w.heap.size, 4, none⟩ = some (.int .i64 h.raw) := (hS3.cell 4).trans rfl
  have d5 : (w2.setCell ⟨w.heap.size, 6, none⟩ (.string G)).cell? ⟨w.heap.size, 5, none⟩ = some (.string h.root) := (hS3.cell 5).trans rfl
  have d6 : (w2.setCell ⟨w.heap.size, 6, none⟩ (.string G)).cell? ⟨w.heap.size, 6, none⟩ = some (.string G) := (hS3.cell 6).trans rfl
  clear hS hR hB
  go_wp2_with (refine wpList_store_blk rfl 23 (.tmp 4) (.tmp 11) rfl (w.heap.size + 1) #[.int .i64 h.id, .string h.salt, .int .i64 h.n, .int .i64 h.bytes, .int .i64 h.raw, .string h.root, .string G] #[.int .i64 0, .string ⟨#[]⟩, .int .i64 0, .int .i64 0, .int .i64 0, .string ⟨#[]⟩, .string ⟨#[]⟩] 23 rfl rfl hR3 header_size rfl HONE.out ?_; dsimp only [Act.put])
  exact bodyPost_ret (results_cell_row rfl _ _ (w.heap.size + 1) 23 #[.int .i64 h.id, .string h.salt, .int .i64 h.n, .int .i64 h.bytes, .int .i64 h.raw, .string h.root, .string G] (0, 0) _ rfl (hR3.row _) Try.underlying23 rfl header_size) rfl ⟨rfl, below_row hB3 (by omega) _⟩
theorem beq_text_ne' {x y : ByteArray} (h : ¬ x = y) : (x.toList == y.toList) = false := by
  rw [ByteArray.toList_eq, ByteArray.toList_eq]
  exact beq_false_of_ne fun h2 => h (ba_ext h2)
set_option maxRecDepth 100000 in
theorem cVerify_no (key : ByteArray) (h : Hd) (w : World) (hm : ¬ h.may) : Calls Try.prog 23 #[.string key, .agg #[.int .i64 h.id, .string h.salt, .int .i64 h.n, .int .i64 h.bytes, .int .i64 h.raw, .string h.root, .string h.tag]] w fun e w' => e = .returned (.int .i64 1) ∧ Below w.heap.size w w' := by
  have HM := Lib.hid hm
  have hS := Blk.new w 23 #[.int .i64 h.id, .string h.salt, .int .i64 h.n, .int .i64 h.bytes, .int .i64 h.raw, .string h.root, .string h.tag]
  have hB : Below w.heap.size w (w.alloc (.cells #[.int .i64 h.id, .string h.salt, .int .i64 h.n, .int .i64 h.bytes, .int .i64 h.raw, .string h.root, .string h.tag] 23)) := (Below.refl _ _).alloc (Nat.le_refl _) _
  clear hm
  have c0 : (w.alloc (.cells #[.int .i64 h.id, .string h.salt, .int .i64 h.n, .int .i64 h.bytes, .int .i64 h.raw, .string h.root, .string h.tag] 23)).cell? ⟨w.heap.size, 0, none⟩ = some (.int .i64 h.id) := (hS.cell 0).trans rfl
  have c1 : (w.alloc (.cells #[.int .i64 h.id, .string h.salt, .int .i64 h.n, .int .i64 h.bytes, .int .i64 h.raw, .string h.root, .string h.tag] 23)).cell? ⟨w.heap.size, 1, none⟩ = some (.string h.salt) := (hS.cell 1).trans rfl
  have c2 : (w.alloc (.cells #[.int .i64 h.id, .string h.salt, .int .i64 h.n, .int .i64 h.bytes, .int .i64 h.raw, .string h.root, .string h.tag] 23)).cell? ⟨w.heap.size, 2, none⟩ = some (.int .i64 h.n) := (hS.cell 2).trans rfl
  have c3 : (w.alloc (.cells #[.int .i64 h.id, .string h.salt, .int .i64 h.n, .int .i64 h.bytes, .int .i64 h.raw, .string h.root, .string h.tag] 23)).cell? ⟨w.heap.size, 3, none⟩ = some (.int .i64 h.bytes) := (hS.cell 3).trans rfl
  have c4 : (w.alloc (.cells #[.int .i64 h.id, .string h.salt, .int .i64 h.n, .int .i64 h.bytes, .int .i64 h.raw, .string h.root, .string h.tag] 23)).cell? ⟨w.heap.size, 4, none⟩ = some (.int .i64 h.raw) := (hS.cell 4).trans rfl
  have c5 : (w.alloc (.cells #[.int .i64 h.id, .string h.salt, .int .i64 h.n, .int .i64 h.bytes, .int .i64 h.raw, .string h.root, .string h.tag] 23)).cell? ⟨w.heap.size, 5, none⟩ = some (.string h.root) := (hS.cell 5).trans rfl
  have c6 : (w.alloc (.cells #[.int .i64 h.id, .string h.salt, .int .i64 h.n, .int .i64 h.bytes, .int .i64 h.raw, .string h.root, .string h.tag] 23)).cell? ⟨w.heap.size, 6, none⟩ = some (.string h.tag) := (hS.cell 6).trans rfl
  go_enter Try.func23, Try.ntmps23
  go_wp2_with fail
  (with_reducible refine (cCheck_no h _ HM.out).mono ?_); rintro e w1 ⟨rfl, hb⟩
  replace hB := hB.trans (hb.mono hB.size)
  clear hb c0 c1 c2 c3 c4 c5 c6
  go_wp2_with fail
  go_ret
  exact ⟨rfl, hB⟩
set_option maxRecDepth 100000 in
set_option maxHeartbeats 4000000 in
theorem cVerify_yes (key : ByteArray) (h : Hd) (w : World) (hk : key.size ≤ 1000000) (hm : h.may) : Calls Try.prog 23 #[.string key, .agg #[.int .i64 h.id, .string h.salt, .int .i64 h.n, .int .i64 h.bytes, .int .i64 h.raw, .string h.root, .string h.tag]] w fun e w' => e = .returned (.int .i64 (if htag key h = h.tag then 0 else 4)) ∧ Below w.heap.size w w' := by
  have HM := Lib.hid hm
  obtain ⟨⟨q1, q2, q3, q4, q5⟩, q6, q7, q8, q9, q10⟩ := hm
  have hs : h.salt.size ≤ 1000 := by omega
  have hr : h.root.size ≤ 1000 := by omega
  have ht : h.tag.size = 32 := by omega
  clear q1 q2 q3 q4 q5 q6 q7 q8 q9 q10
  have f1 := fun W => cfields h W hs hr
  have t1 := fun W => cTagH key h W hk hs hr
  have hz := htag_size key h
  obtain ⟨F, HF⟩ : ∃ x, Hid (h.fields = x) := ⟨_, Lib.hid rfl⟩
  obtain ⟨G, HG⟩ : ∃ x, Hid (htag key h = x) := ⟨_, Lib.hid rfl⟩
  simp only [HF.out] at f1 t1
  simp only [HG.out] at t1
  rw [HG.out] at hz
  rw [HG.out]
  have F1 := Lib.hid f1
  have T1 := Lib.hid t1
  have e1 := fun W => cEqual G h.tag W (by omega) (by omega)
  have E1 := Lib.hid e1
  clear e1
  have hS := Blk.new w 23 #[.int .i64 h.id, .string h.salt, .int .i64 h.n, .int .i64 h.bytes, .int .i64 h.raw, .string h.root, .string h.tag]
  have hB : Below w.heap.size w (w.alloc (.cells #[.int .i64 h.id, .string h.salt, .int .i64 h.n, .int .i64 h.bytes, .int .i64 h.raw, .string h.root, .string h.tag] 23)) := (Below.refl _ _).alloc (Nat.le_refl _) _
  clear f1 t1 hs hr
  have c0 : (w.alloc (.cells #[.int .i64 h.id, .string h.salt, .int .i64 h.n, .int .i64 h.bytes, .int .i64 h.raw, .string h.root, .string h.tag] 23)).cell? ⟨w.heap.size, 0, none⟩ = some (.int .i64 h.id) := (hS.cell 0).trans rfl
  have c1 : (w.alloc (.cells #[.int .i64 h.id, .string h.salt, .int .i64 h.n, .int .i64 h.bytes, .int .i64 h.raw, .string h.root, .string h.tag] 23)).cell? ⟨w.heap.size, 1, none⟩ = some (.string h.salt) := (hS.cell 1).trans rfl
  have c2 : (w.alloc (.cells #[.int .i64 h.id, .string h.salt, .int .i64 h.n, .int .i64 h.bytes, .int .i64 h.raw, .string h.root, .string h.tag] 23)).cell? ⟨w.heap.size, 2, none⟩ = some (.int .i64 h.n) := (hS.cell 2).trans rfl
  have c3 : (w.alloc (.cells #[.int .i64 h.id, .string h.salt, .int .i64 h.n, .int .i64 h.bytes, .int .i64 h.raw, .string h.root, .string h.tag] 23)).cell? ⟨w.heap.size, 3, none⟩ = some (.int .i64 h.bytes) := (hS.cell 3).trans rfl
  have c4 : (w.alloc (.cells #[.int .i64 h.id, .string h.salt, .int .i64 h.n, .int .i64 h.bytes, .int .i64 h.raw, .string h.root, .string h.tag] 23)).cell? ⟨w.heap.size, 4, none⟩ = some (.int .i64 h.raw) := (hS.cell 4).trans rfl
  have c5 : (w.alloc (.cells #[.int .i64 h.id, .string h.salt, .int .i64 h.n, .int .i64 h.bytes, .int .i64 h.raw, .string h.root, .string h.tag] 23)).cell? ⟨w.heap.size, 5, none⟩ = some (.string h.root) := (hS.cell 5).trans rfl
  have c6 : (w.alloc (.cells #[.int .i64 h.id, .string h.salt, .int .i64 h.n, .int .i64 h.bytes, .int .i64 h.raw, .string h.root, .string h.tag] 23)).cell? ⟨w.heap.size, 6, none⟩ = some (.string h.tag) := (hS.cell 6).trans rfl
  go_enter Try.func23, Try.ntmps23
  go_wp2_with fail
  (with_reducible refine (cCheck_yes h _ HM.out).mono ?_); rintro e w1 ⟨rfl, hb⟩
  replace hS := hS.below hb hS.lt
  replace hB := hB.trans (hb.mono hB.size)
  clear hb c0 c1 c2 c3 c4 c5 c6
  go_wp2_with fail
  have hBd := hB.drew
  have lg : w.heap.size < w1.drew.heap.size := hS.lt
  have rg : w1.drew.rangeAt w.heap.size 0 [.int .i64 h.id, .string h.salt, .int .i64 h.n, .int .i64 h.bytes, .int .i64 h.raw, .string h.root, .string h.tag] := Blk.range' hS.drew
  have d6 : w1.drew.cell? ⟨w.heap.size, 6, none⟩ = some (.string h.tag) := (hS.drew.cell 6).trans rfl
  have hS0 := Below.refl w1.drew.heap.size w1.drew
  clear hS hB
  by_cases hgt : G = h.tag
  · have hdc : decide (G = h.tag) = true := decide_eq_true hgt
    simp only [hdc] at E1
    have HGT := Lib.hid hgt
    clear hgt hdc
    refine wp_region_lexS (fun w' => Below w1.drew.heap.size w1.drew w') 0 [] (by kernel_rfl) (by kernel_rfl) hS0 ?_
    repeat (first
      | (refine wpX_load_mid rfl rfl 23 (.tmp 3) rfl w.heap.size 0 rfl [.int .i64 h.id, .string h.salt, .int .i64 h.n, .int .i64 h.bytes, .int .i64 h.raw, .string h.root, .string h.tag] _ (fun w' h j x hj => (h.cell lg).trans (rg j x hj)) Try.underlying23 rfl header_size hS0 ?_; simp only [Act.put, List.setIfInBounds_toArray, List.set_cons_zero, List.set_cons_succ, List.getElem_toArray, List.getElem_cons_zero, List.getElem_cons_succ])
      | (refine wpX_load0 rfl rfl _ _ rfl _ rfl _ rfl Try.underlying9 _ (fun w' h => (h.cell lg).trans d6) hS0 ?_; simp only [Act.put, List.setIfInBounds_toArray, List.set_cons_zero, List.set_cons_succ, List.getElem_toArray, List.getElem_cons_zero, List.getElem_cons_succ])
      | (refine wpX_pure rfl rfl rfl ?_; intro K hK; go_big_quiet_op; refine hK _ ?_; clear hK K))
    refine wpX_eff rfl rfl ?_; intro K hK; go_wp2_with fail
    (with_reducible refine (F1.out _).mono ?_); rintro e w5 ⟨rfl, hb⟩
    go_wp2_with fail
    refine hK _ _ (hS0.trans (hb.mono hS0.size)) ?_; clear hK K
    replace hS0 := hS0.trans (hb.mono hS0.size)
    clear hb
    repeat (first
      | (refine wpX_load_mid rfl rfl 23 (.tmp 3) rfl w.heap.size 0 rfl [.int .i64 h.id, .string h.salt, .int .i64 h.n, .int .i64 h.bytes, .int .i64 h.raw, .string h.root, .string h.tag] _ (fun w' h j x hj => (h.cell lg).trans (rg j x hj)) Try.underlying23 rfl header_size hS0 ?_; simp only [Act.put, List.setIfInBounds_toArray, List.set_cons_zero, List.set_cons_succ, List.getElem_toArray, List.getElem_cons_zero, List.getElem_cons_succ])
      | (refine wpX_load0 rfl rfl _ _ rfl _ rfl _ rfl Try.underlying9 _ (fun w' h => (h.cell lg).trans d6) hS0 ?_; simp only [Act.put, List.setIfInBounds_toArray, List.set_cons_zero, List.set_cons_succ, List.getElem_toArray, List.getElem_cons_zero, List.getElem_cons_succ])
      | (refine wpX_pure rfl rfl rfl ?_; intro K hK; go_big_quiet_op; refine hK _ ?_; clear hK K))
    refine wpX_eff rfl rfl ?_; intro K hK; go_wp2_with fail
    refine hK _ _ (hS0.alloc hS0.size _) ?_; clear hK K
    repeat (first
      | (refine wpX_load_mid rfl rfl 23 (.tmp 3) rfl w.heap.size 0 rfl [.int .i64 h.id, .string h.salt, .int .i64 h.n, .int .i64 h.bytes, .int .i64 h.raw, .string h.root, .string h.tag] _ (fun w' h j x hj => (h.cell lg).trans (rg j x hj)) Try.underlying23 rfl header_size hS0 ?_; simp only [Act.put, List.setIfInBounds_toArray, List.set_cons_zero, List.set_cons_succ, List.getElem_toArray, List.getElem_cons_zero, List.getElem_cons_succ])
      | (refine wpX_load0 rfl rfl _ _ rfl _ rfl _ rfl Try.underlying9 _ (fun w' h => (h.cell lg).trans d6) hS0 ?_; simp only [Act.put, List.setIfInBounds_toArray, List.set_cons_zero, List.set_cons_succ, List.getElem_toArray, List.getElem_cons_zero, List.getElem_cons_succ])
      | (refine wpX_pure rfl rfl rfl ?_; intro K hK; go_big_quiet_op; refine hK _ ?_; clear hK K))
    refine wpX_eff rfl rfl ?_; intro K hK; go_wp2_with fail
    (with_reducible refine (T1.out _).mono ?_); rintro e w6 ⟨rfl, hb⟩
    go_wp2_with fail
    refine hK _ _ (hS0.trans (hb.mono hS0.size)) ?_; clear hK K
    replace hS0 := hS0.trans (hb.mono hS0.size)
    clear hb
    repeat (first
      | (refine wpX_load_mid rfl rfl 23 (.tmp 3) rfl w.heap.size 0 rfl [.int .i64 h.id, .string h.salt, .int .i64 h.n, .int .i64 h.bytes, .int .i64 h.raw, .string h.root, .string h.tag] _ (fun w' h j x hj => (h.cell lg).trans (rg j x hj)) Try.underlying23 rfl header_size hS0 ?_; simp only [Act.put, List.setIfInBounds_toArray, List.set_cons_zero, List.set_cons_succ, List.getElem_toArray, List.getElem_cons_zero, List.getElem_cons_succ])
      | (refine wpX_load0 rfl rfl _ _ rfl _ rfl _ rfl Try.underlying9 _ (fun w' h => (h.cell lg).trans d6) hS0 ?_; simp only [Act.put, List.setIfInBounds_toArray, List.set_cons_zero, List.set_cons_succ, List.getElem_toArray, List.getElem_cons_zero, List.getElem_cons_succ])
      | (refine wpX_pure rfl rfl rfl ?_; intro K hK; go_big_quiet_op; refine hK _ ?_; clear hK K))
    refine wpX_eff rfl rfl ?_; intro K hK; go_wp2_with fail
    (with_reducible refine (E1.out _).mono ?_); rintro e w7 ⟨rfl, rfl⟩
    go_wp2_with fail
    refine hK _ _ hS0 ?_; clear hK K
    repeat (first
      | (refine wpX_load_mid rfl rfl 23 (.tmp 3) rfl w.heap.size 0 rfl [.int .i64 h.id, .string h.salt, .int .i64 h.n, .int .i64 h.bytes, .int .i64 h.raw, .string h.root, .string h.tag] _ (fun w' h j x hj => (h.cell lg).trans (rg j x hj)) Try.underlying23 rfl header_size hS0 ?_; simp only [Act.put, List.setIfInBounds_toArray, List.set_cons_zero, List.set_cons_succ, List.getElem_toArray, List.getElem_cons_zero, List.getElem_cons_succ])
      | (refine wpX_load0 rfl rfl _ _ rfl _ rfl _ rfl Try.underlying9 _ (fun w' h => (h.cell lg).trans d6) hS0 ?_; simp only [Act.put, List.setIfInBounds_toArray, List.set_cons_zero, List.set_cons_succ, List.getElem_toArray, List.getElem_cons_zero, List.getElem_cons_succ])
      | (refine wpX_pure rfl rfl rfl ?_; intro K hK; go_big_quiet_op; refine hK _ ?_; clear hK K))
    refine wpX_nil ?_
    go_wp2_with fail
    go_ret
    exact ⟨by first | (rw [if_pos HGT.out]; rfl) | rfl, hBd.trans (hS0.mono hBd.size)⟩
  · have hdc : decide (G = h.tag) = false := decide_eq_false hgt
    simp only [hdc] at E1
    have HGT := Lib.hid hgt
    clear hgt hdc
    refine wp_region_lexS (fun w' => Below w1.drew.heap.size w1.drew w') 0 [] (by kernel_rfl) (by kernel_rfl) hS0 ?_
    repeat (first
      | (refine wpX_load_mid rfl rfl 23 (.tmp 3) rfl w.heap.size 0 rfl [.int .i64 h.id, .string h.salt, .int .i64 h.n, .int .i64 h.bytes, .int .i64 h.raw, .string h.root, .string h.tag] _ (fun w' h j x hj => (h.cell lg).trans (rg j x hj)) Try.underlying23 rfl header_size hS0 ?_; simp only [Act.put, List.setIfInBounds_toArray, List.set_cons_zero, List.set_cons_succ, List.getElem_toArray, List.getElem_cons_zero, List.getElem_cons_succ])
      | (refine wpX_load0 rfl rfl _ _ rfl _ rfl _ rfl Try.underlying9 _ (fun w' h => (h.cell lg).trans d6) hS0 ?_; simp only [Act.put, List.setIfInBounds_toArray, List.set_cons_zero, List.set_cons_succ, List.getElem_toArray, List.getElem_cons_zero, List.getElem_cons_succ])
      | (refine wpX_pure rfl rfl rfl ?_; intro K hK; go_big_quiet_op; refine hK _ ?_; clear hK K))
    refine wpX_eff rfl rfl ?_; intro K hK; go_wp2_with fail
    (with_reducible refine (F1.out _).mono ?_); rintro e w5 ⟨rfl, hb⟩
    go_wp2_with fail
    refine hK _ _ (hS0.trans (hb.mono hS0.size)) ?_; clear hK K
    replace hS0 := hS0.trans (hb.mono hS0.size)
    clear hb
    repeat (first
      | (refine wpX_load_mid rfl rfl 23 (.tmp 3) rfl w.heap.size 0 rfl [.int .i64 h.id, .string h.salt, .int .i64 h.n, .int .i64 h.bytes, .int .i64 h.raw, .string h.root, .string h.tag] _ (fun w' h j x hj => (h.cell lg).trans (rg j x hj)) Try.underlying23 rfl header_size hS0 ?_; simp only [Act.put, List.setIfInBounds_toArray, List.set_cons_zero, List.set_cons_succ, List.getElem_toArray, List.getElem_cons_zero, List.getElem_cons_succ])
      | (refine wpX_load0 rfl rfl _ _ rfl _ rfl _ rfl Try.underlying9 _ (fun w' h => (h.cell lg).trans d6) hS0 ?_; simp only [Act.put, List.setIfInBounds_toArray, List.set_cons_zero, List.set_cons_succ, List.getElem_toArray, List.getElem_cons_zero, List.getElem_cons_succ])
      | (refine wpX_pure rfl rfl rfl ?_; intro K hK; go_big_quiet_op; refine hK _ ?_; clear hK K))
    refine wpX_eff rfl rfl ?_; intro K hK; go_wp2_with fail
    refine hK _ _ (hS0.alloc hS0.size _) ?_; clear hK K
    repeat (first
      | (refine wpX_load_mid rfl rfl 23 (.tmp 3) rfl w.heap.size 0 rfl [.int .i64 h.id, .string h.salt, .int .i64 h.n, .int .i64 h.bytes, .int .i64 h.raw, .string h.root, .string h.tag] _ (fun w' h j x hj => (h.cell lg).trans (rg j x hj)) Try.underlying23 rfl header_size hS0 ?_; simp only [Act.put, List.setIfInBounds_toArray, List.set_cons_zero, List.set_cons_succ, List.getElem_toArray, List.getElem_cons_zero, List.getElem_cons_succ])
      | (refine wpX_load0 rfl rfl _ _ rfl _ rfl _ rfl Try.underlying9 _ (fun w' h => (h.cell lg).trans d6) hS0 ?_; simp only [Act.put, List.setIfInBounds_toArray, List.set_cons_zero, List.set_cons_succ, List.getElem_toArray, List.getElem_cons_zero, List.getElem_cons_succ])
      | (refine wpX_pure rfl rfl rfl ?_; intro K hK; go_big_quiet_op; refine hK _ ?_; clear hK K))
    refine wpX_eff rfl rfl ?_; intro K hK; go_wp2_with fail
    (with_reducible refine (T1.out _).mono ?_); rintro e w6 ⟨rfl, hb⟩
    go_wp2_with fail
    refine hK _ _ (hS0.trans (hb.mono hS0.size)) ?_; clear hK K
    replace hS0 := hS0.trans (hb.mono hS0.size)
    clear hb
    repeat (first
      | (refine wpX_load_mid rfl rfl 23 (.tmp 3) rfl w.heap.size 0 rfl [.int .i64 h.id, .string h.salt, .int .i64 h.n, .int .i64 h.bytes, .int .i64 h.raw, .string h.root, .string h.tag] _ (fun w' h j x hj => (h.cell lg).trans (rg j x hj)) Try.underlying23 rfl header_size hS0 ?_; simp only [Act.put, List.setIfInBounds_toArray, List.set_cons_zero, List.set_cons_succ, List.getElem_toArray, List.getElem_cons_zero, List.getElem_cons_succ])
      | (refine wpX_load0 rfl rfl _ _ rfl _ rfl _ rfl Try.underlying9 _ (fun w' h => (h.cell lg).trans d6) hS0 ?_; simp only [Act.put, List.setIfInBounds_toArray, List.set_cons_zero, List.set_cons_succ, List.getElem_toArray, List.getElem_cons_zero, List.getElem_cons_succ])
      | (refine wpX_pure rfl rfl rfl ?_; intro K hK; go_big_quiet_op; refine hK _ ?_; clear hK K))
    refine wpX_eff rfl rfl ?_; intro K hK; go_wp2_with fail
    (with_reducible refine (E1.out _).mono ?_); rintro e w7 ⟨rfl, rfl⟩
    go_wp2_with fail
    refine hK _ _ hS0 ?_; clear hK K
    repeat (first
      | (refine wpX_load_mid rfl rfl 23 (.tmp 3) rfl w.heap.size 0 rfl [.int .i64 h.id, .string h.salt, .int .i64 h.n, .int .i64 h.bytes, .int .i64 h.raw, .string h.root, .string h.tag] _ (fun w' h j x hj => (h.cell lg).trans (rg j x hj)) Try.underlying23 rfl header_size hS0 ?_; simp only [Act.put, List.setIfInBounds_toArray, List.set_cons_zero, List.set_cons_succ, List.getElem_toArray, List.getElem_cons_zero, List.getElem_cons_succ])
      | (refine wpX_load0 rfl rfl _ _ rfl _ rfl _ rfl Try.underlying9 _ (fun w' h => (h.cell lg).trans d6) hS0 ?_; simp only [Act.put, List.setIfInBounds_toArray, List.set_cons_zero, List.set_cons_succ, List.getElem_toArray, List.getElem_cons_zero, List.getElem_cons_succ])
      | (refine wpX_pure rfl rfl rfl ?_; intro K hK; go_big_quiet_op; refine hK _ ?_; clear hK K))
    refine wpX_nil ?_
    go_wp2_with fail
    go_ret
    exact ⟨by first | (rw [if_neg HGT.out]; rfl) | rfl, hBd.trans (hS0.mono hBd.size)⟩
set_option maxRecDepth 100000 in
theorem crVerify_no (key : ByteArray) (h : Hd) (w : World) (hm : ¬ h.may) : Calls Try.prog 24 #[.string key, .agg #[.int .i64 h.id, .string h.salt, .int .i64 h.n, .int .i64 h.bytes, .int .i64 h.raw, .string h.root, .string h.tag]] w fun e w' => e = .returned (.int .i64 1) ∧ Below w.heap.size w w' := by
  have HM := Lib.hid hm
  have hS := Blk.new w 23 #[.int .i64 h.id, .string h.salt, .int .i64 h.n, .int .i64 h.bytes, .int .i64 h.raw, .string h.root, .string h.tag]
  have hB : Below w.heap.size w (w.alloc (.cells #[.int .i64 h.id, .string h.salt, .int .i64 h.n, .int .i64 h.bytes, .int .i64 h.raw, .string h.root, .string h.tag] 23)) := (Below.refl _ _).alloc (Nat.le_refl _) _
  clear hm
  have c0 : (w.alloc (.cells #[.int .i64 h.id, .string h.salt, .int .i64 h.n, .int .i64 h.bytes, .int .i64 h.raw, .string h.root, .string h.tag] 23)).cell? ⟨w.heap.size, 0, none⟩ = some (.int .i64 h.id) := (hS.cell 0).trans rfl
  have c1 : (w.alloc (.cells #[.int .i64 h.id, .string h.salt, .int .i64 h.n, .int .i64 h.bytes, .int .i64 h.raw, .string h.root, .string h.tag] 23)).cell? ⟨w.heap.size, 1, none⟩ = some (.string h.salt) := (hS.cell 1).trans rfl
  have c2 : (w.alloc (.cells #[.int .i64 h.id, .string h.salt, .int .i64 h.n, .int .i64 h.bytes, .int .i64 h.raw, .string h.root, .string h.tag] 23)).cell? ⟨w.heap.size, 2, none⟩ = some (.int .i64 h.n) := (hS.cell 2).trans rfl
  have c3 : (w.alloc (.cells #[.int .i64 h.id, .string h.salt, .int .i64 h.n, .int .i64 h.bytes, .int .i64 h.raw, .string h.root, .string h.tag] 23)).cell? ⟨w.heap.size, 3, none⟩ = some (.int .i64 h.bytes) := (hS.cell 3).trans rfl
  have c4 : (w.alloc (.cells #[.int .i64 h.id, .string h.salt, .int .i64 h.n, .int .i64 h.bytes, .int .i64 h.raw, .string h.root, .string h.tag] 23)).cell? ⟨w.heap.size, 4, none⟩ = some (.int .i64 h.raw) := (hS.cell 4).trans rfl
  have c5 : (w.alloc (.cells #[.int .i64 h.id, .string h.salt, .int .i64 h.n, .int .i64 h.bytes, .int .i64 h.raw, .string h.root, .string h.tag] 23)).cell? ⟨w.heap.size, 5, none⟩ = some (.string h.root) := (hS.cell 5).trans rfl
  have c6 : (w.alloc (.cells #[.int .i64 h.id, .string h.salt, .int .i64 h.n, .int .i64 h.bytes, .int .i64 h.raw, .string h.root, .string h.tag] 23)).cell? ⟨w.heap.size, 6, none⟩ = some (.string h.tag) := (hS.cell 6).trans rfl
  go_enter Try.func24, Try.ntmps24
  go_wp2_with fail
  (with_reducible refine (cMay_no h _ HM.out).mono ?_); rintro e w1 ⟨rfl, hb⟩
  replace hB := hB.trans (hb.mono hB.size)
  clear hb c0 c1 c2 c3 c4 c5 c6
  go_wp2_with fail
  go_ret
  exact ⟨rfl, hB⟩
set_option maxRecDepth 100000 in
set_option maxHeartbeats 4000000 in
theorem crVerify_yes (key : ByteArray) (h : Hd) (w : World) (hk : key.size ≤ 1000000) (hm : h.may) : Calls Try.prog 24 #[.string key, .agg #[.int .i64 h.id, .string h.salt, .int .i64 h.n, .int .i64 h.bytes, .int .i64 h.raw, .string h.root, .string h.tag]] w fun e w' => e = .returned (.int .i64 (if htag key h = h.tag then 0 else 4)) ∧ Below w.heap.size w w' := by
  have HM := Lib.hid hm
  obtain ⟨⟨q1, q2, q3, q4, q5⟩, q6, q7, q8, q9, q10⟩ := hm
  have hs : h.salt.size ≤ 1000 := by omega
  have hr : h.root.size ≤ 1000 := by omega
  have ht : h.tag.size = 32 := by omega
  clear q1 q2 q3 q4 q5 q6 q7 q8 q9 q10
  have f1 := fun W => crFields h W hs hr
  have t1 := fun W => crTagH key h W hk hs hr
  have hz := htag_size key h
  obtain ⟨F, HF⟩ : ∃ x, Hid (h.fields = x) := ⟨_, Lib.hid rfl⟩
  obtain ⟨G, HG⟩ : ∃ x, Hid (htag key h = x) := ⟨_, Lib.hid rfl⟩
  simp only [HF.out] at f1 t1
  simp only [HG.out] at t1
  rw [HG.out] at hz
  rw [HG.out]
  have F1 := Lib.hid f1
  have T1 := Lib.hid t1
  have hS := Blk.new w 23 #[.int .i64 h.id, .string h.salt, .int .i64 h.n, .int .i64 h.bytes, .int .i64 h.raw, .string h.root, .string h.tag]
  have hB : Below w.heap.size w (w.alloc (.cells #[.int .i64 h.id, .string h.salt, .int .i64 h.n, .int .i64 h.bytes, .int .i64 h.raw, .string h.root, .string h.tag] 23)) := (Below.refl _ _).alloc (Nat.le_refl _) _
  clear f1 t1 hs hr
  have c0 : (w.alloc (.cells #[.int .i64 h.id, .string h.salt, .int .i64 h.n, .int .i64 h.bytes, .int .i64 h.raw, .string h.root, .string h.tag] 23)).cell? ⟨w.heap.size, 0, none⟩ = some (.int .i64 h.id) := (hS.cell 0).trans rfl
  have c1 : (w.alloc (.cells #[.int .i64 h.id, .string h.salt, .int .i64 h.n, .int .i64 h.bytes, .int .i64 h.raw, .string h.root, .string h.tag] 23)).cell? ⟨w.heap.size, 1, none⟩ = some (.string h.salt) := (hS.cell 1).trans rfl
  have c2 : (w.alloc (.cells #[.int .i64 h.id, .string h.salt, .int .i64 h.n, .int .i64 h.bytes, .int .i64 h.raw, .string h.root, .string h.tag] 23)).cell? ⟨w.heap.size, 2, none⟩ = some (.int .i64 h.n) := (hS.cell 2).trans rfl
  have c3 : (w.alloc (.cells #[.int .i64 h.id, .string h.salt, .int .i64 h.n, .int .i64 h.bytes, .int .i64 h.raw, .string h.root, .string h.tag] 23)).cell? ⟨w.heap.size, 3, none⟩ = some (.int .i64 h.bytes) := (hS.cell 3).trans rfl
  have c4 : (w.alloc (.cells #[.int .i64 h.id, .string h.salt, .int .i64 h.n, .int .i64 h.bytes, .int .i64 h.raw, .string h.root, .string h.tag] 23)).cell? ⟨w.heap.size, 4, none⟩ = some (.int .i64 h.raw) := (hS.cell 4).trans rfl
  have c5 : (w.alloc (.cells #[.int .i64 h.id, .string h.salt, .int .i64 h.n, .int .i64 h.bytes, .int .i64 h.raw, .string h.root, .string h.tag] 23)).cell? ⟨w.heap.size, 5, none⟩ = some (.string h.root) := (hS.cell 5).trans rfl
  have c6 : (w.alloc (.cells #[.int .i64 h.id, .string h.salt, .int .i64 h.n, .int .i64 h.bytes, .int .i64 h.raw, .string h.root, .string h.tag] 23)).cell? ⟨w.heap.size, 6, none⟩ = some (.string h.tag) := (hS.cell 6).trans rfl
  go_enter Try.func24, Try.ntmps24
  go_wp2_with fail
  (with_reducible refine (cMay_yes h _ HM.out).mono ?_); rintro e w1 ⟨rfl, hb⟩
  replace hS := hS.below hb hS.lt
  replace hB := hB.trans (hb.mono hB.size)
  clear hb c0 c1 c2 c3 c4 c5 c6
  go_wp2_with fail
  have hBd := hB.drew
  have lg : w.heap.size < w1.drew.heap.size := hS.lt
  have rg : w1.drew.rangeAt w.heap.size 0 [.int .i64 h.id, .string h.salt, .int .i64 h.n, .int .i64 h.bytes, .int .i64 h.raw, .string h.root, .string h.tag] := Blk.range' hS.drew
  have d6 : w1.drew.cell? ⟨w.heap.size, 6, none⟩ = some (.string h.tag) := (hS.drew.cell 6).trans rfl
  have hS0 := Below.refl w1.drew.heap.size w1.drew
  clear hS hB
  by_cases hgt : G = h.tag
  · have hne : (G.toList == h.tag.toList) = true := by rw [hgt]; exact beq_self_eq_true _
    have HGT := Lib.hid hgt
    clear hgt
    refine wp_region_lexS (fun w' => Below w1.drew.heap.size w1.drew w') 0 [] (by kernel_rfl) (by kernel_rfl) hS0 ?_
    repeat (first
      | (refine wpX_load_mid rfl rfl 23 (.tmp 3) rfl w.heap.size 0 rfl [.int .i64 h.id, .string h.salt, .int .i64 h.n, .int .i64 h.bytes, .int .i64 h.raw, .string h.root, .string h.tag] _ (fun w' h j x hj => (h.cell lg).trans (rg j x hj)) Try.underlying23 rfl header_size hS0 ?_; simp only [Act.put, List.setIfInBounds_toArray, List.set_cons_zero, List.set_cons_succ, List.getElem_toArray, List.getElem_cons_zero, List.getElem_cons_succ])
      | (refine wpX_load0 rfl rfl _ _ rfl _ rfl _ rfl Try.underlying9 _ (fun w' h => (h.cell lg).trans d6) hS0 ?_; simp only [Act.put, List.setIfInBounds_toArray, List.set_cons_zero, List.set_cons_succ, List.getElem_toArray, List.getElem_cons_zero, List.getElem_cons_succ])
      | (refine wpX_pure rfl rfl rfl ?_; intro K hK; go_big_quiet_op; refine hK _ ?_; clear hK K))
    refine wpX_eff rfl rfl ?_; intro K hK; go_wp2_with fail
    (with_reducible refine (F1.out _).mono ?_); rintro e w5 ⟨rfl, hb⟩
    go_wp2_with fail
    refine hK _ _ (hS0.trans (hb.mono hS0.size)) ?_; clear hK K
    replace hS0 := hS0.trans (hb.mono hS0.size)
    clear hb
    repeat (first
      | (refine wpX_load_mid rfl rfl 23 (.tmp 3) rfl w.heap.size 0 rfl [.int .i64 h.id, .string h.salt, .int .i64 h.n, .int .i64 h.bytes, .int .i64 h.raw, .string h.root, .string h.tag] _ (fun w' h j x hj => (h.cell lg).trans (rg j x hj)) Try.underlying23 rfl header_size hS0 ?_; simp only [Act.put, List.setIfInBounds_toArray, List.set_cons_zero, List.set_cons_succ, List.getElem_toArray, List.getElem_cons_zero, List.getElem_cons_succ])
      | (refine wpX_load0 rfl rfl _ _ rfl _ rfl _ rfl Try.underlying9 _ (fun w' h => (h.cell lg).trans d6) hS0 ?_; simp only [Act.put, List.setIfInBounds_toArray, List.set_cons_zero, List.set_cons_succ, List.getElem_toArray, List.getElem_cons_zero, List.getElem_cons_succ])
      | (refine wpX_pure rfl rfl rfl ?_; intro K hK; go_big_quiet_op; refine hK _ ?_; clear hK K))
    refine wpX_eff rfl rfl ?_; intro K hK; go_wp2_with fail
    (with_reducible refine (T1.out _).mono ?_); rintro e w5 ⟨rfl, hb⟩
    go_wp2_with fail
    refine hK _ _ (hS0.trans (hb.mono hS0.size)) ?_; clear hK K
    replace hS0 := hS0.trans (hb.mono hS0.size)
    clear hb
    repeat (first
      | (refine wpX_load_mid rfl rfl 23 (.tmp 3) rfl w.heap.size 0 rfl [.int .i64 h.id, .string h.salt, .int .i64 h.n, .int .i64 h.bytes, .int .i64 h.raw, .string h.root, .string h.tag] _ (fun w' h j x hj => (h.cell lg).trans (rg j x hj)) Try.underlying23 rfl header_size hS0 ?_; simp only [Act.put, List.setIfInBounds_toArray, List.set_cons_zero, List.set_cons_succ, List.getElem_toArray, List.getElem_cons_zero, List.getElem_cons_succ])
      | (refine wpX_load0 rfl rfl _ _ rfl _ rfl _ rfl Try.underlying9 _ (fun w' h => (h.cell lg).trans d6) hS0 ?_; simp only [Act.put, List.setIfInBounds_toArray, List.set_cons_zero, List.set_cons_succ, List.getElem_toArray, List.getElem_cons_zero, List.getElem_cons_succ])
      | (refine wpX_pure rfl rfl rfl ?_; intro K hK; go_big_quiet_op; refine hK _ ?_; clear hK K))
    refine wpX_nil ?_
    go_wp2_with fail
    go_ret
    exact ⟨by first | (rw [if_pos HGT.out]; rfl) | rfl, hBd.trans (hS0.mono hBd.size)⟩
  · have hne : (G.toList == h.tag.toList) = false := beq_text_ne' hgt
    have HGT := Lib.hid hgt
    clear hgt
    refine wp_region_lexS (fun w' => Below w1.drew.heap.size w1.drew w') 0 [] (by kernel_rfl) (by kernel_rfl) hS0 ?_
    repeat (first
      | (refine wpX_load_mid rfl rfl 23 (.tmp 3) rfl w.heap.size 0 rfl [.int .i64 h.id, .string h.salt, .int .i64 h.n, .int .i64 h.bytes, .int .i64 h.raw, .string h.root, .string h.tag] _ (fun w' h j x hj => (h.cell lg).trans (rg j x hj)) Try.underlying23 rfl header_size hS0 ?_; simp only [Act.put, List.setIfInBounds_toArray, List.set_cons_zero, List.set_cons_succ, List.getElem_toArray, List.getElem_cons_zero, List.getElem_cons_succ])
      | (refine wpX_load0 rfl rfl _ _ rfl _ rfl _ rfl Try.underlying9 _ (fun w' h => (h.cell lg).trans d6) hS0 ?_; simp only [Act.put, List.setIfInBounds_toArray, List.set_cons_zero, List.set_cons_succ, List.getElem_toArray, List.getElem_cons_zero, List.getElem_cons_succ])
      | (refine wpX_pure rfl rfl rfl ?_; intro K hK; go_big_quiet_op; refine hK _ ?_; clear hK K))
    refine wpX_eff rfl rfl ?_; intro K hK; go_wp2_with fail
    (with_reducible refine (F1.out _).mono ?_); rintro e w5 ⟨rfl, hb⟩
    go_wp2_with fail
    refine hK _ _ (hS0.trans (hb.mono hS0.size)) ?_; clear hK K
    replace hS0 := hS0.trans (hb.mono hS0.size)
    clear hb
    repeat (first
      | (refine wpX_load_mid rfl rfl 23 (.tmp 3) rfl w.heap.size 0 rfl [.int .i64 h.id, .string h.salt, .int .i64 h.n, .int .i64 h.bytes, .int .i64 h.raw, .string h.root, .string h.tag] _ (fun w' h j x hj => (h.cell lg).trans (rg j x hj)) Try.underlying23 rfl header_size hS0 ?_; simp only [Act.put, List.setIfInBounds_toArray, List.set_cons_zero, List.set_cons_succ, List.getElem_toArray, List.getElem_cons_zero, List.getElem_cons_succ])
      | (refine wpX_load0 rfl rfl _ _ rfl _ rfl _ rfl Try.underlying9 _ (fun w' h => (h.cell lg).trans d6) hS0 ?_; simp only [Act.put, List.setIfInBounds_toArray, List.set_cons_zero, List.set_cons_succ, List.getElem_toArray, List.getElem_cons_zero, List.getElem_cons_succ])
      | (refine wpX_pure rfl rfl rfl ?_; intro K hK; go_big_quiet_op; refine hK _ ?_; clear hK K))
    refine wpX_eff rfl rfl ?_; intro K hK; go_wp2_with fail
    (with_reducible refine (T1.out _).mono ?_); rintro e w5 ⟨rfl, hb⟩
    go_wp2_with fail
    refine hK _ _ (hS0.trans (hb.mono hS0.size)) ?_; clear hK K
    replace hS0 := hS0.trans (hb.mono hS0.size)
    clear hb
    repeat (first
      | (refine wpX_load_mid rfl rfl 23 (.tmp 3) rfl w.heap.size 0 rfl [.int .i64 h.id, .string h.salt, .int .i64 h.n, .int .i64 h.bytes, .int .i64 h.raw, .string h.root, .string h.tag] _ (fun w' h j x hj => (h.cell lg).trans (rg j x hj)) Try.underlying23 rfl header_size hS0 ?_; simp only [Act.put, List.setIfInBounds_toArray, List.set_cons_zero, List.set_cons_succ, List.getElem_toArray, List.getElem_cons_zero, List.getElem_cons_succ])
      | (refine wpX_load0 rfl rfl _ _ rfl _ rfl _ rfl Try.underlying9 _ (fun w' h => (h.cell lg).trans d6) hS0 ?_; simp only [Act.put, List.setIfInBounds_toArray, List.set_cons_zero, List.set_cons_succ, List.getElem_toArray, List.getElem_cons_zero, List.getElem_cons_succ])
      | (refine wpX_pure rfl rfl rfl ?_; intro K hK; go_big_quiet_op; refine hK _ ?_; clear hK K))
    refine wpX_nil ?_
    go_wp2_with fail
    go_ret
    exact ⟨by first | (rw [if_neg HGT.out]; rfl) | rfl, hBd.trans (hS0.mono hBd.size)⟩
end Go.Proofs.Ytbofmfocnbennaa
