/- block.Open and the reference's. -/
import Derived.Test.YtbofmfocnbennaaBlock2
import Derived.Test.YtbofmfocnbennaaTexts
namespace Go.Proofs.Ytbofmfocnbennaa
open Go.RowKit
set_option maxRecDepth 100000
set_option linter.unusedVariables false
set_option linter.unusedSimpArgs false

theorem cOpen_arg (k : Ks) (i : Int) (s : ByteArray) (w : World) (h : ¬ k.right i) : Calls Try.prog 30 #[.agg #[.string k.enc, .string k.mac, .string k.head], .int .i64 i, .string s] w fun e w' => e = .returned (.tuple #[.string ⟨#[]⟩, .int .i64 1]) ∧ Below w.heap.size w w' := by
  obtain ⟨enc, mac, head⟩ := k
  have hS := Blk.new w 34 #[.string enc, .string mac, .string head]
  have hB : Below w.heap.size w (w.alloc (.cells #[.string enc, .string mac, .string head] 34)) := (Below.refl _ _).alloc (Nat.le_refl _) _
  have c0 : (w.alloc (.cells #[.string enc, .string mac, .string head] 34)).cell? ⟨w.heap.size, 0, none⟩ = some (.string enc) := (hS.cell 0).trans rfl
  have c1 : (w.alloc (.cells #[.string enc, .string mac, .string head] 34)).cell? ⟨w.heap.size, 1, none⟩ = some (.string mac) := (hS.cell 1).trans rfl
  have c2 : (w.alloc (.cells #[.string enc, .string mac, .string head] 34)).cell? ⟨w.heap.size, 2, none⟩ = some (.string head) := (hS.cell 2).trans rfl
  have h1 := fun W => cbright_no ⟨enc, mac, head⟩ i W h
  dsimp only at h1 ⊢
  have H1 := Lib.hid h1
  clear h h1
  go_enter Try.func30, Try.ntmps30
  go_wp2_with fail
  (with_reducible refine (H1.out _).mono ?_); rintro e w1 ⟨rfl, hb⟩
  replace hB := hB.trans (hb.mono hB.size)
  replace hS := hS.below hb hS.lt
  clear hb c0 c1 c2
  go_wp2_with fail
  go_ret2
  exact ⟨rfl, hB⟩
theorem cOpen_form (k : Ks) (i : Int) (s : ByteArray) (w : World) (h : k.right i) (hs : s.size ≠ 224) : Calls Try.prog 30 #[.agg #[.string k.enc, .string k.mac, .string k.head], .int .i64 i, .string s] w fun e w' => e = .returned (.tuple #[.string ⟨#[]⟩, .int .i64 2]) ∧ Below w.heap.size w w' := by
  obtain ⟨enc, mac, head⟩ := k
  have hS := Blk.new w 34 #[.string enc, .string mac, .string head]
  have hB : Below w.heap.size w (w.alloc (.cells #[.string enc, .string mac, .string head] 34)) := (Below.refl _ _).alloc (Nat.le_refl _) _
  have c0 : (w.alloc (.cells #[.string enc, .string mac, .string head] 34)).cell? ⟨w.heap.size, 0, none⟩ = some (.string enc) := (hS.cell 0).trans rfl
  have c1 : (w.alloc (.cells #[.string enc, .string mac, .string head] 34)).cell? ⟨w.heap.size, 1, none⟩ = some (.string mac) := (hS.cell 1).trans rfl
  have c2 : (w.alloc (.cells #[.string enc, .string mac, .string head] 34)).cell? ⟨w.heap.size, 2, none⟩ = some (.string head) := (hS.cell 2).trans rfl
  have e1 : ((s.size : Int) != 224) = true := by simp; omega
  have h1 := fun W => cbright_yes ⟨enc, mac, head⟩ i W h
  dsimp only at h1 ⊢
  have H1 := Lib.hid h1
  clear h h1
  go_enter Try.func30, Try.ntmps30
  go_wp2_with fail
  (with_reducible refine (H1.out _).mono ?_); rintro e w1 ⟨rfl, hb⟩
  replace hB := hB.trans (hb.mono hB.size)
  replace hS := hS.below hb hS.lt
  clear hb c0 c1 c2
  go_wp2_with fail
  go_ret2
  exact ⟨rfl, hB⟩
set_option maxHeartbeats 4000000 in
theorem cOpen_tag (k : Ks) (i : Int) (s : ByteArray) (w : World) (h : k.right i) (hs : s.size = 224) (hm : k.mac.size ≤ 1000000) (ht : ¬ tagB k.mac i (s.extract 0 192) = s.extract 192 s.size) : Calls Try.prog 30 #[.agg #[.string k.enc, .string k.mac, .string k.head], .int .i64 i, .string s] w fun e w' => e = .returned (.tuple #[.string ⟨#[]⟩, .int .i64 4]) ∧ Below w.heap.size w w' := by
  obtain ⟨enc, mac, head⟩ := k
  have h1 := fun W => cbright_yes ⟨enc, mac, head⟩ i W h
  have hz1 : (s.extract 0 192).size = 192 := by rw [ByteArray.size_extract]; omega
  have hz2 : (s.extract 192 s.size).size = 32 := by rw [ByteArray.size_extract]; omega
  have hzt := tagB_size mac i (s.extract 0 192)
  have h4 := fun W => cbtag ⟨enc, mac, head⟩ i (s.extract 0 192) W hm (by omega)
  have h5 := fun W => cEqual (tagB mac i (s.extract 0 192)) (s.extract 192 s.size) W (by omega) (by omega)
  dsimp only at h1 h4 ht ⊢
  have hbt : decide (tagB mac i (s.extract 0 192) = s.extract 192 s.size) = false := decide_eq_false ht
  simp only [hbt] at h5
  obtain ⟨T, HT⟩ : ∃ x, Hid (tagB mac i (s.extract 0 192) = x) := ⟨_, Lib.hid rfl⟩
  simp only [HT.out] at h4 h5 hzt hbt
  have e1 : ((s.size : Int) != 224) = false := by simp; omega
  have e2 : (192 : Int) ≤ (s.size : Int) := by omega
  have HHS := Lib.hid hs
  have H1 := Lib.hid h1
  have H4 := Lib.hid h4
  have H5 := Lib.hid h5
  have hS := Blk.new w 34 #[.string enc, .string mac, .string head]
  have hB : Below w.heap.size w (w.alloc (.cells #[.string enc, .string mac, .string head] 34)) := (Below.refl _ _).alloc (Nat.le_refl _) _
  have c0 : (w.alloc (.cells #[.string enc, .string mac, .string head] 34)).cell? ⟨w.heap.size, 0, none⟩ = some (.string enc) := (hS.cell 0).trans rfl
  have c1 : (w.alloc (.cells #[.string enc, .string mac, .string head] 34)).cell? ⟨w.heap.size, 1, none⟩ = some (.string mac) := (hS.cell 1).trans rfl
  have c2 : (w.alloc (.cells #[.string enc, .string mac, .string head] 34)).cell? ⟨w.heap.size, 2, none⟩ = some (.string head) := (hS.cell 2).trans rfl
  clear h h1 h4 h5 hm ht hs
  go_enter Try.func30, Try.ntmps30
  go_wp2_with fail
  (with_reducible refine (H1.out _).mono ?_); rintro e w1 ⟨rfl, hb⟩
  replace hB := hB.trans (hb.mono hB.size)
  replace hS := hS.below hb hS.lt
  clear hb c0 c1 c2
  go_wp2_with fail
  refine wp_region_lexS (fun w' => Blk w' w.heap.size 34 #[.string enc, .string mac, .string head]) 0 [] (by kernel_rfl) (by kernel_rfl) hS.drew ?_
  replace hS := hS.drew
  replace hB := below_drewN hB 1
  repeat (first | (refine wpX_load0 rfl rfl _ _ rfl _ rfl _ rfl Try.underlying9 _ (fun w' h => (Blk.cell h _).trans rfl) hS ?_; simp only [Act.put, List.setIfInBounds_toArray, List.set_cons_zero, List.set_cons_succ, List.getElem_toArray, List.getElem_cons_zero, List.getElem_cons_succ]) | (refine wpX_loadK rfl rfl _ _ rfl _ rfl _ 34 _ (fun w' h => h) Try.underlying34 rfl keys_info hS ?_; simp only [Act.put, List.setIfInBounds_toArray, List.set_cons_zero, List.set_cons_succ, List.getElem_toArray, List.getElem_cons_zero, List.getElem_cons_succ]) | (refine wpX_pure rfl rfl rfl ?_; intro K hK; go_big_quiet_op; refine hK _ ?_; clear hK K))
  refine wpX_eff rfl rfl ?_; intro K hK; go_wp2_with fail
  (with_reducible refine (H4.out _).mono ?_); rintro e w5 ⟨rfl, hb⟩
  go_wp2_with fail; refine hK _ _ (hS.below hb hS.lt) ?_; clear hK K; replace hB := hB.trans (hb.mono hB.size); replace hS := hS.below hb hS.lt; clear hb
  repeat (first | (refine wpX_load0 rfl rfl _ _ rfl _ rfl _ rfl Try.underlying9 _ (fun w' h => (Blk.cell h _).trans rfl) hS ?_; simp only [Act.put, List.setIfInBounds_toArray, List.set_cons_zero, List.set_cons_succ, List.getElem_toArray, List.getElem_cons_zero, List.getElem_cons_succ]) | (refine wpX_loadK rfl rfl _ _ rfl _ rfl _ 34 _ (fun w' h => h) Try.underlying34 rfl keys_info hS ?_; simp only [Act.put, List.setIfInBounds_toArray, List.set_cons_zero, List.set_cons_succ, List.getElem_toArray, List.getElem_cons_zero, List.getElem_cons_succ]) | (refine wpX_pure rfl rfl rfl ?_; intro K hK; go_big_quiet_op; refine hK _ ?_; clear hK K))
  refine wpX_eff rfl rfl ?_; intro K hK; go_wp2_with fail
  (with_reducible refine (H5.out _).mono ?_); rintro e w5 ⟨rfl, rfl⟩
  go_wp2_with fail; refine hK _ _ hS ?_; clear hK K
  repeat (first | (refine wpX_load0 rfl rfl _ _ rfl _ rfl _ rfl Try.underlying9 _ (fun w' h => (Blk.cell h _).trans rfl) hS ?_; simp only [Act.put, List.setIfInBounds_toArray, List.set_cons_zero, List.set_cons_succ, List.getElem_toArray, List.getElem_cons_zero, List.getElem_cons_succ]) | (refine wpX_loadK rfl rfl _ _ rfl _ rfl _ 34 _ (fun w' h => h) Try.underlying34 rfl keys_info hS ?_; simp only [Act.put, List.setIfInBounds_toArray, List.set_cons_zero, List.set_cons_succ, List.getElem_toArray, List.getElem_cons_zero, List.getElem_cons_succ]) | (refine wpX_pure rfl rfl rfl ?_; intro K hK; go_big_quiet_op; refine hK _ ?_; clear hK K))
  refine wpX_nil ?_
  go_wp2_with fail
  go_ret2
  exact ⟨rfl, hB⟩
set_option maxHeartbeats 4000000 in
theorem cOpen_yes (k : Ks) (i : Int) (s : ByteArray) (w : World) (h : k.right i) (hs : s.size = 224) (hm : k.mac.size ≤ 1000000) (ht :  tagB k.mac i (s.extract 0 192) = s.extract 192 s.size) : Calls Try.prog 30 #[.agg #[.string k.enc, .string k.mac, .string k.head], .int .i64 i, .string s] w fun e w' => e = .returned (.tuple #[.string (xorS k.enc (nonceB i) 1 (s.extract 0 192)), .int .i64 0]) ∧ Below w.heap.size w w' := by
  obtain ⟨enc, mac, head⟩ := k
  have h1 := fun W => cbright_yes ⟨enc, mac, head⟩ i W h
  have hz1 : (s.extract 0 192).size = 192 := by rw [ByteArray.size_extract]; omega
  have hz2 : (s.extract 192 s.size).size = 32 := by rw [ByteArray.size_extract]; omega
  have hzt := tagB_size mac i (s.extract 0 192)
  have h4 := fun W => cbtag ⟨enc, mac, head⟩ i (s.extract 0 192) W hm (by omega)
  have h5 := fun W => cEqual (tagB mac i (s.extract 0 192)) (s.extract 192 s.size) W (by omega) (by omega)
  have h2 := fun W => cbnonce i W
  have h3 := fun W => cXOR_yes enc (nonceB i) 1 (s.extract 0 192) W h.1 (nonceB_size i) (by omega) (by omega) (by omega) (.inr (by omega))
  have hz3 := xorS_size enc (nonceB i) 1 (s.extract 0 192)
  dsimp only at h1 h4 ht ⊢
  have hbt : decide (tagB mac i (s.extract 0 192) = s.extract 192 s.size) = true := decide_eq_true ht
  simp only [hbt] at h5
  obtain ⟨T, HT⟩ : ∃ x, Hid (tagB mac i (s.extract 0 192) = x) := ⟨_, Lib.hid rfl⟩
  simp only [HT.out] at h4 h5 hzt hbt
  obtain ⟨X, HX⟩ : ∃ x, Hid (xorS enc (nonceB i) 1 (s.extract 0 192) = x) := ⟨_, Lib.hid rfl⟩
  simp only [HX.out] at h3 hz3 ⊢
  obtain ⟨N, HN⟩ : ∃ x, Hid (nonceB i = x) := ⟨_, Lib.hid rfl⟩
  simp only [HN.out] at h2 h3
  have e1 : ((s.size : Int) != 224) = false := by simp; omega
  have e2 : (192 : Int) ≤ (s.size : Int) := by omega
  have HHS := Lib.hid hs
  have H1 := Lib.hid h1
  have H4 := Lib.hid h4
  have H5 := Lib.hid h5
  have H2 := Lib.hid h2
  have H3 := Lib.hid h3
  have hS := Blk.new w 34 #[.string enc, .string mac, .string head]
  have hB : Below w.heap.size w (w.alloc (.cells #[.string enc, .string mac, .string head] 34)) := (Below.refl _ _).alloc (Nat.le_refl _) _
  have c0 : (w.alloc (.cells #[.string enc, .string mac, .string head] 34)).cell? ⟨w.heap.size, 0, none⟩ = some (.string enc) := (hS.cell 0).trans rfl
  have c1 : (w.alloc (.cells #[.string enc, .string mac, .string head] 34)).cell? ⟨w.heap.size, 1, none⟩ = some (.string mac) := (hS.cell 1).trans rfl
  have c2 : (w.alloc (.cells #[.string enc, .string mac, .string head] 34)).cell? ⟨w.heap.size, 2, none⟩ = some (.string head) := (hS.cell 2).trans rfl
  clear h h1 h4 h5 hm ht h2 h3 hs
  go_enter Try.func30, Try.ntmps30
  go_wp2_with fail
  (with_reducible refine (H1.out _).mono ?_); rintro e w1 ⟨rfl, hb⟩
  replace hB := hB.trans (hb.mono hB.size)
  replace hS := hS.below hb hS.lt
  clear hb c0 c1 c2
  go_wp2_with fail
  refine wp_region_lexS (fun w' => Blk w' w.heap.size 34 #[.string enc, .string mac, .string head]) 0 [] (by kernel_rfl) (by kernel_rfl) hS.drew ?_
  replace hS := hS.drew
  replace hB := below_drewN hB 1
  repeat (first | (refine wpX_load0 rfl rfl _ _ rfl _ rfl _ rfl Try.underlying9 _ (fun w' h => (Blk.cell h _).trans rfl) hS ?_; simp only [Act.put, List.setIfInBounds_toArray, List.set_cons_zero, List.set_cons_succ, List.getElem_toArray, List.getElem_cons_zero, List.getElem_cons_succ]) | (refine wpX_loadK rfl rfl _ _ rfl _ rfl _ 34 _ (fun w' h => h) Try.underlying34 rfl keys_info hS ?_; simp only [Act.put, List.setIfInBounds_toArray, List.set_cons_zero, List.set_cons_succ, List.getElem_toArray, List.getElem_cons_zero, List.getElem_cons_succ]) | (refine wpX_pure rfl rfl rfl ?_; intro K hK; go_big_quiet_op; refine hK _ ?_; clear hK K))
  refine wpX_eff rfl rfl ?_; intro K hK; go_wp2_with fail
  (with_reducible refine (H4.out _).mono ?_); rintro e w5 ⟨rfl, hb⟩
  go_wp2_with fail; refine hK _ _ (hS.below hb hS.lt) ?_; clear hK K; replace hB := hB.trans (hb.mono hB.size); replace hS := hS.below hb hS.lt; clear hb
  repeat (first | (refine wpX_load0 rfl rfl _ _ rfl _ rfl _ rfl Try.underlying9 _ (fun w' h => (Blk.cell h _).trans rfl) hS ?_; simp only [Act.put, List.setIfInBounds_toArray, List.set_cons_zero, List.set_cons_succ, List.getElem_toArray, List.getElem_cons_zero, List.getElem_cons_succ]) | (refine wpX_loadK rfl rfl _ _ rfl _ rfl _ 34 _ (fun w' h => h) Try.underlying34 rfl keys_info hS ?_; simp only [Act.put, List.setIfInBounds_toArray, List.set_cons_zero, List.set_cons_succ, List.getElem_toArray, List.getElem_cons_zero, List.getElem_cons_succ]) | (refine wpX_pure rfl rfl rfl ?_; intro K hK; go_big_quiet_op; refine hK _ ?_; clear hK K))
  refine wpX_eff rfl rfl ?_; intro K hK; go_wp2_with fail
  (with_reducible refine (H5.out _).mono ?_); rintro e w5 ⟨rfl, rfl⟩
  go_wp2_with fail; refine hK _ _ hS ?_; clear hK K
  repeat (first | (refine wpX_load0 rfl rfl _ _ rfl _ rfl _ rfl Try.underlying9 _ (fun w' h => (Blk.cell h _).trans rfl) hS ?_; simp only [Act.put, List.setIfInBounds_toArray, List.set_cons_zero, List.set_cons_succ, List.getElem_toArray, List.getElem_cons_zero, List.getElem_cons_succ]) | (refine wpX_loadK rfl rfl _ _ rfl _ rfl _ 34 _ (fun w' h => h) Try.underlying34 rfl keys_info hS ?_; simp only [Act.put, List.setIfInBounds_toArray, List.set_cons_zero, List.set_cons_succ, List.getElem_toArray, List.getElem_cons_zero, List.getElem_cons_succ]) | (refine wpX_pure rfl rfl rfl ?_; intro K hK; go_big_quiet_op; refine hK _ ?_; clear hK K))
  refine wpX_nil ?_
  go_wp2_with fail
  refine wp_region_lexS (fun w' => Blk w' w.heap.size 34 #[.string enc, .string mac, .string head]) 0 [] (by kernel_rfl) (by kernel_rfl) hS.drew ?_
  replace hS := hS.drew
  replace hB := below_drewN hB 1
  repeat (first | (refine wpX_load0 rfl rfl _ _ rfl _ rfl _ rfl Try.underlying9 _ (fun w' h => (Blk.cell h _).trans rfl) hS ?_; simp only [Act.put, List.setIfInBounds_toArray, List.set_cons_zero, List.set_cons_succ, List.getElem_toArray, List.getElem_cons_zero, List.getElem_cons_succ]) | (refine wpX_loadK rfl rfl _ _ rfl _ rfl _ 34 _ (fun w' h => h) Try.underlying34 rfl keys_info hS ?_; simp only [Act.put, List.setIfInBounds_toArray, List.set_cons_zero, List.set_cons_succ, List.getElem_toArray, List.getElem_cons_zero, List.getElem_cons_succ]) | (refine wpX_pure rfl rfl rfl ?_; intro K hK; go_big_quiet_op; refine hK _ ?_; clear hK K))
  refine wpX_eff rfl rfl ?_; intro K hK; go_wp2_with fail
  (with_reducible refine (H2.out _).mono ?_); rintro e w5 ⟨rfl, hb⟩
  go_wp2_with fail; refine hK _ _ (hS.below hb hS.lt) ?_; clear hK K; replace hB := hB.trans (hb.mono hB.size); replace hS := hS.below hb hS.lt; clear hb
  repeat (first | (refine wpX_load0 rfl rfl _ _ rfl _ rfl _ rfl Try.underlying9 _ (fun w' h => (Blk.cell h _).trans rfl) hS ?_; simp only [Act.put, List.setIfInBounds_toArray, List.set_cons_zero, List.set_cons_succ, List.getElem_toArray, List.getElem_cons_zero, List.getElem_cons_succ]) | (refine wpX_loadK rfl rfl _ _ rfl _ rfl _ 34 _ (fun w' h => h) Try.underlying34 rfl keys_info hS ?_; simp only [Act.put, List.setIfInBounds_toArray, List.set_cons_zero, List.set_cons_succ, List.getElem_toArray, List.getElem_cons_zero, List.getElem_cons_succ]) | (refine wpX_pure rfl rfl rfl ?_; intro K hK; go_big_quiet_op; refine hK _ ?_; clear hK K))
  refine wpX_eff rfl rfl ?_; intro K hK; go_wp2_with fail
  (with_reducible refine (H3.out _).mono ?_); rintro e w5 ⟨rfl, hb⟩
  go_wp2_with fail; refine hK _ _ (hS.below hb hS.lt) ?_; clear hK K; replace hB := hB.trans (hb.mono hB.size); replace hS := hS.below hb hS.lt; clear hb
  repeat (first | (refine wpX_load0 rfl rfl _ _ rfl _ rfl _ rfl Try.underlying9 _ (fun w' h => (Blk.cell h _).trans rfl) hS ?_; simp only [Act.put, List.setIfInBounds_toArray, List.set_cons_zero, List.set_cons_succ, List.getElem_toArray, List.getElem_cons_zero, List.getElem_cons_succ]) | (refine wpX_loadK rfl rfl _ _ rfl _ rfl _ 34 _ (fun w' h => h) Try.underlying34 rfl keys_info hS ?_; simp only [Act.put, List.setIfInBounds_toArray, List.set_cons_zero, List.set_cons_succ, List.getElem_toArray, List.getElem_cons_zero, List.getElem_cons_succ]) | (refine wpX_pure rfl rfl rfl ?_; intro K hK; go_big_quiet_op; refine hK _ ?_; clear hK K))
  refine wpX_nil ?_
  go_wp2_with fail
  go_ret2
  exact ⟨rfl, hB⟩
theorem crOpen_arg (k : Ks) (i : Int) (s : ByteArray) (w : World) (h : ¬ k.right i) : Calls Try.prog 31 #[.agg #[.string k.enc, .string k.mac, .string k.head], .int .i64 i, .string s] w fun e w' => e = .returned (.tuple #[.string ⟨#[]⟩, .int .i64 1]) ∧ Below w.heap.size w w' := by
  obtain ⟨enc, mac, head⟩ := k
  have hS := Blk.new w 34 #[.string enc, .string mac, .string head]
  have hB : Below w.heap.size w (w.alloc (.cells #[.string enc, .string mac, .string head] 34)) := (Below.refl _ _).alloc (Nat.le_refl _) _
  have c0 : (w.alloc (.cells #[.string enc, .string mac, .string head] 34)).cell? ⟨w.heap.size, 0, none⟩ = some (.string enc) := (hS.cell 0).trans rfl
  have c1 : (w.alloc (.cells #[.string enc, .string mac, .string head] 34)).cell? ⟨w.heap.size, 1, none⟩ = some (.string mac) := (hS.cell 1).trans rfl
  have c2 : (w.alloc (.cells #[.string enc, .string mac, .string head] 34)).cell? ⟨w.heap.size, 2, none⟩ = some (.string head) := (hS.cell 2).trans rfl
  have h1 := fun W => crbright_no ⟨enc, mac, head⟩ i W h
  dsimp only at h1 ⊢
  have H1 := Lib.hid h1
  clear h h1
  go_enter Try.func31, Try.ntmps31
  go_wp2_with fail
  (with_reducible refine (H1.out _).mono ?_); rintro e w1 ⟨rfl, hb⟩
  replace hB := hB.trans (hb.mono hB.size)
  replace hS := hS.below hb hS.lt
  clear hb c0 c1 c2
  go_wp2_with fail
  go_ret2
  exact ⟨rfl, hB⟩
theorem crOpen_form (k : Ks) (i : Int) (s : ByteArray) (w : World) (h : k.right i) (hs : s.size ≠ 224) : Calls Try.prog 31 #[.agg #[.string k.enc, .string k.mac, .string k.head], .int .i64 i, .string s] w fun e w' => e = .returned (.tuple #[.string ⟨#[]⟩, .int .i64 2]) ∧ Below w.heap.size w w' := by
  obtain ⟨enc, mac, head⟩ := k
  have hS := Blk.new w 34 #[.string enc, .string mac, .string head]
  have hB : Below w.heap.size w (w.alloc (.cells #[.string enc, .string mac, .string head] 34)) := (Below.refl _ _).alloc (Nat.le_refl _) _
  have c0 : (w.alloc (.cells #[.string enc, .string mac, .string head] 34)).cell? ⟨w.heap.size, 0, none⟩ = some (.string enc) := (hS.cell 0).trans rfl
  have c1 : (w.alloc (.cells #[.string enc, .string mac, .string head] 34)).cell? ⟨w.heap.size, 1, none⟩ = some (.string mac) := (hS.cell 1).trans rfl
  have c2 : (w.alloc (.cells #[.string enc, .string mac, .string head] 34)).cell? ⟨w.heap.size, 2, none⟩ = some (.string head) := (hS.cell 2).trans rfl
  have e1 : ((s.size : Int) != 224) = true := by simp; omega
  have h1 := fun W => crbright_yes ⟨enc, mac, head⟩ i W h
  dsimp only at h1 ⊢
  have H1 := Lib.hid h1
  clear h h1
  go_enter Try.func31, Try.ntmps31
  go_wp2_with fail
  (with_reducible refine (H1.out _).mono ?_); rintro e w1 ⟨rfl, hb⟩
  replace hB := hB.trans (hb.mono hB.size)
  replace hS := hS.below hb hS.lt
  clear hb c0 c1 c2
  go_wp2_with fail
  go_ret2
  exact ⟨rfl, hB⟩
set_option maxHeartbeats 4000000 in
theorem crOpen_tag (k : Ks) (i : Int) (s : ByteArray) (w : World) (h : k.right i) (hs : s.size = 224) (hm : k.mac.size ≤ 1000000) (ht : ¬ tagB k.mac i (s.extract 0 192) = s.extract 192 s.size) : Calls Try.prog 31 #[.agg #[.string k.enc, .string k.mac, .string k.head], .int .i64 i, .string s] w fun e w' => e = .returned (.tuple #[.string ⟨#[]⟩, .int .i64 4]) ∧ Below w.heap.size w w' := by
  obtain ⟨enc, mac, head⟩ := k
  have h1 := fun W => crbright_yes ⟨enc, mac, head⟩ i W h
  have hz1 : (s.extract 0 192).size = 192 := by rw [ByteArray.size_extract]; omega
  have hz2 : (s.extract 192 s.size).size = 32 := by rw [ByteArray.size_extract]; omega
  have hzt := tagB_size mac i (s.extract 0 192)
  have hz8 : (str (be i 8)).size = 8 := by rw [str_size, be_length]
  have hz4 : (str (be i 4)).size = 4 := by rw [str_size, be_length]
  have h5 := fun W => crFixed4 i W
  have h4 := fun W => crTag mac (str (be i 4) ++ s.extract 0 192) W (Nat.le_trans hm (by decide)) (by rw [ByteArray.size_append]; omega)
  have e4 : str (tagL mac.data.toList (str (be i 4) ++ s.extract 0 192).data.toList) = tagB mac i (s.extract 0 192) := rfl
  rw [e4] at h4
  clear e4
  dsimp only at h1 h4 ht ⊢
  have hbt := beq_text_ne ht
  obtain ⟨T, HT⟩ : ∃ x, Hid (tagB mac i (s.extract 0 192) = x) := ⟨_, Lib.hid rfl⟩
  simp only [HT.out] at h4 h5 hzt hbt
  obtain ⟨M, HM⟩ : ∃ x, Hid (str (be i 4) = x) := ⟨_, Lib.hid rfl⟩
  simp only [HM.out] at h4 h5 hz4
  have e1 : ((s.size : Int) != 224) = false := by simp; omega
  have e2 : (192 : Int) ≤ (s.size : Int) := by omega
  have HHS := Lib.hid hs
  have H1 := Lib.hid h1
  have H4 := Lib.hid h4
  have H5 := Lib.hid h5
  have hS := Blk.new w 34 #[.string enc, .string mac, .string head]
  have hB : Below w.heap.size w (w.alloc (.cells #[.string enc, .string mac, .string head] 34)) := (Below.refl _ _).alloc (Nat.le_refl _) _
  have c0 : (w.alloc (.cells #[.string enc, .string mac, .string head] 34)).cell? ⟨w.heap.size, 0, none⟩ = some (.string enc) := (hS.cell 0).trans rfl
  have c1 : (w.alloc (.cells #[.string enc, .string mac, .string head] 34)).cell? ⟨w.heap.size, 1, none⟩ = some (.string mac) := (hS.cell 1).trans rfl
  have c2 : (w.alloc (.cells #[.string enc, .string mac, .string head] 34)).cell? ⟨w.heap.size, 2, none⟩ = some (.string head) := (hS.cell 2).trans rfl
  clear h h1 h4 h5 hm ht hs
  go_enter Try.func31, Try.ntmps31
  go_wp2_with fail
  (with_reducible refine (H1.out _).mono ?_); rintro e w1 ⟨rfl, hb⟩
  replace hB := hB.trans (hb.mono hB.size)
  replace hS := hS.below hb hS.lt
  clear hb c0 c1 c2
  go_wp2_with fail
  refine wp_region_lexS (fun w' => Blk w' w.heap.size 34 #[.string enc, .string mac, .string head]) 0 [] (by kernel_rfl) (by kernel_rfl) hS.drew ?_
  replace hS := hS.drew
  replace hB := below_drewN hB 1
  repeat (first | (refine wpX_load0 rfl rfl _ _ rfl _ rfl _ rfl Try.underlying9 _ (fun w' h => (Blk.cell h _).trans rfl) hS ?_; simp only [Act.put, List.setIfInBounds_toArray, List.set_cons_zero, List.set_cons_succ, List.getElem_toArray, List.getElem_cons_zero, List.getElem_cons_succ]) | (refine wpX_loadK rfl rfl _ _ rfl _ rfl _ 34 _ (fun w' h => h) Try.underlying34 rfl keys_info hS ?_; simp only [Act.put, List.setIfInBounds_toArray, List.set_cons_zero, List.set_cons_succ, List.getElem_toArray, List.getElem_cons_zero, List.getElem_cons_succ]) | (refine wpX_pure rfl rfl rfl ?_; intro K hK; go_big_quiet_op; refine hK _ ?_; clear hK K))
  refine wpX_eff rfl rfl ?_; intro K hK; go_wp2_with fail
  (with_reducible refine (H5.out _).mono ?_); rintro e w5 ⟨rfl, hb⟩
  go_wp2_with fail; refine hK _ _ (hS.below hb hS.lt) ?_; clear hK K; replace hB := hB.trans (hb.mono hB.size); replace hS := hS.below hb hS.lt; clear hb
  repeat (first | (refine wpX_load0 rfl rfl _ _ rfl _ rfl _ rfl Try.underlying9 _ (fun w' h => (Blk.cell h _).trans rfl) hS ?_; simp only [Act.put, List.setIfInBounds_toArray, List.set_cons_zero, List.set_cons_succ, List.getElem_toArray, List.getElem_cons_zero, List.getElem_cons_succ]) | (refine wpX_loadK rfl rfl _ _ rfl _ rfl _ 34 _ (fun w' h => h) Try.underlying34 rfl keys_info hS ?_; simp only [Act.put, List.setIfInBounds_toArray, List.set_cons_zero, List.set_cons_succ, List.getElem_toArray, List.getElem_cons_zero, List.getElem_cons_succ]) | (refine wpX_pure rfl rfl rfl ?_; intro K hK; go_big_quiet_op; refine hK _ ?_; clear hK K))
  refine wpX_eff rfl rfl ?_; intro K hK; go_wp2_with fail
  (with_reducible refine (H4.out _).mono ?_); rintro e w5 ⟨rfl, hb⟩
  go_wp2_with fail; refine hK _ _ (hS.below hb hS.lt) ?_; clear hK K; replace hB := hB.trans (hb.mono hB.size); replace hS := hS.below hb hS.lt; clear hb
  repeat (first | (refine wpX_load0 rfl rfl _ _ rfl _ rfl _ rfl Try.underlying9 _ (fun w' h => (Blk.cell h _).trans rfl) hS ?_; simp only [Act.put, List.setIfInBounds_toArray, List.set_cons_zero, List.set_cons_succ, List.getElem_toArray, List.getElem_cons_zero, List.getElem_cons_succ]) | (refine wpX_loadK rfl rfl _ _ rfl _ rfl _ 34 _ (fun w' h => h) Try.underlying34 rfl keys_info hS ?_; simp only [Act.put, List.setIfInBounds_toArray, List.set_cons_zero, List.set_cons_succ, List.getElem_toArray, List.getElem_cons_zero, List.getElem_cons_succ]) | (refine wpX_pure rfl rfl rfl ?_; intro K hK; go_big_quiet_op; refine hK _ ?_; clear hK K))
  refine wpX_nil ?_
  go_wp2_with fail
  go_ret2
  exact ⟨rfl, hB⟩
set_option maxHeartbeats 4000000 in
theorem crOpen_yes (k : Ks) (i : Int) (s : ByteArray) (w : World) (h : k.right i) (hs : s.size = 224) (hm : k.mac.size ≤ 1000000) (ht :  tagB k.mac i (s.extract 0 192) = s.extract 192 s.size) : Calls Try.prog 31 #[.agg #[.string k.enc, .string k.mac, .string k.head], .int .i64 i, .string s] w fun e w' => e = .returned (.tuple #[.string (xorS k.enc (nonceB i) 1 (s.extract 0 192)), .int .i64 0]) ∧ Below w.heap.size w w' := by
  obtain ⟨enc, mac, head⟩ := k
  have h1 := fun W => crbright_yes ⟨enc, mac, head⟩ i W h
  have hz1 : (s.extract 0 192).size = 192 := by rw [ByteArray.size_extract]; omega
  have hz2 : (s.extract 192 s.size).size = 32 := by rw [ByteArray.size_extract]; omega
  have hzt := tagB_size mac i (s.extract 0 192)
  have hz8 : (str (be i 8)).size = 8 := by rw [str_size, be_length]
  have hz4 : (str (be i 4)).size = 4 := by rw [str_size, be_length]
  have h5 := fun W => crFixed4 i W
  have h4 := fun W => crTag mac (str (be i 4) ++ s.extract 0 192) W (Nat.le_trans hm (by decide)) (by rw [ByteArray.size_append]; omega)
  have e4 : str (tagL mac.data.toList (str (be i 4) ++ s.extract 0 192).data.toList) = tagB mac i (s.extract 0 192) := rfl
  rw [e4] at h4
  clear e4
  have h2 := fun W => crFixed8 i W
  have h3 := fun W => crXOR_yes enc (nonceB i) 1 (s.extract 0 192) W h.1 (nonceB_size i) (by omega) (by omega) (by omega) (.inr (by omega))
  have hz3 := xorS_size enc (nonceB i) 1 (s.extract 0 192)
  dsimp only at h1 h4 ht ⊢
  have hbt : ((tagB mac i (s.extract 0 192)).toList == (s.extract 192 s.size).toList) = true := by rw [ht]; exact beq_self_eq_true _
  obtain ⟨T, HT⟩ : ∃ x, Hid (tagB mac i (s.extract 0 192) = x) := ⟨_, Lib.hid rfl⟩
  simp only [HT.out] at h4 h5 hzt hbt
  obtain ⟨X, HX⟩ : ∃ x, Hid (xorS enc (nonceB i) 1 (s.extract 0 192) = x) := ⟨_, Lib.hid rfl⟩
  simp only [HX.out] at h3 hz3 ⊢
  have hn : nonceB i = (⟨#[83, 76, 68, 71]⟩ ++ str (be i 8) : ByteArray) := rfl
  rw [hn] at h3
  clear hn
  obtain ⟨N, HN⟩ : ∃ x, Hid (str (be i 8) = x) := ⟨_, Lib.hid rfl⟩
  simp only [HN.out] at h2 h3 hz8
  obtain ⟨M, HM⟩ : ∃ x, Hid (str (be i 4) = x) := ⟨_, Lib.hid rfl⟩
  simp only [HM.out] at h4 h5 hz4
  have e1 : ((s.size : Int) != 224) = false := by simp; omega
  have e2 : (192 : Int) ≤ (s.size : Int) := by omega
  have HHS := Lib.hid hs
  have H1 := Lib.hid h1
  have H4 := Lib.hid h4
  have H5 := Lib.hid h5
  have H2 := Lib.hid h2
  have H3 := Lib.hid h3
  have hS := Blk.new w 34 #[.string enc, .string mac, .string head]
  have hB : Below w.heap.size w (w.alloc (.cells #[.string enc, .string mac, .string head] 34)) := (Below.refl _ _).alloc (Nat.le_refl _) _
  have c0 : (w.alloc (.cells #[.string enc, .string mac, .string head] 34)).cell? ⟨w.heap.size, 0, none⟩ = some (.string enc) := (hS.cell 0).trans rfl
  have c1 : (w.alloc (.cells #[.string enc, .string mac, .string head] 34)).cell? ⟨w.heap.size, 1, none⟩ = some (.string mac) := (hS.cell 1).trans rfl
  have c2 : (w.alloc (.cells #[.string enc, .string mac, .string head] 34)).cell? ⟨w.heap.size, 2, none⟩ = some (.string head) := (hS.cell 2).trans rfl
  clear h h1 h4 h5 hm ht h2 h3 hs
  go_enter Try.func31, Try.ntmps31
  go_wp2_with fail
  (with_reducible refine (H1.out _).mono ?_); rintro e w1 ⟨rfl, hb⟩
  replace hB := hB.trans (hb.mono hB.size)
  replace hS := hS.below hb hS.lt
  clear hb c0 c1 c2
  go_wp2_with fail
  refine wp_region_lexS (fun w' => Blk w' w.heap.size 34 #[.string enc, .string mac, .string head]) 0 [] (by kernel_rfl) (by kernel_rfl) hS.drew ?_
  replace hS := hS.drew
  replace hB := below_drewN hB 1
  repeat (first | (refine wpX_load0 rfl rfl _ _ rfl _ rfl _ rfl Try.underlying9 _ (fun w' h => (Blk.cell h _).trans rfl) hS ?_; simp only [Act.put, List.setIfInBounds_toArray, List.set_cons_zero, List.set_cons_succ, List.getElem_toArray, List.getElem_cons_zero, List.getElem_cons_succ]) | (refine wpX_loadK rfl rfl _ _ rfl _ rfl _ 34 _ (fun w' h => h) Try.underlying34 rfl keys_info hS ?_; simp only [Act.put, List.setIfInBounds_toArray, List.set_cons_zero, List.set_cons_succ, List.getElem_toArray, List.getElem_cons_zero, List.getElem_cons_succ]) | (refine wpX_pure rfl rfl rfl ?_; intro K hK; go_big_quiet_op; refine hK _ ?_; clear hK K))
  refine wpX_eff rfl rfl ?_; intro K hK; go_wp2_with fail
  (with_reducible refine (H5.out _).mono ?_); rintro e w5 ⟨rfl, hb⟩
  go_wp2_with fail; refine hK _ _ (hS.below hb hS.lt) ?_; clear hK K; replace hB := hB.trans (hb.mono hB.size); replace hS := hS.below hb hS.lt; clear hb
  repeat (first | (refine wpX_load0 rfl rfl _ _ rfl _ rfl _ rfl Try.underlying9 _ (fun w' h => (Blk.cell h _).trans rfl) hS ?_; simp only [Act.put, List.setIfInBounds_toArray, List.set_cons_zero, List.set_cons_succ, List.getElem_toArray, List.getElem_cons_zero, List.getElem_cons_succ]) | (refine wpX_loadK rfl rfl _ _ rfl _ rfl _ 34 _ (fun w' h => h) Try.underlying34 rfl keys_info hS ?_; simp only [Act.put, List.setIfInBounds_toArray, List.set_cons_zero, List.set_cons_succ, List.getElem_toArray, List.getElem_cons_zero, List.getElem_cons_succ]) | (refine wpX_pure rfl rfl rfl ?_; intro K hK; go_big_quiet_op; refine hK _ ?_; clear hK K))
  refine wpX_eff rfl rfl ?_; intro K hK; go_wp2_with fail
  (with_reducible refine (H4.out _).mono ?_); rintro e w5 ⟨rfl, hb⟩
  go_wp2_with fail; refine hK _ _ (hS.below hb hS.lt) ?_; clear hK K; replace hB := hB.trans (hb.mono hB.size); replace hS := hS.below hb hS.lt; clear hb
  repeat (first | (refine wpX_load0 rfl rfl _ _ rfl _ rfl _ rfl Try.underlying9 _ (fun w' h => (Blk.cell h _).trans rfl) hS ?_; simp only [Act.put, List.setIfInBounds_toArray, List.set_cons_zero, List.set_cons_succ, List.getElem_toArray, List.getElem_cons_zero, List.getElem_cons_succ]) | (refine wpX_loadK rfl rfl _ _ rfl _ rfl _ 34 _ (fun w' h => h) Try.underlying34 rfl keys_info hS ?_; simp only [Act.put, List.setIfInBounds_toArray, List.set_cons_zero, List.set_cons_succ, List.getElem_toArray, List.getElem_cons_zero, List.getElem_cons_succ]) | (refine wpX_pure rfl rfl rfl ?_; intro K hK; go_big_quiet_op; refine hK _ ?_; clear hK K))
  refine wpX_nil ?_
  go_wp2_with fail
  refine wp_region_lexS (fun w' => Blk w' w.heap.size 34 #[.string enc, .string mac, .string head]) 0 [] (by kernel_rfl) (by kernel_rfl) hS.drew ?_
  replace hS := hS.drew
  replace hB := below_drewN hB 1
  repeat (first | (refine wpX_load0 rfl rfl _ _ rfl _ rfl _ rfl Try.underlying9 _ (fun w' h => (Blk.cell h _).trans rfl) hS ?_; simp only [Act.put, List.setIfInBounds_toArray, List.set_cons_zero, List.set_cons_succ, List.getElem_toArray, List.getElem_cons_zero, List.getElem_cons_succ]) | (refine wpX_loadK rfl rfl _ _ rfl _ rfl _ 34 _ (fun w' h => h) Try.underlying34 rfl keys_info hS ?_; simp only [Act.put, List.setIfInBounds_toArray, List.set_cons_zero, List.set_cons_succ, List.getElem_toArray, List.getElem_cons_zero, List.getElem_cons_succ]) | (refine wpX_pure rfl rfl rfl ?_; intro K hK; go_big_quiet_op; refine hK _ ?_; clear hK K))
  refine wpX_eff rfl rfl ?_; intro K hK; go_wp2_with fail
  (with_reducible refine (H2.out _).mono ?_); rintro e w5 ⟨rfl, hb⟩
  go_wp2_with fail; refine hK _ _ (hS.below hb hS.lt) ?_; clear hK K; replace hB := hB.trans (hb.mono hB.size); replace hS := hS.below hb hS.lt; clear hb
  repeat (first | (refine wpX_load0 rfl rfl _ _ rfl _ rfl _ rfl Try.underlying9 _ (fun w' h => (Blk.cell h _).trans rfl) hS ?_; simp only [Act.put, List.setIfInBounds_toArray, List.set_cons_zero, List.set_cons_succ, List.getElem_toArray, List.getElem_cons_zero, List.getElem_cons_succ]) | (refine wpX_loadK rfl rfl _ _ rfl _ rfl _ 34 _ (fun w' h => h) Try.underlying34 rfl keys_info hS ?_; simp only [Act.put, List.setIfInBounds_toArray, List.set_cons_zero, List.set_cons_succ, List.getElem_toArray, List.getElem_cons_zero, List.getElem_cons_succ]) | (refine wpX_pure rfl rfl rfl ?_; intro K hK; go_big_quiet_op; refine hK _ ?_; clear hK K))
  refine wpX_eff rfl rfl ?_; intro K hK; go_wp2_with fail
  (with_reducible refine (H3.out _).mono ?_); rintro e w5 ⟨rfl, hb⟩
  go_wp2_with fail; refine hK _ _ (hS.below hb hS.lt) ?_; clear hK K; replace hB := hB.trans (hb.mono hB.size); replace hS := hS.below hb hS.lt; clear hb
  repeat (first | (refine wpX_load0 rfl rfl _ _ rfl _ rfl _ rfl Try.underlying9 _ (fun w' h => (Blk.cell h _).trans rfl) hS ?_; simp only [Act.put, List.setIfInBounds_toArray, List.set_cons_zero, List.set_cons_succ, List.getElem_toArray, List.getElem_cons_zero, List.getElem_cons_succ]) | (refine wpX_loadK rfl rfl _ _ rfl _ rfl _ 34 _ (fun w' h => h) Try.underlying34 rfl keys_info hS ?_; simp only [Act.put, List.setIfInBounds_toArray, List.set_cons_zero, List.set_cons_succ, List.getElem_toArray, List.getElem_cons_zero, List.getElem_cons_succ]) | (refine wpX_pure rfl rfl rfl ?_; intro K hK; go_big_quiet_op; refine hK _ ?_; clear hK K))
  refine wpX_nil ?_
  go_wp2_with fail
  go_ret2
  exact ⟨rfl, hB⟩
end Go.Proofs.Ytbofmfocnbennaa
