/- block.Seal and the reference's. -/
import Derived.Test.YtbofmfocnbennaaBlock1
import Derived.Test.YtbofmfocnbennaaChaLaws
namespace Go.Proofs.Ytbofmfocnbennaa
open Go.RowKit
set_option maxRecDepth 100000
set_option linter.unusedVariables false
set_option linter.unusedSimpArgs false

abbrev Ks.right (k : Ks) (i : Int) : Prop := k.enc.size = 32 ∧ 0 ≤ i ∧ i < 256
theorem sealB_size (k : Ks) (i : Int) (c : ByteArray) : (sealB k i c).size = c.size + 32 := by
  unfold sealB; rw [ByteArray.size_append, xorS_size, tagB_size]
theorem cSeal_no (k : Ks) (i : Int) (c : ByteArray) (w : World) (h : ¬ (k.right i ∧ c.size = 192)) : Calls Try.prog 28 #[.agg #[.string k.enc, .string k.mac, .string k.head], .int .i64 i, .string c] w fun e w' => e = .returned (.tuple #[.string ⟨#[]⟩, .int .i64 1]) ∧ Below w.heap.size w w' := by
  obtain ⟨enc, mac, head⟩ := k
  have hS := Blk.new w 34 #[.string enc, .string mac, .string head]
  have hB : Below w.heap.size w (w.alloc (.cells #[.string enc, .string mac, .string head] 34)) := (Below.refl _ _).alloc (Nat.le_refl _) _
  have c0 : (w.alloc (.cells #[.string enc, .string mac, .string head] 34)).cell? ⟨w.heap.size, 0, none⟩ = some (.string enc) := (hS.cell 0).trans rfl
  have c1 : (w.alloc (.cells #[.string enc, .string mac, .string head] 34)).cell? ⟨w.heap.size, 1, none⟩ = some (.string mac) := (hS.cell 1).trans rfl
  have c2 : (w.alloc (.cells #[.string enc, .string mac, .string head] 34)).cell? ⟨w.heap.size, 2, none⟩ = some (.string head) := (hS.cell 2).trans rfl
  by_cases hr : (⟨enc, mac, head⟩ : Ks).right i
  · have hc : c.size ≠ 192 := fun e => h ⟨hr, e⟩
    have e1 : ((c.size : Int) != 192) = true := by simp; omega
    have h1 := fun W => cbright_yes ⟨enc, mac, head⟩ i W hr
    dsimp only at h1 ⊢
    have H1 := Lib.hid h1
    clear h h1 hr
    go_enter Try.func28, Try.ntmps28
    go_wp2_with fail
    (with_reducible refine (H1.out _).mono ?_); rintro e w1 ⟨rfl, hb⟩
    replace hB := hB.trans (hb.mono hB.size)
    clear hb c0 c1 c2 hS
    go_wp2_with fail
    go_ret2
    exact ⟨rfl, hB⟩
  · have h1 := fun W => cbright_no ⟨enc, mac, head⟩ i W hr
    dsimp only at h1 ⊢
    have H1 := Lib.hid h1
    clear h h1 hr
    go_enter Try.func28, Try.ntmps28
    go_wp2_with fail
    (with_reducible refine (H1.out _).mono ?_); rintro e w1 ⟨rfl, hb⟩
    replace hB := hB.trans (hb.mono hB.size)
    clear hb c0 c1 c2 hS
    go_wp2_with fail
    go_ret2
    exact ⟨rfl, hB⟩
theorem crSeal_no (k : Ks) (i : Int) (c : ByteArray) (w : World) (h : ¬ (k.right i ∧ c.size = 192)) : Calls Try.prog 29 #[.agg #[.string k.enc, .string k.mac, .string k.head], .int .i64 i, .string c] w fun e w' => e = .returned (.tuple #[.string ⟨#[]⟩, .int .i64 1]) ∧ Below w.heap.size w w' := by
  obtain ⟨enc, mac, head⟩ := k
  have hS := Blk.new w 34 #[.string enc, .string mac, .string head]
  have hB : Below w.heap.size w (w.alloc (.cells #[.string enc, .string mac, .string head] 34)) := (Below.refl _ _).alloc (Nat.le_refl _) _
  have c0 : (w.alloc (.cells #[.string enc, .string mac, .string head] 34)).cell? ⟨w.heap.size, 0, none⟩ = some (.string enc) := (hS.cell 0).trans rfl
  have c1 : (w.alloc (.cells #[.string enc, .string mac, .string head] 34)).cell? ⟨w.heap.size, 1, none⟩ = some (.string mac) := (hS.cell 1).trans rfl
  have c2 : (w.alloc (.cells #[.string enc, .string mac, .string head] 34)).cell? ⟨w.heap.size, 2, none⟩ = some (.string head) := (hS.cell 2).trans rfl
  by_cases hr : (⟨enc, mac, head⟩ : Ks).right i
  · have hc : c.size ≠ 192 := fun e => h ⟨hr, e⟩
    have e1 : ((c.size : Int) != 192) = true := by simp; omega
    have h1 := fun W => crbright_yes ⟨enc, mac, head⟩ i W hr
    dsimp only at h1 ⊢
    have H1 := Lib.hid h1
    clear h h1 hr
    go_enter Try.func29, Try.ntmps29
    go_wp2_with fail
    (with_reducible refine (H1.out _).mono ?_); rintro e w1 ⟨rfl, hb⟩
    replace hB := hB.trans (hb.mono hB.size)
    clear hb c0 c1 c2 hS
    go_wp2_with fail
    go_ret2
    exact ⟨rfl, hB⟩
  · have h1 := fun W => crbright_no ⟨enc, mac, head⟩ i W hr
    dsimp only at h1 ⊢
    have H1 := Lib.hid h1
    clear h h1 hr
    go_enter Try.func29, Try.ntmps29
    go_wp2_with fail
    (with_reducible refine (H1.out _).mono ?_); rintro e w1 ⟨rfl, hb⟩
    replace hB := hB.trans (hb.mono hB.size)
    clear hb c0 c1 c2 hS
    go_wp2_with fail
    go_ret2
    exact ⟨rfl, hB⟩
set_option maxHeartbeats 4000000 in
theorem cSeal_yes (k : Ks) (i : Int) (c : ByteArray) (w : World) (h : k.right i) (hc : c.size = 192) (hm : k.mac.size ≤ 1000000) : Calls Try.prog 28 #[.agg #[.string k.enc, .string k.mac, .string k.head], .int .i64 i, .string c] w fun e w' => e = .returned (.tuple #[.string (sealB k i c), .int .i64 0]) ∧ Below w.heap.size w w' := by
  obtain ⟨enc, mac, head⟩ := k
  have h1 := fun W => cbright_yes ⟨enc, mac, head⟩ i W h
  have h2 := fun W => cbnonce i W
  have h3 := fun W => cXOR_yes enc (nonceB i) 1 c W h.1 (nonceB_size i) (by omega) (by omega) (by omega) (.inr (by omega))
  have hz := xorS_size enc (nonceB i) 1 c
  have h4 := fun W => cbtag ⟨enc, mac, head⟩ i (xorS enc (nonceB i) 1 c) W hm (by omega)
  unfold sealB
  dsimp only at h1 h4 ⊢
  have hzt := tagB_size mac i (xorS enc (nonceB i) 1 c)
  obtain ⟨T, HT⟩ : ∃ x, Hid (tagB mac i (xorS enc (nonceB i) 1 c) = x) := ⟨_, Lib.hid rfl⟩
  simp only [HT.out] at h4 hzt ⊢
  obtain ⟨X, HX⟩ : ∃ x, Hid (xorS enc (nonceB i) 1 c = x) := ⟨_, Lib.hid rfl⟩
  simp only [HX.out] at h3 h4 hz ⊢
  obtain ⟨N, HN⟩ : ∃ x, Hid (nonceB i = x) := ⟨_, Lib.hid rfl⟩
  simp only [HN.out] at h2 h3
  have e1 : ((c.size : Int) != 192) = false := by simp; omega
  have H1 := Lib.hid h1
  have H2 := Lib.hid h2
  have H3 := Lib.hid h3
  have H4 := Lib.hid h4
  have hS := Blk.new w 34 #[.string enc, .string mac, .string head]
  have hB : Below w.heap.size w (w.alloc (.cells #[.string enc, .string mac, .string head] 34)) := (Below.refl _ _).alloc (Nat.le_refl _) _
  have c0 : (w.alloc (.cells #[.string enc, .string mac, .string head] 34)).cell? ⟨w.heap.size, 0, none⟩ = some (.string enc) := (hS.cell 0).trans rfl
  have c1 : (w.alloc (.cells #[.string enc, .string mac, .string head] 34)).cell? ⟨w.heap.size, 1, none⟩ = some (.string mac) := (hS.cell 1).trans rfl
  have c2 : (w.alloc (.cells #[.string enc, .string mac, .string head] 34)).cell? ⟨w.heap.size, 2, none⟩ = some (.string head) := (hS.cell 2).trans rfl
  clear h h1 h2 h3 h4 hm
  go_enter Try.func28, Try.ntmps28
  go_wp2_with fail
  (with_reducible refine (H1.out _).mono ?_); rintro e w1 ⟨rfl, hb⟩
  replace hB := hB.trans (hb.mono hB.size)
  replace hS := hS.below hb hS.lt
  clear hb c0 c1 c2
  go_wp2_with fail
  refine wp_region_lexS (fun w' => Blk w' w.heap.size 34 #[.string enc, .string mac, .string head]) 0 [] (by kernel_rfl) (by kernel_rfl) hS.drew ?_
  replace hS := hS.drew
  replace hB := below_drewN hB 1
  repeat (first | (refine wpX_load0 rfl rfl _ _ rfl _ rfl _ rfl Try.underlying9 _ (fun w' h => (Blk.cell h _).trans rfl) hS ?_; simp only [Act.put, List.setIfInBounds_toArray, List.set_cons_zero, List.set_cons_succ, List.getElem_toArray, List.getElem_cons_zero, List.getElem_cons_succ]) | (refine wpX_loadK rfl rfl _ _ rfl _ rfl _ 34 _ (fun w' h => h) Try.underlying34 rfl keys_info hS ?_; simp only [Act.put, List.setIfInBounds_toArray, List.set_cons_zero, List.set_cons_succ, List.getElem_toArray, List.getElem_cons_zero, List.getElem_cons_succ]) | (refine wpX_pure rfl rfl rfl ?_; intro K hK; go_big_quiet_op; refine hK _ ?_; clear hK K))
  refine wpX_eff rfl rfl ?_; intro K hK; go_wp2_with fail
  (with_reducible refine (H2.out _).mono ?_); rintro e w5 ⟨rfl, hb⟩
  go_wp2_with fail; refine hK _ _ (hS.below hb hS.lt) ?_; clear hK K; replace hB := hB.trans (hb.mono hB.size); replace hS := hS.below hb hS.lt; clear hb
  repeat (first | (refine wpX_load0 rfl rfl _ _ rfl _ rfl _ rfl Try.underlying9 _ (fun w' h => (Blk.cell h _).trans rfl) hS ?_; simp only [Act.put, List.setIfInBounds_toArray, List.set_cons_zero, List.set_cons_succ, List.getElem_toArray, List.getElem_cons_zero, List.getElem_cons_succ]) | (refine wpX_loadK rfl rfl _ _ rfl _ rfl _ 34 _ (fun w' h => h) Try.underlying34 rfl keys_info hS ?_; simp only [Act.put, List.setIfInBounds_toArray, List.set_cons_zero, List.set_cons_succ, List.getElem_toArray, List.getElem_cons_zero, List.getElem_cons_succ]) | (refine wpX_pure rfl rfl rfl ?_; intro K hK; go_big_quiet_op; refine hK _ ?_; clear hK K))
  refine wpX_eff rfl rfl ?_; intro K hK; go_wp2_with fail
  (with_reducible refine (H3.out _).mono ?_); rintro e w6 ⟨rfl, hb⟩
  go_wp2_with fail; refine hK _ _ (hS.below hb hS.lt) ?_; clear hK K; replace hB := hB.trans (hb.mono hB.size); replace hS := hS.below hb hS.lt; clear hb
  repeat (first | (refine wpX_load0 rfl rfl _ _ rfl _ rfl _ rfl Try.underlying9 _ (fun w' h => (Blk.cell h _).trans rfl) hS ?_; simp only [Act.put, List.setIfInBounds_toArray, List.set_cons_zero, List.set_cons_succ, List.getElem_toArray, List.getElem_cons_zero, List.getElem_cons_succ]) | (refine wpX_loadK rfl rfl _ _ rfl _ rfl _ 34 _ (fun w' h => h) Try.underlying34 rfl keys_info hS ?_; simp only [Act.put, List.setIfInBounds_toArray, List.set_cons_zero, List.set_cons_succ, List.getElem_toArray, List.getElem_cons_zero, List.getElem_cons_succ]) | (refine wpX_pure rfl rfl rfl ?_; intro K hK; go_big_quiet_op; refine hK _ ?_; clear hK K))
  refine wpX_nil ?_
  have c0 : w6.cell? ⟨w.heap.size, 0, none⟩ = some (.string enc) := (hS.cell 0).trans rfl
  have c1 : w6.cell? ⟨w.heap.size, 1, none⟩ = some (.string mac) := (hS.cell 1).trans rfl
  have c2 : w6.cell? ⟨w.heap.size, 2, none⟩ = some (.string head) := (hS.cell 2).trans rfl
  go_wp2_with fail
  (with_reducible refine (H4.out _).mono ?_); rintro e w7 ⟨rfl, hb⟩
  replace hB := hB.trans (hb.mono hB.size)
  clear hb c0 c1 c2 hS
  go_wp2_with fail
  go_ret2
  exact ⟨rfl, hB⟩
set_option maxHeartbeats 4000000 in
theorem crSeal_yes (k : Ks) (i : Int) (c : ByteArray) (w : World) (h : k.right i) (hc : c.size = 192) (hm : k.mac.size ≤ 1000000) : Calls Try.prog 29 #[.agg #[.string k.enc, .string k.mac, .string k.head], .int .i64 i, .string c] w fun e w' => e = .returned (.tuple #[.string (sealB k i c), .int .i64 0]) ∧ Below w.heap.size w w' := by
  obtain ⟨enc, mac, head⟩ := k
  have h1 := fun W => crbright_yes ⟨enc, mac, head⟩ i W h
  have h2 := fun W => crFixed8 i W
  have h3 := fun W => crXOR_yes enc (nonceB i) 1 c W h.1 (nonceB_size i) (by omega) (by omega) (by omega) (.inr (by omega))
  have hz := xorS_size enc (nonceB i) 1 c
  have hz8 : (str (be i 8)).size = 8 := by rw [str_size, be_length]
  have hz4 : (str (be i 4)).size = 4 := by rw [str_size, be_length]
  have h5 := fun W => crFixed4 i W
  have h4 := fun W => crTag mac (str (be i 4) ++ xorS enc (nonceB i) 1 c) W (Nat.le_trans hm (by decide)) (by rw [ByteArray.size_append]; omega)
  have e4 : str (tagL mac.data.toList (str (be i 4) ++ xorS enc (nonceB i) 1 c).data.toList) = tagB mac i (xorS enc (nonceB i) 1 c) := rfl
  have hn : (⟨#[83, 76, 68, 71]⟩ ++ str (be i 8) : ByteArray) = nonceB i := rfl
  rw [e4] at h4
  clear e4
  unfold sealB
  dsimp only at h1 h4 ⊢
  have hzt := tagB_size mac i (xorS enc (nonceB i) 1 c)
  obtain ⟨T, HT⟩ : ∃ x, Hid (tagB mac i (xorS enc (nonceB i) 1 c) = x) := ⟨_, Lib.hid rfl⟩
  simp only [HT.out] at h4 hzt ⊢
  obtain ⟨X, HX⟩ : ∃ x, Hid (xorS enc (nonceB i) 1 c = x) := ⟨_, Lib.hid rfl⟩
  simp only [HX.out] at h3 h4 hz ⊢
  rw [← hn] at h3
  clear hn
  obtain ⟨N, HN⟩ : ∃ x, Hid (str (be i 8) = x) := ⟨_, Lib.hid rfl⟩
  simp only [HN.out] at h2 h3 hz8
  obtain ⟨M, HM⟩ : ∃ x, Hid (str (be i 4) = x) := ⟨_, Lib.hid rfl⟩
  simp only [HM.out] at h4 h5 hz4
  have e1 : ((c.size : Int) != 192) = false := by simp; omega
  have H1 := Lib.hid h1
  have H2 := Lib.hid h2
  have H3 := Lib.hid h3
  have H4 := Lib.hid h4
  have H5 := Lib.hid h5
  have hS := Blk.new w 34 #[.string enc, .string mac, .string head]
  have hB : Below w.heap.size w (w.alloc (.cells #[.string enc, .string mac, .string head] 34)) := (Below.refl _ _).alloc (Nat.le_refl _) _
  have c0 : (w.alloc (.cells #[.string enc, .string mac, .string head] 34)).cell? ⟨w.heap.size, 0, none⟩ = some (.string enc) := (hS.cell 0).trans rfl
  have c1 : (w.alloc (.cells #[.string enc, .string mac, .string head] 34)).cell? ⟨w.heap.size, 1, none⟩ = some (.string mac) := (hS.cell 1).trans rfl
  have c2 : (w.alloc (.cells #[.string enc, .string mac, .string head] 34)).cell? ⟨w.heap.size, 2, none⟩ = some (.string head) := (hS.cell 2).trans rfl
  clear h h1 h2 h3 h4 h5 hm
  go_enter Try.func29, Try.ntmps29
  go_wp2_with fail
  (with_reducible refine (H1.out _).mono ?_); rintro e w1 ⟨rfl, hb⟩
  replace hB := hB.trans (hb.mono hB.size)
  replace hS := hS.below hb hS.lt
  clear hb c0 c1 c2
  go_wp2_with fail
  refine wp_region_lexS (fun w' => Blk w' w.heap.size 34 #[.string enc, .string mac, .string head]) 0 [] (by kernel_rfl) (by kernel_rfl) hS.drew ?_
  replace hS := hS.drew
  replace hB := below_drewN hB 1
  repeat (first | (refine wpX_load0 rfl rfl _ _ rfl _ rfl _ rfl Try.underlying9 _ (fun w' h => (Blk.cell h _).trans rfl) hS ?_; simp only [Act.put, List.setIfInBounds_toArray, List.set_cons_zero, List.set_cons_succ, List.getElem_toArray, List.getElem_cons_zero, List.getElem_cons_succ]) | (refine wpX_loadK rfl rfl _ _ rfl _ rfl _ 34 _ (fun w' h => h) Try.underlying34 rfl keys_info hS ?_; simp only [Act.put, List.setIfInBounds_toArray, List.set_cons_zero, List.set_cons_succ, List.getElem_toArray, List.getElem_cons_zero, List.getElem_cons_succ]) | (refine wpX_pure rfl rfl rfl ?_; intro K hK; go_big_quiet_op; refine hK _ ?_; clear hK K))
  refine wpX_eff rfl rfl ?_; intro K hK; go_wp2_with fail
  (with_reducible refine (H2.out _).mono ?_); rintro e w5 ⟨rfl, hb⟩
  go_wp2_with fail; refine hK _ _ (hS.below hb hS.lt) ?_; clear hK K; replace hB := hB.trans (hb.mono hB.size); replace hS := hS.below hb hS.lt; clear hb
  repeat (first | (refine wpX_load0 rfl rfl _ _ rfl _ rfl _ rfl Try.underlying9 _ (fun w' h => (Blk.cell h _).trans rfl) hS ?_; simp only [Act.put, List.setIfInBounds_toArray, List.set_cons_zero, List.set_cons_succ, List.getElem_toArray, List.getElem_cons_zero, List.getElem_cons_succ]) | (refine wpX_loadK rfl rfl _ _ rfl _ rfl _ 34 _ (fun w' h => h) Try.underlying34 rfl keys_info hS ?_; simp only [Act.put, List.setIfInBounds_toArray, List.set_cons_zero, List.set_cons_succ, List.getElem_toArray, List.getElem_cons_zero, List.getElem_cons_succ]) | (refine wpX_pure rfl rfl rfl ?_; intro K hK; go_big_quiet_op; refine hK _ ?_; clear hK K))
  refine wpX_eff rfl rfl ?_; intro K hK; go_wp2_with fail
  (with_reducible refine (H3.out _).mono ?_); rintro e w6 ⟨rfl, hb⟩
  go_wp2_with fail; refine hK _ _ (hS.below hb hS.lt) ?_; clear hK K; replace hB := hB.trans (hb.mono hB.size); replace hS := hS.below hb hS.lt; clear hb
  repeat (first | (refine wpX_load0 rfl rfl _ _ rfl _ rfl _ rfl Try.underlying9 _ (fun w' h => (Blk.cell h _).trans rfl) hS ?_; simp only [Act.put, List.setIfInBounds_toArray, List.set_cons_zero, List.set_cons_succ, List.getElem_toArray, List.getElem_cons_zero, List.getElem_cons_succ]) | (refine wpX_loadK rfl rfl _ _ rfl _ rfl _ 34 _ (fun w' h => h) Try.underlying34 rfl keys_info hS ?_; simp only [Act.put, List.setIfInBounds_toArray, List.set_cons_zero, List.set_cons_succ, List.getElem_toArray, List.getElem_cons_zero, List.getElem_cons_succ]) | (refine wpX_pure rfl rfl rfl ?_; intro K hK; go_big_quiet_op; refine hK _ ?_; clear hK K))
  refine wpX_nil ?_
  go_wp2_with fail
  refine wp_region_lexS (fun w' => Blk w' w.heap.size 34 #[.string enc, .string mac, .string head]) 0 [] (by kernel_rfl) (by kernel_rfl) hS.drew ?_
  replace hS := hS.drew
  replace hB := below_drewN hB 1
  repeat (first | (refine wpX_load0 rfl rfl _ _ rfl _ rfl _ rfl Try.underlying9 _ (fun w' h => (Blk.cell h _).trans rfl) hS ?_; simp only [Act.put, List.setIfInBounds_toArray, List.set_cons_zero, List.set_cons_succ, List.getElem_toArray, List.getElem_cons_zero, List.getElem_cons_succ]) | (refine wpX_loadK rfl rfl _ _ rfl _ rfl _ 34 _ (fun w' h => h) Try.underlying34 rfl keys_info hS ?_; simp only [Act.put, List.setIfInBounds_toArray, List.set_cons_zero, List.set_cons_succ, List.getElem_toArray, List.getElem_cons_zero, List.getElem_cons_succ]) | (refine wpX_pure rfl rfl rfl ?_; intro K hK; go_big_quiet_op; refine hK _ ?_; clear hK K))
  refine wpX_eff rfl rfl ?_; intro K hK; go_wp2_with fail
  (with_reducible refine (H5.out _).mono ?_); rintro e w8 ⟨rfl, hb⟩
  go_wp2_with fail; refine hK _ _ (hS.below hb hS.lt) ?_; clear hK K; replace hB := hB.trans (hb.mono hB.size); replace hS := hS.below hb hS.lt; clear hb
  repeat (first | (refine wpX_load0 rfl rfl _ _ rfl _ rfl _ rfl Try.underlying9 _ (fun w' h => (Blk.cell h _).trans rfl) hS ?_; simp only [Act.put, List.setIfInBounds_toArray, List.set_cons_zero, List.set_cons_succ, List.getElem_toArray, List.getElem_cons_zero, List.getElem_cons_succ]) | (refine wpX_loadK rfl rfl _ _ rfl _ rfl _ 34 _ (fun w' h => h) Try.underlying34 rfl keys_info hS ?_; simp only [Act.put, List.setIfInBounds_toArray, List.set_cons_zero, List.set_cons_succ, List.getElem_toArray, List.getElem_cons_zero, List.getElem_cons_succ]) | (refine wpX_pure rfl rfl rfl ?_; intro K hK; go_big_quiet_op; refine hK _ ?_; clear hK K))
  refine wpX_eff rfl rfl ?_; intro K hK; go_wp2_with fail
  (with_reducible refine (H4.out _).mono ?_); rintro e w7 ⟨rfl, hb⟩
  go_wp2_with fail; refine hK _ _ (hS.below hb hS.lt) ?_; clear hK K; replace hB := hB.trans (hb.mono hB.size); replace hS := hS.below hb hS.lt; clear hb
  repeat (first | (refine wpX_load0 rfl rfl _ _ rfl _ rfl _ rfl Try.underlying9 _ (fun w' h => (Blk.cell h _).trans rfl) hS ?_; simp only [Act.put, List.setIfInBounds_toArray, List.set_cons_zero, List.set_cons_succ, List.getElem_toArray, List.getElem_cons_zero, List.getElem_cons_succ]) | (refine wpX_loadK rfl rfl _ _ rfl _ rfl _ 34 _ (fun w' h => h) Try.underlying34 rfl keys_info hS ?_; simp only [Act.put, List.setIfInBounds_toArray, List.set_cons_zero, List.set_cons_succ, List.getElem_toArray, List.getElem_cons_zero, List.getElem_cons_succ]) | (refine wpX_pure rfl rfl rfl ?_; intro K hK; go_big_quiet_op; refine hK _ ?_; clear hK K))
  refine wpX_nil ?_
  go_wp2_with fail
  go_ret2
  exact ⟨rfl, hB⟩
end Go.Proofs.Ytbofmfocnbennaa
