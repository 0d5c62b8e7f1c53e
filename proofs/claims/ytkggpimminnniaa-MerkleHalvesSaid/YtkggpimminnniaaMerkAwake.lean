/- Chapter 15's examples; a slice of texts cut to a few. -/
import Derived.Test.YtkggpimminnniaaMerkProof
import Derived.Test.YtkggpimminnniaaTexts
import Derived.Test.YtkggpimminnniaaOpenStrs
namespace Go.Proofs.Ytkggpimminnniaa
open Go.RowKit
set_option linter.unusedVariables false
set_option linter.unusedSimpArgs false

theorem cut_three : cut 3 = 2 := (pow_cut 3 1 (.inl (by decide)) (by decide)).symm
theorem cut_two : cut 2 = 1 := (pow_cut 2 0 (.inr rfl) (by decide)).symm
theorem cut_five : cut 5 = 4 := (pow_cut 5 2 (.inl (by decide)) (by decide)).symm
theorem root_two (d : Nat) (a b : ByteArray) : root d [a, b] = mnode d a b := by
  rw [root_cut _ _ (by simp)]
  have e : cut [a, b].length = 1 := cut_two
  rw [e]
  show mnode d (root d [a]) (root d [b]) = _
  rw [root_one _ _ rfl, root_one _ _ rfl]; rfl
theorem root_three (d : Nat) (a b c : ByteArray) : root d [a, b, c] = mnode d (mnode d a b) c := by
  rw [root_cut _ _ (by simp)]
  have e : cut [a, b, c].length = 2 := cut_three
  rw [e]
  show mnode d (root d [a, b]) (root d [c]) = _
  rw [root_one _ [c] rfl, root_two]; rfl
theorem proof_three (d : Nat) (a b c : ByteArray) : proof d 2 [a, b, c] = [mnode d a b] := by
  have e : cut [a, b, c].length = 2 := cut_three
  rw [proof_right _ _ _ (by simp) (by rw [e]; omega), e]
  show proof d 0 [c] ++ [root d [a, b]] = _
  rw [proof_one _ _ _ (by simp), root_two]; rfl
theorem wd_32 : wd 32 = 32 := by decide

set_option maxRecDepth 100000 in
set_option maxHeartbeats 1000000 in
theorem cAwake15 (w : World) : Calls Try.prog 14 #[] w fun e w' => e = .returned (.bool true) ∧ Below w.heap.size w w' := by
  have l1 := fun W => cLeaf 32 ⟨#[97]⟩ W (by decide)
  have l2 := fun W => cLeaf 32 ⟨#[98]⟩ W (by decide)
  have l3 := fun W => cLeaf 32 ⟨#[99]⟩ W (by decide)
  have hz1 := mleaf_size (wd 32) ⟨#[97]⟩ (wd_hi 32)
  have hz2 := mleaf_size (wd 32) ⟨#[98]⟩ (wd_hi 32)
  have hz3 := mleaf_size (wd 32) ⟨#[99]⟩ (wd_hi 32)
  obtain ⟨a, HA⟩ : ∃ x, Hid (mleaf (wd 32) ⟨#[97]⟩ = x) := ⟨_, Lib.hid rfl⟩
  obtain ⟨b, HB⟩ : ∃ x, Hid (mleaf (wd 32) ⟨#[98]⟩ = x) := ⟨_, Lib.hid rfl⟩
  obtain ⟨c, HC⟩ : ∃ x, Hid (mleaf (wd 32) ⟨#[99]⟩ = x) := ⟨_, Lib.hid rfl⟩
  simp only [HA.out] at l1 hz1
  simp only [HB.out] at l2 hz2
  simp only [HC.out] at l3 hz3
  rw [wd_32] at hz1 hz2 hz3
  have hsz : ∀ s ∈ [a, b, c], s.size ≤ 300000000 := by
    intro s hs
    simp only [List.mem_cons, List.not_mem_nil, or_false] at hs
    rcases hs with rfl | rfl | rfl <;> omega
  have n1 := fun W => cNode 32 a b W (by omega) (by omega)
  have n2 := fun W => cNode 32 (mnode (wd 32) a b) c W (by rw [mnode_size _ _ _ (wd_hi 32)]; decide) (by omega)
  have p1 : ∀ W : World, Calls Try.prog 28 #[.int .i64 32, .int .i64 2, .slice (some ⟨W.heap.size, 0, none⟩) 3 3] (W.alloc (.cells #[.string a, .string b, .string c] 9)) fun e W' => ∃ A' c', e = .returned (.tuple #[.slice A' 1 c', .int .i64 0]) ∧ 1 ≤ c' ∧ Strs W' A' [mnode (wd 32) a b] ∧ Below W.heap.size W W' := fun W => by
    refine (cProof 32 (some ⟨W.heap.size, 0, none⟩) 3 3 2 [a, b, c] (W.alloc (.cells #[.string a, .string b, .string c] 9)) rfl (Strs.three _ _ _ _ _) (by omega) (by omega) hsz (by omega)).mono ?_
    rintro e W' ⟨A', c', h1, h2, h3, h4⟩
    rw [proof_three] at h1 h2 h3
    exact ⟨A', c', h1, h2, h3, ((Below.refl _ _).alloc (Nat.le_refl _) _).trans (h4.mono (by simp))⟩
  have r1 : ∀ W : World, Calls Try.prog 24 #[.int .i64 32, .slice (some ⟨W.heap.size, 0, none⟩) 3 3] (W.alloc (.cells #[.string a, .string b, .string c] 9)) fun e W' => e = .returned (.string (mnode (wd 32) (mnode (wd 32) a b) c)) ∧ Below W.heap.size W W' := fun W => by
    refine (cRoot 32 3 (some ⟨W.heap.size, 0, none⟩) 3 [a, b, c] (W.alloc (.cells #[.string a, .string b, .string c] 9)) rfl (Strs.three _ _ _ _ _) (by omega) (by omega) hsz).mono ?_
    rintro e W' ⟨h1, h2⟩
    rw [root_three] at h1
    exact ⟨h1, ((Below.refl _ _).alloc (Nat.le_refl _) _).trans (h2.mono (by simp))⟩
  have c5 : ∀ W : World, Calls Try.prog 26 #[.int .i64 5] W fun e W' => e = .returned (.int .i64 4) ∧ W = W' := fun W => by
    have := cCut 5 W (by decide)
    rw [cut_five] at this
    exact this
  obtain ⟨x, HX⟩ : ∃ x, Hid (mnode (wd 32) a b = x) := ⟨_, Lib.hid rfl⟩
  simp only [HX.out] at n1 n2 p1 r1
  obtain ⟨y, HY⟩ : ∃ y, Hid (mnode (wd 32) x c = y) := ⟨_, Lib.hid rfl⟩
  simp only [HY.out] at n2 r1
  have L1 := Lib.hid l1
  have L2 := Lib.hid l2
  have L3 := Lib.hid l3
  have N1 := Lib.hid n1
  have N2 := Lib.hid n2
  have P1 := Lib.hid p1
  have R1 := Lib.hid r1
  have C5 := Lib.hid c5
  have haI : ((a.size : Int) == 32) = true := by simp; omega
  have hyy : (y.toList == y.toList) = true := beq_self_eq_true _
  have hxx : (x.toList == x.toList) = true := beq_self_eq_true _
  clear l1 l2 l3 n1 n2 p1 r1 c5 hsz hz1 hz2 hz3
  go_enter Try.func14, Try.ntmps14
  go_wp2_with fail
  (with_reducible refine (L1.out _).mono ?_); rintro e w1 ⟨rfl, hb1⟩
  go_wp2_with fail
  (with_reducible refine (L2.out _).mono ?_); rintro e w2 ⟨rfl, hb2⟩
  have hB2 := hb1.trans (hb2.mono hb1.size)
  clear hb1 hb2
  go_wp2_with fail
  (with_reducible refine (L3.out _).mono ?_); rintro e w3 ⟨rfl, hb3⟩
  have hB3 := hB2.trans (hb3.mono hB2.size)
  clear hB2 hb3
  go_wp2_with fail
  (with_reducible refine (P1.out _).mono ?_); rintro e w4 ⟨A, q, rfl, hq, hS, hb4⟩
  have hB4 := hB3.trans (hb4.mono hB3.size)
  clear hB3 hb4
  obtain ⟨g, o, rfl, c0⟩ := hS.cell_ 0 (by simp)
  have hg : g < w4.heap.size := by
    obtain ⟨g', o', e1, e2, _⟩ := hS (by simp)
    injection e1 with e1; injection e1 with e1 _ _; omega
  go_wp2_with fail
  have hBd := hB4.drew
  have c0 : w4.drew.cell? ⟨g, o, none⟩ = some (.string x) := c0
  have hg : g < w4.drew.heap.size := hg
  obtain ⟨wd4, HWD⟩ : ∃ y, Hid (w4.drew = y) := ⟨_, Lib.hid rfl⟩
  rw [HWD.out] at c0 hg hBd
  have hS0 := Below.refl wd4.heap.size wd4
  refine wp_region_lexS (fun w' => Below wd4.heap.size wd4 w') 0 [] (by kernel_rfl) (by kernel_rfl) (by rw [HWD.out]; exact hS0) ?_
  rw [HWD.out]
  clear hB4 hS
  repeat (first
    | (refine wpX_load0 rfl rfl _ _ rfl _ rfl _ rfl Try.underlying9 _ (fun w' h => (h.cell hg).trans c0) hS0 ?_; simp only [Act.put, List.setIfInBounds_toArray, List.set_cons_zero, List.set_cons_succ, List.getElem_toArray, List.getElem_cons_zero, List.getElem_cons_succ])
    | (refine wpX_pure rfl rfl rfl ?_; intro K hK; go_big_quiet_op; refine hK _ ?_; clear hK K)
    | (refine wpX_eff rfl rfl ?_; intro K hK; go_wp2_with fail; refine hK _ _ hS0 ?_; clear hK K))
  refine wpX_eff rfl rfl ?_; intro K hK; go_wp2_with fail
  (with_reducible refine (C5.out _).mono ?_); rintro e w5 ⟨rfl, rfl⟩
  go_wp2_with fail
  refine hK _ _ hS0 ?_; clear hK K
  repeat (first
    | (refine wpX_load0 rfl rfl _ _ rfl _ rfl _ rfl Try.underlying9 _ (fun w' h => (h.cell hg).trans c0) hS0 ?_; simp only [Act.put, List.setIfInBounds_toArray, List.set_cons_zero, List.set_cons_succ, List.getElem_toArray, List.getElem_cons_zero, List.getElem_cons_succ])
    | (refine wpX_pure rfl rfl rfl ?_; intro K hK; go_big_quiet_op; refine hK _ ?_; clear hK K)
    | (refine wpX_eff rfl rfl ?_; intro K hK; go_wp2_with fail; refine hK _ _ hS0 ?_; clear hK K))
  refine wpX_eff rfl rfl ?_; intro K hK; go_wp2_with fail
  (refine (fun h => hK _ _ h ?_) (hS0.alloc hS0.size _)); clear hK K
  refine wpX_eff rfl rfl ?_; intro K hK; go_wp2_with fail
  (with_reducible refine (R1.out _).mono ?_); rintro e w5 ⟨rfl, hb5⟩
  go_wp2_with fail
  refine hK _ _ (hS0.trans (hb5.mono hS0.size)) ?_; clear hK K h
  replace hS0 := hS0.trans (hb5.mono hS0.size)
  clear hb5
  repeat (first
    | (refine wpX_load0 rfl rfl _ _ rfl _ rfl _ rfl Try.underlying9 _ (fun w' h => (h.cell hg).trans c0) hS0 ?_; simp only [Act.put, List.setIfInBounds_toArray, List.set_cons_zero, List.set_cons_succ, List.getElem_toArray, List.getElem_cons_zero, List.getElem_cons_succ])
    | (refine wpX_pure rfl rfl rfl ?_; intro K hK; go_big_quiet_op; refine hK _ ?_; clear hK K)
    | (refine wpX_eff rfl rfl ?_; intro K hK; go_wp2_with fail; refine hK _ _ hS0 ?_; clear hK K))
  refine wpX_eff rfl rfl ?_; intro K hK; go_wp2_with fail
  (with_reducible refine (N1.out _).mono ?_); rintro e w5 ⟨rfl, hb5⟩
  go_wp2_with fail
  refine hK _ _ (hS0.trans (hb5.mono hS0.size)) ?_; clear hK K
  replace hS0 := hS0.trans (hb5.mono hS0.size)
  clear hb5
  repeat (first
    | (refine wpX_load0 rfl rfl _ _ rfl _ rfl _ rfl Try.underlying9 _ (fun w' h => (h.cell hg).trans c0) hS0 ?_; simp only [Act.put, List.setIfInBounds_toArray, List.set_cons_zero, List.set_cons_succ, List.getElem_toArray, List.getElem_cons_zero, List.getElem_cons_succ])
    | (refine wpX_pure rfl rfl rfl ?_; intro K hK; go_big_quiet_op; refine hK _ ?_; clear hK K)
    | (refine wpX_eff rfl rfl ?_; intro K hK; go_wp2_with fail; refine hK _ _ hS0 ?_; clear hK K))
  refine wpX_eff rfl rfl ?_; intro K hK; go_wp2_with fail
  (with_reducible refine (N2.out _).mono ?_); rintro e w5 ⟨rfl, hb5⟩
  go_wp2_with fail
  refine hK _ _ (hS0.trans (hb5.mono hS0.size)) ?_; clear hK K
  replace hS0 := hS0.trans (hb5.mono hS0.size)
  clear hb5
  repeat (first
    | (refine wpX_load0 rfl rfl _ _ rfl _ rfl _ rfl Try.underlying9 _ (fun w' h => (h.cell hg).trans c0) hS0 ?_; simp only [Act.put, List.setIfInBounds_toArray, List.set_cons_zero, List.set_cons_succ, List.getElem_toArray, List.getElem_cons_zero, List.getElem_cons_succ])
    | (refine wpX_pure rfl rfl rfl ?_; intro K hK; go_big_quiet_op; refine hK _ ?_; clear hK K)
    | (refine wpX_eff rfl rfl ?_; intro K hK; go_wp2_with fail; refine hK _ _ hS0 ?_; clear hK K))
  refine wpX_eff rfl rfl ?_; intro K hK; go_wp2_with fail
  (with_reducible refine (N1.out _).mono ?_); rintro e w5 ⟨rfl, hb5⟩
  go_wp2_with fail
  refine hK _ _ (hS0.trans (hb5.mono hS0.size)) ?_; clear hK K
  replace hS0 := hS0.trans (hb5.mono hS0.size)
  clear hb5
  repeat (first
    | (refine wpX_load0 rfl rfl _ _ rfl _ rfl _ rfl Try.underlying9 _ (fun w' h => (h.cell hg).trans c0) hS0 ?_; simp only [Act.put, List.setIfInBounds_toArray, List.set_cons_zero, List.set_cons_succ, List.getElem_toArray, List.getElem_cons_zero, List.getElem_cons_succ])
    | (refine wpX_pure rfl rfl rfl ?_; intro K hK; go_big_quiet_op; refine hK _ ?_; clear hK K)
    | (refine wpX_eff rfl rfl ?_; intro K hK; go_wp2_with fail; refine hK _ _ hS0 ?_; clear hK K))
  refine wpX_nil ?_
  go_wp2_with fail
  go_ret
  exact ⟨rfl, hBd.trans (hS0.mono hBd.size)⟩

/-- A few of the texts that came in. -/
theorem cFewV {v : Value} {ss : List ByteArray} {w : World} (hv : StrsIn w v ss) :
    Calls Try.prog 23 #[v] w fun e w' => ∃ A m c l, e = .returned (.slice A m c) ∧ l.length = m ∧ Strs w A l ∧ m ≤ c ∧ m ≤ 70 ∧ (∀ s ∈ l, s.size ≤ 20000) ∧ w = w' := by
  obtain ⟨⟨A, c, rfl, hc, hs⟩, hl, hsm⟩ := hv
  refine (cFew A ss.length c ss w rfl hs hl hc hsm).mono ?_
  rintro e w' ⟨m, h1, h2, rfl, h3, rfl⟩
  refine ⟨A, m, c, ss.take m, rfl, by rw [List.length_take]; omega, hs.take m, by omega, h2, fun s hs => ?_, rfl⟩
  have := mem_joinL_le hs
  omega
end Go.Proofs.Ytkggpimminnniaa
