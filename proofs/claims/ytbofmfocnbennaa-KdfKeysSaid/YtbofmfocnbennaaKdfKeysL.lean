/- The law KdfKeys, walked. -/
import Derived.Test.YtbofmfocnbennaaKdfKeys
import Derived.Test.YtbofmfocnbennaaOnly
namespace Go.Proofs.Ytbofmfocnbennaa
open Go.RowKit
set_option linter.unusedVariables false
set_option linter.unusedSimpArgs false

theorem keys_guard : Try.prog.eqGuardType Try.prog.depth 34 = false := by kernel_rfl
set_option maxRecDepth 100000 in
theorem keys_eq (a b c : ByteArray) (W : World) :
    (Op.equalIn 10000 34 (.agg #[.string a, .string b, .string c]) (.agg #[.string a, .string b, .string c])).run Try.prog W = .ok true W := by
  obtain ⟨d, hd⟩ : ∃ d, 10000 = d + 1 + 1 := ⟨9998, rfl⟩
  rw [hd, run_equalIn_agg _ _ _ _ _ (by kernel_rfl) (by kernel_rfl)]
  simp only [Program.fieldsOf, Try.underlying34]
  go_simp
theorem Blk.range {w : World} {g : Nat} {t : TypeId} {cs : List Value} (h : Blk w g t cs.toArray) : w.rangeAt g 0 cs := fun j v hj => by
  rw [Nat.zero_add, h.cell]; simpa using hj
set_option maxRecDepth 100000 in
set_option maxHeartbeats 4000000 in
theorem kdfKeys_walk (sec : ByteArray) (h1 : sec.size ≤ reachBytes) (salt : ByteArray) (h2 : salt.size ≤ reachBytes) (oth : ByteArray) (h3 : oth.size ≤ reachBytes) {w : World} :
    Calls Try.prog 4 #[.string sec, .string salt, .string oth] w fun e w' => e = .returned (.bool true) ∧ Below w.heap.size w w' := by
  have c1 := fun W => ccut05 sec 500 500 rfl W (reach_le h1) (by omega)
  have c2 := fun W => ccut05 salt 500 500 rfl W (reach_le h2) (by omega)
  have c3 := fun W => ccut05 oth 500 500 rfl W (reach_le h3) (by omega)
  have z1 := cutB_size sec 500
  have z2 := cutB_size salt 500
  have z3 := cutB_size oth 500
  obtain ⟨x, HX⟩ : ∃ x, Hid (cutB sec 500 = x) := ⟨_, Lib.hid rfl⟩
  obtain ⟨y, HY⟩ : ∃ x, Hid (cutB salt 500 = x) := ⟨_, Lib.hid rfl⟩
  obtain ⟨z, HZ⟩ : ∃ x, Hid (cutB oth 500 = x) := ⟨_, Lib.hid rfl⟩
  simp only [HX.out] at c1 z1
  simp only [HY.out] at c2 z2
  simp only [HZ.out] at c3 z3
  have k1 := fun W => cKeys x y W (by omega) (by omega)
  have k2 := fun W => cKeys x z W (by omega) (by omega)
  have k3 := fun W => crKeys x y W (by omega) (by omega)
  have s1 := ky_size (kx y x) nmB
  have s2 := ky_size (kx y x) nmT
  have s3 := ky_size (kx ⟨#[]⟩ x) nmH
  obtain ⟨A, HA⟩ : ∃ v, Hid (ky (kx y x) nmB = v) := ⟨_, Lib.hid rfl⟩
  obtain ⟨B, HB⟩ : ∃ v, Hid (ky (kx y x) nmT = v) := ⟨_, Lib.hid rfl⟩
  obtain ⟨C, HC⟩ : ∃ v, Hid (ky (kx ⟨#[]⟩ x) nmH = v) := ⟨_, Lib.hid rfl⟩
  obtain ⟨D, HD⟩ : ∃ v, Hid (ky (kx z x) nmB = v) := ⟨_, Lib.hid rfl⟩
  obtain ⟨E, HE⟩ : ∃ v, Hid (ky (kx z x) nmT = v) := ⟨_, Lib.hid rfl⟩
  simp only [HA.out, HB.out, HC.out] at k1 k3
  simp only [HC.out, HD.out, HE.out] at k2
  rw [HA.out] at s1
  rw [HB.out] at s2
  rw [HC.out] at s3
  have heq := keys_eq A B C
  have hgd := keys_guard
  have C1 := Lib.hid c1
  have C2 := Lib.hid c2
  have C3 := Lib.hid c3
  have K1 := Lib.hid k1
  have K2 := Lib.hid k2
  have K3 := Lib.hid k3
  have HONE : Hid (∀ v ∈ (#[.string A, .string B, .string C] : Array Value).toList, v.oneCell' = true) := Lib.hid (by intro v hv; simp at hv; rcases hv with rfl | rfl | rfl <;> rfl)
  have HON2 : Hid (∀ v ∈ (#[.string D, .string E, .string C] : Array Value).toList, v.oneCell' = true) := Lib.hid (by intro v hv; simp at hv; rcases hv with rfl | rfl | rfl <;> rfl)
  have hcc : (C.toList == C.toList) = true := beq_self_eq_true _
  have i1 : ((A.size : Int) == 32) = true := by simp; omega
  have i2 : ((B.size : Int) == 32) = true := by simp; omega
  have i3 : ((C.size : Int) == 32) = true := by simp; omega
  clear c1 c2 c3 k1 k2 k3 s1 s2 s3 z1 z2 z3
  go_enter Try.func4, Try.ntmps4
  go_wp2_with fail
  (with_reducible refine (C1.out _).mono ?_); rintro e w1 ⟨rfl, rfl⟩
  go_wp2_with fail
  (with_reducible refine (C2.out _).mono ?_); rintro e w1 ⟨rfl, rfl⟩
  go_wp2_with fail
  (with_reducible refine (C3.out _).mono ?_); rintro e w1 ⟨rfl, rfl⟩
  go_wp2_with fail
  (with_reducible refine (K1.out _).mono ?_); rintro e w1 ⟨rfl, hb1⟩
  go_wp2_with fail
  (with_reducible refine (K2.out _).mono ?_); rintro e v ⟨rfl, hb2⟩
  have hB := hb1.trans (hb2.mono hb1.size)
  clear hb1 hb2
  have k7 := (Blk.new v 34 #[.string ⟨#[]⟩, .string ⟨#[]⟩, .string ⟨#[]⟩]).alloc (.cells #[.string ⟨#[]⟩, .string ⟨#[]⟩, .string ⟨#[]⟩] 34)
  have k8 := Blk.new (v.alloc (.cells #[.string ⟨#[]⟩, .string ⟨#[]⟩, .string ⟨#[]⟩] 34)) 34 #[.string ⟨#[]⟩, .string ⟨#[]⟩, .string ⟨#[]⟩]
  have hsz : (v.alloc (.cells #[.string ⟨#[]⟩, .string ⟨#[]⟩, .string ⟨#[]⟩] 34)).heap.size = v.heap.size + 1 := by simp
  rw [hsz] at k8
  have hB2 : Below w.heap.size w ((v.alloc (.cells #[.string ⟨#[]⟩, .string ⟨#[]⟩, .string ⟨#[]⟩] 34)).alloc (.cells #[.string ⟨#[]⟩, .string ⟨#[]⟩, .string ⟨#[]⟩] 34)) := (hB.alloc hB.size _).alloc (by rw [hsz]; have := hB.size; omega) _
  have k8b := k8.row_far (g' := v.heap.size) (by omega) #[.string A, .string B, .string C]
  have k7b := (k7.row #[.string A, .string B, .string C]).row_far (g' := v.heap.size + 1) (by omega) #[.string D, .string E, .string C]
  have k8c := k8b.row #[.string D, .string E, .string C]
  have hB3 := below_row (below_row hB2 (g := v.heap.size) hB.size #[.string A, .string B, .string C]) (g := v.heap.size + 1) (by have := hB.size; omega) #[.string D, .string E, .string C]
  clear hsz hB2 hB
  go_wp2_with (first
    | (refine wpList_store_blk rfl 34 (.tmp 7) (.tmp 17) rfl v.heap.size #[.string A, .string B, .string C] #[.string ⟨#[]⟩, .string ⟨#[]⟩, .string ⟨#[]⟩] 34 rfl rfl k7 keys_size rfl HONE.out ?_; dsimp only [Act.put])
    | (refine wpList_store_blk rfl 34 (.tmp 8) (.tmp 20) rfl (v.heap.size + 1) #[.string D, .string E, .string C] #[.string ⟨#[]⟩, .string ⟨#[]⟩, .string ⟨#[]⟩] 34 rfl rfl k8b keys_size rfl HON2.out ?_; dsimp only [Act.put]))
  clear k7 k8 k8b
  obtain ⟨u, HU⟩ : ∃ u, Hid ((((v.alloc (.cells #[.string ⟨#[]⟩, .string ⟨#[]⟩, .string ⟨#[]⟩] 34)).alloc (.cells #[.string ⟨#[]⟩, .string ⟨#[]⟩, .string ⟨#[]⟩] 34)).setRow v.heap.size #[.string A, .string B, .string C]).setRow (v.heap.size + 1) #[.string D, .string E, .string C] = u) := ⟨_, Lib.hid rfl⟩
  rw [HU.out] at k7b k8c hB3
  rw [HU.out]
  have l7 : v.heap.size < u.drew.heap.size := k7b.lt
  have l8 : v.heap.size + 1 < u.drew.heap.size := k8c.lt
  have r7 : u.drew.rangeAt v.heap.size 0 [.string A, .string B, .string C] := Blk.range k7b.drew
  have d0 : u.drew.cell? ⟨v.heap.size, 0, none⟩ = some (.string A) := (k7b.drew.cell 0).trans rfl
  have d1 : u.drew.cell? ⟨v.heap.size, 1, none⟩ = some (.string B) := (k7b.drew.cell 1).trans rfl
  have d2 : u.drew.cell? ⟨v.heap.size, 2, none⟩ = some (.string C) := (k7b.drew.cell 2).trans rfl
  have e2 : u.drew.cell? ⟨v.heap.size + 1, 2, none⟩ = some (.string C) := (k8c.drew.cell 2).trans rfl
  have hB4 := hB3.drew
  have hS0 := Below.refl u.drew.heap.size u.drew
  clear k7b k8c hB3
  refine wp_region_lexS (fun w' => Below u.drew.heap.size u.drew w') 0 [] (by kernel_rfl) (by kernel_rfl) hS0 ?_
  refine wpX_load_mid rfl rfl 34 (.tmp 7) rfl v.heap.size 0 rfl [.string A, .string B, .string C] _ (fun w' h j x hj => (h.cell l7).trans (r7 j x hj)) Try.underlying34 rfl keys_size hS0 ?_
  simp only [Act.put, List.setIfInBounds_toArray, List.set_cons_zero, List.set_cons_succ, List.getElem_toArray, List.getElem_cons_zero, List.getElem_cons_succ]
  repeat (refine wpX_pure rfl rfl rfl ?_; intro K hK; go_big_quiet_op; refine hK _ ?_; clear hK K)
  refine wpX_eff rfl rfl ?_; intro K hK; go_wp2_with fail
  (with_reducible refine (K3.out _).mono ?_); rintro e w5 ⟨rfl, hb5⟩
  go_wp2_with fail
  refine hK _ _ hb5 ?_; clear hK K
  replace hS0 := hb5
  clear hb5
  repeat (first
    | (refine wpX_load0 rfl rfl _ _ rfl _ rfl _ rfl Try.underlying9 _ (fun w' h => (h.cell l7).trans d0) hS0 ?_; simp only [Act.put, List.setIfInBounds_toArray, List.set_cons_zero, List.set_cons_succ, List.getElem_toArray, List.getElem_cons_zero, List.getElem_cons_succ])
    | (refine wpX_load0 rfl rfl _ _ rfl _ rfl _ rfl Try.underlying9 _ (fun w' h => (h.cell l7).trans d1) hS0 ?_; simp only [Act.put, List.setIfInBounds_toArray, List.set_cons_zero, List.set_cons_succ, List.getElem_toArray, List.getElem_cons_zero, List.getElem_cons_succ])
    | (refine wpX_load0 rfl rfl _ _ rfl _ rfl _ rfl Try.underlying9 _ (fun w' h => (h.cell l7).trans d2) hS0 ?_; simp only [Act.put, List.setIfInBounds_toArray, List.set_cons_zero, List.set_cons_succ, List.getElem_toArray, List.getElem_cons_zero, List.getElem_cons_succ])
    | (refine wpX_load0 rfl rfl _ _ rfl _ rfl _ rfl Try.underlying9 _ (fun w' h => (h.cell l8).trans e2) hS0 ?_; simp only [Act.put, List.setIfInBounds_toArray, List.set_cons_zero, List.set_cons_succ, List.getElem_toArray, List.getElem_cons_zero, List.getElem_cons_succ])
    | (refine wpX_pure rfl rfl rfl ?_; intro K hK; go_big_quiet_op; refine hK _ ?_; clear hK K)
    | (refine wpX_eff rfl rfl ?_; intro K hK; go_wp2_with fail; refine hK _ _ hS0 ?_; clear hK K))
  refine wpX_eff rfl rfl ?_; intro K hK; go_wp2_with fail
  (with_reducible refine (cAwake05 _).mono ?_); rintro e w6 ⟨rfl, hb6⟩
  go_wp2_with fail
  refine hK _ _ (hS0.trans (hb6.mono hS0.size)) ?_; clear hK K
  replace hS0 := hS0.trans (hb6.mono hS0.size)
  clear hb6
  repeat (first
    | (refine wpX_load0 rfl rfl _ _ rfl _ rfl _ rfl Try.underlying9 _ (fun w' h => (h.cell l7).trans d0) hS0 ?_; simp only [Act.put, List.setIfInBounds_toArray, List.set_cons_zero, List.set_cons_succ, List.getElem_toArray, List.getElem_cons_zero, List.getElem_cons_succ])
    | (refine wpX_load0 rfl rfl _ _ rfl _ rfl _ rfl Try.underlying9 _ (fun w' h => (h.cell l7).trans d1) hS0 ?_; simp only [Act.put, List.setIfInBounds_toArray, List.set_cons_zero, List.set_cons_succ, List.getElem_toArray, List.getElem_cons_zero, List.getElem_cons_succ])
    | (refine wpX_load0 rfl rfl _ _ rfl _ rfl _ rfl Try.underlying9 _ (fun w' h => (h.cell l7).trans d2) hS0 ?_; simp only [Act.put, List.setIfInBounds_toArray, List.set_cons_zero, List.set_cons_succ, List.getElem_toArray, List.getElem_cons_zero, List.getElem_cons_succ])
    | (refine wpX_load0 rfl rfl _ _ rfl _ rfl _ rfl Try.underlying9 _ (fun w' h => (h.cell l8).trans e2) hS0 ?_; simp only [Act.put, List.setIfInBounds_toArray, List.set_cons_zero, List.set_cons_succ, List.getElem_toArray, List.getElem_cons_zero, List.getElem_cons_succ])
    | (refine wpX_pure rfl rfl rfl ?_; intro K hK; go_big_quiet_op; refine hK _ ?_; clear hK K)
    | (refine wpX_eff rfl rfl ?_; intro K hK; go_wp2_with fail; refine hK _ _ hS0 ?_; clear hK K))
  refine wpX_nil ?_
  go_wp2_with fail
  go_ret
  exact ⟨rfl, hB4.trans (hS0.mono hB4.size)⟩
end Go.Proofs.Ytbofmfocnbennaa
