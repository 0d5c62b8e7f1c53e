/- Growing trees: Root, Add. -/
import Derived.Test.YtgkjpemgfbkejaaGrow
import Derived.Test.YtgkjpemgfbkejaaOrd
namespace Go.Proofs.Ytgkjpemgfbkejaa
open Go.RowKit
set_option linter.unusedVariables false
set_option linter.unusedSimpArgs false

theorem wd_self (d : Nat) (h1 : 1 ≤ d) (h2 : d ≤ 32) : wd (d : Int) = d := by
  unfold wd; split; omega; split <;> omega
theorem getD_sz {d : Nat} {ps : List ByteArray} {k : Nat} (h : ∀ s ∈ ps, s.size = d) (hk : k < ps.length) : (ps.getD k ByteArray.empty).size = d :=
  h _ (getD_mem hk)
set_option maxRecDepth 100000 in
set_option maxHeartbeats 4000000 in
theorem cTRoot (W : World) (g d n : Nat) (ps : List ByteArray) (h : TR W g d n ps) (h1 : 1 ≤ d) (h2 : d ≤ 32) (hz : ∀ s ∈ ps, s.size = d) (hp : 1 ≤ ps.length) (hl : ps.length ≤ 1000000) :
    Calls Try.prog 23 #[.pointer (some ⟨g, 0, none⟩)] W fun e W' => e = .returned (.string (upP d ps)) ∧ Below W.heap.size W W' := by
  have hT := Lib.hid h
  obtain ⟨A, c, hb, hc, hs⟩ := h
  obtain ⟨gA, o, rfl, hgA, hcell⟩ := hs hp
  have b0 : W.cell? ⟨g, 0, none⟩ = some (.int .i64 (d : Int)) := (hb.cell 0).trans rfl
  have b2 : W.cell? ⟨g, 2, none⟩ = some (.slice (some ⟨gA, o, none⟩) ps.length c) := (hb.cell 2).trans rfl
  have hgl := hb.lt
  obtain ⟨m, hm⟩ : ∃ m, ps.length = m + 1 := ⟨ps.length - 1, by omega⟩
  have hcm := hcell m (by omega)
  have hzm := getD_sz hz (by omega : m < ps.length)
  have h4 := fun a b W ha hb => cNode d a b W ha hb
  rw [wd_self d h1 h2] at h4
  have HC := Lib.hid hcell
  have HZ := Lib.hid hz
  have HM := Lib.hid hm
  have H4 := Lib.hid h4
  rw [hm] at b2 hc hl
  have hstart : upP d (ps.take (m + 1)) = upP d ps := by rw [← hm, List.take_length]
  have htk : ps.take (m + 1) = ps.take m ++ [ps.getD m ByteArray.empty] := by
    rw [List.take_succ_eq_append_getElem (by omega), List.getD_eq_getElem?_getD, List.getElem?_eq_getElem (by omega)]; rfl
  rw [htk] at hstart
  obtain ⟨X, HX⟩ : ∃ X, Hid (upP d ps = X) := ⟨_, Lib.hid rfl⟩
  obtain ⟨t, HT⟩ : ∃ X, Hid (ps.getD m ByteArray.empty = X) := ⟨_, Lib.hid rfl⟩
  rw [HX.out] at hstart
  rw [HT.out] at hcm hzm hstart
  rw [HX.out]
  have HST := Lib.hid hstart
  have HBK := Lib.hid hb
  have c0 : W.drew.cell? ⟨g, 2, none⟩ = some (.slice (some ⟨gA, o, none⟩) (m + 1) c) := b2
  have c1 : W.drew.cell? ⟨gA, o + m, none⟩ = some (.string t) := hcm
  have hB0 : Below W.heap.size W W.drew := (Below.refl W.heap.size W).drew
  have hmI : ((m : Int) + 1 == 0) = false := by simp; omega
  clear h4 hcell hz hs hb hm hstart htk
  go_enter Try.func23, Try.ntmps23
  go_wp2_with fail
  refine wp_region_lexX [] (by kernel_rfl) (by kernel_rfl) ?_
  repeat (first
    | (refine wpX_pure rfl rfl rfl ?_; intro K hK; go_big_quiet_op; refine hK _ ?_; clear hK K)
    | (refine wpX_load rfl rfl rfl ?_; intro K hK; go_big_quiet_op; refine hK _ ?_; clear hK K))
  refine wpX_nil ?_
  have b2 : W.drew.cell? ⟨g, 2, none⟩ = some (.slice (some ⟨gA, o, none⟩) (m + 1) c) := b2
  go_wp2_with fail
  clear c0 c1 b0 b2 hcm
  have hstep := fun k x (hk : k < ps.length) => (show upP d (ps.take (k + 1) ++ [x]) = upP d (ps.take k ++ [mnode d (ps.getD k ByteArray.empty) x]) by
    rw [List.take_succ_eq_append_getElem hk, List.append_assoc, List.getD_eq_getElem?_getD, List.getElem?_eq_getElem hk]; exact upP_snoc d _ _ _)
  have HSTEP := Lib.hid hstep
  clear hstep
  go_loopw [3, 4] (fun r i wr => ∃ (k : Nat) (x : ByteArray) (z : Int), k ≤ m ∧ r = .string x ∧ i = .int .i64 z ∧ z = (k : Int) - 1 ∧ upP d (ps.take k ++ [x]) = X ∧ x.size = d ∧ Below W.heap.size W wr) (fun _ i _ => (intOf i + 1).toNat)
  case atStart => exact ⟨m, t, _, Nat.le_refl _, rfl, rfl, by omega, HST.out, hzm, hB0⟩
  case round =>
    clear hB0
    obtain ⟨k, x, z, hk, rfl, rfl, hzk, hu, hx, hB⟩ := hrel
    have HU := Lib.hid hu
    clear hu
    rcases Nat.eq_zero_or_pos k with h0 | h0
    · subst h0
      obtain rfl : z = -1 := by omega
      clear hzk
      have hu := HU.out
      rw [List.take_zero, List.nil_append, upP_one] at hu
      subst hu
      go_wp2_with fail
      go_ret
      exact ⟨rfl, hB⟩
    · obtain ⟨q, rfl⟩ : ∃ q, k = q + 1 := ⟨k - 1, by omega⟩
      obtain rfl : z = (q : Int) := by omega
      clear hzk
      have hBd := hB.drew
      have c0 : wr.drew.cell? ⟨g, 0, none⟩ = some (.int .i64 (d : Int)) := (hB.cell hgl).trans ((HBK.out.cell 0).trans rfl)
      have c2 : wr.drew.cell? ⟨g, 2, none⟩ = some (.slice (some ⟨gA, o, none⟩) (m + 1) c) := (hB.cell hgl).trans ((HBK.out.cell 2).trans (by rw [HM.out]; rfl))
      have c1 : wr.drew.cell? ⟨gA, o + q, none⟩ = some (.string (ps.getD q ByteArray.empty)) := (hB.cell hgA).trans (HC.out q (by rw [HM.out]; omega))
      have hzq := getD_sz HZ.out (by rw [HM.out]; omega : q < ps.length)
      have hst := HSTEP.out q x (by rw [HM.out]; omega)
      rw [HU.out] at hst
      obtain ⟨p, HP⟩ : ∃ p, Hid (ps.getD q ByteArray.empty = p) := ⟨_, Lib.hid rfl⟩
      rw [HP.out] at c1 hzq hst
      have hm5 := fun W => H4.out p x W (by omega) (by omega)
      have hms := mnode_size d p x h2
      obtain ⟨y, HY⟩ : ∃ y, Hid (mnode d p x = y) := ⟨_, Lib.hid rfl⟩
      rw [HY.out] at hst hms
      simp only [HY.out] at hm5
      have HN5 := Lib.hid hm5
      have HST5 := Lib.hid hst
      clear hm5 hst
      have hq0 : (0 : Int) ≤ (q : Int) := by omega
      go_wp2_with fail
      have hS0 := Below.refl wr.drew.heap.size wr.drew
      have hgd : g < wr.drew.heap.size := Nat.lt_of_lt_of_le hgl hB.size
      have hgAd : gA < wr.drew.heap.size := Nat.lt_of_lt_of_le hgA hB.size
      refine wp_region_lexS (fun w' => Below wr.drew.heap.size wr.drew w') 0 [] (by kernel_rfl) (by kernel_rfl) hS0 ?_
      repeat (first
        | (refine wpX_load0 rfl rfl _ _ rfl _ rfl _ rfl Try.underlying3 _ (fun w' h => (h.cell hgd).trans c0) hS0 ?_; simp only [Act.put, List.setIfInBounds_toArray, List.set_cons_zero, List.set_cons_succ, List.getElem_toArray, List.getElem_cons_zero, List.getElem_cons_succ])
        | (refine wpX_load0 rfl rfl _ _ rfl _ rfl _ rfl Try.underlying24 _ (fun w' h => (h.cell hgd).trans c2) hS0 ?_; simp only [Act.put, List.setIfInBounds_toArray, List.set_cons_zero, List.set_cons_succ, List.getElem_toArray, List.getElem_cons_zero, List.getElem_cons_succ])
        | (refine wpX_load0 rfl rfl _ _ rfl _ rfl _ rfl Try.underlying9 _ (fun w' h => (h.cell hgAd).trans c1) hS0 ?_; simp only [Act.put, List.setIfInBounds_toArray, List.set_cons_zero, List.set_cons_succ, List.getElem_toArray, List.getElem_cons_zero, List.getElem_cons_succ])
        | (refine wpX_pure rfl rfl rfl ?_; intro K hK; go_big_quiet_op; refine hK _ ?_; clear hK K))
      refine wpX_eff rfl rfl ?_; intro K hK; go_wp2_with fail
      (with_reducible refine (HN5.out _).mono ?_); rintro e w5 ⟨rfl, hb5⟩
      go_wp2_with fail
      refine hK _ _ hb5 ?_; clear hK K
      refine wpX_pure rfl rfl rfl ?_; intro K hK; go_big_quiet_op; refine hK _ ?_; clear hK K
      refine wpX_nil ?_
      go_wp2_with fail
      go_roundw
      case rel => exact ⟨q, y, _, by omega, rfl, rfl, by omega, HST5.out.symm, hms, hBd.trans (hb5.mono hBd.size)⟩
      case measure => simp [intOf]
end Go.Proofs.Ytgkjpemgfbkejaa
