/- sha.turn, sha.round, sha.words. -/
import Derived.Test.YtcnhhlnbmliihaaSha
import Derived.Test.YtcnhhlnbmliihaaRowK
import Derived.Test.YtcnhhlnbmliihaaRows
namespace Go.Proofs.Ytcnhhlnbmliihaa
open Go.RowKit
set_option linter.unusedVariables false
set_option linter.unusedSimpArgs false

theorem cshturn (x : BitVec 32) (n : Int) (w : World) (h0 : 0 ≤ n) (h1 : n ≤ 32) :
    Calls Try.prog 81 #[.int .u32 (V x), .int .i64 n] w fun e w' => e = .returned (.int .u32 (V (rotr x n.toNat))) ∧ ∃ m, w' = w.drewN m := by
  have h2 : 32 - n ≤ 32 := by omega
  have e : (32 - n).toNat = 32 - n.toNat := by omega
  have E := Lib.hid e
  clear e
  go_enter Try.func81, Try.ntmps81
  go_wp2_with fail
  go_quiet (fail)
  go_wp2
  go_ret
  exact ⟨by unfold rotr; rw [← E.out]; rfl, nq, rfl⟩

theorem row64_info : (Try.prog.info? 108).map (·.size) = some 64 := by kernel_rfl
set_option maxRecDepth 100000 in
theorem cround (i : Int) (w : World) (h0 : 0 ≤ i) (h1 : i < 64) :
    Calls Try.prog 82 #[.int .i64 i] w fun e w' => e = .returned (.int .u32 (V (kAt i.toNat))) ∧ Below w.heap.size w w' := by
  obtain ⟨i, rfl⟩ := Int.eq_ofNat_of_zero_le h0
  have hk : (wcells kList)[i]? = some (.int .u32 (V (kAt i))) := by
    unfold kAt; exact wcells_get kList i (by rw [kList_length]; omega)
  have hs : (wcells kList).size = 64 := by rw [size_wcells, kList_length]
  obtain ⟨cs, HC⟩ : ∃ cs, Hid (wcells kList = cs) := ⟨_, Lib.hid rfl⟩
  have hone := wcells_one kList
  rw [HC.out] at hk hs hone
  have HI : Hid ((Try.prog.info? 108).map (·.size) = some cs.size) := Lib.hid (by rw [hs]; exact row64_info)
  have HS : Hid (64 = cs.size) := Lib.hid hs.symm
  have hb := Blk.new w 108 cs
  have hcell : (w.alloc (.cells cs 108)).cell? ⟨w.heap.size, i, none⟩ = some (.int .u32 (V (kAt i))) := (hb.cell i).trans hk
  have hBel : Below w.heap.size w (w.alloc (.cells cs 108)) := (Below.refl _ _).alloc (Nat.le_refl _) _
  clear hk hs hb
  go_enter Try.func82, Try.ntmps82
  go_wp2_with (first
    | (refine wpList_run (o := ⟨some 4, .build _ _, _, _, _, _⟩) rfl (.agg cs) (by rw [← HC.out]; kernel_rfl) ?_; dsimp only [Act.put])
    | ((refine wpList_store_new rfl 108 (.tmp 3) (.tmp 4) rfl w.heap.size cs _ 108 rfl rfl rfl rfl HI.out HS.out hone ?_); dsimp only [Act.put]))
  go_ret
  exact ⟨rfl, hBel⟩
/-- The words so far, zeros behind. -/
def wpad (b : List UInt8) (t : Nat) : List (BitVec 32) := sch b t ++ List.replicate (64 - t) 0
theorem wpad_zero (b : List UInt8) : wpad b 0 = List.replicate 64 0 := by unfold wpad; rw [sch_zero]; rfl
theorem wpad_length (b : List UInt8) (t : Nat) (h : t ≤ 64) : (wpad b t).length = 64 := by
  unfold wpad; rw [List.length_append, sch_length, List.length_replicate]; omega
theorem wpad_all (b : List UInt8) : wpad b 64 = sch b 64 := by unfold wpad; simp
theorem wpad_get (b : List UInt8) (t i : Nat) (h : i < t) : (wpad b t).getD i 0 = (sch b t).getD i 0 := by
  unfold wpad
  rw [List.getD_eq_getElem?_getD, List.getD_eq_getElem?_getD, List.getElem?_append_left (by rw [sch_length]; exact h)]
theorem wpad_succ (b : List UInt8) (t : Nat) (h : t < 64) : (wpad b t).set t (wNext b (sch b t) t) = wpad b (t + 1) := by
  unfold wpad
  have e : 64 - t = (64 - (t + 1)) + 1 := by omega
  rw [e, List.replicate_succ, List.set_append_right _ _ (by rw [sch_length]; omega), sch_length, Nat.sub_self, sch_succ]
  simp
theorem wNext_low (b : List UInt8) (l : List (BitVec 32)) (t : Nat) (h : t < 16) : wNext b l t = wAt b t := by unfold wNext; rw [if_pos h]
theorem wNext_high (b : List UInt8) (l : List (BitVec 32)) (t : Nat) (h : 16 ≤ t) : wNext b l t = l.getD (t - 16) 0 + sgA (l.getD (t - 15) 0) + l.getD (t - 7) 0 + sgB (l.getD (t - 2) 0) := by
  unfold wNext; rw [if_neg (by omega)]
attribute [irreducible] wpad

set_option maxRecDepth 100000 in
theorem cwords (g o c : Nat) (b : List UInt8) (w : World) (hl : b.length = 64) (_ : 64 ≤ c) (hb : Byt w g o b) :
    Calls Try.prog 80 #[.slice (some ⟨g, o, none⟩) 64 c] w fun e w' => e = .returned (.agg (wcells (sch b 64))) ∧ Below w.heap.size w w' := by
  have HL := Lib.hid hl
  clear hl
  go_enter Try.func80, Try.ntmps80
  go_wp2_with fail
  have k1 : Blk ((w.alloc (.cells (wcells (List.replicate 64 0)) 108)).alloc (.cells (wcells (List.replicate 64 0)) 108)) (w.heap.size + 1) 108 (wcells (wpad b 0)) := by
    rw [wpad_zero]; exact heap_alloc2_new _ _ _
  have k2 : BlkN ((w.alloc (.cells (wcells (List.replicate 64 0)) 108)).alloc (.cells (wcells (List.replicate 64 0)) 108)) w.heap.size 108 64 := ⟨_, by rw [size_wcells, List.length_replicate], heap_alloc2_old _ _ _⟩
  have k3 := (hb.alloc (.cells (wcells (List.replicate 64 0)) 108)).alloc (.cells (wcells (List.replicate 64 0)) 108)
  have k4 := ((Below.refl w.heap.size w).alloc (Nat.le_refl _) (.cells (wcells (List.replicate 64 0)) 108)).alloc (by simp) (.cells (wcells (List.replicate 64 0)) 108)
  have hg := hb.lt
  go_loopw [8] (fun i wr => ∃ t : Nat, t ≤ 16 ∧ i = .int .i64 t ∧ Blk wr (w.heap.size + 1) 108 (wcells (wpad b t)) ∧ BlkN wr w.heap.size 108 64 ∧ Byt wr g o b ∧ Below w.heap.size w wr)
    (fun i _ => 16 - (intOf i).toNat)
  case atStart => exact ⟨0, by omega, rfl, k1, k2, k3, k4⟩
  case round =>
    clear k1 k2 k3 k4
    obtain ⟨t, ht, rfl, h1, h2, h3, h4⟩ := hrel
    by_cases hlt : t < 16
    · have hdt : decide ((t : Int) < 16) = true := by simp; omega
      have c0 := h3.cell (4 * t) (by rw [HL.out]; omega)
      have c1 := h3.cell (4 * t + 1) (by rw [HL.out]; omega)
      have c2 := h3.cell (4 * t + 2) (by rw [HL.out]; omega)
      have c3 := h3.cell (4 * t + 3) (by rw [HL.out]; omega)
      have hw := wNext_low b (sch b t) t hlt
      have hs := wpad_succ b t (by omega)
      rw [hw] at hs
      unfold wAt at hs
      obtain ⟨x0, X0⟩ : ∃ x, Hid (b.getD (4 * t) 0 = x) := ⟨_, Lib.hid rfl⟩
      obtain ⟨x1, X1⟩ : ∃ x, Hid (b.getD (4 * t + 1) 0 = x) := ⟨_, Lib.hid rfl⟩
      obtain ⟨x2, X2⟩ : ∃ x, Hid (b.getD (4 * t + 2) 0 = x) := ⟨_, Lib.hid rfl⟩
      obtain ⟨x3, X3⟩ : ∃ x, Hid (b.getD (4 * t + 3) 0 = x) := ⟨_, Lib.hid rfl⟩
      rw [X0.out] at c0 hs
      rw [X1.out] at c1 hs
      rw [X2.out] at c2 hs
      rw [X3.out] at c3 hs
      have HS := Lib.hid hs
      have f1 := h1.frozen t
      have q1 := (h1.cell t).trans (wcells_get _ _ (by rw [wpad_length b t (by omega)]; omega))
      clear hs hw
      go_wp2_with fail
      refine wp_region_lexX [] (by kernel_rfl) (by kernel_rfl) ?_
      repeat (first
        | (refine wpX_pure rfl rfl rfl ?_; intro K hK; go_big_quiet_op; refine hK _ ?_; clear hK K)
        | (refine wpX_load rfl rfl rfl ?_; intro K hK; go_big_quiet_op; refine hK _ ?_; clear hK K)
        | (refine wpX_eff rfl rfl ?_; intro K hK; go_wp2_with fail; refine hK _ _ trivial ?_; clear hK K))
      refine wpX_nil ?_
      go_wp2
      go_roundw
      case rel =>
        have hx := (h1.set_ t (.int .u32 (V (bw x0 <<< 24 ||| bw x1 <<< 16 ||| bw x2 <<< 8 ||| bw x3)))).drew
        rw [wcells_set, HS.out] at hx
        exact ⟨t + 1, by omega, by go_num, hx, (h2.far (by show w.heap.size ≠ w.heap.size + 1; omega) _).drewN 1, (h3.far (by show g ≠ w.heap.size + 1; omega) _).drew, below_drewN (h4.setCell (p := ⟨w.heap.size + 1, t, none⟩) (by show w.heap.size ≤ w.heap.size + 1; omega) _) 1⟩
      case measure => simp [intOf]; omega
    · have e : t = 16 := by omega
      rw [e] at h1
      clear e
      go_wp2_with fail
      go_loopw [5] (fun i wr => ∃ t : Nat, 16 ≤ t ∧ t ≤ 64 ∧ i = .int .i64 t ∧ Blk wr (w.heap.size + 1) 108 (wcells (wpad b t)) ∧ BlkN wr w.heap.size 108 64 ∧ Below w.heap.size w wr)
        (fun i _ => 64 - (intOf i).toNat)
      case atStart => exact ⟨16, by omega, by omega, rfl, h1, h2, h4⟩
      case round =>
        clear h1 h2 h3 h4
        obtain ⟨t, ht0, ht, rfl, h1, h2, h4⟩ := hrel
        by_cases hlt : t < 64
        · have hdt : decide ((t : Int) < 64) = true := by simp; omega
          have hw := wNext_high b (sch b t) t ht0
          have hs := wpad_succ b t (by omega)
          rw [hw] at hs
          have c0 := (h1.cell (t - 16)).trans (wcells_get _ _ (by rw [wpad_length b t (by omega)]; omega))
          have q15 := wcells_get (wpad b t) (t - 15) (by rw [wpad_length b t (by omega)]; omega)
          have c2 := (h1.cell (t - 7)).trans (wcells_get _ _ (by rw [wpad_length b t (by omega)]; omega))
          have q2 := wcells_get (wpad b t) (t - 2) (by rw [wpad_length b t (by omega)]; omega)
          rw [wpad_get b t _ (by omega)] at c0 q15 c2 q2
          obtain ⟨x0, X0⟩ : ∃ x, Hid ((sch b t).getD (t - 16) 0 = x) := ⟨_, Lib.hid rfl⟩
          obtain ⟨x1, X1⟩ : ∃ x, Hid ((sch b t).getD (t - 15) 0 = x) := ⟨_, Lib.hid rfl⟩
          obtain ⟨x2, X2⟩ : ∃ x, Hid ((sch b t).getD (t - 7) 0 = x) := ⟨_, Lib.hid rfl⟩
          obtain ⟨x3, X3⟩ : ∃ x, Hid ((sch b t).getD (t - 2) 0 = x) := ⟨_, Lib.hid rfl⟩
          rw [X0.out] at c0 hs
          rw [X1.out] at q15 hs
          rw [X2.out] at c2 hs
          rw [X3.out] at q2 hs
          unfold sgA sgB at hs
          have HS := Lib.hid hs
          have f1 := h1.frozen t
          have q1 := (h1.cell t).trans (wcells_get _ _ (by rw [wpad_length b t (by omega)]; omega))
          clear hs hw
          go_wp2_with fail
          refine wp_region_lexS (fun w' => Blk w' (w.heap.size + 1) 108 (wcells (wpad b t))) 0 [] (by kernel_rfl) (by kernel_rfl) h1 ?_
          repeat (first
            | (refine wpX_pure rfl rfl rfl ?_; intro K hK; go_big_quiet_op; refine hK _ ?_; clear hK K)
            | (refine wpX_load0 rfl rfl _ _ rfl _ rfl _ rfl Try.underlying103 _ (fun w' h => (Blk.cell h _).trans q15) h1 ?_; simp only [Act.put, List.setIfInBounds_toArray, List.set_cons_zero, List.set_cons_succ])
            | (refine wpX_eff rfl rfl ?_; intro K hK; go_wp2_with (go_at_call 81; ((with_reducible refine (cshturn _ _ _ (by decide) (by decide)).mono ?_); rintro e w' ⟨rfl, m, rfl⟩)); refine hK _ _ h1 ?_; clear hK K))
          refine wpX_nil ?_
          go_wp2_with fail
          refine wp_region_lexS (fun w' => Blk w' (w.heap.size + 1) 108 (wcells (wpad b t))) 0 [] (by kernel_rfl) (by kernel_rfl) h1 ?_
          repeat (first
            | (refine wpX_pure rfl rfl rfl ?_; intro K hK; go_big_quiet_op; refine hK _ ?_; clear hK K)
            | (refine wpX_load0 rfl rfl _ _ rfl _ rfl _ rfl Try.underlying103 _ (fun w' h => (Blk.cell h _).trans q2) h1 ?_; simp only [Act.put, List.setIfInBounds_toArray, List.set_cons_zero, List.set_cons_succ])
            | (refine wpX_eff rfl rfl ?_; intro K hK; go_wp2_with (go_at_call 81; ((with_reducible refine (cshturn _ _ _ (by decide) (by decide)).mono ?_); rintro e w' ⟨rfl, m, rfl⟩)); refine hK _ _ h1 ?_; clear hK K))
          refine wpX_nil ?_
          go_wp2_with fail
          refine wp_region_lexX [] (by kernel_rfl) (by kernel_rfl) ?_
          repeat (first
            | (refine wpX_pure rfl rfl rfl ?_; intro K hK; go_big_quiet_op; refine hK _ ?_; clear hK K)
            | (refine wpX_load rfl rfl rfl ?_; intro K hK; go_big_quiet_op; refine hK _ ?_; clear hK K)
            | (refine wpX_eff rfl rfl ?_; intro K hK; go_wp2_with fail; refine hK _ _ trivial ?_; clear hK K))
          refine wpX_nil ?_
          go_wp2
          go_roundw
          case rel =>
            have hx : ∀ n, Blk ((wr.drewN n).setCell ⟨w.heap.size + 1, t, none⟩ (.int .u32 (V (x0 + (rotr x1 7 ^^^ rotr x1 18 ^^^ x1 >>> 3) + x2 + (rotr x3 17 ^^^ rotr x3 19 ^^^ x3 >>> 10))))) (w.heap.size + 1) 108 (wcells (wpad b (t + 1))) := by
              intro n
              have hx := (h1.drewN n).set_ t (.int .u32 (V (x0 + (rotr x1 7 ^^^ rotr x1 18 ^^^ x1 >>> 3) + x2 + (rotr x3 17 ^^^ rotr x3 19 ^^^ x3 >>> 10))))
              rw [wcells_set, HS.out] at hx
              exact hx
            exact ⟨t + 1, by omega, by omega, by go_num, hx _, (h2.drewN _).far (by show w.heap.size ≠ w.heap.size + 1; omega) _, (below_drewN h4 _).setCell (p := ⟨w.heap.size + 1, t, none⟩) (by show w.heap.size ≤ w.heap.size + 1; omega) _⟩
          case measure => simp [intOf]; omega
        · have e : t = 64 := by omega
          rw [e, wpad_all] at h1
          clear e
          obtain ⟨z, hz1, hz2⟩ := h2
          have hone := wcells_one (sch b 64)
          have hsz : (wcells (sch b 64)).size = 64 := by rw [size_wcells, sch_length]
          obtain ⟨cs, HC⟩ : ∃ cs, Hid (wcells (sch b 64) = cs) := ⟨_, Lib.hid rfl⟩
          rw [HC.out] at h1 hone hsz
          have HI : Hid ((Try.prog.info? 108).map (·.size) = some cs.size) := Lib.hid (by rw [hsz]; exact row64_info)
          have HS : Hid (z.size = cs.size) := Lib.hid (by rw [hsz, hz1])
          clear hsz hz1
          have hdn : decide ((t : Int) < 64) = false := by simp; omega
          go_wp2_with (first
            | ((with_reducible refine wpList_load_blk rfl 108 (.tmp 3) rfl (w.heap.size + 1) cs 108 64 103 rfl h1 Try.underlying108 HI.out ?_); simp only [Act.put, List.setIfInBounds_toArray, List.set_cons_zero, List.set_cons_succ])
            | ((with_reducible refine wpList_store_blk rfl 108 (.tmp 2) (.tmp 100) rfl w.heap.size cs z 108 rfl rfl hz2 HI.out HS.out hone ?_); simp only [Act.put]))
          refine bodyPost_ret (results_blk rfl _ w.heap.size 108 cs 64 103 rfl (hz2.row cs) Try.underlying108 HI.out) rfl ⟨?_, below_row h4 (Nat.le_refl _) _⟩
          rw [HC.out]
end Go.Proofs.Ytcnhhlnbmliihaa
