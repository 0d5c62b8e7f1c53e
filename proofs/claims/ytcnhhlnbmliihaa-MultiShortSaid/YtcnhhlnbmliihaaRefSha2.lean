/- sledgeref02: scheduled. -/
import Derived.Test.YtcnhhlnbmliihaaRefSha1
namespace Go.Proofs.Ytcnhhlnbmliihaa
open Go.RowKit
set_option linter.unusedVariables false
set_option linter.unusedSimpArgs false

theorem be4_sum (a b c d : UInt8) : ((a.toNat : Int) * (16777216 : Int) + (b.toNat : Int) * (65536 : Int) + (c.toNat : Int) * (256 : Int) + (d.toNat : Int)) = V (bw a <<< 24 ||| bw b <<< 16 ||| bw c <<< 8 ||| bw d) := by
  have ha := a.toNat_lt
  have hb := b.toNat_lt
  have hc := c.toNat_lt
  have hd := d.toNat_lt
  have e : (bw a <<< 24 ||| bw b <<< 16 ||| bw c <<< 8 ||| bw d).toNat = d.toNat + c.toNat * 2 ^ 8 + b.toNat * 2 ^ 16 + a.toNat * 2 ^ 24 := by
    have e0 : bw a <<< 24 ||| bw b <<< 16 ||| bw c <<< 8 ||| bw d = bw d ||| bw c <<< 8 ||| bw b <<< 16 ||| bw a <<< 24 := by
      apply BitVec.eq_of_getElem_eq
      intro i hi
      simp only [BitVec.getElem_or]
      generalize (bw a <<< 24)[i] = p
      generalize (bw b <<< 16)[i] = q
      generalize (bw c <<< 8)[i] = r
      generalize (bw d)[i] = s
      cases p <;> cases q <;> cases r <;> cases s <;> rfl
    rw [e0]
    simp only [BitVec.toNat_or, BitVec.toNat_shiftLeft, bw_toNat]
    have e1 : c.toNat <<< 8 % 2 ^ 32 = c.toNat <<< 8 := by rw [Nat.shiftLeft_eq]; omega
    have e2 : b.toNat <<< 16 % 2 ^ 32 = b.toNat <<< 16 := by rw [Nat.shiftLeft_eq]; omega
    have e3 : a.toNat <<< 24 % 2 ^ 32 = a.toNat <<< 24 := by rw [Nat.shiftLeft_eq]; omega
    rw [e1, e2, e3, lor_sum _ _ 8 (by omega), lor_sum _ _ 16 (by omega), lor_sum _ _ 24 (by omega)]
  unfold V
  rw [e]
  omega

/-- One word, to be appended. -/
theorem src_word {P : Program} {tx e' : TypeId} (hk : P.underlying tx = some (.slice e')) (W : World) (e : TypeId) (n : Int) : Src P 1 tx (.slice (some ⟨W.heap.size, 0, none⟩) 1 1) 1 [.int .i64 n] (W.alloc (.cells #[.int .i64 n] e)) :=
  src_new1 hk W e _ rfl
theorem wi_sch (b : List UInt8) (t : Nat) : (sch b t).map wi ++ [wi (wNext b (sch b t) t)] = (sch b (t + 1)).map wi := by
  rw [sch_succ, List.map_append]; rfl

set_option maxRecDepth 100000 in
set_option maxHeartbeats 1000000 in
theorem crscheduled (g o c : Nat) (b : List UInt8) (w : World) (hl : b.length = 64) (_ : 64 ≤ c) (hb : Byt w g o b) :
    Calls Try.prog 72 #[.slice (some ⟨g, o, none⟩) 64 c] w fun e w' => ∃ v, e = .returned v ∧ SL w' w.heap.size 3 v ((sch b 64).map wi) ∧ Below w.heap.size w w' := by
  have HL := Lib.hid hl
  have hg := hb.lt
  have HBY := Lib.hid hb
  clear hl hb
  go_enter Try.func72, Try.ntmps72
  go_wp2_with fail
  go_loopw [3, 4] (fun u i wr => ∃ (t c' : Nat) (A : Option Addr), t ≤ 64 ∧ i = .int .i64 t ∧ u = .slice A t c' ∧ SL wr w.heap.size 3 (.slice A t c') ((sch b t).map wi) ∧ Below w.heap.size w wr)
    (fun _ i _ => 64 - (intOf i).toNat)
  case atStart => exact ⟨0, 0, none, by omega, rfl, rfl, by rw [sch_zero]; exact SL.nil _ _ _, Below.refl _ _⟩
  case round =>
    obtain ⟨t, c', A, ht, rfl, rfl, s1, n1⟩ := hrel
    have hs1 := n1.size
    have hll : ((sch b t).map wi).length ≤ 64 := by rw [List.length_map, sch_length]; exact ht
    by_cases hlt : t < 64
    · have hdt : decide ((t : Int) < 64) = true := by simp; omega
      by_cases hl16 : t < 16
      · have hdt6 : decide ((t : Int) < 16) = true := by simp; omega
        have h3 := HBY.out.below n1 hg hs1
        have c0 := h3.cell (4 * t) (by rw [HL.out]; omega)
        have c1 := h3.cell (4 * t + 1) (by rw [HL.out]; omega)
        have c2 := h3.cell (4 * t + 2) (by rw [HL.out]; omega)
        have c3 := h3.cell (4 * t + 3) (by rw [HL.out]; omega)
        have hw := wNext_low b (sch b t) t hl16
        have hs := wi_sch b t
        rw [hw] at hs
        unfold wAt at hs
        obtain ⟨x0, X0⟩ : ∃ x, Hid (b.getD (4 * t) 0 = x) := ⟨_, Lib.hid rfl⟩
        obtain ⟨x1, X1⟩ : ∃ x, Hid (b.getD (4 * t + 1) 0 = x) := ⟨_, Lib.hid rfl⟩
        obtain ⟨x2, X2⟩ : ∃ x, Hid (b.getD (4 * t + 2) 0 = x) := ⟨_, Lib.hid rfl⟩
        obtain ⟨x3, X3⟩ : ∃ x, Hid (b.getD (4 * t + 3) 0 = x) := ⟨_, Lib.hid rfl⟩
        rw [X0.out] at c0 hs
        rw [X1.out] at c1 hs
        rw [X2.out] at c2 hs
        rw [X3.out] at c3 hs
        have hsum := be4_sum x0 x1 x2 x3
        have b0 : (x0.toNat : Int) < 256 := by have := x0.toNat_lt; omega
        have b1 : (x1.toNat : Int) < 256 := by have := x1.toNat_lt; omega
        have b2 : (x2.toNat : Int) < 256 := by have := x2.toNat_lt; omega
        have b3 : (x3.toNat : Int) < 256 := by have := x3.toNat_lt; omega
        have HS := Lib.hid hs
        have HSUM := Lib.hid hsum
        have S1 := Lib.hid s1
        have N1 := Lib.hid n1
        clear hs hw hsum s1 n1 h3
        go_wp2_with fail
        refine wp_region_lexX [] (by kernel_rfl) (by kernel_rfl) ?_
        repeat (first
          | (refine wpX_pure rfl rfl rfl ?_; intro K hK; go_big_quiet_op; refine hK _ ?_; clear hK K)
          | (refine wpX_load rfl rfl rfl ?_; intro K hK; go_big_quiet_op; refine hK _ ?_; clear hK K))
        refine wpX_eff rfl rfl ?_; intro K hK; go_wp2_with fail; refine hK _ _ trivial ?_; clear hK K
        refine wpX_eff rfl rfl ?_; intro K hK
        refine wpList_app_grown int_elem rfl (.tmp 15) (.tmp 49) rfl w.heap.size _ _ rfl ((S1.out.drewN 1).alloc _) (.slice (some ⟨wr.heap.size, 0, none⟩) 1 1) 1 _ rfl (src_word Try.underlying22 wr.drew _ _) (by omega) (by decide) (by simp; omega) ?_
        intro v2 w2 s20 g2 o2
        have s2 : SL w2 w.heap.size 3 v2 ((sch b (t + 1)).map wi) := by
          rw [← HS.out]
          rw [HSUM.out] at s20
          exact s20
        have n2 := ((below_drewN N1.out 1).alloc (by exact hs1) _).trans ((Only.grown (S := fun k => w.heap.size ≤ k) g2 (fun k e => (S1.out.own_lt k e).2)).below (B := w.heap.size) (by simp; omega) (fun _ e => e))
        clear g2 o2 s20
        refine wpList_nil (hK _ _ trivial ?_); clear hK K
        simp only [Act.put, List.setIfInBounds_toArray, List.set_cons_zero, List.set_cons_succ]
        refine wpX_pure rfl rfl rfl ?_; intro K hK; go_big_quiet_op; refine hK _ ?_; clear hK K
        refine wpX_nil ?_
        go_wp2_with fail
        go_roundw
        case rel =>
          obtain ⟨A2, c2, hv2⟩ := s2.form
          rw [List.length_map, sch_length] at hv2
          exact ⟨t + 1, c2, A2, by omega, by go_num, hv2.1, by rw [← hv2.1]; exact s2, n2⟩
        case measure => simp [intOf]; omega
      · have hdt6 : decide ((t : Int) < 16) = false := by simp; omega
        have ht16 : 16 ≤ t := by omega
        obtain ⟨gA, cA, hA, hcA, hgA, hR⟩ := s1.rw (by intro e; have := congrArg List.length e; rw [List.length_map, sch_length] at this; simp at this; omega)
        rw [List.length_map, sch_length] at hA
        injection hA with e1 e2 e3
        subst e1
        subst e3
        have c0 := hR.cell (t - 16) _ (wi_get _ _ (by rw [sch_length]; omega))
        have c1 := hR.cell (t - 15) _ (wi_get _ _ (by rw [sch_length]; omega))
        have c2 := hR.cell (t - 7) _ (wi_get _ _ (by rw [sch_length]; omega))
        have c3 := hR.cell (t - 2) _ (wi_get _ _ (by rw [sch_length]; omega))
        have hw := wNext_high b (sch b t) t ht16
        have hs := wi_sch b t
        rw [hw] at hs
        obtain ⟨x0, X0⟩ : ∃ x, Hid ((sch b t).getD (t - 16) 0 = x) := ⟨_, Lib.hid rfl⟩
        obtain ⟨x1, X1⟩ : ∃ x, Hid ((sch b t).getD (t - 15) 0 = x) := ⟨_, Lib.hid rfl⟩
        obtain ⟨x2, X2⟩ : ∃ x, Hid ((sch b t).getD (t - 7) 0 = x) := ⟨_, Lib.hid rfl⟩
        obtain ⟨x3, X3⟩ : ∃ x, Hid ((sch b t).getD (t - 2) 0 = x) := ⟨_, Lib.hid rfl⟩
        rw [X0.out] at c0 hs
        rw [X1.out] at c1 hs
        rw [X2.out] at c2 hs
        rw [X3.out] at c3 hs
        unfold sgA sgB at hs
        have HS := Lib.hid hs
        have S1 := Lib.hid s1
        have N1 := Lib.hid n1
        clear hs hw s1 n1 hR e2
        go_wp2_with fail
        refine wp_region_lexX [] (by kernel_rfl) (by kernel_rfl) ?_
        repeat (first
          | (refine wpX_pure rfl rfl rfl ?_; intro K hK; go_big_quiet_op; refine hK _ ?_; clear hK K)
          | (refine wpX_load rfl rfl rfl ?_; intro K hK; go_big_quiet_op; refine hK _ ?_; clear hK K))
        refine wpX_nil ?_
        go_wp2_with (go_at_call 73; ((with_reducible refine (crrotr _ _ _ (by decide) (by decide)).mono ?_); rintro e w' ⟨rfl, m, rfl⟩))
        refine wp_region_lexX [] (by kernel_rfl) (by kernel_rfl) ?_
        repeat (first
          | (refine wpX_pure rfl rfl rfl ?_; intro K hK; go_big_quiet_op; refine hK _ ?_; clear hK K)
          | (refine wpX_load rfl rfl rfl ?_; intro K hK; go_big_quiet_op; refine hK _ ?_; clear hK K))
        refine wpX_eff rfl rfl ?_; intro K hK; go_wp2_with fail; refine hK _ _ trivial ?_; clear hK K
        refine wpX_eff rfl rfl ?_; intro K hK
        refine wpList_app_grown int_elem rfl (.tmp 77) (.tmp 94) rfl w.heap.size _ _ rfl ((S1.out.drewN _).alloc _) (.slice (some ⟨wr.heap.size, 0, none⟩) 1 1) 1 _ rfl (src_word Try.underlying22 (wr.drewN _) _ _) (by omega) (by decide) (by simp; omega) ?_
        intro v2 w2 s20 g2 o2
        have s2 : SL w2 w.heap.size 3 v2 ((sch b (t + 1)).map wi) := by
          rw [← HS.out]
          simp only [ofInt_addVr, ofInt32_wrap64, V_ofInt] at s20
          exact s20
        have n2 := ((below_drewN N1.out _).alloc (by exact hs1) _).trans ((Only.grown (S := fun k => w.heap.size ≤ k) g2 (fun k e => (S1.out.own_lt k e).2)).below (B := w.heap.size) (by simp; omega) (fun _ e => e))
        clear g2 o2 s20
        refine wpList_nil (hK _ _ trivial ?_); clear hK K
        simp only [Act.put, List.setIfInBounds_toArray, List.set_cons_zero, List.set_cons_succ]
        refine wpX_pure rfl rfl rfl ?_; intro K hK; go_big_quiet_op; refine hK _ ?_; clear hK K
        refine wpX_nil ?_
        go_wp2_with fail
        go_roundw
        case rel =>
          obtain ⟨A2, c2, hv2⟩ := s2.form
          rw [List.length_map, sch_length] at hv2
          exact ⟨t + 1, c2, A2, by omega, by go_num, hv2.1, by rw [← hv2.1]; exact s2, n2⟩
        case measure => simp [intOf]; omega
    · have hdt : decide ((t : Int) < 64) = false := by simp; omega
      have e : t = 64 := by omega
      subst e
      have S1 := Lib.hid s1
      have N1 := Lib.hid n1
      clear s1 n1
      go_wp2_with fail
      go_ret
      exact ⟨_, rfl, S1.out, N1.out⟩
end Go.Proofs.Ytcnhhlnbmliihaa
