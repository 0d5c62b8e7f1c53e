import Derived.Test.YtbofmfocnbennaaChaTop
import Derived.Test.YtbofmfocnbennaaWi
namespace Go.Proofs.Ytbofmfocnbennaa
open Go.RowKit
set_option maxRecDepth 100000
set_option linter.unusedVariables false
set_option linter.unusedSimpArgs false

theorem le4_sum (a b c d : UInt8) : ((a.toNat : Int) + b.toNat * 256 + c.toNat * 65536 + d.toNat * 16777216) = V (le4 a b c d) := by
  have ha := a.toNat_lt
  have hb := b.toNat_lt
  have hc := c.toNat_lt
  have hd := d.toNat_lt
  have e : (le4 a b c d).toNat = a.toNat + b.toNat * 2 ^ 8 + c.toNat * 2 ^ 16 + d.toNat * 2 ^ 24 := by
    unfold le4
    simp only [BitVec.toNat_or, BitVec.toNat_shiftLeft, bw_toNat]
    have e1 : b.toNat <<< 8 % 2 ^ 32 = b.toNat <<< 8 := by rw [Nat.shiftLeft_eq]; omega
    have e2 : c.toNat <<< 16 % 2 ^ 32 = c.toNat <<< 16 := by rw [Nat.shiftLeft_eq]; omega
    have e3 : d.toNat <<< 24 % 2 ^ 32 = d.toNat <<< 24 := by rw [Nat.shiftLeft_eq]; omega
    rw [e1, e2, e3, lor_sum _ _ 8 (by omega), lor_sum _ _ 16 (by omega), lor_sum _ _ 24 (by omega)]
  unfold V
  rw [e]
  omega

theorem crwords (s : ByteArray) (k : Nat) (hk : s.size = 4 * k) (hk' : k ≤ 100) (w : World) :
    Calls Try.prog 75 #[.string s] w fun e w' => ∃ v, e = .returned v ∧ SL w' w.heap.size 3 v ((List.range k).map fun i => wi (lew s i)) ∧ Below w.heap.size w w' := by
  have HK := Lib.hid hk
  clear hk
  go_enter Try.func75, Try.ntmps75
  go_wp2_with fail
  go_loopw [3, 4] (fun v i wr => ∃ j : Nat, j ≤ k ∧ i = .int .i64 (4 * (j : Int)) ∧ SL wr w.heap.size 3 v ((List.range j).map fun i => wi (lew s i)) ∧ Below w.heap.size w wr)
    (fun _ i _ => k - (intOf i).toNat / 4)
  case atStart => exact ⟨0, by omega, rfl, SL.nil _ _ _, Below.refl _ _⟩
  case round =>
    obtain ⟨j, hj, rfl, hv, hB⟩ := hrel
    have hs := hB.size
    by_cases hlt : j < k
    · have g0 : (4 * (j : Int) + 3 < (s.size : Int)) := by have := HK.out; omega
      have q0 : 4 * (j : Int) < (s.size : Int) := by omega
      have q1 : 4 * (j : Int) + 1 < (s.size : Int) := by omega
      have q2 : 4 * (j : Int) + 2 < (s.size : Int) := by omega
      have p0 : 0 ≤ 4 * (j : Int) := by omega
      have p1 : 0 ≤ 4 * (j : Int) + 1 := by omega
      have p2 : 0 ≤ 4 * (j : Int) + 2 := by omega
      have p3 : 0 ≤ 4 * (j : Int) + 3 := by omega
      have b0 : ((byteAt s (4 * j)).toNat : Int) < 256 := by have := (byteAt s (4 * j)).toNat_lt; omega
      have b1 : ((byteAt s (4 * j + 1)).toNat : Int) < 256 := by have := (byteAt s (4 * j + 1)).toNat_lt; omega
      have b2 : ((byteAt s (4 * j + 2)).toNat : Int) < 256 := by have := (byteAt s (4 * j + 2)).toNat_lt; omega
      have b3 : ((byteAt s (4 * j + 3)).toNat : Int) < 256 := by have := (byteAt s (4 * j + 3)).toNat_lt; omega
      go_wp2_with fail
      refine wp_region_lexX [] (by kernel_rfl) (by kernel_rfl) ?_
      repeat (refine wpX_pure rfl rfl rfl ?_; intro K hK; go_big_quiet_op; refine hK _ ?_; clear hK K)
      refine wpX_eff rfl rfl ?_; intro K hK; go_wp2_with fail; refine hK _ _ trivial ?_; clear hK K
      refine wpX_eff rfl rfl ?_; intro K hK
      refine wpList_app int_elem rfl (.tmp 12) (.tmp 38) rfl w.heap.size u3 _ rfl (hv.alloc _) _ _ _ _ _ rfl (reads_one wr _ _) ?_ ?_ (by decide) ?_ ?_
      · intro u hu; simp at hu; subst hu; rfl
      · simp; omega
      · simp; omega
      · intro v' w' hv' hbel _ _
        refine wpList_nil (hK _ _ trivial ?_); clear hK K
        simp only [Act.put, List.setIfInBounds_toArray, List.set_cons_zero, List.set_cons_succ]
        refine wpX_pure rfl rfl rfl ?_; intro K hK; go_big_quiet_op; refine hK _ ?_; clear hK K
        refine wpX_nil ?_
        have hB' : Below w.heap.size w w' := (hB.alloc hs _).drew.trans (hbel _ (Nat.le_refl _))
        rw [le4_sum] at hv'
        clear hbel hv hB
        go_wp2_with fail
        go_roundw
        case rel => exact ⟨j + 1, by omega, by go_num, by rw [List.range_succ, List.map_append]; exact hv', hB'⟩
        case measure => simp [intOf]; omega
    · have g0 : ¬ (4 * (j : Int) + 3 < (s.size : Int)) := by have := HK.out; omega
      go_wp2_with fail
      have e : j = k := by omega
      subst e
      refine bodyPost_ret (results_tmp rfl _ _ _) rfl ⟨_, rfl, ?_, hB⟩
      exact hv
end Go.Proofs.Ytbofmfocnbennaa
