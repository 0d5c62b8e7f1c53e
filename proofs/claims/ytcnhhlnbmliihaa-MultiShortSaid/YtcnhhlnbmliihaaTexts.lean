/- sledgeref01.SameTexts, sledgelaw15.Few. -/
import Derived.Test.YtcnhhlnbmliihaaShaTop
namespace Go.Proofs.Ytcnhhlnbmliihaa
open Go.RowKit
set_option linter.unusedVariables false
set_option linter.unusedSimpArgs false

theorem Strs.cell_ {w : World} {A : Option Addr} {ss : List ByteArray} (h : Strs w A ss) (k : Nat) (hk : k < ss.length) : ∃ g o, A = some ⟨g, o, none⟩ ∧ w.cell? ⟨g, o + k, none⟩ = some (.string (ss.getD k ByteArray.empty)) := by
  obtain ⟨g, o, e, _, hc⟩ := h (by omega)
  exact ⟨g, o, e, hc k hk⟩
theorem getD_mem {ss : List ByteArray} {k : Nat} (hk : k < ss.length) : ss.getD k ByteArray.empty ∈ ss := by
  rw [List.getD_eq_getElem?_getD, List.getElem?_eq_getElem hk]; exact List.getElem_mem hk
theorem beq_text_ne {x y : ByteArray} (h : ¬ x = y) : (x.toList == y.toList) = false := by
  rw [ByteArray.toList_eq, ByteArray.toList_eq]
  exact beq_false_of_ne fun h2 => h (ba_ext h2)

set_option maxRecDepth 100000 in
theorem cSame (A B : Option Addr) (n m c d : Nat) (ss ts : List ByteArray) (W : World) (hn : ss.length = n) (hm : ts.length = m) (hs : Strs W A ss) (ht : Strs W B ts) (hn2 : n ≤ 140737488355328) (hm2 : m ≤ 140737488355328) :
    Calls Try.prog 25 #[.slice A n c, .slice B m d] W fun e W' => e = .returned (.bool (decide (ss = ts))) ∧ Below W.heap.size W W' := by
  have HN := Lib.hid hn
  have HM := Lib.hid hm
  have HS := Lib.hid hs
  have HT := Lib.hid ht
  have hnI : (n : Int) ≤ 140737488355328 := by omega
  have hmI : (m : Int) ≤ 140737488355328 := by omega
  clear hn hm hs ht
  have hB0 := Below.refl W.heap.size W
  by_cases hnm : n = m
  · subst hnm
    go_enter Try.func25, Try.ntmps25
    go_wp2_with fail
    go_loopw [5] (fun i wr => ∃ k : Nat, k ≤ n ∧ i = .int .i64 k ∧ ss.take k = ts.take k ∧ Below W.heap.size W wr) (fun i _ => n - (intOf i).toNat)
    case atStart => exact ⟨0, by omega, rfl, rfl, hB0⟩
    case round =>
      clear hB0
      obtain ⟨k, hk, rfl, htk, hB⟩ := hrel
      have HTK := Lib.hid htk
      clear htk
      by_cases hlk : k < n
      · have hdk : decide ((k : Int) < (n : Int)) = true := decide_eq_true (by omega)
        obtain ⟨g1, o1, rfl, c1⟩ := (HS.out.fresh hB).cell_ k (by rw [HN.out]; omega)
        obtain ⟨g2, o2, rfl, c2⟩ := (HT.out.fresh hB).cell_ k (by rw [HM.out]; omega)
        have e1 := List.take_succ_eq_append_getElem (l := ss) (i := k) (by rw [HN.out]; omega)
        have e2 := List.take_succ_eq_append_getElem (l := ts) (i := k) (by rw [HM.out]; omega)
        have d1 : ss.getD k ByteArray.empty = ss[k]'(by rw [HN.out]; omega) := by rw [List.getD_eq_getElem?_getD, List.getElem?_eq_getElem]; rfl
        have d2 : ts.getD k ByteArray.empty = ts[k]'(by rw [HM.out]; omega) := by rw [List.getD_eq_getElem?_getD, List.getElem?_eq_getElem]; rfl
        rw [← d1] at e1
        rw [← d2] at e2
        obtain ⟨x, HX⟩ : ∃ x, Hid (ss.getD k ByteArray.empty = x) := ⟨_, Lib.hid rfl⟩
        obtain ⟨y, HY⟩ : ∃ x, Hid (ts.getD k ByteArray.empty = x) := ⟨_, Lib.hid rfl⟩
        rw [HX.out] at e1 c1
        rw [HY.out] at e2 c2
        have E1 := Lib.hid e1
        have E2 := Lib.hid e2
        clear e1 e2 d1 d2
        have c1d : (wr.drew).cell? ⟨g1, o1 + k, none⟩ = some (.string x) := c1
        have c2d : (wr.drew).cell? ⟨g2, o2 + k, none⟩ = some (.string y) := c2
        by_cases hxy : x = y
        · have hbe : (x.toList == y.toList) = true := by rw [hxy]; exact beq_self_eq_true _
          subst hxy
          go_wp2_with fail
          refine wp_region_lexX [] (by kernel_rfl) (by kernel_rfl) ?_
          repeat (first
            | (refine wpX_pure rfl rfl rfl ?_; intro K hK; go_big_quiet_op; refine hK _ ?_; clear hK K)
            | (refine wpX_load rfl rfl rfl ?_; intro K hK; go_big_quiet_op; refine hK _ ?_; clear hK K))
          refine wpX_nil ?_
          go_wp2_with fail
          go_roundw
          case rel => exact ⟨k + 1, by omega, by go_num, by rw [E1.out, E2.out, HTK.out], hB.drew⟩
          case measure => simp [intOf]; omega
        · have hbe := beq_text_ne hxy
          go_wp2_with fail
          refine wp_region_lexX [] (by kernel_rfl) (by kernel_rfl) ?_
          repeat (first
            | (refine wpX_pure rfl rfl rfl ?_; intro K hK; go_big_quiet_op; refine hK _ ?_; clear hK K)
            | (refine wpX_load rfl rfl rfl ?_; intro K hK; go_big_quiet_op; refine hK _ ?_; clear hK K))
          refine wpX_nil ?_
          go_wp2_with fail
          go_ret
          have hne : decide (ss = ts) = false := decide_eq_false fun e => hxy (by rw [← HX.out, ← HY.out, e])
          exact ⟨by rw [hne]; rfl, hB.drew⟩
      · have hdk : decide ((k : Int) < (n : Int)) = false := decide_eq_false (by omega)
        have heq : decide (ss = ts) = true := decide_eq_true (by
          have h1 := HTK.out
          rw [List.take_of_length_le (by rw [HN.out]; omega), List.take_of_length_le (by rw [HM.out]; omega)] at h1
          exact h1)
        go_wp2_with fail
        go_ret
        exact ⟨by rw [heq]; rfl, hB⟩
  · have hne : decide (ss = ts) = false := decide_eq_false fun e => hnm (by rw [← HN.out, ← HM.out, e])
    rw [hne]
    have hnmI : ((n : Int) == (m : Int)) = false := by simp; omega
    have hnmJ : ((n : Int) != (m : Int)) = true := by simp; omega
    go_enter Try.func25, Try.ntmps25
    go_wp2_with fail
    go_ret
    exact ⟨rfl, hB0⟩
/-- What Few leaves: a beginning. -/
theorem cFew (A : Option Addr) (n c : Nat) (ss : List ByteArray) (w : World) (hn : ss.length = n) (hs : Strs w A ss) (hn2 : n ≤ 140737488355328) (hnc : n ≤ c) (hz : ∀ s ∈ ss, s.size ≤ 140737488355328) :
    Calls Try.prog 12 #[.slice A n c] w fun e w' => ∃ m, m ≤ n ∧ m ≤ 70 ∧ e = .returned (.slice A m c) ∧ (joinL (ss.take m)).length ≤ 20000 ∧ w = w' := by
  have HN := Lib.hid hn
  have hn3 : (n : Int) ≤ 140737488355328 := by omega
  have hc3 : (n : Int) ≤ (c : Int) := by omega
  clear hn
  have HS0 := Lib.hid hs
  have HZ := Lib.hid hz
  clear hs hz
  go_enter Try.func12, Try.ntmps12
  go_wp2_with fail
  go_loop [3, 4] (fun u i => ∃ (k q : Nat), k ≤ n ∧ k ≤ 70 ∧ i = .int .i64 k ∧ u = .int .i64 q ∧ q ≤ 20000 ∧ q = (joinL (ss.take k)).length) (fun _ i => n - (intOf i).toNat)
  case atStart => exact ⟨0, 0, by omega, by omega, rfl, rfl, by omega, by rw [List.take_zero, joinL_nil]; rfl⟩
  case round =>
    obtain ⟨k, q, hk, hk2, rfl, rfl, hq, hqj⟩ := hrel
    have HQ := Lib.hid hqj
    clear hqj
    by_cases hlk : k < n
    · have hdk : decide ((k : Int) < (n : Int)) = true := decide_eq_true (by omega)
      have hkl : k < ss.length := by rw [HN.out]; exact hlk
      obtain ⟨g, o, ha, hg, hc⟩ := HS0.out (by omega)
      have hck := hc k hkl
      have hjt := joinL_take ss k hkl
      have hss : (ss.getD k ByteArray.empty).size ≤ 140737488355328 := HZ.out _ (getD_mem hkl)
      obtain ⟨s, HS⟩ : ∃ s, Hid (ss.getD k ByteArray.empty = s) := ⟨_, Lib.hid rfl⟩
      rw [HS.out] at hck hjt hss
      have hjl := congrArg List.length hjt
      rw [List.length_append, data_length, ← HQ.out] at hjl
      have HJL := Lib.hid hjl
      subst ha
      clear hc hjt hjl hkl
      by_cases h1 : s.size ≤ 1048576
      · by_cases h2 : q + s.size ≤ 20000
        · by_cases h3 : k < 70
          · go_wp2_with fail
            all_goals
              go_round
              case rel => exact ⟨k + 1, q + s.size, by omega, by omega, by go_num, by go_num, h2, HJL.out.symm⟩
              case measure => simp [intOf]; omega
          · go_wp2_with fail
            go_ret
            exact ⟨k, by omega, by omega, rfl, by rw [← HQ.out]; omega, rfl⟩
        · go_wp2_with fail
          go_ret
          exact ⟨k, by omega, by omega, rfl, by rw [← HQ.out]; omega, rfl⟩
      · have hmin : min (s.size : Int) 1048576 = 1048576 := by omega
        have hgt : decide ((20000 : Int) < (q : Int) + 1048576) = true := decide_eq_true (by omega)
        have h1' : ¬ (s.size : Int) ≤ 1048576 := by omega
        clear h1 hss
        go_wp2_with fail
        go_ret
        exact ⟨k, by omega, by omega, rfl, by rw [← HQ.out]; omega, rfl⟩
    · have hdk : decide ((k : Int) < (n : Int)) = false := decide_eq_false (by omega)
      have e : k = n := by omega
      subst e
      go_wp2_with fail
      go_ret
      exact ⟨k, by omega, by omega, rfl, by rw [← HQ.out]; omega, rfl⟩
theorem mem_joinL_le {ss : List ByteArray} {s : ByteArray} (h : s ∈ ss) : s.size ≤ (joinL ss).length := by
  unfold joinL
  induction ss with
  | nil => cases h
  | cons a t ih =>
    rw [List.flatMap_cons, List.length_append, data_length]
    rcases List.mem_cons.1 h with rfl | h
    · omega
    · have := ih h; omega
end Go.Proofs.Ytcnhhlnbmliihaa
