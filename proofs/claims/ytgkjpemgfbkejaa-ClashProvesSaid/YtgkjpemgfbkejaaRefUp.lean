/- The reference's Proof, Long, up, Up. -/
import Derived.Test.YtgkjpemgfbkejaaMerkUp
import Derived.Test.YtgkjpemgfbkejaaRefWay
namespace Go.Proofs.Ytgkjpemgfbkejaa
open Go.RowKit
set_option linter.unusedVariables false
set_option linter.unusedSimpArgs false

theorem crLong : ∀ (n i : Nat) (W : World), n ≤ 2305843009213693952 → i < n →
    Calls Try.prog 51 #[.int .i64 i, .int .i64 n] W fun e W' => e = .returned (.int .i64 ((way i n).length : Nat)) ∧ W = W' := by
  intro n
  induction n using Nat.strongRecOn with
  | _ n ih =>
    intro i W hn hi
    rcases Nat.lt_or_ge n 2 with h2 | h2
    · rw [way_one i n h2]
      go_enter Try.func51, Try.ntmps51
      go_wp2_with fail
      go_ret
      exact ⟨rfl, rfl⟩
    · have hcl := cut_lt n h2
      have hcp := cut_pos n
      have h3 := fun W => crCut n W (by omega)
      have hwl := fun h => congrArg List.length (way_left i n h2 h)
      have hwr := fun h => congrArg List.length (way_right i n h2 h)
      simp only [List.length_append, List.length_singleton] at hwl hwr
      have i1 := fun W h => ih (cut n) hcl i W (by omega) h
      have i2 := fun W h => ih (n - cut n) (by omega) (i - cut n) W (by omega) h
      have l1 := way_bits 61 i (cut n) (by omega)
      have l2 := way_bits 61 (i - cut n) (n - cut n) (by omega)
      obtain ⟨k, HK⟩ : ∃ k, Hid (cut n = k) := ⟨_, Lib.hid rfl⟩
      simp only [HK.out] at h3 i1 i2 l1 l2 hwl hwr hcl hcp
      have H3 := Lib.hid h3
      have hnI : (n : Int) ≤ 2305843009213693952 := by omega
      have h2I : ¬ (n : Int) < 2 := by omega
      have hiI : (i : Int) < (n : Int) := by omega
      have hkI : (k : Int) < (n : Int) := by omega
      by_cases hik : i < k
      · have hd := hwl hik
        have i1 := fun W => i1 W hik
        obtain ⟨q, HQ⟩ : ∃ q, Hid ((way i k).length = q) := ⟨_, Lib.hid rfl⟩
        simp only [HQ.out] at i1 hd l1
        have I1 := Lib.hid i1
        have HD := Lib.hid hd
        have hikJ : (i : Int) < (k : Int) := by omega
        clear hd i1 i2 hwl hwr ih h3 l2
        go_enter Try.func51, Try.ntmps51
        go_wp2_with fail
        (with_reducible refine (H3.out _).mono ?_); rintro e w1 ⟨rfl, rfl⟩
        go_wp2_with fail
        (with_reducible refine (I1.out _).mono ?_); rintro e w1 ⟨rfl, rfl⟩
        go_wp2_with fail
        go_ret
        exact ⟨by rw [HD.out]; go_num, rfl⟩
      · have hd := hwr (by omega)
        have i2 := fun W => i2 W (by omega)
        obtain ⟨q, HQ⟩ : ∃ q, Hid ((way (i - k) (n - k)).length = q) := ⟨_, Lib.hid rfl⟩
        simp only [HQ.out] at i2 hd l2
        have e1 : ((i - k : Nat) : Int) = (i : Int) - (k : Int) := by omega
        have e2 : ((n - k : Nat) : Int) = (n : Int) - (k : Int) := by omega
        simp only [e1, e2] at i2
        have I2 := Lib.hid i2
        have HD := Lib.hid hd
        have hikJ : ¬ (i : Int) < (k : Int) := by omega
        clear hd i1 i2 hwl hwr ih h3 l1 e1 e2
        go_enter Try.func51, Try.ntmps51
        go_wp2_with fail
        (with_reducible refine (H3.out _).mono ?_); rintro e w1 ⟨rfl, rfl⟩
        go_wp2_with fail
        (with_reducible refine (I2.out _).mono ?_); rintro e w1 ⟨rfl, rfl⟩
        go_wp2_with fail
        go_ret
        exact ⟨by rw [HD.out]; go_num, rfl⟩

theorem take_all_but {p : List ByteArray} {z : Nat} (h : p.length = z + 1) : p = p.take z ++ [p.getD z ByteArray.empty] := by
  have := List.take_succ_eq_append_getElem (l := p) (i := z) (by omega)
  rw [List.take_of_length_le (by omega)] at this
  rw [List.getD_eq_getElem?_getD, List.getElem?_eq_getElem (by omega)]
  exact this

set_option maxRecDepth 100000 in
theorem crup (w : Int) (leaf : ByteArray) : ∀ (n i : Nat) (A : Option Addr) (m c : Nat) (p : List ByteArray) (W : World), n ≤ 2305843009213693952 → i < n → p.length = m → (way i n).length = m → Strs W A p → m ≤ c → leaf.size ≤ 32 → (∀ s ∈ p, s.size ≤ 32) →
    Calls Try.prog 52 #[.int .i64 w, .int .i64 i, .int .i64 n, .string leaf, .slice A m c] W fun e W' => e = .returned (.string (climb (wd w) leaf (way i n) p)) ∧ Below W.heap.size W W' := by
  intro n
  induction n using Nat.strongRecOn with
  | _ n ih =>
    intro i A m c p W hn hi hm hwm hs hmc hlz hpz
    rcases Nat.lt_or_ge n 2 with h2 | h2
    · rw [way_one i n h2] at hwm ⊢
      have e : p = [] := List.eq_nil_of_length_eq_zero (by rw [hm, ← hwm]; rfl)
      subst e
      have e0 : climb (wd w) leaf [] [] = leaf := by unfold climb; rfl
      rw [e0]
      clear hs ih hpz hwm hm
      go_enter Try.func52, Try.ntmps52
      go_wp2_with fail
      go_ret
      exact ⟨rfl, Below.refl _ _⟩
    · have hcl := cut_lt n h2
      have hcp := cut_pos n
      have h3 := fun W => crCut n W (by omega)
      have hwl := way_left i n h2
      have hwr := way_right i n h2
      have hwb := way_bits 61 i n (by omega)
      have hm1 : 1 ≤ m := by
        by_cases h : i < cut n
        · rw [hwl h] at hwm; simp at hwm; omega
        · rw [hwr (by omega)] at hwm; simp at hwm; omega
      obtain ⟨z, rfl⟩ : ∃ z, m = z + 1 := ⟨m - 1, by omega⟩
      have hp := take_all_but hm
      have htl : (p.take z).length = z := by rw [List.length_take]; omega
      have hst := hs.take z
      have hpt : ∀ s ∈ p.take z, s.size ≤ 32 := fun s hs => hpz s (List.mem_of_mem_take hs)
      have hlast : (p.getD z ByteArray.empty).size ≤ 32 := hpz _ (getD_mem (by omega))
      obtain ⟨g, o, rfl, hg, hc⟩ := hs (by omega)
      have c1 := hc z (by omega)
      have hz61 : z + 1 ≤ 61 := by omega
      have i1 := fun W h1 h2 h3 => ih (cut n) hcl i (some ⟨g, o, none⟩) z c (p.take z) W (by omega) h1 htl h2 h3 (by omega) hlz hpt
      have i2 := fun W h1 h2 h3 => ih (n - cut n) (by omega) (i - cut n) (some ⟨g, o, none⟩) z c (p.take z) W (by omega) h1 htl h2 h3 (by omega) hlz hpt
      have hcs := fun bs => climb_snoc (wd w) false (p.getD z ByteArray.empty) bs (p.take z) leaf
      have hcs2 := fun bs => climb_snoc (wd w) true (p.getD z ByteArray.empty) bs (p.take z) leaf
      have hcz := fun bs => climb_le (wd w) (wd_hi w) bs (p.take z) leaf hlz
      have h4 := fun a b W ha hb => crNode w a b W ha hb
      have hec : climb (wd w) leaf (way i n) p = climb (wd w) leaf (way i n) (p.take z ++ [p.getD z ByteArray.empty]) := congrArg _ hp
      rw [hec]
      clear hec
      obtain ⟨k, HK⟩ : ∃ k, Hid (cut n = k) := ⟨_, Lib.hid rfl⟩
      simp only [HK.out] at h3 i1 i2 hwl hwr hcl hcp
      obtain ⟨s, HSS⟩ : ∃ s, Hid (p.getD z ByteArray.empty = s) := ⟨_, Lib.hid rfl⟩
      obtain ⟨q, HQ⟩ : ∃ s, Hid (p.take z = s) := ⟨_, Lib.hid rfl⟩
      simp only [HSS.out] at c1 hlast hcs hcs2 ⊢
      simp only [HQ.out] at i1 i2 hcs hcs2 hst htl hcz ⊢
      have H3 := Lib.hid h3
      have H4 := Lib.hid h4
      have I1 := Lib.hid i1
      have I2 := Lib.hid i2
      have HCS := Lib.hid hcs
      have HCT := Lib.hid hcs2
      have HWL := Lib.hid hwl
      have HWR := Lib.hid hwr
      have HWM := Lib.hid hwm
      have HST := Lib.hid hst
      have HTL := Lib.hid htl
      have HCZ := Lib.hid hcz
      have hnI : (n : Int) ≤ 2305843009213693952 := by omega
      have h2I : ¬ (n : Int) < 2 := by omega
      have hiI : (i : Int) < (n : Int) := by omega
      have hkI : (k : Int) < (n : Int) := by omega
      have hzI : (z : Int) + 1 ≤ 61 := by omega
      have hzc : (z : Int) + 1 ≤ (c : Int) := by omega
      have hzz : (z : Int) ≤ (c : Int) := by omega
      clear h3 h4 i1 i2 hcs hcs2 hwl hwr hwm hst htl hcz ih hc hs hp hpz hpt hm hwb
      by_cases hik : i < k
      · have hwy := HWL.out hik
        have hlw : (way i k).length = z := by have := HWM.out; rw [hwy] at this; simp at this; exact this
        have i3 := fun W h => I1.out W hik hlw h
        have e6 := HCS.out (way i k) (by rw [hlw, HTL.out])
        have z6 := HCZ.out (way i k)
        obtain ⟨x, HX⟩ : ∃ x, Hid (climb (wd w) leaf (way i k) q = x) := ⟨_, Lib.hid rfl⟩
        simp only [HX.out] at i3 e6 z6
        have h5 := fun W => H4.out x s W (by omega) (by omega)
        have e7 : mnode (wd w) x s = climb (wd w) leaf (way i n) (q ++ [s]) := by rw [hwy, e6]; rfl
        rw [← e7]
        obtain ⟨y, HY⟩ : ∃ y, Hid (mnode (wd w) x s = y) := ⟨_, Lib.hid rfl⟩
        simp only [HY.out] at h5 ⊢
        have H5 := Lib.hid h5
        have I3 := Lib.hid i3
        have hikJ : (i : Int) < (k : Int) := by omega
        clear hwy hlw i3 e6 e7 h5
        go_enter Try.func52, Try.ntmps52
        go_wp2_with fail
        (with_reducible refine (H3.out _).mono ?_); rintro e w1 ⟨rfl, rfl⟩
        go_wp2_with fail
        (with_reducible refine (I3.out _ HST.out).mono ?_); rintro e w1 ⟨rfl, hb1⟩
        go_wp2_with fail
        (with_reducible refine (H5.out _).mono ?_); rintro e w2 ⟨rfl, hb2⟩
        go_wp2_with fail
        go_ret
        exact ⟨rfl, hb1.trans (hb2.mono hb1.size)⟩
      · have hwy := HWR.out (by omega)
        have hlw : (way (i - k) (n - k)).length = z := by have := HWM.out; rw [hwy] at this; simp at this; exact this
        have i3 := fun W h => I2.out W (by omega) hlw h
        have e6 := HCT.out (way (i - k) (n - k)) (by rw [hlw, HTL.out])
        have z6 := HCZ.out (way (i - k) (n - k))
        obtain ⟨x, HX⟩ : ∃ x, Hid (climb (wd w) leaf (way (i - k) (n - k)) q = x) := ⟨_, Lib.hid rfl⟩
        simp only [HX.out] at i3 e6 z6
        have h5 := fun W => H4.out s x W (by omega) (by omega)
        have e7 : mnode (wd w) s x = climb (wd w) leaf (way i n) (q ++ [s]) := by rw [hwy, e6]; rfl
        rw [← e7]
        obtain ⟨y, HY⟩ : ∃ y, Hid (mnode (wd w) s x = y) := ⟨_, Lib.hid rfl⟩
        simp only [HY.out] at h5 ⊢
        have E1 : ((i - k : Nat) : Int) = (i : Int) - (k : Int) := by omega
        have E2 : ((n - k : Nat) : Int) = (n : Int) - (k : Int) := by omega
        simp only [E1, E2] at i3
        have H5 := Lib.hid h5
        have I3 := Lib.hid i3
        have hikJ : ¬ (i : Int) < (k : Int) := by omega
        clear hwy hlw i3 e6 e7 h5 E1 E2
        go_enter Try.func52, Try.ntmps52
        go_wp2_with fail
        (with_reducible refine (H3.out _).mono ?_); rintro e w1 ⟨rfl, rfl⟩
        go_wp2_with fail
        (with_reducible refine (I3.out _ HST.out).mono ?_); rintro e w1 ⟨rfl, hb1⟩
        go_wp2_with fail
        (with_reducible refine (H5.out _).mono ?_); rintro e w2 ⟨rfl, hb2⟩
        go_wp2_with fail
        go_ret
        exact ⟨rfl, hb1.trans (hb2.mono hb1.size)⟩

theorem crUp_arg (w i n : Int) (leaf : ByteArray) (A : Option Addr) (m c : Nat) (W : World) (h : n < 1 ∨ i < 0 ∨ n ≤ i) :
    Calls Try.prog 34 #[.int .i64 w, .int .i64 i, .int .i64 n, .string leaf, .slice A m c] W fun e W' => e = .returned (.tuple #[.string ⟨#[]⟩, .int .i64 1]) ∧ W = W' := by
  have H := Lib.hid h
  clear h
  rcases Int.lt_or_le n 1 with h1 | h1
  · go_enter Try.func34, Try.ntmps34
    go_wp2_with fail
    go_ret2
    exact ⟨rfl, rfl⟩
  · have h0 : decide (n < 1) = false := decide_eq_false (by omega)
    rcases Int.lt_or_le i 0 with h2 | h2
    · go_enter Try.func34, Try.ntmps34
      go_wp2_with fail
      go_ret2
      exact ⟨rfl, rfl⟩
    · have h3 : n ≤ i := by have := H.out; omega
      have h4 : decide (i < 0) = false := decide_eq_false (by omega)
      go_enter Try.func34, Try.ntmps34
      go_wp2_with fail
      go_ret2
      exact ⟨rfl, rfl⟩

set_option maxRecDepth 100000 in
theorem crUp (w : Int) (i n : Nat) (leaf : ByteArray) (A : Option Addr) (m c : Nat) (p : List ByteArray) (W : World) (hm : p.length = m) (hs : Strs W A p) (hmc : m ≤ c) (hi : i < n) (hn : n ≤ 2305843009213693952) (hm6 : m ≤ 140737488355328) :
    Calls Try.prog 34 #[.int .i64 w, .int .i64 i, .int .i64 n, .string leaf, .slice A m c] W fun e W' => e = .returned (.tuple #[.string (upR (wd w) i n leaf p).1, .int .i64 ((upR (wd w) i n leaf p).2 : Nat)]) ∧ Below W.heap.size W W' := by
  have h1 := fun W => crLong n i W hn hi
  have hbits := way_bits 61 i n (by omega)
  have h2 := fun W => crWidth w W
  have hw := wd_hi w
  have hy := upR_yes (d := wd w) (i := i) (n := n) (leaf := leaf) (p := p)
  have hno := upR_no (d := wd w) (i := i) (n := n) (leaf := leaf) (p := p)
  have h4 := fun W h1 h2 h3 h4 => crup w leaf n i A m c p W hn hi hm h1 h2 hmc h3 h4
  obtain ⟨lb, HLB⟩ : ∃ x, Hid ((way i n).length = x) := ⟨_, Lib.hid rfl⟩
  rw [HLB.out] at hbits hy hno
  simp only [HLB.out] at h1 h4
  obtain ⟨cl, HCL⟩ : ∃ x, Hid (climb (wd w) leaf (way i n) p = x) := ⟨_, Lib.hid rfl⟩
  simp only [HCL.out] at h4 hy
  obtain ⟨d, HD⟩ : ∃ X, Hid (wd w = X) := ⟨_, Lib.hid rfl⟩
  simp only [HD.out] at h2 hw hy hno
  rw [HD.out]
  have H1 := Lib.hid h1
  have H2 := Lib.hid h2
  have H4 := Lib.hid h4
  have HY := Lib.hid hy
  have HNO := Lib.hid hno
  have HM := Lib.hid hm
  have HS := Lib.hid hs
  have hiI : (i : Int) < (n : Int) := by omega
  have hnI : (1 : Int) ≤ (n : Int) := by omega
  have hnB : (n : Int) ≤ 2305843009213693952 := by omega
  have hmI : (m : Int) ≤ 140737488355328 := by omega
  have g1 : decide ((n : Int) < 1) = false := decide_eq_false (by omega)
  have g2 : decide ((i : Int) < 0) = false := decide_eq_false (by omega)
  have g3 : decide ((n : Int) ≤ (i : Int)) = false := decide_eq_false (by omega)
  have hb0 := Below.refl W.heap.size W
  clear h1 h2 h4 hy hno hm hs
  by_cases hlb : lb = m
  · subst hlb
    by_cases hls : leaf.size = d
    · have hlsI : ((leaf.size : Int) != (d : Int)) = false := by simp; omega
      go_enter Try.func34, Try.ntmps34
      go_wp2_with fail
      (with_reducible refine (H1.out _).mono ?_); rintro e w1 ⟨rfl, rfl⟩
      go_wp2_with fail
      (with_reducible refine (H2.out _).mono ?_); rintro e w2 ⟨rfl, rfl⟩
      go_wp2_with fail
      go_loopw [12] (fun v wr => ∃ (k : Nat), k ≤ lb ∧ v = .int .i64 k ∧ (∀ j, j < k → (p.getD j ByteArray.empty).size = d) ∧ Below W.heap.size W wr)
        (fun v _ => lb - (intOf v).toNat)
      case atStart => exact ⟨0, by omega, rfl, fun j hj => absurd hj (by omega), hb0⟩
      case round =>
        clear hb0
        obtain ⟨k, hk, rfl, hall, hb⟩ := hrel
        have HALL := Lib.hid hall
        have HB := Lib.hid hb
        clear hall hb
        by_cases hlk : k < lb
        · have hdk : decide ((k : Int) < (lb : Int)) = true := decide_eq_true (by omega)
          have hkI : (k : Int) < (lb : Int) := by omega
          obtain ⟨g1, o1, rfl, c1⟩ := (HS.out.fresh HB.out).cell_ k (by rw [HM.out]; exact hlk)
          have hal2 : (p.getD k ByteArray.empty).size = d → ∀ j, j < k + 1 → (p.getD j ByteArray.empty).size = d := fun h j hj => by
            rcases Nat.lt_or_ge j k with h5 | h5
            · exact HALL.out j h5
            · have : j = k := by omega
              subst this; exact h
          have hnot : ¬ (p.getD k ByteArray.empty).size = d → allW d p = false := fun h => allW_not (by rw [HM.out]; exact hlk) h
          obtain ⟨s, HSS⟩ : ∃ s, Hid (p.getD k ByteArray.empty = s) := ⟨_, Lib.hid rfl⟩
          rw [HSS.out] at c1 hal2 hnot
          have HAL := Lib.hid hal2
          have HNT := Lib.hid hnot
          have c1d : wr.drew.cell? ⟨g1, o1 + k, none⟩ = some (.string s) := c1
          clear hal2 hnot
          by_cases hsz : s.size = d
          · have hszI : ((s.size : Int) != (d : Int)) = false := by simp; omega
            go_wp2_with fail
            refine wp_region_lexS (fun w' => w'.cell? ⟨g1, o1 + k, none⟩ = some (.string s)) 0 [] (by kernel_rfl) (by kernel_rfl) c1d ?_
            repeat (first
              | (refine wpX_load0 rfl rfl _ _ rfl _ rfl _ rfl Try.underlying9 _ (fun w' h => h) c1d ?_; simp only [Act.put, List.setIfInBounds_toArray, List.set_cons_zero, List.set_cons_succ, List.getElem_toArray, List.getElem_cons_zero, List.getElem_cons_succ])
              | (refine wpX_pure rfl rfl rfl ?_; intro K hK; go_big_quiet_op; refine hK _ ?_; clear hK K)
              | (refine wpX_eff rfl rfl ?_; intro K hK; go_wp2_with fail; (with_reducible refine (H2.out _).mono ?_); rintro e w2 ⟨rfl, rfl⟩; go_wp2_with fail; refine hK _ _ c1d ?_; clear hK K))
            refine wpX_nil ?_
            go_wp2_with fail
            go_roundw
            case rel => exact ⟨k + 1, by omega, by go_num, HAL.out hsz, HB.out.drew⟩
            case measure => simp [intOf]; omega
          · have hszI : ((s.size : Int) != (d : Int)) = true := by simp; omega
            have hn5 := HNO.out (fun h => by rw [HNT.out hsz] at h; exact absurd h.2.2 (by decide))
            have HN5 := Lib.hid hn5
            clear hn5
            go_wp2_with fail
            refine wp_region_lexS (fun w' => w'.cell? ⟨g1, o1 + k, none⟩ = some (.string s)) 0 [] (by kernel_rfl) (by kernel_rfl) c1d ?_
            repeat (first
              | (refine wpX_load0 rfl rfl _ _ rfl _ rfl _ rfl Try.underlying9 _ (fun w' h => h) c1d ?_; simp only [Act.put, List.setIfInBounds_toArray, List.set_cons_zero, List.set_cons_succ, List.getElem_toArray, List.getElem_cons_zero, List.getElem_cons_succ])
              | (refine wpX_pure rfl rfl rfl ?_; intro K hK; go_big_quiet_op; refine hK _ ?_; clear hK K)
              | (refine wpX_eff rfl rfl ?_; intro K hK; go_wp2_with fail; (with_reducible refine (H2.out _).mono ?_); rintro e w2 ⟨rfl, rfl⟩; go_wp2_with fail; refine hK _ _ c1d ?_; clear hK K))
            refine wpX_nil ?_
            go_wp2_with fail
            go_ret2
            exact ⟨by rw [HN5.out]; rfl, HB.out.drew⟩
        · have hdk : decide ((k : Int) < (lb : Int)) = false := decide_eq_false (by omega)
          have e : k = lb := by omega
          subst e
          have hall := allW_all fun j hj => HALL.out j (by rw [HM.out] at hj; exact hj)
          have hy5 := HY.out HM.out.symm hls hall
          have hpz : ∀ s ∈ p, s.size ≤ 32 := fun s hs => by have := allW_mem hall s hs; omega
          have h5 := H4.out wr (by trivial) (HS.out.fresh HB.out) (by omega) hpz
          have HY5 := Lib.hid hy5
          have H5 := Lib.hid h5
          clear hy5 hall hpz h5
          go_wp2_with fail
          (with_reducible refine H5.out.mono ?_); rintro e w2 ⟨rfl, hb2⟩
          go_wp2_with fail
          go_ret2
          exact ⟨by rw [HY5.out]; rfl, HB.out.trans (hb2.mono HB.out.size)⟩
    · have hlsI : ((leaf.size : Int) != (d : Int)) = true := by simp; omega
      have hn5 := HNO.out (fun h => hls h.2.1)
      have HN5 := Lib.hid hn5
      clear hn5
      go_enter Try.func34, Try.ntmps34
      go_wp2_with fail
      (with_reducible refine (H1.out _).mono ?_); rintro e w1 ⟨rfl, rfl⟩
      go_wp2_with fail
      (with_reducible refine (H2.out _).mono ?_); rintro e w2 ⟨rfl, rfl⟩
      go_wp2_with fail
      go_ret2
      exact ⟨by rw [HN5.out]; rfl, hb0⟩
  · have hlmI : ((m : Int) == (lb : Int)) = false := by simp; omega
    have hlmJ : ((m : Int) != (lb : Int)) = true := by simp; omega
    have hn5 := HNO.out (fun h => hlb (by rw [← HM.out]; exact h.1))
    have HN5 := Lib.hid hn5
    clear hn5
    go_enter Try.func34, Try.ntmps34
    go_wp2_with fail
    (with_reducible refine (H1.out _).mono ?_); rintro e w1 ⟨rfl, rfl⟩
    go_wp2_with fail
    go_ret2
    exact ⟨by rw [HN5.out]; rfl, hb0⟩
end Go.Proofs.Ytgkjpemgfbkejaa
