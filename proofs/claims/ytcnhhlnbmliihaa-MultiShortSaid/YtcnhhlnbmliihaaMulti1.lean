/- Slices of ints that lie in memory; slices.BinarySearch; multi.part. -/
import Derived.Test.YtcnhhlnbmliihaaMultiS
import Derived.Test.YtcnhhlnbmliihaaTexts
import Derived.Test.YtcnhhlnbmliihaaMerk
import Derived.Test.YtcnhhlnbmliihaaApp1

namespace Go.Proofs.Ytcnhhlnbmliihaa
open Go.RowKit
set_option linter.unusedVariables false
set_option linter.unusedSimpArgs false

abbrev vInt (z : Int) : Value := .int .i64 z
/-- A slice of ints. -/
def Ints (w : World) (A : Option Addr) (ss : List Int) : Prop :=
  0 < ss.length → ∃ g o, A = some ⟨g, o, none⟩ ∧ g < w.heap.size ∧ ∀ j, j < ss.length → w.cell? ⟨g, o + j, none⟩ = some (vInt (ss.getD j 0))
section
variable {w w' : World} {A : Option Addr} {ss : List Int}
theorem Ints.keep (h : Ints w A ss) (hsz : w.heap.size ≤ w'.heap.size) (hk : ∀ g o, A = some ⟨g, o, none⟩ → g < w.heap.size → w'.heap[g]? = w.heap[g]?) : Ints w' A ss := fun hl => by
  obtain ⟨g, o, e, hg, hc⟩ := h hl
  exact ⟨g, o, e, by omega, fun j hj => (World.cell?_of_block (a := ⟨g, o + j, none⟩) (hk g o e hg)).trans (hc j hj)⟩
theorem Ints.below {B : Nat} (h : Ints w A ss) (hb : Below B w w') (hB : w.heap.size ≤ B) : Ints w' A ss := h.keep hb.size fun g _ _ hg => hb.block g (by omega)
theorem Ints.fresh (h : Ints w A ss) (hb : Below w.heap.size w w') : Ints w' A ss := h.below hb (Nat.le_refl _)
theorem Ints.alloc (h : Ints w A ss) (x : Obj) : Ints (w.alloc x) A ss := h.keep (by simp) fun g _ _ hg => Below.heap_alloc w x g hg
theorem Ints.drew (h : Ints w A ss) : Ints w.drew A ss := h
theorem Ints.drewN (h : Ints w A ss) (n : Nat) : Ints (w.drewN n) A ss := h
theorem Ints.only {S : Nat → Prop} (h : Ints w A ss) (ho : Only S w w') (hn : ∀ g o, A = some ⟨g, o, none⟩ → ¬ S g) : Ints w' A ss := h.keep ho.size fun g o e hg => ho.block g hg (hn g o e)
theorem Ints.nil (w : World) (A : Option Addr) : Ints w A [] := fun h => absurd h (by simp)
theorem Ints.take (h : Ints w A ss) (k : Nat) : Ints w A (ss.take k) := fun hl => by
  simp only [List.length_take] at hl
  obtain ⟨g, o, e, hg, hc⟩ := h (by omega)
  refine ⟨g, o, e, hg, fun j hj => ?_⟩
  simp only [List.length_take] at hj
  rw [hc j (by omega), List.getD_eq_getElem?_getD, List.getD_eq_getElem?_getD, List.getElem?_take_of_lt (by omega)]
theorem Ints.drop (h : Ints w A ss) (k cap : Nat) (hc : ss.length ≤ cap) : Ints w (if cap = k then A else A.map (·.add k)) (ss.drop k) := fun hl => by
  simp only [List.length_drop] at hl
  obtain ⟨g, o, rfl, hg, hcell⟩ := h (by omega)
  rw [if_neg (by omega)]
  refine ⟨g, o + k, by rw [Option.map_some, addo], hg, fun j hj => ?_⟩
  simp only [List.length_drop] at hj
  have := hcell (k + j) (by omega)
  rw [← Nat.add_assoc] at this
  rw [this, List.getD_eq_getElem?_getD, List.getD_eq_getElem?_getD, List.getElem?_drop]
theorem Ints.of_sl {B : Nat} {e : TypeId} {n c : Nat} (h : SL w B e (.slice A n c) (ss.map vInt)) : Ints w A ss := fun hl => by
  rcases h.2 with ⟨h1, h2⟩ | ⟨g, cap, cur, h1, h2, h3, h4, h5, h6, h7⟩
  · rw [List.length_map] at h2; omega
  · injection h1 with e1 e2 e3
    refine ⟨g, 0, e1, (h.own_lt g (by rw [e1]; rfl)).1, fun j hj => ?_⟩
    rw [Nat.zero_add, cell_any h3]
    have e2 : (ss.map vInt)[j]? = some (vInt (ss.getD j 0)) := by simp [hj]
    rw [← h7, List.getElem?_take_of_lt (by rw [List.length_map]; omega)] at e2
    simpa using e2
end
theorem Ints.cell_ {w : World} {A : Option Addr} {ss : List Int} (h : Ints w A ss) (k : Nat) (hk : k < ss.length) : ∃ g o, A = some ⟨g, o, none⟩ ∧ w.cell? ⟨g, o + k, none⟩ = some (vInt (ss.getD k 0)) := by
  obtain ⟨g, o, e, _, hc⟩ := h (by omega)
  exact ⟨g, o, e, hc k hk⟩
theorem Ints.from_ {w : World} {g o c : Nat} {ss : List Int} (h : Ints w (some ⟨g, o, none⟩) ss) (k : Nat) (hk : k < ss.length) (hc : ss.length ≤ c) : Ints w (some ⟨g, o + k, none⟩) (ss.drop k) := by
  have := h.drop k c hc
  rw [if_neg (by omega)] at this
  simpa [addo] using this
theorem sorted_le {zs : List Int} (h : zs.Pairwise (· < ·)) : ∀ a b, a ≤ b → b < zs.length → zs.getD a 0 ≤ zs.getD b 0 := by
  intro a b hab hb
  rcases Nat.lt_or_ge a b with h1 | h1
  · have := List.pairwise_iff_getElem.1 h a b (by omega) hb h1
    rw [List.getD_eq_getElem?_getD, List.getD_eq_getElem?_getD, List.getElem?_eq_getElem hb, List.getElem?_eq_getElem (by omega)]
    simp only [Option.getD_some]; omega
  · have e : a = b := by omega
    subst e; omega
theorem cNaN1 (x : Int) (w : World) : Calls Try.prog 75 #[.int .i64 x] w fun e w' => e = .returned (.bool false) ∧ w = w' := by
  go_enter Try.func75, Try.ntmps75
  go_wp2
  go_ret
  exact ⟨by simp, rfl⟩
theorem cNaN2 (x : Int) (w : World) : Calls Try.prog 68 #[.int .i64 x] w fun e w' => e = .returned (.bool false) ∧ w = w' := by
  go_enter Try.func68, Try.ntmps68
  go_wp2
  go_ret
  exact ⟨by simp, rfl⟩
theorem cLess (x y : Int) (w : World) : Calls Try.prog 67 #[.int .i64 x, .int .i64 y] w fun e w' => e = .returned (.bool (decide (x < y))) ∧ w = w' := by
  go_enter Try.func67, Try.ntmps67
  go_wp2_with fail
  (with_reducible refine (cNaN1 _ _).mono ?_); rintro e w1 ⟨rfl, rfl⟩
  go_wp2_with fail
  go_ret
  exact ⟨rfl, rfl⟩
set_option maxRecDepth 100000 in
set_option maxHeartbeats 4000000 in
theorem cSearch (A : Option Addr) (n c : Nat) (zs : List Int) (x : Int) (W : World) (hn : zs.length = n) (hs : Ints W A zs) (hnc : n ≤ c) (hn6 : n ≤ 1000000) (hp : zs.Pairwise (· < ·)) :
    Calls Try.prog 64 #[.slice A n c, .int .i64 x] W fun e W' => ∃ (k : Nat) (b : Bool), e = .returned (.tuple #[.int .i64 k, .bool b]) ∧ k ≤ n ∧ Hid (∀ t, t < k → zs.getD t 0 < x) ∧ Hid (∀ t, k ≤ t → t < n → x ≤ zs.getD t 0) ∧ Below W.heap.size W W' := by
  have hso := sorted_le hp
  rw [hn] at hso
  have HN := Lib.hid hn
  have HS := Lib.hid hs
  have HSO := Lib.hid hso
  have hB0 := Below.refl W.heap.size W
  have hnI : (n : Int) ≤ 1000000 := by omega
  have hncI : (n : Int) ≤ (c : Int) := by omega
  clear hn hs hso hp
  go_enter Try.func64, Try.ntmps64
  go_wp2_with fail
  go_loopw [7, 8] (fun s7 s8 wr => ∃ lo hi : Nat, s7 = .int .i64 lo ∧ s8 = .int .i64 hi ∧ lo ≤ hi ∧ hi ≤ n ∧ Hid (∀ t, t < lo → zs.getD t 0 < x) ∧ Hid (∀ t, hi ≤ t → t < n → x ≤ zs.getD t 0) ∧ Below W.heap.size W wr) (fun s7 s8 _ => (intOf s8).toNat - (intOf s7).toNat)
  case atStart => exact ⟨0, n, rfl, rfl, by omega, by omega, Lib.hid (fun t ht => absurd ht (by omega)), Lib.hid (fun t h1 h2 => absurd h1 (by omega)), hB0⟩
  case round =>
    clear hB0
    obtain ⟨lo, hi, rfl, rfl, hlh, hhn, H1, H2, hB⟩ := hrel
    have hloI : (lo : Int) ≤ (hi : Int) := by omega
    have hhiI : (hi : Int) ≤ (n : Int) := by omega
    by_cases hlt : lo < hi
    · have hltI : (lo : Int) < (hi : Int) := by omega
      obtain ⟨g, o, rfl, c1⟩ := (HS.out.fresh hB).cell_ ((lo + hi) / 2) (by rw [HN.out]; omega)
      obtain ⟨y, HY⟩ : ∃ y, Hid (zs.getD ((lo + hi) / 2) 0 = y) := ⟨_, Lib.hid rfl⟩
      rw [HY.out] at c1
      by_cases hyx : y < x
      · go_wp2_with fail
        (with_reducible refine (cLess _ _ _).mono ?_); rintro e w1 ⟨rfl, rfl⟩
        go_wp2_with fail
        go_roundw
        case rel =>
          refine ⟨(lo + hi) / 2 + 1, hi, by rw [show ((lo : Int) + (hi : Int)) / 2 + 1 = (((lo + hi) / 2 + 1 : Nat) : Int) by omega], rfl, by omega, hhn, Lib.hid (fun t ht => ?_), H2, hB⟩
          have := HSO.out t ((lo + hi) / 2) (by omega) (by omega)
          rw [HY.out] at this
          omega
        case measure => simp [intOf]; omega
      · go_wp2_with fail
        (with_reducible refine (cLess _ _ _).mono ?_); rintro e w1 ⟨rfl, rfl⟩
        go_wp2_with fail
        go_roundw
        case rel =>
          refine ⟨lo, (lo + hi) / 2, rfl, by rw [show ((lo : Int) + (hi : Int)) / 2 = (((lo + hi) / 2 : Nat) : Int) by omega], by omega, by omega, H1, Lib.hid (fun t ht htn => ?_), hB⟩
          have := HSO.out ((lo + hi) / 2) t ht htn
          rw [HY.out] at this
          omega
        case measure => simp [intOf]; omega
    · have e : hi = lo := by omega
      subst e
      by_cases hn2 : hi < n
      · have hnJ : (hi : Int) < (n : Int) := by omega
        obtain ⟨g, o, rfl, c1⟩ := (HS.out.fresh hB).cell_ hi (by rw [HN.out]; omega)
        obtain ⟨y, HY⟩ : ∃ y, Hid (zs.getD hi 0 = y) := ⟨_, Lib.hid rfl⟩
        rw [HY.out] at c1
        by_cases hyx : y = x
        · subst hyx
          go_wp2_with fail
          go_ret2
          first | exact ⟨hi, _, rfl, hhn, H1, H2, hB⟩ | exact ⟨hi, false, rfl, hhn, H1, H2, hB⟩ | exact ⟨hi, rfl, hhn, H1, H2, hB⟩ | exact ⟨hi, .inl rfl, hhn, H1, H2, hB⟩
        · have hyI : (y == x) = false := by simp; omega
          go_wp2_with fail
          (with_reducible refine (cNaN2 _ _).mono ?_); rintro e w1 ⟨rfl, rfl⟩
          go_wp2_with fail
          go_ret2
          first | exact ⟨hi, _, rfl, hhn, H1, H2, hB⟩ | exact ⟨hi, false, rfl, hhn, H1, H2, hB⟩ | exact ⟨hi, rfl, hhn, H1, H2, hB⟩ | exact ⟨hi, .inl rfl, hhn, H1, H2, hB⟩
      · have hnJ : ¬ (hi : Int) < (n : Int) := by omega
        go_wp2_with fail
        go_ret2
        first | exact ⟨hi, _, rfl, hhn, H1, H2, hB⟩ | exact ⟨hi, false, rfl, hhn, H1, H2, hB⟩ | exact ⟨hi, rfl, hhn, H1, H2, hB⟩ | exact ⟨hi, .inl rfl, hhn, H1, H2, hB⟩
/-- Where rising numbers part at a bound. -/
theorem idxI_sorted (a : List Bool) : (idxI a).Pairwise (· < ·) := by
  unfold idxI
  exact List.pairwise_map.2 ((idx_sorted a).imp (fun h => by omega))
theorem idxI_lt (a : List Bool) : ∀ x ∈ idxI a, 0 ≤ x ∧ x < (a.length : Int) := by
  intro x hx
  unfold idxI at hx
  obtain ⟨k, hk, rfl⟩ := List.mem_map.1 hx
  have := idx_lt a k hk
  omega
theorem part_at (a : List Bool) (k j : Nat) (hk : k ≤ a.length) (hj : j ≤ (idxI a).length) (h1 : ∀ t, t < j → (idxI a).getD t 0 < (k : Int)) (h2 : ∀ t, j ≤ t → t < (idxI a).length → (k : Int) ≤ (idxI a).getD t 0) :
    (idxI a).take j = idxI (a.take k) ∧ (idxI a).drop j = (idxI (a.drop k)).map (· + (k : Int)) := by
  have hp := idxI_part a k hk
  have hl1 := idxI_lt (a.take k)
  have hlen : (a.take k).length = k := by rw [List.length_take]; omega
  rw [hlen] at hl1
  have e : j = (idxI (a.take k)).length := by
    rcases Nat.lt_trichotomy j (idxI (a.take k)).length with h | h | h
    · exfalso
      have hh := h2 j (Nat.le_refl _) (by rw [hp, List.length_append]; omega)
      rw [hp, List.getD_eq_getElem?_getD, List.getElem?_append_left h, List.getElem?_eq_getElem h] at hh
      have := (hl1 _ (List.getElem_mem h)).2
      simp only [Option.getD_some] at hh
      omega
    · exact h
    · exfalso
      have hlt : (idxI (a.take k)).length < (idxI a).length := by omega
      have hh := h1 (idxI (a.take k)).length h
      have hm : 0 < ((idxI (a.drop k)).map (· + (k : Int))).length := by rw [hp, List.length_append] at hlt; omega
      rw [hp, List.getD_eq_getElem?_getD, List.getElem?_append_right (Nat.le_refl _), Nat.sub_self, List.getElem?_eq_getElem hm] at hh
      simp only [Option.getD_some, List.getElem_map] at hh
      have := (idxI_lt (a.drop k) _ (List.getElem_mem (by rw [List.length_map] at hm; exact hm))).1
      omega
  subst e
  constructor
  · conv => lhs; rw [hp]
    exact List.take_left
  · conv => lhs; rw [hp]
    exact List.drop_left
theorem int_elem : ElemI Try.prog 22 3 (.int .i64 0) 8 := elemI Try.underlying22 (by kernel_rfl) rfl
theorem drop_get (zs R : List Int) (j q : Nat) (k : Int) (h : zs.drop j = R.map (· + k)) (hq : q < R.length) : R.getD q 0 = zs.getD (j + q) 0 - k := by
  have hl := congrArg List.length h
  rw [List.length_drop, List.length_map] at hl
  have h1 : (zs.drop j)[q]? = (R.map (· + k))[q]? := by rw [h]
  have hz : j + q < zs.length := by omega
  rw [List.getElem?_drop, List.getElem?_map, List.getElem?_eq_getElem hz, List.getElem?_eq_getElem hq] at h1
  simp only [Option.map_some, Option.some.injEq] at h1
  rw [List.getD_eq_getElem?_getD, List.getD_eq_getElem?_getD, List.getElem?_eq_getElem hz, List.getElem?_eq_getElem hq]
  simp only [Option.getD_some]
  omega
theorem take_nextI (l : List Int) (f : Int → Int) (k : Nat) (h : k < l.length) : (l.take (k + 1)).map f = (l.take k).map f ++ [f (l.getD k 0)] := by
  rw [List.take_succ_eq_append_getElem h, List.map_append, List.getD_eq_getElem?_getD, List.getElem?_eq_getElem h]; rfl
set_option maxRecDepth 100000 in
set_option maxHeartbeats 4000000 in
theorem cPart (a : List Bool) (k : Nat) (A : Option Addr) (m c : Nat) (W : World) (hk : k ≤ a.length) (ha6 : a.length ≤ 1000000) (hm : (idxI a).length = m) (hs : Ints W A (idxI a)) (hmc : m ≤ c) :
    Calls Try.prog 48 #[.slice A m c, .int .i64 k] W fun e W' => ∃ (A' : Option Addr) (c' : Nat), e = .returned (.tuple #[.slice A (idxI (a.take k)).length c, .slice A' (idxI (a.drop k)).length c']) ∧ (idxI (a.take k)).length ≤ c ∧ (idxI (a.drop k)).length ≤ c' ∧ SL W' W.heap.size 3 (.slice A' (idxI (a.drop k)).length c') ((idxI (a.drop k)).map vInt) ∧ Below W.heap.size W W' := by
  have hml : m ≤ a.length := by rw [← hm, idxI_length]; exact idx_length_le a
  have h1 := cSearch A m c (idxI a) k W hm hs hmc (by omega) (idxI_sorted a)
  have hpt := fun j hj g1 g2 => part_at a k j hk hj g1 g2
  have hil := idxI_lt a
  obtain ⟨zs, HZS⟩ : ∃ x, Hid (idxI a = x) := ⟨_, Lib.hid rfl⟩
  rw [HZS.out] at h1 hm hs hil
  simp only [HZS.out] at hpt
  rw [hm] at hpt
  obtain ⟨L, HL⟩ : ∃ x, Hid (idxI (a.take k) = x) := ⟨_, Lib.hid rfl⟩
  obtain ⟨R, HR⟩ : ∃ x, Hid (idxI (a.drop k) = x) := ⟨_, Lib.hid rfl⟩
  simp only [HL.out, HR.out] at hpt
  rw [HL.out, HR.out]
  have H1 := Lib.hid h1
  have HM := Lib.hid hm
  have HS := Lib.hid hs
  have HPT := Lib.hid hpt
  have HIL := Lib.hid hil
  have hmI : (m : Int) ≤ (c : Int) := by omega
  have hm6 : (m : Int) ≤ 1000000 := by omega
  have hk6 : (k : Int) ≤ 1000000 := by omega
  have ha6I : (a.length : Int) ≤ 1000000 := by omega
  clear h1 hm hs hpt hil
  go_enter Try.func48, Try.ntmps48
  go_wp2_with fail
  (with_reducible refine H1.out.mono ?_); rintro e w1 ⟨j, b, rfl, hj, g1, g2, hb1⟩
  obtain ⟨p1, p2⟩ := HPT.out j hj g1.out g2.out
  have P1 := Lib.hid p1
  have P2 := Lib.hid p2
  have hlj : L.length = j := by rw [← P1.out, List.length_take, HM.out]; omega
  have hrl : R.length = m - j := by have := congrArg List.length P2.out; rw [List.length_drop, HM.out, List.length_map] at this; omega
  have HLJ := Lib.hid hlj
  have HRL := Lib.hid hrl
  have hjI : (j : Int) ≤ (m : Int) := by omega
  clear p1 p2 g1 g2 hlj hrl
  have hB0 := hb1
  clear hb1
  by_cases hjm : j < m
  · obtain ⟨g, o, rfl, hgl, _⟩ := HS.out (by rw [HM.out]; omega)
    have hcj : ¬ c = j := by omega
    clear hgl
    go_wp2_with fail
    go_loopw [8, 21] (fun u v wr => ∃ q : Nat, q ≤ m - j ∧ v = .int .i64 q ∧ SL wr W.heap.size 3 u ((R.take q).map vInt) ∧ Below W.heap.size W wr) (fun _ v _ => m - j - (intOf v).toNat)
    case atStart => exact ⟨0, by omega, rfl, SL.nil _ _ _, hB0⟩
    case round =>
      clear hB0
      obtain ⟨q, hq, rfl, hS, hb⟩ := hrel
      have hbs := hb.size
      obtain ⟨A2, c2, rfl, hc2⟩ := hS.open_
      have hlen : (R.take q).length = q := by rw [List.length_take, HRL.out]; omega
      rw [hlen] at hS hc2 ⊢
      have HSR := Lib.hid hS
      have HB := Lib.hid hb
      clear hS hb
      have hmj : ((m - j : Nat) : Int) = (m : Int) - (j : Int) := by omega
      by_cases hlt : q < m - j
      · have hqI : (q : Int) < ((m - j : Nat) : Int) := by omega
        have hce := (HS.out.fresh HB.out) (by rw [HM.out]; omega)
        obtain ⟨g', o', e1, _, hcell⟩ := hce
        injection e1 with e1; injection e1 with e1 e2 _
        subst e1 e2
        have c1 := hcell (j + q) (by rw [HM.out]; omega)
        rw [← Nat.add_assoc] at c1
        have hge := drop_get zs R j q k P2.out (by rw [HRL.out]; omega)
        have hst := take_nextI R (fun x => x) q (by rw [HRL.out]; omega)
        simp only [List.map_id'] at hst
        rw [hge] at hst
        have hzb := HIL.out (zs.getD (j + q) 0) (by rw [List.getD_eq_getElem?_getD, List.getElem?_eq_getElem (by rw [HM.out]; omega)]; exact List.getElem_mem _)
        obtain ⟨z, HZ⟩ : ∃ z, Hid (zs.getD (j + q) 0 = z) := ⟨_, Lib.hid rfl⟩
        rw [HZ.out] at c1 hst hzb
        have HST := Lib.hid hst
        clear hst hge hcell hmj
        obtain ⟨z1, z2⟩ := hzb
        have qI2 : (q : Int) ≤ 1000000 := by omega
        go_wp2_with (refine wpList_app1 vInt (fun _ => rfl) int_elem rfl (.tmp 25) (.tmp 29) rfl W.heap.size A2 q c2 _ (z - (k : Int)) _ hlen rfl HSR.out rfl _ rfl rfl (by omega) (by decide) hbs ?_; intro A3 c3 w3 hS3 hc3 hb3; dsimp only [Act.put])
        go_roundw
        case rel => exact ⟨q + 1, by omega, by go_num, by rw [HST.out]; exact hS3, HB.out.trans hb3⟩
        case measure => simp [intOf]; omega
      · have e : q = m - j := by omega
        have hfull : R.take q = R := List.take_of_length_le (by rw [HRL.out]; omega)
        have hslr := HSR.out
        rw [hfull] at hslr
        have hrq : R.length = q := by rw [HRL.out]; omega
        have HSLR := Lib.hid hslr
        have HRQ := Lib.hid hrq
        have hqI : ¬ (q : Int) < ((m - j : Nat) : Int) := by omega
        clear hslr hfull hrq hmj e
        go_wp2_with fail
        go_ret2
        rw [HLJ.out, HRQ.out]
        exact ⟨A2, c2, rfl, by omega, hc2, HSLR.out, HB.out⟩
  · by_cases hcj : c = j
    · have hcj2 := hcj.symm
      subst hcj2
      go_wp2_with fail
      go_loopw [8, 21] (fun u v wr => ∃ q : Nat, q ≤ m - j ∧ v = .int .i64 q ∧ SL wr W.heap.size 3 u ((R.take q).map vInt) ∧ Below W.heap.size W wr) (fun _ v _ => m - j - (intOf v).toNat)
      case atStart => exact ⟨0, by omega, rfl, SL.nil _ _ _, hB0⟩
      case round =>
        clear hB0
        obtain ⟨q, hq, rfl, hS, hb⟩ := hrel
        have hbs := hb.size
        obtain ⟨A2, c2, rfl, hc2⟩ := hS.open_
        have hlen : (R.take q).length = q := by rw [List.length_take, HRL.out]; omega
        rw [hlen] at hS hc2 ⊢
        have HSR := Lib.hid hS
        have HB := Lib.hid hb
        clear hS hb
        have hmj : ((m - j : Nat) : Int) = (m : Int) - (j : Int) := by omega
        by_cases hlt : q < m - j
        · exact absurd hlt (by omega)
        · have e : q = m - j := by omega
          have hfull : R.take q = R := List.take_of_length_le (by rw [HRL.out]; omega)
          have hslr := HSR.out
          rw [hfull] at hslr
          have hrq : R.length = q := by rw [HRL.out]; omega
          have HSLR := Lib.hid hslr
          have HRQ := Lib.hid hrq
          have hqI : ¬ (q : Int) < ((m - j : Nat) : Int) := by omega
          clear hslr hfull hrq hmj e
          go_wp2_with fail
          go_ret2
          rw [HLJ.out, HRQ.out]
          exact ⟨A2, c2, rfl, by omega, hc2, HSLR.out, HB.out⟩
    · skip
      go_wp2_with fail
      go_loopw [8, 21] (fun u v wr => ∃ q : Nat, q ≤ m - j ∧ v = .int .i64 q ∧ SL wr W.heap.size 3 u ((R.take q).map vInt) ∧ Below W.heap.size W wr) (fun _ v _ => m - j - (intOf v).toNat)
      case atStart => exact ⟨0, by omega, rfl, SL.nil _ _ _, hB0⟩
      case round =>
        clear hB0
        obtain ⟨q, hq, rfl, hS, hb⟩ := hrel
        have hbs := hb.size
        obtain ⟨A2, c2, rfl, hc2⟩ := hS.open_
        have hlen : (R.take q).length = q := by rw [List.length_take, HRL.out]; omega
        rw [hlen] at hS hc2 ⊢
        have HSR := Lib.hid hS
        have HB := Lib.hid hb
        clear hS hb
        have hmj : ((m - j : Nat) : Int) = (m : Int) - (j : Int) := by omega
        by_cases hlt : q < m - j
        · exact absurd hlt (by omega)
        · have e : q = m - j := by omega
          have hfull : R.take q = R := List.take_of_length_le (by rw [HRL.out]; omega)
          have hslr := HSR.out
          rw [hfull] at hslr
          have hrq : R.length = q := by rw [HRL.out]; omega
          have HSLR := Lib.hid hslr
          have HRQ := Lib.hid hrq
          have hqI : ¬ (q : Int) < ((m - j : Nat) : Int) := by omega
          clear hslr hfull hrq hmj e
          go_wp2_with fail
          go_ret2
          rw [HLJ.out, HRQ.out]
          exact ⟨A2, c2, rfl, by omega, hc2, HSLR.out, HB.out⟩
end Go.Proofs.Ytcnhhlnbmliihaa
