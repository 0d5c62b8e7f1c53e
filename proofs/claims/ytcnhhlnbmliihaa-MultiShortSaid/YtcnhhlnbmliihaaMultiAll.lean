/- Several texts in one: Ref41a, Ref41b, Multi2, Multi3, Ref41c, Multi4, Multi5, Multi6, Multi7, Ref41d, Ref41e, Ref41f, Contains, Multi8, Multi9. -/
import Derived.Test.YtcnhhlnbmliihaaMulti1
import Derived.Test.YtcnhhlnbmliihaaMerkRoot
import Derived.Test.YtcnhhlnbmliihaaRefMerk
import Derived.Test.YtcnhhlnbmliihaaAppL
import Derived.Test.YtcnhhlnbmliihaaWi
import Derived.Test.YtcnhhlnbmliihaaOnly
import Derived.Test.YtcnhhlnbmliihaaOrd
import Derived.Test.YtcnhhlnbmliihaaTexts
import Derived.Test.YtcnhhlnbmliihaaMerk
namespace Go.Proofs.Ytcnhhlnbmliihaa
open Go.RowKit
set_option linter.unusedVariables false
set_option linter.unusedSimpArgs false

/-- A slice of bools. -/
def Bools (w : World) (A : Option Addr) (ss : List Bool) : Prop :=
  0 < ss.length → ∃ g o, A = some ⟨g, o, none⟩ ∧ g < w.heap.size ∧ ∀ j, j < ss.length → w.cell? ⟨g, o + j, none⟩ = some (Value.bool (ss.getD j false))
section
variable {w w' : World} {A : Option Addr} {ss : List Bool}
theorem Bools.keep (h : Bools w A ss) (hsz : w.heap.size ≤ w'.heap.size) (hk : ∀ g o, A = some ⟨g, o, none⟩ → g < w.heap.size → w'.heap[g]? = w.heap[g]?) : Bools w' A ss := fun hl => by
  obtain ⟨g, o, e, hg, hc⟩ := h hl
  exact ⟨g, o, e, by omega, fun j hj => (World.cell?_of_block (a := ⟨g, o + j, none⟩) (hk g o e hg)).trans (hc j hj)⟩
theorem Bools.below {B : Nat} (h : Bools w A ss) (hb : Below B w w') (hB : w.heap.size ≤ B) : Bools w' A ss := h.keep hb.size fun g _ _ hg => hb.block g (by omega)
theorem Bools.fresh (h : Bools w A ss) (hb : Below w.heap.size w w') : Bools w' A ss := h.below hb (Nat.le_refl _)
theorem Bools.alloc (h : Bools w A ss) (x : Obj) : Bools (w.alloc x) A ss := h.keep (by simp) fun g _ _ hg => Below.heap_alloc w x g hg
theorem Bools.drew (h : Bools w A ss) : Bools w.drew A ss := h
theorem Bools.drewN (h : Bools w A ss) (n : Nat) : Bools (w.drewN n) A ss := h
theorem Bools.only {S : Nat → Prop} (h : Bools w A ss) (ho : Only S w w') (hn : ∀ g o, A = some ⟨g, o, none⟩ → ¬ S g) : Bools w' A ss := h.keep ho.size fun g o e hg => ho.block g hg (hn g o e)
theorem Bools.nil (w : World) (A : Option Addr) : Bools w A [] := fun h => absurd h (by simp)
theorem Bools.take (h : Bools w A ss) (k : Nat) : Bools w A (ss.take k) := fun hl => by
  simp only [List.length_take] at hl
  obtain ⟨g, o, e, hg, hc⟩ := h (by omega)
  refine ⟨g, o, e, hg, fun j hj => ?_⟩
  simp only [List.length_take] at hj
  rw [hc j (by omega), List.getD_eq_getElem?_getD, List.getD_eq_getElem?_getD, List.getElem?_take_of_lt (by omega)]
theorem Bools.drop (h : Bools w A ss) (k cap : Nat) (hc : ss.length ≤ cap) : Bools w (if cap = k then A else A.map (·.add k)) (ss.drop k) := fun hl => by
  simp only [List.length_drop] at hl
  obtain ⟨g, o, rfl, hg, hcell⟩ := h (by omega)
  rw [if_neg (by omega)]
  refine ⟨g, o + k, by rw [Option.map_some, addo], hg, fun j hj => ?_⟩
  simp only [List.length_drop] at hj
  have := hcell (k + j) (by omega)
  rw [← Nat.add_assoc] at this
  rw [this, List.getD_eq_getElem?_getD, List.getD_eq_getElem?_getD, List.getElem?_drop]
theorem Bools.of_sl {B : Nat} {e : TypeId} {n c : Nat} (h : SL w B e (.slice A n c) (ss.map Value.bool)) : Bools w A ss := fun hl => by
  rcases h.2 with ⟨h1, h2⟩ | ⟨g, cap, cur, h1, h2, h3, h4, h5, h6, h7⟩
  · rw [List.length_map] at h2; omega
  · injection h1 with e1 e2 e3
    refine ⟨g, 0, e1, (h.own_lt g (by rw [e1]; rfl)).1, fun j hj => ?_⟩
    rw [Nat.zero_add, cell_any h3]
    have e2 : (ss.map Value.bool)[j]? = some (Value.bool (ss.getD j false)) := by simp [hj]
    rw [← h7, List.getElem?_take_of_lt (by rw [List.length_map]; omega)] at e2
    simpa using e2
end
theorem Bools.cell_ {w : World} {A : Option Addr} {ss : List Bool} (h : Bools w A ss) (k : Nat) (hk : k < ss.length) : ∃ g o, A = some ⟨g, o, none⟩ ∧ w.cell? ⟨g, o + k, none⟩ = some (Value.bool (ss.getD k false)) := by
  obtain ⟨g, o, e, _, hc⟩ := h (by omega)
  exact ⟨g, o, e, hc k hk⟩
theorem Bools.from_ {w : World} {g o c : Nat} {ss : List Bool} (h : Bools w (some ⟨g, o, none⟩) ss) (k : Nat) (hk : k < ss.length) (hc : ss.length ≤ c) : Bools w (some ⟨g, o + k, none⟩) (ss.drop k) := by
  have := h.drop k c hc
  rw [if_neg (by omega)] at this
  simpa [addo] using this
theorem none_take_succ (a : List Bool) (q : Nat) (h : q < a.length) : noneB (a.take (q + 1)) = (noneB (a.take q) && !(a.getD q false)) := by
  unfold noneB
  rw [List.take_succ_eq_append_getElem h, List.all_append, List.getD_eq_getElem?_getD, List.getElem?_eq_getElem h]; simp
theorem none_not {a : List Bool} {q : Nat} (h : q < a.length) (hp : a.getD q false = true) : noneB a = false := by
  unfold noneB
  rw [List.all_eq_false]
  refine ⟨a.getD q false, ?_, by rw [hp]; decide⟩
  rw [List.getD_eq_getElem?_getD, List.getElem?_eq_getElem h]
  exact List.getElem_mem h
set_option maxRecDepth 100000 in
theorem crNone (A : Option Addr) (n c : Nat) (a : List Bool) (W : World) (hn : a.length = n) (hs : Bools W A a) (hnc : n ≤ c) (hn6 : n ≤ 1000000) :
    Calls Try.prog 60 #[.slice A n c] W fun e W' => e = .returned (.bool (noneB a)) ∧ W = W' := by
  have HN := Lib.hid hn
  have HS := Lib.hid hs
  have hncI : (n : Int) ≤ (c : Int) := by omega
  have hn6I : (n : Int) ≤ 1000000 := by omega
  clear hn hs
  go_enter Try.func60, Try.ntmps60
  go_wp2_with fail
  go_loopw [3] (fun v wr => ∃ q : Nat, q ≤ n ∧ v = .int .i64 q ∧ Hid (noneB (a.take q) = true) ∧ W = wr) (fun v _ => n - (intOf v).toNat)
  case atStart => exact ⟨0, by omega, rfl, Lib.hid (by rw [List.take_zero]; rfl), rfl⟩
  case round =>
    obtain ⟨q, hq, rfl, HA, rfl⟩ := hrel
    by_cases hlt : q < n
    · have hqI : (q : Int) < (n : Int) := by omega
      obtain ⟨g, o, rfl, c1⟩ := HS.out.cell_ q (by rw [HN.out]; exact hlt)
      have hst := none_take_succ a q (by rw [HN.out]; exact hlt)
      have hot := fun h => none_not (a := a) (q := q) (by rw [HN.out]; exact hlt) h
      rw [HA.out, Bool.true_and] at hst
      cases hb : a.getD q false with
      | true =>
        rw [hb] at c1
        have HOT := Lib.hid (hot hb)
        clear hst hot hb
        go_wp2_with fail
        go_ret
        rw [HOT.out]
        exact ⟨rfl, rfl⟩
      | false =>
        rw [hb] at c1 hst
        have HST := Lib.hid hst
        clear hst hot hb
        go_wp2_with fail
        go_roundw
        case rel => exact ⟨q + 1, by omega, by go_num, HST, by first | rfl | trivial⟩
        case measure => simp [intOf]; omega
    · have e : q = n := by omega
      subst e
      have hall := HA.out
      rw [List.take_of_length_le (by rw [HN.out]; omega)] at hall
      have HALL := Lib.hid hall
      clear hall
      go_wp2_with fail
      go_ret
      rw [HALL.out]
      exact ⟨rfl, rfl⟩
end Go.Proofs.Ytcnhhlnbmliihaa
namespace Go.Proofs.Ytcnhhlnbmliihaa
open Go.RowKit
set_option linter.unusedVariables false
set_option linter.unusedSimpArgs false

set_option maxRecDepth 100000 in
set_option maxHeartbeats 2000000 in
theorem crCountM : ∀ (n : Nat) (a : List Bool) (A : Option Addr) (c : Nat) (W : World), a.length = n → Bools W A a → n ≤ c → n ≤ 1000000 → 1 ≤ n →
    Calls Try.prog 41 #[.slice A n c] W fun e W' => e = .returned (.int .i64 (cn a)) ∧ Below W.heap.size W W' := by
  intro n
  induction n using Nat.strongRecOn with
  | _ n ih =>
    intro a A c W ha hs hnc hn6 h1
    have hno := fun W h => crNone A n c a W ha h hnc hn6
    cases hna : noneB a with
    | true =>
      rw [cn_none a hna]
      simp only [hna] at hno
      have HNO := Lib.hid hno
      have HS := Lib.hid hs
      clear ih hs ha hno hna
      go_enter Try.func41, Try.ntmps41
      go_wp2_with fail
      (with_reducible refine (HNO.out _ HS.out).mono ?_); rintro e w1 ⟨rfl, rfl⟩
      go_wp2_with fail
      go_ret
      exact ⟨rfl, Below.refl _ _⟩
    | false =>
      simp only [hna] at hno
      have HNO := Lib.hid hno
      have HS := Lib.hid hs
      by_cases hn1 : n = 1
      · subst hn1
        rw [cn_one a hna (by omega)]
        clear ih hs ha hno hna
        go_enter Try.func41, Try.ntmps41
        go_wp2_with fail
        (with_reducible refine (HNO.out _ HS.out).mono ?_); rintro e w1 ⟨rfl, rfl⟩
        go_wp2_with fail
        go_ret
        exact ⟨rfl, Below.refl _ _⟩
      · have hn1I : ((n : Int) == 1) = false := by simp; omega
        have hcl := cut_lt n (by omega)
        have hcp := cut_pos n
        have h3 := fun W => crCut n W (by omega)
        have hcc := cn_cut a hna (by omega)
        rw [ha] at hcc
        have hta : (a.take (cut n)).length = cut n := by rw [List.length_take]; omega
        have hda : (a.drop (cut n)).length = n - cut n := by rw [List.length_drop, ha]
        obtain ⟨g, o, rfl, hg, _⟩ := hs (by omega)
        have hst := hs.take (cut n)
        have hsd := hs.from_ (cut n) (by omega) (c := c) (by omega)
        have i1 := fun W h => ih (cut n) hcl (a.take (cut n)) (some ⟨g, o, none⟩) c W hta h (by omega) (by omega) (by omega)
        have i2 := fun W h => ih (n - cut n) (by omega) (a.drop (cut n)) (some ⟨g, o + cut n, none⟩) (c - cut n) W hda h (by omega) (by omega) (by omega)
        have l1 := cn_le (cut n) (a.take (cut n)) hta (by omega)
        have l2 := cn_le (n - cut n) (a.drop (cut n)) hda (by omega)
        rw [hcc]
        obtain ⟨k, HK⟩ : ∃ k, Hid (cut n = k) := ⟨_, Lib.hid rfl⟩
        simp only [HK.out] at h3 i1 i2 l1 l2 hst hsd hcl hcp ⊢
        obtain ⟨x, HX⟩ : ∃ x, Hid (cn (a.take k) = x) := ⟨_, Lib.hid rfl⟩
        obtain ⟨y, HY⟩ : ∃ x, Hid (cn (a.drop k) = x) := ⟨_, Lib.hid rfl⟩
        simp only [HX.out] at i1 l1 ⊢
        simp only [HY.out] at i2 l2 ⊢
        have H3 := Lib.hid h3
        have I1 := Lib.hid i1
        have I2 := Lib.hid i2
        have HST := Lib.hid hst
        have HSD := Lib.hid hsd
        have hkI : (k : Int) < (n : Int) := by omega
        have hkc : (k : Int) ≤ (c : Int) := by omega
        have hncI : (n : Int) ≤ (c : Int) := by omega
        have hck : ¬ c = k := by omega
        have hn6I : (n : Int) ≤ 1000000 := by omega
        have xI : (x : Int) ≤ 1000000 := by omega
        have yI : (y : Int) ≤ 1000000 := by omega
        have hB0 : Below W.heap.size W W.drew := (Below.refl W.heap.size W).drew
        clear h3 i1 i2 hs hst hsd hcc hta hda l1 l2 ih ha hno hna hg
        go_enter Try.func41, Try.ntmps41
        go_wp2_with fail
        (with_reducible refine (HNO.out _ HS.out).mono ?_); rintro e w1 ⟨rfl, rfl⟩
        go_wp2_with fail
        (with_reducible refine (H3.out _).mono ?_); rintro e w1 ⟨rfl, rfl⟩
        go_wp2_with fail
        refine wp_region_lexX [] (by kernel_rfl) (by kernel_rfl) ?_
        repeat (refine wpX_pure rfl rfl rfl ?_; intro K hK; go_big_quiet_op; refine hK _ ?_; clear hK K)
        refine wpX_eff rfl rfl ?_; intro K hK; go_wp2_with fail
        (with_reducible refine (I1.out _ HST.out.drew).mono ?_); rintro e w2 ⟨rfl, hb2⟩
        go_wp2_with fail
        refine hK _ _ trivial ?_; clear hK K
        have HB2 := Lib.hid (hB0.trans (hb2.mono hB0.size))
        clear hb2 hB0
        repeat (refine wpX_pure rfl rfl rfl ?_; intro K hK; go_big_quiet_op; refine hK _ ?_; clear hK K)
        refine wpX_eff rfl rfl ?_; intro K hK; go_wp2_with fail
        (with_reducible refine (I2.out _ (HSD.out.fresh HB2.out)).mono ?_); rintro e w3 ⟨rfl, hb3⟩
        go_wp2_with fail
        refine hK _ _ trivial ?_; clear hK K
        have HB3 := Lib.hid (HB2.out.trans (hb3.mono HB2.out.size))
        clear hb3
        repeat (refine wpX_pure rfl rfl rfl ?_; intro K hK; go_big_quiet_op; refine hK _ ?_; clear hK K)
        refine wpX_nil ?_
        go_wp2_with fail
        go_ret
        exact ⟨by go_num, HB3.out⟩
end Go.Proofs.Ytcnhhlnbmliihaa
namespace Go.Proofs.Ytcnhhlnbmliihaa
open Go.RowKit
set_option linter.unusedVariables false
set_option linter.unusedSimpArgs false

theorem noneB_iff (a : List Bool) : noneB a = true ↔ (idxI a).length = 0 := by
  rw [idxI_length, ← idx_nil_iff, List.length_eq_zero_iff]
theorem noneB_no (a : List Bool) (h : ¬ (idxI a).length = 0) : noneB a = false := by
  cases hn : noneB a with
  | false => rfl
  | true => exact absurd ((noneB_iff a).1 hn) h
set_option maxRecDepth 100000 in
set_option maxHeartbeats 4000000 in
theorem cCountM : ∀ (n : Nat) (a : List Bool) (A : Option Addr) (m c : Nat) (W : World), a.length = n → (idxI a).length = m → Ints W A (idxI a) → m ≤ c → n ≤ 1000000 → 1 ≤ n →
    Calls Try.prog 21 #[.int .i64 n, .slice A m c] W fun e W' => e = .returned (.int .i64 (cn a)) ∧ Below W.heap.size W W' := by
  intro n
  induction n using Nat.strongRecOn with
  | _ n ih =>
    intro a A m c W ha hm hs hmc hn6 h1
    have hnI : ¬ (n : Int) < 1 := by omega
    by_cases hm0 : m = 0
    · subst hm0
      rw [cn_none a ((noneB_iff a).2 hm)]
      clear ih hs hm ha
      go_enter Try.func21, Try.ntmps21
      go_wp2_with fail
      go_ret
      exact ⟨rfl, Below.refl _ _⟩
    · have hmI : ((m : Int) == 0) = false := by simp; omega
      have hna := noneB_no a (by rw [hm]; exact hm0)
      by_cases hn1 : n = 1
      · subst hn1
        rw [cn_one a hna (by omega)]
        clear ih hs hm ha
        go_enter Try.func21, Try.ntmps21
        go_wp2_with fail
        go_ret
        exact ⟨rfl, Below.refl _ _⟩
      · have hn1I : ((n : Int) == 1) = false := by simp; omega
        have hcl := cut_lt n (by omega)
        have hcp := cut_pos n
        have h3 := fun W => cCut n W (by omega)
        have hcc := cn_cut a hna (by omega)
        rw [ha] at hcc
        have hta : (a.take (cut n)).length = cut n := by rw [List.length_take]; omega
        have hda : (a.drop (cut n)).length = n - cut n := by rw [List.length_drop, ha]
        have p1 := fun W h => cPart a (cut n) A m c W (by omega) (by omega) hm h hmc
        have i1 := fun A c W h hc => ih (cut n) hcl (a.take (cut n)) A _ c W hta rfl h hc (by omega) (by omega)
        have i2 := fun A c W h hc => ih (n - cut n) (by omega) (a.drop (cut n)) A _ c W hda rfl h hc (by omega) (by omega)
        have l1 := cn_le (cut n) (a.take (cut n)) hta (by omega)
        have l2 := cn_le (n - cut n) (a.drop (cut n)) hda (by omega)
        have hst := hs.take (idxI (a.take (cut n))).length
        have htk : (idxI a).take (idxI (a.take (cut n))).length = idxI (a.take (cut n)) := by
          conv => lhs; rw [idxI_part a (cut n) (by omega)]
          exact List.take_left
        rw [htk] at hst
        rw [hcc]
        obtain ⟨k, HK⟩ : ∃ k, Hid (cut n = k) := ⟨_, Lib.hid rfl⟩
        simp only [HK.out] at h3 p1 i1 i2 l1 l2 hst hcl hcp ⊢
        obtain ⟨x, HX⟩ : ∃ x, Hid (cn (a.take k) = x) := ⟨_, Lib.hid rfl⟩
        obtain ⟨y, HY⟩ : ∃ x, Hid (cn (a.drop k) = x) := ⟨_, Lib.hid rfl⟩
        simp only [HX.out] at i1 l1 ⊢
        simp only [HY.out] at i2 l2 ⊢
        have E1 : ((n - k : Nat) : Int) = (n : Int) - (k : Int) := by omega
        simp only [E1] at i2
        obtain ⟨P, HP⟩ : ∃ x, Hid (idxI (a.take k) = x) := ⟨_, Lib.hid rfl⟩
        obtain ⟨R, HR⟩ : ∃ x, Hid (idxI (a.drop k) = x) := ⟨_, Lib.hid rfl⟩
        simp only [HP.out] at p1 i1 hst
        simp only [HR.out] at p1 i2
        have H3 := Lib.hid h3
        have P1 := Lib.hid p1
        have I1 := Lib.hid i1
        have I2 := Lib.hid i2
        have HS := Lib.hid hs
        have HST := Lib.hid hst
        have hkI : (k : Int) < (n : Int) := by omega
        have hn6I : (n : Int) ≤ 1000000 := by omega
        have xI : (x : Int) ≤ 1000000 := by omega
        have yI : (y : Int) ≤ 1000000 := by omega
        clear h3 p1 i1 i2 hs hst hcc htk hta hda l1 l2 E1 ih ha hm
        go_enter Try.func21, Try.ntmps21
        go_wp2_with fail
        (with_reducible refine (H3.out _).mono ?_); rintro e w1 ⟨rfl, rfl⟩
        go_wp2_with fail
        (with_reducible refine (P1.out _ HS.out).mono ?_); rintro e w2 ⟨A2, c2, rfl, hc1, hc2, hS2, hb2⟩
        have HS2 := Lib.hid (Ints.of_sl hS2)
        have HST2 := Lib.hid (HST.out.fresh hb2)
        clear hS2
        go_wp2_with fail
        (with_reducible refine (I1.out _ _ _ HST2.out hc1).mono ?_); rintro e w3 ⟨rfl, hb3⟩
        have HS3 := Lib.hid (HS2.out.fresh hb3)
        have hb23 := hb2.trans (hb3.mono hb2.size)
        clear hb2 hb3
        go_wp2_with fail
        (with_reducible refine (I2.out _ _ _ HS3.out hc2).mono ?_); rintro e w4 ⟨rfl, hb4⟩
        have hb24 := hb23.trans (hb4.mono hb23.size)
        clear hb23 hb4
        go_wp2_with fail
        go_ret
        exact ⟨by go_num, hb24⟩
end Go.Proofs.Ytcnhhlnbmliihaa
namespace Go.Proofs.Ytcnhhlnbmliihaa
open Go.RowKit
set_option linter.unusedVariables false
set_option linter.unusedSimpArgs false

set_option maxRecDepth 100000 in
set_option maxHeartbeats 4000000 in
theorem cproveM (w : Int) : ∀ (n : Nat) (a : List Bool) (l : List ByteArray) (A : Option Addr) (m c : Nat) (Al : Option Addr) (cl : Nat) (W : World), a.length = n → l.length = n → (idxI a).length = m → Ints W A (idxI a) → m ≤ c → Strs W Al l → n ≤ cl → n ≤ 1000000 → 1 ≤ n → (∀ s ∈ l, s.size ≤ 300000000) →
    Calls Try.prog 45 #[.int .i64 w, .slice A m c, .slice Al n cl] W fun e W' => ∃ A' c', e = .returned (.slice A' (pv (wd w) a l).length c') ∧ (pv (wd w) a l).length ≤ c' ∧ SL W' W.heap.size 9 (.slice A' (pv (wd w) a l).length c') ((pv (wd w) a l).map Value.string) ∧ Below W.heap.size W W' := by
  intro n
  induction n using Nat.strongRecOn with
  | _ n ih =>
    intro a l A m c Al cl W ha hl hm hs hmc hls hlc hn6 h1 hz
    by_cases hm0 : m = 0
    · subst hm0
      rw [pv_none _ a l ((noneB_iff a).2 hm)]
      have r1 := fun W h => cRoot w n Al cl l W hl h hlc hn6 hz
      obtain ⟨X, HX⟩ : ∃ x, Hid (root (wd w) l = x) := ⟨_, Lib.hid rfl⟩
      simp only [HX.out] at r1 ⊢
      have R1 := Lib.hid r1
      have HLS := Lib.hid hls
      clear ih hs hm ha hls hz hl r1
      go_enter Try.func45, Try.ntmps45
      go_wp2_with fail
      (with_reducible refine (R1.out _ HLS.out).mono ?_); rintro e w1 ⟨rfl, hb1⟩
      go_wp2_with fail
      go_ret
      exact ⟨some ⟨w1.heap.size, 0, none⟩, 1, rfl, by simp, SL.lit w1 W.heap.size 9 #[.string X] hb1.size (show (1 : Nat) ≤ maxLen by decide), hb1.alloc hb1.size _⟩
    · have hmI : ((m : Int) == 0) = false := by simp; omega
      have hna := noneB_no a (by rw [hm]; exact hm0)
      by_cases hn1 : n = 1
      · subst hn1
        rw [pv_one _ a l hna (by omega)]
        clear ih hs hm ha hls hz hl
        go_enter Try.func45, Try.ntmps45
        go_wp2_with fail
        go_ret
        exact ⟨none, 0, rfl, by simp, SL.nil _ _ _, Below.refl _ _⟩
      · have hn1I : ((n : Int) == 1) = false := by simp; omega
        have hcl := cut_lt n (by omega)
        have hcp := cut_pos n
        have h3 := fun W => cCut n W (by omega)
        have hcc := pv_cut (wd w) a l hna (by omega)
        rw [hl] at hcc
        have hta : (a.take (cut n)).length = cut n := by rw [List.length_take]; omega
        have hda : (a.drop (cut n)).length = n - cut n := by rw [List.length_drop, ha]
        have htl : (l.take (cut n)).length = cut n := by rw [List.length_take]; omega
        have hdl : (l.drop (cut n)).length = n - cut n := by rw [List.length_drop, hl]
        obtain ⟨gl, ol, rfl, hgl, _⟩ := hls (by omega)
        have p1 := fun W h => cPart a (cut n) A m c W (by omega) (by omega) hm h hmc
        have i1 := fun A c W h hc hh => ih (cut n) hcl (a.take (cut n)) (l.take (cut n)) A _ c (some ⟨gl, ol, none⟩) cl W hta htl rfl h hc hh (by omega) (by omega) (by omega) (mem_take_le hz)
        have i2 := fun A c W h hc hh => ih (n - cut n) (by omega) (a.drop (cut n)) (l.drop (cut n)) A _ c (some ⟨gl, ol + cut n, none⟩) (cl - cut n) W hda hdl rfl h hc hh (by omega) (by omega) (by omega) (mem_drop_le hz)
        have l1 := pv_length (wd w) (cut n) (a.take (cut n)) (l.take (cut n)) htl hta (by omega)
        have l2 := pv_length (wd w) (n - cut n) (a.drop (cut n)) (l.drop (cut n)) hdl hda (by omega)
        have l3 := cn_le (cut n) (a.take (cut n)) hta (by omega)
        have l4 := cn_le (n - cut n) (a.drop (cut n)) hda (by omega)
        rw [← l1] at l3
        rw [← l2] at l4
        have hlt := hls.take (cut n)
        have hld := hls.from_ (cut n) (by omega) (c := cl) (by omega)
        have hst := hs.take (idxI (a.take (cut n))).length
        have htk : (idxI a).take (idxI (a.take (cut n))).length = idxI (a.take (cut n)) := by
          conv => lhs; rw [idxI_part a (cut n) (by omega)]
          exact List.take_left
        rw [htk] at hst
        rw [hcc]
        obtain ⟨k, HK⟩ : ∃ k, Hid (cut n = k) := ⟨_, Lib.hid rfl⟩
        simp only [HK.out] at h3 p1 i1 i2 l3 l4 hst hcl hcp hlt hld ⊢
        obtain ⟨X, HX⟩ : ∃ x, Hid (pv (wd w) (a.take k) (l.take k) = x) := ⟨_, Lib.hid rfl⟩
        obtain ⟨Y, HY⟩ : ∃ x, Hid (pv (wd w) (a.drop k) (l.drop k) = x) := ⟨_, Lib.hid rfl⟩
        simp only [HX.out] at i1 l3 ⊢
        simp only [HY.out] at i2 l4 ⊢
        obtain ⟨P, HP⟩ : ∃ x, Hid (idxI (a.take k) = x) := ⟨_, Lib.hid rfl⟩
        obtain ⟨R, HR⟩ : ∃ x, Hid (idxI (a.drop k) = x) := ⟨_, Lib.hid rfl⟩
        simp only [HP.out] at p1 i1 hst
        simp only [HR.out] at p1 i2
        have H3 := Lib.hid h3
        have P1 := Lib.hid p1
        have I1 := Lib.hid i1
        have I2 := Lib.hid i2
        have HS := Lib.hid hs
        have HST := Lib.hid hst
        have HLT := Lib.hid hlt
        have HLD := Lib.hid hld
        have hkI : (k : Int) < (n : Int) := by omega
        have hkc : (k : Int) ≤ (cl : Int) := by omega
        have hncI : (n : Int) ≤ (cl : Int) := by omega
        have hck : ¬ cl = k := by omega
        have hn6I : (n : Int) ≤ 1000000 := by omega
        have hxl : X.length + Y.length ≤ 1000000 := by omega
        clear h3 p1 i1 i2 hs hst hcc htk hta hda htl hdl l1 l2 l3 l4 ih ha hm hl hls hlt hld hz hgl
        go_enter Try.func45, Try.ntmps45
        go_wp2_with fail
        (with_reducible refine (H3.out _).mono ?_); rintro e w1 ⟨rfl, rfl⟩
        go_wp2_with fail
        (with_reducible refine (P1.out _ HS.out).mono ?_); rintro e w2 ⟨A2, c2, rfl, hc1, hc2, hS2, hb2⟩
        have HS2 := Lib.hid (Ints.of_sl hS2)
        have HB2 := Lib.hid hb2.drew
        clear hS2 hb2
        go_wp2_with fail
        refine wp_region_lexX [] (by kernel_rfl) (by kernel_rfl) ?_
        repeat (refine wpX_pure rfl rfl rfl ?_; intro K hK; go_big_quiet_op; refine hK _ ?_; clear hK K)
        refine wpX_eff rfl rfl ?_; intro K hK; go_wp2_with fail
        (with_reducible refine (I1.out _ _ _ (HST.out.fresh HB2.out) hc1 (HLT.out.fresh HB2.out)).mono ?_); rintro e w3 ⟨A3, c3, rfl, hc3, hS3, hb3⟩
        go_wp2_with fail
        refine hK _ _ trivial ?_; clear hK K
        have hz2 : W.heap.size ≤ w2.heap.size := HB2.out.size
        have HS3 := Lib.hid (hS3.lower hz2)
        have HS23 := Lib.hid (HS2.out.drew.fresh hb3)
        have HB3 := Lib.hid (HB2.out.trans (hb3.mono HB2.out.size))
        clear hS3 hb3
        repeat (refine wpX_pure rfl rfl rfl ?_; intro K hK; go_big_quiet_op; refine hK _ ?_; clear hK K)
        refine wpX_eff rfl rfl ?_; intro K hK; go_wp2_with fail
        (with_reducible refine (I2.out _ _ _ HS23.out hc2 (HLD.out.fresh HB3.out)).mono ?_); rintro e w4 ⟨A4, c4, rfl, hc4, hS4, hb4⟩
        go_wp2_with fail
        refine hK _ _ trivial ?_; clear hK K
        have HS34 := Lib.hid (HS3.out.below hb4 (Nat.le_refl _))
        have HS44 := Lib.hid (Strs.of_sl hS4)
        have HB4 := Lib.hid (HB3.out.trans (hb4.mono HB3.out.size))
        clear hS4 hb4
        have hz4 : W.heap.size ≤ w4.heap.size := HB4.out.size
        refine wpX_eff rfl rfl ?_; intro K hK
        (refine wpList_appL str_elem Try.underlying23 rfl (.tmp 36) (.tmp 42) rfl W.heap.size A3 X.length c3 X rfl rfl HS34.out A4 Y.length c4 Y rfl rfl HS44.out (by omega) (by decide) hz4 ?_; intro A5 c5 w5 hS5 hc5 hb5; dsimp only [Act.put])
        refine wpList_nil (hK _ _ trivial ?_); clear hK K
        simp only [Act.put, List.setIfInBounds_toArray, List.set_cons_zero, List.set_cons_succ]
        refine wpX_pure rfl rfl rfl ?_; intro K hK; go_big_quiet_op; refine hK _ ?_; clear hK K
        refine wpX_nil ?_
        go_wp2_with fail
        go_ret
        exact ⟨A5, c5, by rw [List.length_append]; rfl, by rw [List.length_append]; exact hc5, by rw [List.length_append]; exact hS5, HB4.out.trans hb5⟩
end Go.Proofs.Ytcnhhlnbmliihaa
namespace Go.Proofs.Ytcnhhlnbmliihaa
open Go.RowKit
set_option linter.unusedVariables false
set_option linter.unusedSimpArgs false

set_option maxRecDepth 100000 in
set_option maxHeartbeats 4000000 in
theorem crProveM (w : Int) : ∀ (n : Nat) (a : List Bool) (l : List ByteArray) (A : Option Addr) (c : Nat) (Al : Option Addr) (cl : Nat) (W : World), a.length = n → l.length = n → Bools W A a → n ≤ c → Strs W Al l → n ≤ cl → n ≤ 1000000 → 1 ≤ n → (∀ s ∈ l, s.size ≤ 300000000) →
    Calls Try.prog 35 #[.int .i64 w, .slice A n c, .slice Al n cl] W fun e W' => ∃ A' c', e = .returned (.slice A' (pv (wd w) a l).length c') ∧ (pv (wd w) a l).length ≤ c' ∧ SL W' W.heap.size 9 (.slice A' (pv (wd w) a l).length c') ((pv (wd w) a l).map Value.string) ∧ Below W.heap.size W W' := by
  intro n
  induction n using Nat.strongRecOn with
  | _ n ih =>
    intro a l A c Al cl W ha hl hs hmc hls hlc hn6 h1 hz
    have hno := fun W h => crNone A n c a W ha h hmc hn6
    cases hna : noneB a with
    | true =>
      rw [pv_none _ a l hna]
      simp only [hna] at hno
      have HNO := Lib.hid hno
      have HS := Lib.hid hs
      have r1 := fun W h => crRoot w n Al cl l W hl h hlc hn6 hz
      obtain ⟨X, HX⟩ : ∃ x, Hid (root (wd w) l = x) := ⟨_, Lib.hid rfl⟩
      simp only [HX.out] at r1 ⊢
      have R1 := Lib.hid r1
      have HLS := Lib.hid hls
      clear ih hs ha hls hz hl r1 hno hna
      go_enter Try.func35, Try.ntmps35
      go_wp2_with fail
      (with_reducible refine (HNO.out _ HS.out).mono ?_); rintro e w1 ⟨rfl, rfl⟩
      go_wp2_with fail
      (with_reducible refine (R1.out _ HLS.out).mono ?_); rintro e w1 ⟨rfl, hb1⟩
      go_wp2_with fail
      go_ret
      exact ⟨some ⟨w1.heap.size, 0, none⟩, 1, rfl, by simp, SL.lit w1 W.heap.size 9 #[.string X] hb1.size (show (1 : Nat) ≤ maxLen by decide), hb1.alloc hb1.size _⟩
    | false =>
      simp only [hna] at hno
      have HNO := Lib.hid hno
      have HS := Lib.hid hs
      by_cases hn1 : n = 1
      · subst hn1
        rw [pv_one _ a l hna (by omega)]
        clear ih hs ha hls hz hl hno hna
        go_enter Try.func35, Try.ntmps35
        go_wp2_with fail
        (with_reducible refine (HNO.out _ HS.out).mono ?_); rintro e w1 ⟨rfl, rfl⟩
        go_wp2_with fail
        go_ret
        exact ⟨none, 0, rfl, by simp, SL.nil _ _ _, Below.refl _ _⟩
      · have hn1I : ((n : Int) == 1) = false := by simp; omega
        have hcl := cut_lt n (by omega)
        have hcp := cut_pos n
        have h3 := fun W => crCut n W (by omega)
        have hcc := pv_cut (wd w) a l hna (by omega)
        rw [hl] at hcc
        have hta : (a.take (cut n)).length = cut n := by rw [List.length_take]; omega
        have hda : (a.drop (cut n)).length = n - cut n := by rw [List.length_drop, ha]
        have htl : (l.take (cut n)).length = cut n := by rw [List.length_take]; omega
        have hdl : (l.drop (cut n)).length = n - cut n := by rw [List.length_drop, hl]
        obtain ⟨gl, ol, rfl, hgl, _⟩ := hls (by omega)
        obtain ⟨ga, oa, rfl, hga, _⟩ := hs (by omega)
        have hst := hs.take (cut n)
        have hsd := hs.from_ (cut n) (by omega) (c := c) (by omega)
        have i1 := fun W h hh => ih (cut n) hcl (a.take (cut n)) (l.take (cut n)) (some ⟨ga, oa, none⟩) c (some ⟨gl, ol, none⟩) cl W hta htl h (by omega) hh (by omega) (by omega) (by omega) (mem_take_le hz)
        have i2 := fun W h hh => ih (n - cut n) (by omega) (a.drop (cut n)) (l.drop (cut n)) (some ⟨ga, oa + cut n, none⟩) (c - cut n) (some ⟨gl, ol + cut n, none⟩) (cl - cut n) W hda hdl h (by omega) hh (by omega) (by omega) (by omega) (mem_drop_le hz)
        have l1 := pv_length (wd w) (cut n) (a.take (cut n)) (l.take (cut n)) htl hta (by omega)
        have l2 := pv_length (wd w) (n - cut n) (a.drop (cut n)) (l.drop (cut n)) hdl hda (by omega)
        have l3 := cn_le (cut n) (a.take (cut n)) hta (by omega)
        have l4 := cn_le (n - cut n) (a.drop (cut n)) hda (by omega)
        rw [← l1] at l3
        rw [← l2] at l4
        have hlt := hls.take (cut n)
        have hld := hls.from_ (cut n) (by omega) (c := cl) (by omega)
        rw [hcc]
        obtain ⟨k, HK⟩ : ∃ k, Hid (cut n = k) := ⟨_, Lib.hid rfl⟩
        simp only [HK.out] at h3 i1 i2 l3 l4 hst hsd hcl hcp hlt hld ⊢
        obtain ⟨X, HX⟩ : ∃ x, Hid (pv (wd w) (a.take k) (l.take k) = x) := ⟨_, Lib.hid rfl⟩
        obtain ⟨Y, HY⟩ : ∃ x, Hid (pv (wd w) (a.drop k) (l.drop k) = x) := ⟨_, Lib.hid rfl⟩
        simp only [HX.out] at i1 l3 ⊢
        simp only [HY.out] at i2 l4 ⊢
        have H3 := Lib.hid h3
        have I1 := Lib.hid i1
        have I2 := Lib.hid i2
        have HST := Lib.hid hst
        have HSD := Lib.hid hsd
        have HLT := Lib.hid hlt
        have HLD := Lib.hid hld
        have hkI : (k : Int) < (n : Int) := by omega
        have hkc : (k : Int) ≤ (cl : Int) := by omega
        have hncI : (n : Int) ≤ (cl : Int) := by omega
        have hck : ¬ cl = k := by omega
        have hkc2 : (k : Int) ≤ (c : Int) := by omega
        have hncJ : (n : Int) ≤ (c : Int) := by omega
        have hck3 : ¬ c = k := by omega
        have HB2 := Lib.hid (Below.refl W.heap.size W).drew
        have hn6I : (n : Int) ≤ 1000000 := by omega
        have hxl : X.length + Y.length ≤ 1000000 := by omega
        clear h3 i1 i2 hs hst hsd hcc hta hda htl hdl l1 l2 l3 l4 ih ha hl hls hlt hld hz hgl hga hno hna
        go_enter Try.func35, Try.ntmps35
        go_wp2_with fail
        (with_reducible refine (HNO.out _ HS.out).mono ?_); rintro e w1 ⟨rfl, rfl⟩
        go_wp2_with fail
        (with_reducible refine (H3.out _).mono ?_); rintro e w1 ⟨rfl, rfl⟩
        go_wp2_with fail
        refine wp_region_lexX [] (by kernel_rfl) (by kernel_rfl) ?_
        repeat (refine wpX_pure rfl rfl rfl ?_; intro K hK; go_big_quiet_op; refine hK _ ?_; clear hK K)
        refine wpX_eff rfl rfl ?_; intro K hK; go_wp2_with fail
        (with_reducible refine (I1.out _ (HST.out.fresh HB2.out) (HLT.out.fresh HB2.out)).mono ?_); rintro e w3 ⟨A3, c3, rfl, hc3, hS3, hb3⟩
        go_wp2_with fail
        refine hK _ _ trivial ?_; clear hK K
        have HS3 := Lib.hid (hS3.lower HB2.out.size)
        have HB3 := Lib.hid (HB2.out.trans (hb3.mono HB2.out.size))
        clear hS3 hb3
        repeat (refine wpX_pure rfl rfl rfl ?_; intro K hK; go_big_quiet_op; refine hK _ ?_; clear hK K)
        refine wpX_eff rfl rfl ?_; intro K hK; go_wp2_with fail
        (with_reducible refine (I2.out _ (HSD.out.fresh HB3.out) (HLD.out.fresh HB3.out)).mono ?_); rintro e w4 ⟨A4, c4, rfl, hc4, hS4, hb4⟩
        go_wp2_with fail
        refine hK _ _ trivial ?_; clear hK K
        have HS34 := Lib.hid (HS3.out.below hb4 (Nat.le_refl _))
        have HS44 := Lib.hid (Strs.of_sl hS4)
        have HB4 := Lib.hid (HB3.out.trans (hb4.mono HB3.out.size))
        clear hS4 hb4
        have hz4 : W.heap.size ≤ w4.heap.size := HB4.out.size
        refine wpX_eff rfl rfl ?_; intro K hK
        (refine wpList_appL str_elem Try.underlying23 rfl (.tmp 27) (.tmp 35) rfl W.heap.size A3 X.length c3 X rfl rfl HS34.out A4 Y.length c4 Y rfl rfl HS44.out (by omega) (by decide) hz4 ?_; intro A5 c5 w5 hS5 hc5 hb5; dsimp only [Act.put])
        refine wpList_nil (hK _ _ trivial ?_); clear hK K
        simp only [Act.put, List.setIfInBounds_toArray, List.set_cons_zero, List.set_cons_succ]
        refine wpX_pure rfl rfl rfl ?_; intro K hK; go_big_quiet_op; refine hK _ ?_; clear hK K
        refine wpX_nil ?_
        go_wp2_with fail
        go_ret
        exact ⟨A5, c5, by rw [List.length_append]; rfl, by rw [List.length_append]; exact hc5, by rw [List.length_append]; exact hS5, HB4.out.trans hb5⟩
end Go.Proofs.Ytcnhhlnbmliihaa
namespace Go.Proofs.Ytcnhhlnbmliihaa
open Go.RowKit
set_option linter.unusedVariables false
set_option linter.unusedSimpArgs false

/-- The first q rise. -/
def riseT (want : List Int) (n : Int) (q : Nat) : Prop := ∀ i, i < q → 0 ≤ want.getD i 0 ∧ want.getD i 0 < n ∧ (0 < i → want.getD (i - 1) 0 < want.getD i 0)
theorem riseT_succ {want : List Int} {n : Int} {q : Nat} (h : riseT want n q) (h1 : 0 ≤ want.getD q 0) (h2 : want.getD q 0 < n) (h3 : 0 < q → want.getD (q - 1) 0 < want.getD q 0) : riseT want n (q + 1) := by
  intro i hi
  rcases Nat.lt_or_ge i q with h4 | h4
  · exact h i h4
  · have e : i = q := by omega
    subst e; exact ⟨h1, h2, h3⟩
theorem rise_bad {want : List Int} {n : Int} {q : Nat} (hq : q < want.length) (h : ¬ (0 ≤ want.getD q 0 ∧ want.getD q 0 < n ∧ (0 < q → want.getD (q - 1) 0 < want.getD q 0))) : ¬ riseP want n := fun g => h (g.2 q hq)
/-- What tells whether numbers rise. -/
def RiseRes (want : List Int) (n : Int) (e : Ending) : Prop := ∃ r : Bool, e = .returned (.bool r) ∧ (r = true ↔ riseP want n)
set_option maxRecDepth 100000 in
set_option maxHeartbeats 4000000 in
theorem cRises (A : Option Addr) (m c : Nat) (want : List Int) (n : Int) (W : World) (hm : want.length = m) (hs : Ints W A want) (hmc : m ≤ c) (hm6 : m ≤ 1000000) (hn : -9223372036854775808 ≤ n ∧ n ≤ 9223372036854775807) :
    Calls Try.prog 36 #[.slice A m c, .int .i64 n] W fun e W' => RiseRes want n e ∧ W = W' := by
  have HM := Lib.hid hm
  have HS := Lib.hid hs
  have hmI : (m : Int) ≤ (c : Int) := by omega
  have hm6I : (m : Int) ≤ 1000000 := by omega
  clear hm hs
  go_enter Try.func36, Try.ntmps36
  go_wp2_with fail
  go_loopw [5, 6, 9] (fun _ _ v wr => ∃ q : Nat, q ≤ m ∧ v = .int .i64 q ∧ Hid (riseT want n q) ∧ W = wr) (fun _ _ v _ => m - (intOf v).toNat)
  case atStart => exact ⟨0, by omega, rfl, Lib.hid (fun i hi => absurd hi (by omega)), rfl⟩
  case round =>
    obtain ⟨q, hq, rfl, HT, rfl⟩ := hrel
    by_cases hlt : q < m
    · have hqI : (q : Int) < (m : Int) := by omega
      obtain ⟨g, o, rfl, hg, hcell⟩ := HS.out (by rw [HM.out]; omega)
      have c1 := hcell q (by rw [HM.out]; exact hlt)
      have hbad := fun h => rise_bad (n := n) (by rw [HM.out]; exact hlt : q < want.length) h
      have hgood := fun h1 h2 h3 => riseT_succ HT.out h1 h2 h3
      obtain ⟨z, HZ⟩ : ∃ z, Hid (want.getD q 0 = z) := ⟨_, Lib.hid rfl⟩
      rw [HZ.out] at c1
      rw [HZ.out] at hbad hgood
      have HBAD := Lib.hid hbad
      have HGOOD := Lib.hid hgood
      clear hbad hgood
      by_cases hz0 : z < 0
      · have HNR := Lib.hid (HBAD.out (fun h => by omega))
        clear hcell
        go_wp2_with fail
        go_ret
        exact ⟨⟨false, rfl, by simp [HNR.out]⟩, rfl⟩
      · by_cases hzn : n ≤ z
        · have HNR := Lib.hid (HBAD.out (fun h => by omega))
          clear hcell
          go_wp2_with fail
          go_ret
          exact ⟨⟨false, rfl, by simp [HNR.out]⟩, rfl⟩
        · by_cases hq0 : q = 0
          · subst hq0
            rw [Nat.add_zero] at c1
            clear hcell
            go_wp2_with fail
            go_roundw
            case rel => exact ⟨1, by omega, by go_num, Lib.hid (HGOOD.out (by omega) (by omega) (fun h => absurd h (by omega))), by first | rfl | trivial⟩
            case measure => simp [intOf]; omega
          · obtain ⟨p, rfl⟩ : ∃ p, q = p + 1 := ⟨q - 1, by omega⟩
            have c0 := hcell p (by rw [HM.out]; omega)
            have hpI : (0 : Int) < (p : Int) + 1 := by omega
            have hpJ : (p : Int) < (m : Int) := by omega
            have e1 : p + 1 - 1 = p := by omega
            rw [e1] at HGOOD HBAD
            obtain ⟨y, HY⟩ : ∃ y, Hid (want.getD p 0 = y) := ⟨_, Lib.hid rfl⟩
            rw [HY.out] at c0 HGOOD HBAD
            clear hcell e1
            by_cases hyz : z ≤ y
            · have HNR := Lib.hid (HBAD.out (fun h => by have := h.2.2 (by omega); omega))
              go_wp2_with fail
              go_ret
              exact ⟨⟨false, rfl, by simp [HNR.out]⟩, rfl⟩
            · go_wp2_with fail
              go_roundw
              case rel => exact ⟨p + 1 + 1, by omega, by go_num, Lib.hid (HGOOD.out (by omega) (by omega) (fun _ => by omega)), by first | rfl | trivial⟩
              case measure => simp [intOf]; omega
    · have e : q = m := by omega
      subst e
      have hall : q ≠ 0 → riseP want n := fun h0 => ⟨fun e => by have := HM.out; rw [e] at this; simp at this; omega, fun i hi => HT.out i (by rw [HM.out] at hi; exact hi)⟩
      have hnil : q = 0 → ¬ riseP want n := fun h0 g => g.1 (List.length_eq_zero_iff.1 (by rw [HM.out]; exact h0))
      by_cases h0 : q = 0
      · have HNR := Lib.hid (hnil h0)
        subst h0
        clear hall hnil
        go_wp2_with fail
        go_ret
        exact ⟨⟨false, rfl, by simp [HNR.out]⟩, rfl⟩
      · have HR := Lib.hid (hall h0)
        have hqI : (0 : Int) < (q : Int) := by omega
        have hqN : 0 < q := by omega
        clear hall hnil
        go_wp2_with fail
        go_ret
        exact ⟨⟨true, rfl, by simp [HR.out]⟩, rfl⟩
end Go.Proofs.Ytcnhhlnbmliihaa
namespace Go.Proofs.Ytcnhhlnbmliihaa
open Go.RowKit
set_option linter.unusedVariables false
set_option linter.unusedSimpArgs false

set_option maxRecDepth 100000 in
theorem cProveM_no (w : Int) (A : Option Addr) (m c : Nat) (want : List Int) (Al : Option Addr) (n cl : Nat) (W : World) (hm : want.length = m) (hs : Ints W A want) (hmc : m ≤ c) (hm6 : m ≤ 1000000) (hn6 : n ≤ 1000000) (h : ¬ riseP want (n : Int)) :
    Calls Try.prog 18 #[.int .i64 w, .slice A m c, .slice Al n cl] W fun e W' => e = .returned (.tuple #[.slice none 0 0, .int .i64 1]) ∧ W = W' := by
  have h1 := cRises A m c want (n : Int) W hm hs hmc hm6 (by omega)
  have H1 := Lib.hid h1
  have HN := Lib.hid h
  clear h1 h hm hs
  go_enter Try.func18, Try.ntmps18
  go_wp2_with fail
  (with_reducible refine H1.out.mono ?_); rintro e w1 ⟨⟨r, rfl, hr⟩, rfl⟩
  cases r with
  | true => exact absurd (hr.1 rfl) HN.out
  | false =>
    clear hr
    go_wp2_with fail
    go_ret2
    exact ⟨rfl, rfl⟩
set_option maxRecDepth 100000 in
theorem cProveM_yes (w : Int) (a : List Bool) (l : List ByteArray) (A : Option Addr) (m c : Nat) (Al : Option Addr) (n cl : Nat) (W : World) (ha : a.length = n) (hl : l.length = n) (hm : (idxI a).length = m) (hs : Ints W A (idxI a)) (hmc : m ≤ c) (hls : Strs W Al l) (hlc : n ≤ cl) (hn6 : n ≤ 1000000) (hna : noneB a = false) (hz : ∀ s ∈ l, s.size ≤ 300000000) :
    Calls Try.prog 18 #[.int .i64 w, .slice A m c, .slice Al n cl] W fun e W' => ∃ A' c', e = .returned (.tuple #[.slice A' (pv (wd w) a l).length c', .int .i64 0]) ∧ (pv (wd w) a l).length ≤ c' ∧ SL W' W.heap.size 9 (.slice A' (pv (wd w) a l).length c') ((pv (wd w) a l).map Value.string) ∧ Below W.heap.size W W' := by
  have hle := idx_length_le a
  have hge := noneB_false a hna
  rw [← idxI_length] at hle hge
  have h1 := cRises A m c (idxI a) (n : Int) W hm hs hmc (by omega) (by omega)
  have hri := rise_of a hna
  rw [ha] at hri
  have h2 := cproveM w n a l A m c Al cl W ha hl hm hs hmc hls hlc hn6 (by omega) hz
  obtain ⟨X, HX⟩ : ∃ x, Hid (pv (wd w) a l = x) := ⟨_, Lib.hid rfl⟩
  simp only [HX.out] at h2 ⊢
  have H1 := Lib.hid h1
  have H2 := Lib.hid h2
  have HRI := Lib.hid hri
  clear h1 h2 hri hm hs hls hz ha hl hle hge
  go_enter Try.func18, Try.ntmps18
  go_wp2_with fail
  (with_reducible refine H1.out.mono ?_); rintro e w1 ⟨⟨r, rfl, hr⟩, rfl⟩
  cases r with
  | false => exact absurd (hr.2 HRI.out) (by decide)
  | true =>
    clear hr
    go_wp2_with fail
    (with_reducible refine H2.out.mono ?_); rintro e w2 ⟨A', c', rfl, g1, g2, g3⟩
    go_wp2_with fail
    go_ret2
    exact ⟨A', c', rfl, g1, g2, g3⟩
end Go.Proofs.Ytcnhhlnbmliihaa
namespace Go.Proofs.Ytcnhhlnbmliihaa
open Go.RowKit
set_option linter.unusedVariables false
set_option linter.unusedSimpArgs false

/-- Block g is a climber that has these leaves and sums left. -/
def CL (W : World) (g : Nat) (w : Int) (ls ps : List ByteArray) : Prop :=
  ∃ (Al : Option Addr) (cl : Nat) (Ap : Option Addr) (cp : Nat), Blk W g 68 #[.int .i64 w, .slice Al ls.length cl, .slice Ap ps.length cp] ∧ ls.length ≤ cl ∧ ps.length ≤ cp ∧ Strs W Al ls ∧ Strs W Ap ps ∧
    (0 < ls.length → ∀ b o, Al = some ⟨b, o, none⟩ → b ≠ g) ∧ (0 < ps.length → ∀ b o, Ap = some ⟨b, o, none⟩ → b ≠ g)
theorem Strs.only' {w w' : World} {A : Option Addr} {ss : List ByteArray} {S : Nat → Prop} (h : Strs w A ss) (ho : Only S w w') (hn : 0 < ss.length → ∀ g o, A = some ⟨g, o, none⟩ → ¬ S g) : Strs w' A ss := fun hl => (h.only ho (hn hl)) hl
theorem CL.setL {W : World} {g : Nat} {w : Int} {v : Value} {Al Ap : Option Addr} {cl cp q : Nat} {ds ps : List ByteArray} (hb : Blk W g 68 #[.int .i64 w, v, .slice Ap ps.length cp]) (hq : ds.length = q) (h1 : q ≤ cl) (h2 : ps.length ≤ cp) (hs : Strs W Al ds) (hp : Strs W Ap ps)
    (n1 : 0 < ds.length → ∀ b o, Al = some ⟨b, o, none⟩ → b ≠ g) (n2 : 0 < ps.length → ∀ b o, Ap = some ⟨b, o, none⟩ → b ≠ g) : CL (W.setCell ⟨g, 1, none⟩ (.slice Al q cl)) g w ds ps ∧ Only (fun k => k = g) W (W.setCell ⟨g, 1, none⟩ (.slice Al q cl)) := by
  subst hq
  have ho := (Only.refl (fun k => k = g) W).setCell (p := ⟨g, 1, none⟩) (fun _ => rfl) (.slice Al ds.length cl)
  exact ⟨⟨Al, cl, Ap, cp, hb.set_ 1 _, h1, h2, hs.only' ho n1, hp.only' ho n2, n1, n2⟩, ho⟩
theorem CL.setP {W : World} {g : Nat} {w : Int} {v : Value} {Al Ap : Option Addr} {cl cp q : Nat} {ls ds : List ByteArray} (hb : Blk W g 68 #[.int .i64 w, .slice Al ls.length cl, v]) (hq : ds.length = q) (h1 : ls.length ≤ cl) (h2 : q ≤ cp) (hs : Strs W Al ls) (hp : Strs W Ap ds)
    (n1 : 0 < ls.length → ∀ b o, Al = some ⟨b, o, none⟩ → b ≠ g) (n2 : 0 < ds.length → ∀ b o, Ap = some ⟨b, o, none⟩ → b ≠ g) : CL (W.setCell ⟨g, 2, none⟩ (.slice Ap q cp)) g w ls ds ∧ Only (fun k => k = g) W (W.setCell ⟨g, 2, none⟩ (.slice Ap q cp)) := by
  subst hq
  have ho := (Only.refl (fun k => k = g) W).setCell (p := ⟨g, 2, none⟩) (fun _ => rfl) (.slice Ap ds.length cp)
  exact ⟨⟨Al, cl, Ap, cp, hb.set_ 2 _, h1, h2, hs.only' ho n1, hp.only' ho n2, n1, n2⟩, ho⟩
set_option maxRecDepth 100000 in
set_option maxHeartbeats 1000000 in
theorem cNextL (W : World) (g : Nat) (w : Int) (ls ps : List ByteArray) (h : CL W g w ls ps) (hl : 0 < ls.length) (hl6 : ls.length ≤ 1000000) :
    Calls Try.prog 62 #[.pointer (some ⟨g, 1, none⟩)] W fun e W' => e = .returned (.string (ls.getD 0 ByteArray.empty)) ∧ CL W' g w (ls.drop 1) ps ∧ Only (fun k => k = g) W W' := by
  obtain ⟨Al, cl, Ap, cp, hb, h1, h2, hs, hp, n1, n2⟩ := h
  obtain ⟨q, hq⟩ : ∃ q, ls.length = q + 1 := ⟨ls.length - 1, by omega⟩
  obtain ⟨b, o, rfl, hbl, hcell⟩ := hs hl
  have hbg : b ≠ g := n1 hl b o rfl
  have c0 := hcell 0 hl
  rw [Nat.add_zero] at c0
  rw [hq] at hb h1
  have b1 : W.cell? ⟨g, 1, none⟩ = some (.slice (some ⟨b, o, none⟩) (q + 1) cl) := (hb.cell 1).trans rfl
  have f1 : W.frozen? ⟨g, 1, none⟩ = false := hb.frozen 1
  have hdl : (ls.drop 1).length = q := by rw [List.length_drop]; omega
  have hst := hs.drop 1 cl (by omega)
  have hqI : (q : Int) + 1 ≤ (cl : Int) := by omega
  have hqJ : (q : Int) ≤ 1000000 := by omega
  have hcI : (1 : Int) ≤ (cl : Int) := by omega
  obtain ⟨x, HX⟩ : ∃ x, Hid (ls.getD 0 ByteArray.empty = x) := ⟨_, Lib.hid rfl⟩
  rw [HX.out] at c0 ⊢
  obtain ⟨ds, HDS⟩ : ∃ x, Hid (ls.drop 1 = x) := ⟨_, Lib.hid rfl⟩
  rw [HDS.out] at hdl hst ⊢
  have HB := Lib.hid hb
  have HST := Lib.hid hst
  have HO := Lib.hid hp
  have HDL := Lib.hid hdl
  have NY := Lib.hid n2
  by_cases hc1 : cl = 1
  · have hq0 : q = 0 := by omega
    subst hc1
    subst hq0
    have NX := Lib.hid (show 0 < ds.length → ∀ b' o', (some ⟨b, o, none⟩ : Option Addr) = some ⟨b', o', none⟩ → b' ≠ g from fun _ => n1 hl)
    have h0 : (0 : Nat) ≤ 0 := Nat.le_refl 0
    have HSD := Lib.hid (show Strs W (some ⟨b, o, none⟩) ds by have := HST.out; rw [if_pos rfl] at this; exact this)
    clear hb hst hs hp hcell hq hdl hl n1 n2 hl6 HST
    go_enter Try.func62, Try.ntmps62
    go_wp2_with fail
    go_ret
    exact ⟨rfl, CL.setL HB.out HDL.out h0 h2 (HSD.out) HO.out NX.out NY.out⟩
  · have NX := Lib.hid (show 0 < ds.length → ∀ b' o', (some ⟨b, o + 1, none⟩ : Option Addr) = some ⟨b', o', none⟩ → b' ≠ g from fun _ b' o' e => by injection e with e; injection e with e _ _; omega)
    have HSD := Lib.hid (show Strs W (some ⟨b, o + 1, none⟩) ds by have := HST.out; rw [if_neg hc1] at this; simpa [addo] using this)
    have hq1 : q ≤ cl - 1 := by omega
    clear hb hst hs hp hcell hq hdl hl n1 n2 hl6 HST
    go_enter Try.func62, Try.ntmps62
    go_wp2_with fail
    go_ret
    exact ⟨rfl, CL.setL HB.out HDL.out hq1 h2 (HSD.out) HO.out NX.out NY.out⟩
set_option maxRecDepth 100000 in
set_option maxHeartbeats 1000000 in
theorem cNextP (W : World) (g : Nat) (w : Int) (ls ps : List ByteArray) (h : CL W g w ls ps) (hl : 0 < ps.length) (hl6 : ps.length ≤ 1000000) :
    Calls Try.prog 62 #[.pointer (some ⟨g, 2, none⟩)] W fun e W' => e = .returned (.string (ps.getD 0 ByteArray.empty)) ∧ CL W' g w ls (ps.drop 1) ∧ Only (fun k => k = g) W W' := by
  obtain ⟨Al, cl, Ap, cp, hb, h1, h2, hs, hp, n1, n2⟩ := h
  obtain ⟨q, hq⟩ : ∃ q, ps.length = q + 1 := ⟨ps.length - 1, by omega⟩
  obtain ⟨b, o, rfl, hbl, hcell⟩ := hp hl
  have hbg : b ≠ g := n2 hl b o rfl
  have c0 := hcell 0 hl
  rw [Nat.add_zero] at c0
  rw [hq] at hb h2
  have b1 : W.cell? ⟨g, 2, none⟩ = some (.slice (some ⟨b, o, none⟩) (q + 1) cp) := (hb.cell 2).trans rfl
  have f1 : W.frozen? ⟨g, 2, none⟩ = false := hb.frozen 2
  have hdl : (ps.drop 1).length = q := by rw [List.length_drop]; omega
  have hst := hp.drop 1 cp (by omega)
  have hqI : (q : Int) + 1 ≤ (cp : Int) := by omega
  have hqJ : (q : Int) ≤ 1000000 := by omega
  have hcI : (1 : Int) ≤ (cp : Int) := by omega
  obtain ⟨x, HX⟩ : ∃ x, Hid (ps.getD 0 ByteArray.empty = x) := ⟨_, Lib.hid rfl⟩
  rw [HX.out] at c0 ⊢
  obtain ⟨ds, HDS⟩ : ∃ x, Hid (ps.drop 1 = x) := ⟨_, Lib.hid rfl⟩
  rw [HDS.out] at hdl hst ⊢
  have HB := Lib.hid hb
  have HST := Lib.hid hst
  have HO := Lib.hid hs
  have HDL := Lib.hid hdl
  have NY := Lib.hid n1
  by_cases hc1 : cp = 1
  · have hq0 : q = 0 := by omega
    subst hc1
    subst hq0
    have NX := Lib.hid (show 0 < ds.length → ∀ b' o', (some ⟨b, o, none⟩ : Option Addr) = some ⟨b', o', none⟩ → b' ≠ g from fun _ => n2 hl)
    have h0 : (0 : Nat) ≤ 0 := Nat.le_refl 0
    have HSD := Lib.hid (show Strs W (some ⟨b, o, none⟩) ds by have := HST.out; rw [if_pos rfl] at this; exact this)
    clear hb hst hs hp hcell hq hdl hl n1 n2 hl6 HST
    go_enter Try.func62, Try.ntmps62
    go_wp2_with fail
    go_ret
    exact ⟨rfl, CL.setP HB.out HDL.out h1 h0 HO.out (HSD.out) NY.out NX.out⟩
  · have NX := Lib.hid (show 0 < ds.length → ∀ b' o', (some ⟨b, o + 1, none⟩ : Option Addr) = some ⟨b', o', none⟩ → b' ≠ g from fun _ b' o' e => by injection e with e; injection e with e _ _; omega)
    have HSD := Lib.hid (show Strs W (some ⟨b, o + 1, none⟩) ds by have := HST.out; rw [if_neg hc1] at this; simpa [addo] using this)
    have hq1 : q ≤ cp - 1 := by omega
    clear hb hst hs hp hcell hq hdl hl n1 n2 hl6 HST
    go_enter Try.func62, Try.ntmps62
    go_wp2_with fail
    go_ret
    exact ⟨rfl, CL.setP HB.out HDL.out h1 hq1 HO.out (HSD.out) NY.out NX.out⟩
end Go.Proofs.Ytcnhhlnbmliihaa
namespace Go.Proofs.Ytcnhhlnbmliihaa
open Go.RowKit
set_option linter.unusedVariables false
set_option linter.unusedSimpArgs false

theorem getD_le {b : Nat} {l : List ByteArray} (h : ∀ s ∈ l, s.size ≤ b) (h0 : 0 < l.length) : (l.getD 0 ByteArray.empty).size ≤ b := h _ (by rw [List.getD_eq_getElem?_getD, List.getElem?_eq_getElem h0]; exact List.getElem_mem _)
theorem upM_le (w : Nat) (hw : w ≤ 32) (b : Nat) (hb : 32 ≤ b) (a : List Bool) (ls ps : List ByteArray) (h1 : (idx a).length ≤ ls.length) (h2 : cn a ≤ ps.length) (hl : ∀ s ∈ ls, s.size ≤ b) (hp : ∀ s ∈ ps, s.size ≤ b) : (upM w a ls ps).size ≤ b := by
  cases hn : noneB a with
  | true =>
    rw [upM_none w a ls ps hn]
    rw [cn_none a hn] at h2
    exact getD_le hp (by omega)
  | false =>
    have := noneB_false a hn
    rcases Nat.lt_or_ge a.length 2 with h | h
    · rw [upM_one w a ls ps hn h]; exact getD_le hl (by omega)
    · rw [upM_cut w a ls ps hn h, mnode_size _ _ _ hw]; omega
theorem CL.w_ {W : World} {g : Nat} {w : Int} {ls ps : List ByteArray} (h : CL W g w ls ps) : W.cell? ⟨g, 0, none⟩ = some (.int .i64 w) ∧ g < W.heap.size := by
  obtain ⟨Al, cl, Ap, cp, hb, _⟩ := h
  exact ⟨(hb.cell 0).trans rfl, hb.lt⟩
theorem SL.own_ge {W : World} {B : Nat} {A : Option Addr} {n c : Nat} {e : TypeId} {xs : List Value} (h : SL W B e (.slice A n c) xs) : ∀ b o, A = some ⟨b, o, none⟩ → B ≤ b := by
  intro b o e1
  subst e1
  exact (h.own_lt b rfl).2
theorem CL.drew {W : World} {g : Nat} {w : Int} {ls ps : List ByteArray} (h : CL W g w ls ps) : CL W.drew g w ls ps := h
theorem CL.fresh {W W' : World} {g : Nat} {w : Int} {ls ps : List ByteArray} (h : CL W g w ls ps) (hb : Below W.heap.size W W') : CL W' g w ls ps := by
  obtain ⟨Al, cl, Ap, cp, hk, h1, h2, hs, hp, n1, n2⟩ := h
  exact ⟨Al, cl, Ap, cp, hk.below hb hk.lt, h1, h2, hs.fresh hb, hp.fresh hb, n1, n2⟩
set_option maxRecDepth 100000 in
set_option maxHeartbeats 4000000 in
theorem cUpM (g : Nat) (w : Int) : ∀ (n : Nat) (a : List Bool) (A : Option Addr) (m c : Nat) (ls ps : List ByteArray) (W : World), a.length = n → (idxI a).length = m → Ints W A (idxI a) → m ≤ c → (∀ b o, A = some ⟨b, o, none⟩ → b ≠ g) → n ≤ 1000000 → 1 ≤ n → CL W g w ls ps → (idx a).length ≤ ls.length → cn a ≤ ps.length → ls.length ≤ 1000000 → ps.length ≤ 1000000 → (∀ s ∈ ls, s.size ≤ 300000000) → (∀ s ∈ ps, s.size ≤ 300000000) →
    Calls Try.prog 40 #[.pointer (some ⟨g, 0, none⟩), .int .i64 n, .slice A m c] W fun e W' => e = .returned (.string (upM (wd w) a ls ps)) ∧ CL W' g w (ls.drop (idx a).length) (ps.drop (cn a)) ∧ Only (fun k => k = g) W W' := by
  intro n
  induction n using Nat.strongRecOn with
  | _ n ih =>
    intro a A m c ls ps W ha hm hs hmc hAg hn6 h1 hC hil hcp hl6 hp6 hzl hzp
    by_cases hm0 : m = 0
    · subst hm0
      have hna := (noneB_iff a).2 hm
      have hcn := cn_none a hna
      rw [upM_none _ a ls ps hna, noneB_len a hna, List.drop_zero, hcn]
      have h2 := cNextP W g w ls ps hC (by omega) hp6
      obtain ⟨x, HX⟩ : ∃ x, Hid (ps.getD 0 ByteArray.empty = x) := ⟨_, Lib.hid rfl⟩
      obtain ⟨ds, HDS⟩ : ∃ x, Hid (ps.drop 1 = x) := ⟨_, Lib.hid rfl⟩
      rw [HX.out, HDS.out] at h2 ⊢
      have H2 := Lib.hid h2
      clear ih hs hm ha hC h2 hil hcp hzl hzp hna hcn hAg
      go_enter Try.func40, Try.ntmps40
      go_wp2_with fail
      (with_reducible refine H2.out.mono ?_); rintro e w1 ⟨rfl, g1, g2⟩
      have G1 := Lib.hid g1
      clear g1
      go_wp2_with fail
      go_ret
      exact ⟨rfl, G1.out, g2⟩
    · have hmI : ((m : Int) == 0) = false := by simp; omega
      have hna := noneB_no a (by rw [hm]; exact hm0)
      by_cases hn1 : n = 1
      · subst hn1
        have hcn := cn_one a hna (by omega)
        have hi1 := idx_one a hna ha
        rw [upM_one _ a ls ps hna (by omega), hi1, hcn, List.drop_zero]
        have h2 := cNextL W g w ls ps hC (by omega) hl6
        obtain ⟨x, HX⟩ : ∃ x, Hid (ls.getD 0 ByteArray.empty = x) := ⟨_, Lib.hid rfl⟩
        obtain ⟨ds, HDS⟩ : ∃ x, Hid (ls.drop 1 = x) := ⟨_, Lib.hid rfl⟩
        rw [HX.out, HDS.out] at h2 ⊢
        have H2 := Lib.hid h2
        clear ih hs hm ha hC h2 hil hcp hzl hzp hna hcn hi1 hAg
        go_enter Try.func40, Try.ntmps40
        go_wp2_with fail
        (with_reducible refine H2.out.mono ?_); rintro e w1 ⟨rfl, g1, g2⟩
        have G1 := Lib.hid g1
        clear g1
        go_wp2_with fail
        go_ret
        exact ⟨rfl, G1.out, g2⟩
      · have hn1I : ((n : Int) == 1) = false := by simp; omega
        have hcl := cut_lt n (by omega)
        have hcp' := cut_pos n
        have h3 := fun W => cCut n W (by omega)
        have hcn := cn_cut a hna (by omega)
        have hup := upM_cut (wd w) a ls ps hna (by omega)
        have hil2 := idx_len_cut a (cut n) (by omega)
        rw [ha] at hcn hup
        have hta : (a.take (cut n)).length = cut n := by rw [List.length_take]; omega
        have hda : (a.drop (cut n)).length = n - cut n := by rw [List.length_drop, ha]
        have p1 := fun W h => cPart a (cut n) A m c W (by omega) (by omega) hm h hmc
        have zl : ∀ s ∈ ls.drop (idx (a.take (cut n))).length, s.size ≤ 300000000 := mem_drop_le hzl
        have zp : ∀ s ∈ ps.drop (cn (a.take (cut n))), s.size ≤ 300000000 := mem_drop_le hzp
        have i1 := fun A c W h hc hx hC => ih (cut n) hcl (a.take (cut n)) A _ c ls ps W hta rfl h hc hx (by omega) (by omega) hC (by omega) (by omega) hl6 hp6 hzl hzp
        have i2 := fun A c W h hc hx hC => ih (n - cut n) (by omega) (a.drop (cut n)) A _ c (ls.drop (idx (a.take (cut n))).length) (ps.drop (cn (a.take (cut n)))) W hda rfl h hc hx (by omega) (by omega) hC (by rw [List.length_drop]; omega) (by rw [List.length_drop]; omega) (by rw [List.length_drop]; omega) (by rw [List.length_drop]; omega) zl zp
        have y1 := upM_le (wd w) (wd_hi w) 300000000 (by omega) (a.take (cut n)) ls ps (by omega) (by omega) hzl hzp
        have y2 := upM_le (wd w) (wd_hi w) 300000000 (by omega) (a.drop (cut n)) (ls.drop (idx (a.take (cut n))).length) (ps.drop (cn (a.take (cut n)))) (by rw [List.length_drop]; omega) (by rw [List.length_drop]; omega) zl zp
        have hst := hs.take (idxI (a.take (cut n))).length
        have htk : (idxI a).take (idxI (a.take (cut n))).length = idxI (a.take (cut n)) := by
          conv => lhs; rw [idxI_part a (cut n) (by omega)]
          exact List.take_left
        rw [htk] at hst
        have nd := fun W => cNode w _ _ W (Nat.le_trans y1 (by decide)) (Nat.le_trans y2 (by decide))
        rw [← hup] at nd
        simp only [List.drop_drop] at i2
        have el : (idx (a.take (cut n))).length + (idx (a.drop (cut n))).length = (idx a).length := hil2.symm
        have ep : cn (a.take (cut n)) + cn (a.drop (cut n)) = cn a := hcn.symm
        have e7 := Nat.add_comm (idx (a.drop (cut n))).length (idx (a.take (cut n))).length
        have e8 := Nat.add_comm (cn (a.drop (cut n))) (cn (a.take (cut n)))
        try simp only [e7, e8] at i2
        simp only [el, ep] at i2
        clear e7 e8
        obtain ⟨k, HK⟩ : ∃ k, Hid (cut n = k) := ⟨_, Lib.hid rfl⟩
        simp only [HK.out] at h3 p1 i1 i2 nd y1 y2 hst hcl hcp'
        obtain ⟨x, HX⟩ : ∃ x, Hid (upM (wd w) (a.take k) ls ps = x) := ⟨_, Lib.hid rfl⟩
        simp only [HX.out] at i1 nd y1
        obtain ⟨l1, HL1⟩ : ∃ x, Hid (ls.drop (idx (a.take k)).length = x) := ⟨_, Lib.hid rfl⟩
        obtain ⟨q1, HQ1⟩ : ∃ x, Hid (ps.drop (cn (a.take k)) = x) := ⟨_, Lib.hid rfl⟩
        simp only [HL1.out, HQ1.out] at i1 i2 nd y2
        obtain ⟨y, HY⟩ : ∃ x, Hid (upM (wd w) (a.drop k) l1 q1 = x) := ⟨_, Lib.hid rfl⟩
        simp only [HY.out] at i2 nd y2
        obtain ⟨z, HZ⟩ : ∃ x, Hid (upM (wd w) a ls ps = x) := ⟨_, Lib.hid rfl⟩
        simp only [HZ.out] at nd ⊢
        have E1 : ((n - k : Nat) : Int) = (n : Int) - (k : Int) := by omega
        simp only [E1] at i2
        obtain ⟨P, HP⟩ : ∃ x, Hid (idxI (a.take k) = x) := ⟨_, Lib.hid rfl⟩
        obtain ⟨R, HR⟩ : ∃ x, Hid (idxI (a.drop k) = x) := ⟨_, Lib.hid rfl⟩
        simp only [HP.out] at p1 i1 hst
        simp only [HR.out] at p1 i2
        have H3 := Lib.hid h3
        have P1 := Lib.hid p1
        have I1 := Lib.hid i1
        have I2 := Lib.hid i2
        have ND := Lib.hid nd
        have HS := Lib.hid hs
        have HST := Lib.hid hst
        have HC := Lib.hid hC
        have HAG := Lib.hid hAg
        have hkI : (k : Int) < (n : Int) := by omega
        have hn6I : (n : Int) ≤ 1000000 := by omega
        clear h3 p1 i1 i2 nd hs hst hcn hup hil2 htk hta hda E1 ih ha hm hzl hzp zl zp el ep hil hcp hC hAg
        go_enter Try.func40, Try.ntmps40
        go_wp2_with fail
        (with_reducible refine (H3.out _).mono ?_); rintro e w1 ⟨rfl, rfl⟩
        go_wp2_with fail
        (with_reducible refine (P1.out _ HS.out).mono ?_); rintro e w2 ⟨A2, c2, rfl, hc1, hc2, hS2, hb2⟩
        have hgl := HC.out.w_.2
        have HA2 := Lib.hid (show ∀ b o, A2 = some ⟨b, o, none⟩ → b ≠ g from fun b o e => by have := SL.own_ge hS2 b o e; omega)
        have HS2 := Lib.hid (Ints.of_sl hS2)
        have HST2 := Lib.hid (HST.out.fresh hb2)
        have HC2 := Lib.hid (HC.out.fresh hb2)
        have HO2 := Lib.hid (Only.fresh (S := fun k => k = g) hb2)
        clear hS2 hb2
        go_wp2_with fail
        (with_reducible refine (I1.out _ _ _ HST2.out hc1 HAG.out HC2.out).mono ?_); rintro e w3 ⟨rfl, hC3, hO3⟩
        have HS3 := Lib.hid (HS2.out.only hO3 HA2.out)
        have HC3 := Lib.hid hC3
        have HO3 := Lib.hid ((HO2.out.trans' hO3).drew)
        clear hC3 hO3
        go_wp2_with fail
        have hS0 : w3.drew.cell? ⟨g, 0, none⟩ = some (.int .i64 w) := HC3.out.drew.w_.1
        refine wp_region_lexS (fun w' => w'.cell? ⟨g, 0, none⟩ = some (.int .i64 w)) 0 [] (by kernel_rfl) (by kernel_rfl) hS0 ?_
        repeat (first | (refine wpX_load0 rfl rfl _ _ rfl _ rfl _ rfl Try.underlying3 _ (fun w' h => h) hS0 ?_; simp only [Act.put, List.setIfInBounds_toArray, List.set_cons_zero, List.set_cons_succ, List.getElem_toArray, List.getElem_cons_zero, List.getElem_cons_succ]) | (refine wpX_pure rfl rfl rfl ?_; intro K hK; go_big_quiet_op; refine hK _ ?_; clear hK K))
        refine wpX_eff rfl rfl ?_; intro K hK; go_wp2_with fail
        (with_reducible refine (I2.out _ _ _ HS3.out.drew hc2 HA2.out HC3.out.drew).mono ?_); rintro e w4 ⟨rfl, hC4, hO4⟩
        have HC4 := Lib.hid hC4
        have HO4 := Lib.hid (HO3.out.trans' hO4)
        clear hC4 hO4
        go_wp2_with fail
        refine hK _ _ HC4.out.w_.1 ?_; clear hK K
        replace hS0 := HC4.out.w_.1
        repeat (first | (refine wpX_load0 rfl rfl _ _ rfl _ rfl _ rfl Try.underlying3 _ (fun w' h => h) hS0 ?_; simp only [Act.put, List.setIfInBounds_toArray, List.set_cons_zero, List.set_cons_succ, List.getElem_toArray, List.getElem_cons_zero, List.getElem_cons_succ]) | (refine wpX_pure rfl rfl rfl ?_; intro K hK; go_big_quiet_op; refine hK _ ?_; clear hK K))
        refine wpX_eff rfl rfl ?_; intro K hK; go_wp2_with fail
        (with_reducible refine (ND.out _).mono ?_); rintro e w5 ⟨rfl, hb5⟩
        have HC5 := Lib.hid (HC4.out.fresh hb5)
        have HO5 := Lib.hid (HO4.out.trans' (Only.fresh hb5))
        clear hb5
        go_wp2_with fail
        refine hK _ _ HC5.out.w_.1 ?_; clear hK K
        repeat (refine wpX_pure rfl rfl rfl ?_; intro K hK; go_big_quiet_op; refine hK _ ?_; clear hK K)
        refine wpX_nil ?_
        go_wp2_with fail
        go_ret
        exact ⟨rfl, HC5.out, HO5.out⟩
end Go.Proofs.Ytcnhhlnbmliihaa
namespace Go.Proofs.Ytcnhhlnbmliihaa
open Go.RowKit
set_option linter.unusedVariables false
set_option linter.unusedSimpArgs false

set_option maxRecDepth 100000 in
set_option maxHeartbeats 8000000 in
theorem crUpM (w : Int) : ∀ (n : Nat) (a : List Bool) (A : Option Addr) (c : Nat) (Al : Option Addr) (ql cl : Nat) (ls : List ByteArray) (Ap : Option Addr) (qp cp : Nat) (ps : List ByteArray) (W : World), a.length = n → Bools W A a → n ≤ c → n ≤ 1000000 → 1 ≤ n →
    ls.length = ql → Strs W Al ls → ql ≤ cl → ps.length = qp → Strs W Ap ps → qp ≤ cp → ql ≤ 1000000 → qp ≤ 1000000 → (idx a).length ≤ ql → cn a ≤ qp → (∀ s ∈ ls, s.size ≤ 300000000) → (∀ s ∈ ps, s.size ≤ 300000000) →
    Calls Try.prog 43 #[.int .i64 w, .slice A n c, .slice Al ql cl, .slice Ap qp cp] W fun e W' => e = .returned (.tuple #[.string (upM (wd w) a ls ps), .int .i64 ((idx a).length : Nat), .int .i64 (cn a : Nat)]) ∧ Below W.heap.size W W' := by
  intro n
  induction n using Nat.strongRecOn with
  | _ n ih =>
    intro a A c Al ql cl ls Ap qp cp ps W ha hs hnc hn6 h1 hll hls hlc hpl hps hpc hl6 hp6 hil hcn hzl hzp
    have hno := fun W h => crNone A n c a W ha h hnc hn6
    have hqlI : (ql : Int) ≤ (cl : Int) := by omega
    have hqpI : (qp : Int) ≤ (cp : Int) := by omega
    cases hna : noneB a with
    | true =>
      rw [upM_none _ a ls ps hna, noneB_len a hna, cn_none a hna]
      rw [cn_none a hna] at hcn
      simp only [hna] at hno
      obtain ⟨g, o, rfl, c0⟩ := hps.cell_ 0 (by omega)
      rw [Nat.add_zero] at c0
      obtain ⟨x, HX⟩ : ∃ x, Hid (ps.getD 0 ByteArray.empty = x) := ⟨_, Lib.hid rfl⟩
      rw [HX.out] at c0 ⊢
      have HNO := Lib.hid hno
      have HS := Lib.hid hs
      have hq1 : (0 : Int) < (qp : Int) := by omega
      clear ih hs ha hno hna hls hps hzl hzp hll hpl hil hcn
      go_enter Try.func43, Try.ntmps43
      go_wp2_with fail
      (with_reducible refine (HNO.out _ HS.out).mono ?_); rintro e w1 ⟨rfl, rfl⟩
      go_wp2_with fail
      go_ret3
      exact ⟨rfl, Below.refl _ _⟩
    | false =>
      simp only [hna] at hno
      have HNO := Lib.hid hno
      have HS := Lib.hid hs
      by_cases hn1 : n = 1
      · subst hn1
        have hi1 := idx_one a hna ha
        rw [upM_one _ a ls ps hna (by omega), hi1, cn_one a hna (by omega)]
        rw [hi1] at hil
        obtain ⟨g, o, rfl, c0⟩ := hls.cell_ 0 (by omega)
        rw [Nat.add_zero] at c0
        obtain ⟨x, HX⟩ : ∃ x, Hid (ls.getD 0 ByteArray.empty = x) := ⟨_, Lib.hid rfl⟩
        rw [HX.out] at c0 ⊢
        have hq1 : (0 : Int) < (ql : Int) := by omega
        clear ih hs ha hno hna hls hps hzl hzp hll hpl hil hcn hi1
        go_enter Try.func43, Try.ntmps43
        go_wp2_with fail
        (with_reducible refine (HNO.out _ HS.out).mono ?_); rintro e w1 ⟨rfl, rfl⟩
        go_wp2_with fail
        go_ret3
        exact ⟨rfl, Below.refl _ _⟩
      · have hn1I : ((n : Int) == 1) = false := by simp; omega
        have hcl := cut_lt n (by omega)
        have hcp := cut_pos n
        have h3 := fun W => crCut n W (by omega)
        have hcc := cn_cut a hna (by omega)
        have hup := upM_cut (wd w) a ls ps hna (by omega)
        have hil2 := idx_len_cut a (cut n) (by omega)
        rw [ha] at hcc hup
        have hta : (a.take (cut n)).length = cut n := by rw [List.length_take]; omega
        have hda : (a.drop (cut n)).length = n - cut n := by rw [List.length_drop, ha]
        obtain ⟨g, o, rfl, hg, _⟩ := hs (by omega)
        have hst := hs.take (cut n)
        have hsd := hs.from_ (cut n) (by omega) (c := c) (by omega)
        have zl : ∀ s ∈ ls.drop (idx (a.take (cut n))).length, s.size ≤ 300000000 := mem_drop_le hzl
        have zp : ∀ s ∈ ps.drop (cn (a.take (cut n))), s.size ≤ 300000000 := mem_drop_le hzp
        have i1 := fun W h hl hp => ih (cut n) hcl (a.take (cut n)) (some ⟨g, o, none⟩) c Al ql cl ls Ap qp cp ps W hta h (by omega) (by omega) (by omega) hll hl hlc hpl hp hpc hl6 hp6 (by omega) (by omega) hzl hzp
        have i2 := fun W Al cl Ap cp h hl hp h4 h5 => ih (n - cut n) (by omega) (a.drop (cut n)) (some ⟨g, o + cut n, none⟩) (c - cut n) Al (ql - (idx (a.take (cut n))).length) cl (ls.drop (idx (a.take (cut n))).length) Ap (qp - cn (a.take (cut n))) cp (ps.drop (cn (a.take (cut n)))) W hda h (by omega) (by omega) (by omega) (by rw [List.length_drop, hll]) hl h4 (by rw [List.length_drop, hpl]) hp h5 (by omega) (by omega) (by omega) (by omega) zl zp
        have y1 := upM_le (wd w) (wd_hi w) 300000000 (by omega) (a.take (cut n)) ls ps (by omega) (by omega) hzl hzp
        have y2 := upM_le (wd w) (wd_hi w) 300000000 (by omega) (a.drop (cut n)) (ls.drop (idx (a.take (cut n))).length) (ps.drop (cn (a.take (cut n)))) (by rw [List.length_drop]; omega) (by rw [List.length_drop]; omega) zl zp
        have nd := fun W => crNode w _ _ W (Nat.le_trans y1 (by decide)) (Nat.le_trans y2 (by decide))
        rw [← hup] at nd
        have hld := hls.drop (idx (a.take (cut n))).length cl (by omega)
        have hpd := hps.drop (cn (a.take (cut n))) cp (by omega)
        have hil3 : (idx (a.take (cut n))).length ≤ ql := by omega
        have hcn3 : cn (a.take (cut n)) ≤ qp := by omega
        have hil4 : (idx (a.drop (cut n))).length ≤ 1000000 := by omega
        have hcn4 : cn (a.drop (cut n)) ≤ 1000000 := by omega
        obtain ⟨k, HK⟩ : ∃ k, Hid (cut n = k) := ⟨_, Lib.hid rfl⟩
        simp only [HK.out] at h3 i1 i2 nd y1 y2 hst hsd hcl hcp hcc hil2 hld hpd hil3 hcn3 hil4 hcn4
        obtain ⟨i, HI⟩ : ∃ x, Hid ((idx (a.take k)).length = x) := ⟨_, Lib.hid rfl⟩
        obtain ⟨j, HJ⟩ : ∃ x, Hid (cn (a.take k) = x) := ⟨_, Lib.hid rfl⟩
        obtain ⟨i9, HI9⟩ : ∃ x, Hid ((idx (a.drop k)).length = x) := ⟨_, Lib.hid rfl⟩
        obtain ⟨j9, HJ9⟩ : ∃ x, Hid (cn (a.drop k) = x) := ⟨_, Lib.hid rfl⟩
        simp only [HI.out, HJ.out] at i1 i2 nd y2 hcc hil2 hld hpd hil3 hcn3
        simp only [HI9.out, HJ9.out] at i2 hcc hil2 hil4 hcn4
        obtain ⟨x, HX⟩ : ∃ x, Hid (upM (wd w) (a.take k) ls ps = x) := ⟨_, Lib.hid rfl⟩
        simp only [HX.out] at i1 nd y1
        obtain ⟨y, HY⟩ : ∃ x, Hid (upM (wd w) (a.drop k) (ls.drop i) (ps.drop j) = x) := ⟨_, Lib.hid rfl⟩
        simp only [HY.out] at i2 nd y2
        obtain ⟨z, HZ⟩ : ∃ x, Hid (upM (wd w) a ls ps = x) := ⟨_, Lib.hid rfl⟩
        simp only [HZ.out] at nd ⊢
        have EI := Lib.hid hil2
        have EJ := Lib.hid hcc
        have H3 := Lib.hid h3
        have I1 := Lib.hid i1
        have I2 := Lib.hid i2
        have ND := Lib.hid nd
        have HST := Lib.hid hst
        have HSD := Lib.hid hsd
        have HLS := Lib.hid hls
        have HPS := Lib.hid hps
        have HLD := Lib.hid hld
        have HPD := Lib.hid hpd
        have hkI : (k : Int) < (n : Int) := by omega
        have hkc : (k : Int) ≤ (c : Int) := by omega
        have hncI : (n : Int) ≤ (c : Int) := by omega
        have hck : ¬ c = k := by omega
        have hn6I : (n : Int) ≤ 1000000 := by omega
        have jI1 : (i : Int) ≤ (ql : Int) := by omega
        have jI2 : (j : Int) ≤ (qp : Int) := by omega
        have jI3 : (i : Int) ≤ 1000000 := by omega
        have jI4 : (j : Int) ≤ 1000000 := by omega
        have jI5 : (i9 : Int) ≤ 1000000 := by omega
        have jI6 : (j9 : Int) ≤ 1000000 := by omega
        clear h3 i1 i2 nd hs hst hsd hls hps hld hpd hcc hup hil2 hta hda ih ha hno hna hg hzl hzp zl zp hll hpl hil hcn hil3 hcn3 hil4 hcn4
        by_cases hcl1 : cl = i
        · subst hcl1
          by_cases hcp1 : cp = j
          · subst hcp1
            have HL2 := Lib.hid (show Strs W Al (ls.drop cl) by have := HLD.out; rw [if_pos rfl] at this; exact this)
            have HP2 := Lib.hid (show Strs W Ap (ps.drop cp) by have := HPD.out; rw [if_pos rfl] at this; exact this)
            have i3 := fun W h hl hp => I2.out W Al (cl - cl) Ap (cp - cp) h hl hp (Nat.sub_le_sub_right hlc cl) (Nat.sub_le_sub_right hpc cp)
            have z1 : ql - cl = 0 := by omega
            simp only [z1, Nat.sub_self] at i3
            clear z1
            have z2 : qp - cp = 0 := by omega
            simp only [z2, Nat.sub_self] at i3
            clear z2
            have I3 := Lib.hid i3
            clear i3
            go_enter Try.func43, Try.ntmps43
            go_wp2_with fail
            (with_reducible refine (HNO.out _ HS.out).mono ?_); rintro e w1 ⟨rfl, rfl⟩
            go_wp2_with fail
            (with_reducible refine (H3.out _).mono ?_); rintro e w1 ⟨rfl, rfl⟩
            go_wp2_with fail
            (with_reducible refine (I1.out _ HST.out HLS.out HPS.out).mono ?_); rintro e w2 ⟨rfl, hb2⟩
            have HB2 := Lib.hid hb2.drew
            clear hb2
            go_wp2_with fail
            refine wp_region_lexX [] (by kernel_rfl) (by kernel_rfl) ?_
            repeat (refine wpX_pure rfl rfl rfl ?_; intro K hK; go_big_quiet_op; refine hK _ ?_; clear hK K)
            refine wpX_eff rfl rfl ?_; intro K hK; go_wp2_with fail
            (with_reducible refine (I3.out _ (HSD.out.fresh HB2.out) (HL2.out.fresh HB2.out) (HP2.out.fresh HB2.out)).mono ?_); rintro e w3 ⟨rfl, hb3⟩
            go_wp2_with fail
            refine hK _ _ trivial ?_; clear hK K
            have HB3 := Lib.hid (HB2.out.trans (hb3.mono HB2.out.size))
            clear hb3
            repeat (refine wpX_pure rfl rfl rfl ?_; intro K hK; go_big_quiet_op; refine hK _ ?_; clear hK K)
            refine wpX_nil ?_
            go_wp2_with fail
            (with_reducible refine (ND.out _).mono ?_); rintro e w4 ⟨rfl, hb4⟩
            have hbf := HB3.out.trans (hb4.mono HB3.out.size)
            clear hb4
            go_wp2_with fail
            go_ret3
            rw [EI.out, EJ.out]
            exact ⟨by go_num, hbf⟩
          · skip
            have HL2 := Lib.hid (show Strs W Al (ls.drop cl) by have := HLD.out; rw [if_pos rfl] at this; exact this)
            have HP2 := Lib.hid (show Strs W (Ap.map (·.add j)) (ps.drop j) by have := HPD.out; rw [if_neg hcp1] at this; exact this)
            have i3 := fun W h hl hp => I2.out W Al (cl - cl) (Ap.map (·.add j)) (cp - j) h hl hp (Nat.sub_le_sub_right hlc cl) (Nat.sub_le_sub_right hpc j)
            have z1 : ql - cl = 0 := by omega
            simp only [z1, Nat.sub_self] at i3
            clear z1
            have I3 := Lib.hid i3
            clear i3
            go_enter Try.func43, Try.ntmps43
            go_wp2_with fail
            (with_reducible refine (HNO.out _ HS.out).mono ?_); rintro e w1 ⟨rfl, rfl⟩
            go_wp2_with fail
            (with_reducible refine (H3.out _).mono ?_); rintro e w1 ⟨rfl, rfl⟩
            go_wp2_with fail
            (with_reducible refine (I1.out _ HST.out HLS.out HPS.out).mono ?_); rintro e w2 ⟨rfl, hb2⟩
            have HB2 := Lib.hid hb2.drew
            clear hb2
            go_wp2_with fail
            refine wp_region_lexX [] (by kernel_rfl) (by kernel_rfl) ?_
            repeat (refine wpX_pure rfl rfl rfl ?_; intro K hK; go_big_quiet_op; refine hK _ ?_; clear hK K)
            refine wpX_eff rfl rfl ?_; intro K hK; go_wp2_with fail
            (with_reducible refine (I3.out _ (HSD.out.fresh HB2.out) (HL2.out.fresh HB2.out) (HP2.out.fresh HB2.out)).mono ?_); rintro e w3 ⟨rfl, hb3⟩
            go_wp2_with fail
            refine hK _ _ trivial ?_; clear hK K
            have HB3 := Lib.hid (HB2.out.trans (hb3.mono HB2.out.size))
            clear hb3
            repeat (refine wpX_pure rfl rfl rfl ?_; intro K hK; go_big_quiet_op; refine hK _ ?_; clear hK K)
            refine wpX_nil ?_
            go_wp2_with fail
            (with_reducible refine (ND.out _).mono ?_); rintro e w4 ⟨rfl, hb4⟩
            have hbf := HB3.out.trans (hb4.mono HB3.out.size)
            clear hb4
            go_wp2_with fail
            go_ret3
            rw [EI.out, EJ.out]
            exact ⟨by go_num, hbf⟩
        · by_cases hcp1 : cp = j
          · subst hcp1
            have HL2 := Lib.hid (show Strs W (Al.map (·.add i)) (ls.drop i) by have := HLD.out; rw [if_neg hcl1] at this; exact this)
            have HP2 := Lib.hid (show Strs W Ap (ps.drop cp) by have := HPD.out; rw [if_pos rfl] at this; exact this)
            have i3 := fun W h hl hp => I2.out W (Al.map (·.add i)) (cl - i) Ap (cp - cp) h hl hp (Nat.sub_le_sub_right hlc i) (Nat.sub_le_sub_right hpc cp)
            have z2 : qp - cp = 0 := by omega
            simp only [z2, Nat.sub_self] at i3
            clear z2
            have I3 := Lib.hid i3
            clear i3
            go_enter Try.func43, Try.ntmps43
            go_wp2_with fail
            (with_reducible refine (HNO.out _ HS.out).mono ?_); rintro e w1 ⟨rfl, rfl⟩
            go_wp2_with fail
            (with_reducible refine (H3.out _).mono ?_); rintro e w1 ⟨rfl, rfl⟩
            go_wp2_with fail
            (with_reducible refine (I1.out _ HST.out HLS.out HPS.out).mono ?_); rintro e w2 ⟨rfl, hb2⟩
            have HB2 := Lib.hid hb2.drew
            clear hb2
            go_wp2_with fail
            refine wp_region_lexX [] (by kernel_rfl) (by kernel_rfl) ?_
            repeat (refine wpX_pure rfl rfl rfl ?_; intro K hK; go_big_quiet_op; refine hK _ ?_; clear hK K)
            refine wpX_eff rfl rfl ?_; intro K hK; go_wp2_with fail
            (with_reducible refine (I3.out _ (HSD.out.fresh HB2.out) (HL2.out.fresh HB2.out) (HP2.out.fresh HB2.out)).mono ?_); rintro e w3 ⟨rfl, hb3⟩
            go_wp2_with fail
            refine hK _ _ trivial ?_; clear hK K
            have HB3 := Lib.hid (HB2.out.trans (hb3.mono HB2.out.size))
            clear hb3
            repeat (refine wpX_pure rfl rfl rfl ?_; intro K hK; go_big_quiet_op; refine hK _ ?_; clear hK K)
            refine wpX_nil ?_
            go_wp2_with fail
            (with_reducible refine (ND.out _).mono ?_); rintro e w4 ⟨rfl, hb4⟩
            have hbf := HB3.out.trans (hb4.mono HB3.out.size)
            clear hb4
            go_wp2_with fail
            go_ret3
            rw [EI.out, EJ.out]
            exact ⟨by go_num, hbf⟩
          · skip
            have HL2 := Lib.hid (show Strs W (Al.map (·.add i)) (ls.drop i) by have := HLD.out; rw [if_neg hcl1] at this; exact this)
            have HP2 := Lib.hid (show Strs W (Ap.map (·.add j)) (ps.drop j) by have := HPD.out; rw [if_neg hcp1] at this; exact this)
            have i3 := fun W h hl hp => I2.out W (Al.map (·.add i)) (cl - i) (Ap.map (·.add j)) (cp - j) h hl hp (Nat.sub_le_sub_right hlc i) (Nat.sub_le_sub_right hpc j)
            have I3 := Lib.hid i3
            clear i3
            go_enter Try.func43, Try.ntmps43
            go_wp2_with fail
            (with_reducible refine (HNO.out _ HS.out).mono ?_); rintro e w1 ⟨rfl, rfl⟩
            go_wp2_with fail
            (with_reducible refine (H3.out _).mono ?_); rintro e w1 ⟨rfl, rfl⟩
            go_wp2_with fail
            (with_reducible refine (I1.out _ HST.out HLS.out HPS.out).mono ?_); rintro e w2 ⟨rfl, hb2⟩
            have HB2 := Lib.hid hb2.drew
            clear hb2
            go_wp2_with fail
            refine wp_region_lexX [] (by kernel_rfl) (by kernel_rfl) ?_
            repeat (refine wpX_pure rfl rfl rfl ?_; intro K hK; go_big_quiet_op; refine hK _ ?_; clear hK K)
            refine wpX_eff rfl rfl ?_; intro K hK; go_wp2_with fail
            (with_reducible refine (I3.out _ (HSD.out.fresh HB2.out) (HL2.out.fresh HB2.out) (HP2.out.fresh HB2.out)).mono ?_); rintro e w3 ⟨rfl, hb3⟩
            go_wp2_with fail
            refine hK _ _ trivial ?_; clear hK K
            have HB3 := Lib.hid (HB2.out.trans (hb3.mono HB2.out.size))
            clear hb3
            repeat (refine wpX_pure rfl rfl rfl ?_; intro K hK; go_big_quiet_op; refine hK _ ?_; clear hK K)
            refine wpX_nil ?_
            go_wp2_with fail
            (with_reducible refine (ND.out _).mono ?_); rintro e w4 ⟨rfl, hb4⟩
            have hbf := HB3.out.trans (hb4.mono HB3.out.size)
            clear hb4
            go_wp2_with fail
            go_ret3
            rw [EI.out, EJ.out]
            exact ⟨by go_num, hbf⟩
end Go.Proofs.Ytcnhhlnbmliihaa
namespace Go.Proofs.Ytcnhhlnbmliihaa
open Go.RowKit
set_option linter.unusedVariables false
set_option linter.unusedSimpArgs false

theorem bool_elem : ElemI Try.prog 57 4 (.bool false) 1 := elemI Try.underlying57 (by kernel_rfl) rfl
/-- A row of bools of the call's own, to be written in place. -/
def RB (w : World) (B : Nat) (A : Option Addr) (a : List Bool) : Prop := 0 < a.length → ∃ g, A = some ⟨g, 0, none⟩ ∧ B ≤ g ∧ Rw w g 4 (a.map Value.bool)
theorem RB.of_sl {w : World} {B : Nat} {A : Option Addr} {n c : Nat} {a : List Bool} (h : SL w B 4 (.slice A n c) (a.map Value.bool)) : RB w B A a := fun hl => by
  obtain ⟨g, cap, h1, h2, h3, h4⟩ := h.rw (by intro e; have := congrArg List.length e; simp at this; rw [this] at hl; simp at hl)
  injection h1 with e1 e2 e3
  exact ⟨g, e1, h3, h4⟩
theorem RB.bools {w : World} {B : Nat} {A : Option Addr} {a : List Bool} (h : RB w B A a) : Bools w A a := fun hl => by
  obtain ⟨g, e, _, h4⟩ := h hl
  refine ⟨g, 0, e, h4.lt, fun j hj => ?_⟩
  rw [Nat.zero_add]
  exact h4.cell j _ (by simp [hj])
/-- What numbers may come behind the last one. -/
def lastP (want : List Int) (q : Nat) (last : Int) : Prop := ∀ z, last < z ↔ 0 ≤ z ∧ (0 < q → want.getD (q - 1) 0 < z)
theorem lastP_zero (want : List Int) : lastP want 0 (-1) := fun z => ⟨fun h => ⟨by omega, fun h0 => absurd h0 (by omega)⟩, fun h => by have := h.1; omega⟩
theorem lastP_succ {want : List Int} {q : Nat} (h : 0 ≤ want.getD q 0) : lastP want (q + 1) (want.getD q 0) := fun z => by
  rw [Nat.add_sub_cancel]
  exact ⟨fun hz => ⟨by omega, fun _ => hz⟩, fun hz => hz.2 (by omega)⟩
/-- What Wanted tells. -/
def WantRes (want : List Int) (n : Int) (N : Nat) (W' : World) (e : Ending) : Prop :=
  ∃ (A' : Option Addr) (m' c' : Nat) (b : Bool), e = .returned (.tuple #[.slice A' m' c', .bool b]) ∧ (b = true ↔ riseP want n) ∧ (b = true → ∃ a : List Bool, a.length = N ∧ m' = N ∧ idxI a = want ∧ N ≤ c' ∧ Bools W' A' a)
theorem map_set_bool (a : List Bool) (k : Nat) : (a.map Value.bool).set k (.bool true) = (a.set k true).map Value.bool := by rw [List.map_set]
set_option maxRecDepth 100000 in
set_option maxHeartbeats 4000000 in
theorem crWanted (n : Int) (N : Nat) (A : Option Addr) (m c : Nat) (want : List Int) (W : World) (hN : n.toNat = N) (hn1 : -9223372036854775808 ≤ n) (hn6 : n ≤ 1000000) (hm : want.length = m) (hs : Ints W A want) (hmc : m ≤ c) (hm6 : m ≤ 1000000) :
    Calls Try.prog 34 #[.slice A m c, .int .i64 n] W fun e W' => WantRes want n N W' e ∧ Below W.heap.size W W' := by
  have HM := Lib.hid hm
  have HS := Lib.hid hs
  have HNN := Lib.hid hN
  have hmI : (m : Int) ≤ (c : Int) := by omega
  have hm6I : (m : Int) ≤ 1000000 := by omega
  have hB0 := Below.refl W.heap.size W
  clear hm hs hN
  go_enter Try.func34, Try.ntmps34
  go_wp2_with fail
  go_loopw [6, 7] (fun u v wr => ∃ q : Nat, q ≤ N ∧ v = .int .i64 q ∧ SL wr W.heap.size 4 u ((List.replicate q false).map Value.bool) ∧ Below W.heap.size W wr) (fun _ v _ => N - (intOf v).toNat)
  case atStart => exact ⟨0, by omega, rfl, SL.nil _ _ _, hB0⟩
  case round =>
    clear hB0
    obtain ⟨q, hq, rfl, hS, hb⟩ := hrel
    have hbs := hb.size
    obtain ⟨A2, c2, rfl, hc2⟩ := hS.open_
    have hlen : (List.replicate q false).length = q := List.length_replicate
    rw [hlen] at hS hc2 ⊢
    have HSR := Lib.hid hS
    have HB := Lib.hid hb
    clear hS hb
    have hq6 : (q : Int) ≤ 1000000 := by have := HNN.out; omega
    by_cases hlt : q < N
    · have hltI : (q : Int) < n := by have := HNN.out; omega
      have hst : List.replicate (q + 1) false = List.replicate q false ++ [false] := List.replicate_succ'
      have HST := Lib.hid hst
      clear hst
      go_wp2_with (refine wpList_app1 Value.bool (fun _ => rfl) bool_elem rfl (.tmp 15) (.tmp 16) rfl W.heap.size A2 q c2 (List.replicate q false) false _ hlen rfl HSR.out rfl _ rfl rfl (by omega) (by decide) hbs ?_; intro A3 c3 w3 hS3 hc3 hb3; dsimp only [Act.put])
      go_roundw
      case rel => exact ⟨q + 1, by omega, by go_num, by rw [HST.out]; exact hS3, HB.out.trans hb3⟩
      case measure => simp [intOf]; omega
    · have hltI : ¬ (q : Int) < n := by have := HNN.out; omega
      have e : q = N := by omega
      subst e
      have HRB := Lib.hid (RB.of_sl HSR.out)
      clear HSR hlt hlen
      have hq0 : idxI (List.replicate q false) = want.take 0 := by unfold idxI; rw [idx_none, List.take_zero]; rfl
      have HQ0 := Lib.hid hq0
      have hmNI : (q : Int) ≤ 1000000 := by omega
      have hcq : (q : Int) ≤ (c2 : Int) := by omega
      clear hq0
      go_wp2_with fail
      go_loopw [8, 9] (fun s8 s9 wv => ∃ (k : Nat) (last : Int) (a : List Bool), k ≤ m ∧ s8 = .int .i64 last ∧ s9 = .int .i64 k ∧ Hid (lastP want k last) ∧ Hid (riseT want n k) ∧ Hid (a.length = q) ∧ Hid (idxI a = want.take k) ∧ Hid (∀ x ∈ idxI a, x ≤ last) ∧ Hid (RB wv W.heap.size A2 a) ∧ Below W.heap.size W wv) (fun _ v _ => m - (intOf v).toNat)
      case atStart => exact ⟨0, -1, List.replicate q false, by omega, rfl, rfl, Lib.hid (lastP_zero want), Lib.hid (fun i hi => absurd hi (by omega)), Lib.hid (by simp), HQ0, Lib.hid (by rw [HQ0.out, List.take_zero]; intro x hx; cases hx), HRB, HB.out⟩
      case round =>
        clear HB HRB HQ0
        obtain ⟨k, last, a, hk, rfl, rfl, HLA, HRT, HAL, HIA, HXA, HRA, hb⟩ := hrel
        by_cases hltk : k < m
        · have hkI : (k : Int) < (m : Int) := by omega
          obtain ⟨g, o, rfl, c1⟩ := (HS.out.fresh hb).cell_ k (by rw [HM.out]; exact hltk)
          obtain ⟨z, HZ⟩ : ∃ z, Hid (want.getD k 0 = z) := ⟨_, Lib.hid rfl⟩
          rw [HZ.out] at c1
          by_cases hzl : z ≤ last
          · have hno : ¬ riseP want n := rise_bad (by rw [HM.out]; exact hltk) (by rw [HZ.out]; rintro ⟨h1, h2, h3⟩; have := (HLA.out z).2 ⟨h1, h3⟩; omega)
            have HNO := Lib.hid hno
            clear hno
            go_wp2_with fail
            go_ret2
            exact ⟨⟨none, 0, 0, false, rfl, ⟨fun h => (by cases h), fun h => absurd h HNO.out⟩, fun h => (by cases h)⟩, hb⟩
          · by_cases hzn : z < n
            · have hge0 : ¬ n ≤ z := by omega
              obtain ⟨h0, h1⟩ := (HLA.out z).1 (by omega)
              have H1 := Lib.hid h1
              clear h1
              obtain ⟨j, rfl⟩ : ∃ j : Nat, z = j := ⟨z.toNat, by omega⟩
              have hjq : j < q := by have := HNN.out; omega
              have hjI : (j : Int) < (q : Int) := by omega
              obtain ⟨G, rfl, hG, hrw⟩ := HRA.out (by rw [HAL.out]; omega)
              have c3 : wr.cell? ⟨G, j, none⟩ = some (.bool (a.getD j false)) := hrw.cell j _ (by have := HAL.out; simp [show j < a.length by omega])
              have f3 := hrw.frozen j
              have HRW := Lib.hid hrw
              clear hrw
              go_wp2_with fail
              go_roundw
              case rel =>
                have hlow : ∀ x ∈ idxI a, x < (j : Int) := fun x hx => by have := HXA.out x hx; omega
                have hset := idxI_set a j (by rw [HAL.out]; exact hjq) hlow
                refine ⟨k + 1, j, a.set j true, by omega, rfl, by go_num, Lib.hid ?_, Lib.hid (riseT_succ HRT.out (by rw [HZ.out]; exact h0) (by rw [HZ.out]; exact hzn) (by rw [HZ.out]; exact H1.out)), Lib.hid (by rw [List.length_set]; exact HAL.out), Lib.hid ?_, Lib.hid ?_, Lib.hid ?_, hb.setCell hG _⟩
                · have := lastP_succ (want := want) (q := k) (by rw [HZ.out]; exact h0)
                  rw [HZ.out] at this
                  exact this
                · rw [hset, HIA.out, take_snocI want k (by rw [HM.out]; exact hltk), HZ.out]
                · rw [hset]
                  intro x hx
                  rcases List.mem_append.1 hx with hx | hx
                  · have := hlow x hx; omega
                  · simp only [List.mem_singleton] at hx; omega
                · intro _
                  exact ⟨G, rfl, hG, by rw [← map_set_bool]; exact HRW.out.set_ j _⟩
              case measure => simp [intOf]; omega
            · have hge0 : n ≤ z := by omega
              have hno : ¬ riseP want n := rise_bad (by rw [HM.out]; exact hltk) (by rw [HZ.out]; rintro ⟨h1, h2, h3⟩; omega)
              have HNO := Lib.hid hno
              clear hno
              go_wp2_with fail
              go_ret2
              exact ⟨⟨none, 0, 0, false, rfl, ⟨fun h => (by cases h), fun h => absurd h HNO.out⟩, fun h => (by cases h)⟩, hb⟩
        · have e : k = m := by omega
          subst e
          have hres : (0 < k) ↔ riseP want n := by
            constructor
            · intro h
              refine ⟨fun e => ?_, fun i hi => HRT.out i (by have := HM.out; omega)⟩
              have := HM.out
              rw [e] at this
              simp at this
              omega
            · rintro ⟨h, _⟩
              rcases Nat.eq_zero_or_pos k with h0 | h0
              · exact absurd (List.eq_nil_of_length_eq_zero (by have := HM.out; omega)) h
              · exact h0
          have HRES := Lib.hid hres
          clear hres
          rcases Nat.eq_zero_or_pos k with h0 | h0
          · subst h0
            go_wp2_with fail
            go_ret2
            exact ⟨⟨A2, q, c2, false, rfl, ⟨fun h => (by cases h), fun h => absurd (HRES.out.2 h) (by omega)⟩, fun h => (by cases h)⟩, hb⟩
          · have h0I : (0 : Int) < (k : Int) := by omega
            go_wp2_with fail
            go_ret2
            refine ⟨⟨A2, q, c2, true, rfl, ⟨fun _ => HRES.out.1 h0, fun _ => rfl⟩, fun _ => ⟨a, HAL.out, rfl, ?_, by omega, HRA.out.bools⟩⟩, hb⟩
            rw [HIA.out, List.take_of_length_le (by rw [HM.out]; omega)]
end Go.Proofs.Ytcnhhlnbmliihaa
namespace Go.Proofs.Ytcnhhlnbmliihaa
open Go.RowKit
set_option linter.unusedVariables false
set_option linter.unusedSimpArgs false

theorem all_take_succ (p : ByteArray → Bool) (l : List ByteArray) (q : Nat) (h : q < l.length) : (l.take (q + 1)).all p = ((l.take q).all p && p (l.getD q ByteArray.empty)) := by
  rw [List.take_succ_eq_append_getElem h, List.all_append, List.getD_eq_getElem?_getD, List.getElem?_eq_getElem h]; simp
theorem all_not {p : ByteArray → Bool} {l : List ByteArray} {q : Nat} (h : q < l.length) (hp : p (l.getD q ByteArray.empty) = false) : l.all p = false := by
  rw [List.all_eq_false]
  refine ⟨_, ?_, by rw [hp]; decide⟩
  rw [List.getD_eq_getElem?_getD, List.getElem?_eq_getElem h]
  exact List.getElem_mem h
set_option maxRecDepth 100000 in
set_option maxHeartbeats 2000000 in
theorem crWide41 (w : Int) (A : Option Addr) (n c : Nat) (l : List ByteArray) (W : World) (hn : l.length = n) (hs : Strs W A l) (hnc : n ≤ c) (hn6 : n ≤ 1000000) :
    Calls Try.prog 42 #[.int .i64 w, .slice A n c] W fun e W' => e = .returned (.bool (l.all fun s => s.size == wd w)) ∧ Below W.heap.size W W' := by
  have h3 := fun W => crWidth w W
  obtain ⟨d, HD⟩ : ∃ d, Hid (wd w = d) := ⟨_, Lib.hid rfl⟩
  simp only [HD.out] at h3 ⊢
  have H3 := Lib.hid h3
  have HN := Lib.hid hn
  have HS := Lib.hid hs
  have hncI : (n : Int) ≤ (c : Int) := by omega
  have hn6I : (n : Int) ≤ 1000000 := by omega
  have hB0 := Below.refl W.heap.size W
  clear h3 hn hs
  go_enter Try.func42, Try.ntmps42
  go_wp2_with fail
  go_loopw [5] (fun v wr => ∃ q : Nat, q ≤ n ∧ v = .int .i64 q ∧ Hid (((l.take q).all fun s => s.size == d) = true) ∧ Below W.heap.size W wr) (fun v _ => n - (intOf v).toNat)
  case atStart => exact ⟨0, by omega, rfl, Lib.hid (by rw [List.take_zero]; rfl), hB0⟩
  case round =>
    clear hB0
    obtain ⟨q, hq, rfl, HA, hb⟩ := hrel
    by_cases hlt : q < n
    · have hqI : (q : Int) < (n : Int) := by omega
      obtain ⟨g, o, rfl, hgA, hcc⟩ := ((HS.out.fresh hb).drew) (by rw [HN.out]; omega)
      have c1 := hcc q (by rw [HN.out]; exact hlt)
      have hbd := hb.drew
      clear hcc
      have hst := all_take_succ (fun s => s.size == d) l q (by rw [HN.out]; exact hlt)
      have hot := fun h => all_not (p := fun s => s.size == d) (l := l) (q := q) (by rw [HN.out]; exact hlt) h
      rw [HA.out, Bool.true_and] at hst
      obtain ⟨s, HSS⟩ : ∃ s, Hid (l.getD q ByteArray.empty = s) := ⟨_, Lib.hid rfl⟩
      rw [HSS.out] at c1 hst hot
      by_cases hsd : s.size = d
      · have hI : ((s.size : Int) != (d : Int)) = false := by simp; omega
        have hK : (s.size == d) = true := by simp; omega
        rw [hK] at hst
        have HST := Lib.hid hst
        clear hst hot hK hsd
        go_wp2_with fail
        have hS0 := Below.refl wr.drew.heap.size wr.drew
        refine wp_region_lexS (fun w' => Below wr.drew.heap.size wr.drew w') 0 [] (by kernel_rfl) (by kernel_rfl) hS0 ?_
        repeat (first
          | (refine wpX_load0 rfl rfl _ _ rfl _ rfl _ rfl Try.underlying9 _ (fun w' h => (h.cell hgA).trans c1) hS0 ?_; simp only [Act.put, List.setIfInBounds_toArray, List.set_cons_zero, List.set_cons_succ, List.getElem_toArray, List.getElem_cons_zero, List.getElem_cons_succ])
          | (refine wpX_pure rfl rfl rfl ?_; intro K hK; go_big_quiet_op; refine hK _ ?_; clear hK K))
        refine wpX_eff rfl rfl ?_; intro K hK; go_wp2_with fail
        (with_reducible refine (H3.out _).mono ?_); rintro e w1 ⟨rfl, rfl⟩
        go_wp2_with fail
        refine hK _ _ hS0 ?_; clear hK K
        repeat (refine wpX_pure rfl rfl rfl ?_; intro K hK; go_big_quiet_op; refine hK _ ?_; clear hK K)
        refine wpX_nil ?_
        go_wp2_with fail
        go_roundw
        case rel => exact ⟨q + 1, by omega, by go_num, HST, hbd⟩
        case measure => simp [intOf]; omega
      · have hI : ((s.size : Int) != (d : Int)) = true := by simp; omega
        have HOT := Lib.hid (hot (by simp; omega))
        clear hst hot hsd
        go_wp2_with fail
        have hS0 := Below.refl wr.drew.heap.size wr.drew
        refine wp_region_lexS (fun w' => Below wr.drew.heap.size wr.drew w') 0 [] (by kernel_rfl) (by kernel_rfl) hS0 ?_
        repeat (first
          | (refine wpX_load0 rfl rfl _ _ rfl _ rfl _ rfl Try.underlying9 _ (fun w' h => (h.cell hgA).trans c1) hS0 ?_; simp only [Act.put, List.setIfInBounds_toArray, List.set_cons_zero, List.set_cons_succ, List.getElem_toArray, List.getElem_cons_zero, List.getElem_cons_succ])
          | (refine wpX_pure rfl rfl rfl ?_; intro K hK; go_big_quiet_op; refine hK _ ?_; clear hK K))
        refine wpX_eff rfl rfl ?_; intro K hK; go_wp2_with fail
        (with_reducible refine (H3.out _).mono ?_); rintro e w1 ⟨rfl, rfl⟩
        go_wp2_with fail
        refine hK _ _ hS0 ?_; clear hK K
        repeat (refine wpX_pure rfl rfl rfl ?_; intro K hK; go_big_quiet_op; refine hK _ ?_; clear hK K)
        refine wpX_nil ?_
        go_wp2_with fail
        go_ret
        rw [HOT.out]
        exact ⟨rfl, hbd⟩
    · have e : q = n := by omega
      subst e
      have hall := HA.out
      rw [List.take_of_length_le (by rw [HN.out]; omega)] at hall
      have HALL := Lib.hid hall
      clear hall
      go_wp2_with fail
      go_ret
      rw [HALL.out]
      exact ⟨rfl, hb⟩
set_option maxRecDepth 100000 in
set_option maxHeartbeats 2000000 in
theorem crRootM_arg (w : Int) (n : Int) (A : Option Addr) (m c : Nat) (want : List Int) (Al : Option Addr) (q cl : Nat) (Ap : Option Addr) (r cp : Nat) (W : World) (hm : want.length = m) (hs : Ints W A want) (hmc : m ≤ c) (hm6 : m ≤ 1000000) (hn1 : -9223372036854775808 ≤ n) (hn6 : n ≤ 1000000) (h : ¬ (riseP want n ∧ q = m)) :
    Calls Try.prog 15 #[.int .i64 w, .int .i64 n, .slice A m c, .slice Al q cl, .slice Ap r cp] W fun e W' => e = .returned (.tuple #[.string ⟨#[]⟩, .int .i64 1]) ∧ Below W.heap.size W W' := by
  have h1 := crWanted n n.toNat A m c want W rfl hn1 hn6 hm hs hmc hm6
  have H1 := Lib.hid h1
  have HN := Lib.hid h
  clear h1 h hm hs
  by_cases hqm : q = m
  · have hqI : ((q : Int) != (m : Int)) = false := by simp; omega
    have HQ := Lib.hid hqm
    clear hqm
    go_enter Try.func15, Try.ntmps15
    go_wp2_with fail
    (with_reducible refine H1.out.mono ?_); rintro e w1 ⟨⟨A', m', c', b, rfl, hr, _⟩, hb1⟩
    cases b with
    | true => exact absurd ⟨hr.1 rfl, HQ.out⟩ HN.out
    | false =>
      clear hr
      go_wp2_with fail
      go_ret2
      exact ⟨rfl, hb1⟩
  · have hqI : ((q : Int) != (m : Int)) = true := by simp; omega
    go_enter Try.func15, Try.ntmps15
    go_wp2_with fail
    (with_reducible refine H1.out.mono ?_); rintro e w1 ⟨⟨A', m', c', b, rfl, hr, _⟩, hb1⟩
    cases b with
    | true =>
      clear hr
      go_wp2_with fail
      go_ret2
      exact ⟨rfl, hb1⟩
    | false =>
      clear hr
      go_wp2_with fail
      go_ret2
      exact ⟨rfl, hb1⟩
/-- What the root of several leaves is, or its error. -/
def rootMR (w : Nat) (a : List Bool) (ls ps : List ByteArray) : ByteArray × Nat :=
  if ps.length = cn a ∧ (ls.all fun s => s.size == w) = true ∧ (ps.all fun s => s.size == w) = true then (upM w a ls ps, 0) else (⟨#[]⟩, 2)
set_option maxRecDepth 100000 in
set_option maxHeartbeats 4000000 in
theorem crRootM (w : Int) (a : List Bool) (n : Nat) (A : Option Addr) (m c : Nat) (Al : Option Addr) (cl : Nat) (ls : List ByteArray) (Ap : Option Addr) (r cp : Nat) (ps : List ByteArray) (W : World) (ha : a.length = n) (hna : noneB a = false) (hn6 : n ≤ 1000000) (hm : (idxI a).length = m) (hs : Ints W A (idxI a)) (hmc : m ≤ c)
    (hll : ls.length = m) (hls : Strs W Al ls) (hlc : m ≤ cl) (hpl : ps.length = r) (hps : Strs W Ap ps) (hpc : r ≤ cp) (hr6 : r ≤ 1000000) (hzl : ∀ s ∈ ls, s.size ≤ 300000000) (hzp : ∀ s ∈ ps, s.size ≤ 300000000) :
    Calls Try.prog 15 #[.int .i64 w, .int .i64 n, .slice A m c, .slice Al m cl, .slice Ap r cp] W fun e W' => e = .returned (.tuple #[.string (rootMR (wd w) a ls ps).1, .int .i64 ((rootMR (wd w) a ls ps).2 : Nat)]) ∧ Below W.heap.size W W' := by
  have hle := idx_length_le a
  have hge := noneB_false a hna
  rw [← idxI_length] at hle hge
  have hri := rise_of a hna
  rw [ha] at hri
  have h1 := crWanted (n : Int) n A m c (idxI a) W (by omega) (by omega) (by omega) hm hs hmc (by omega)
  have hcl := cn_le n a ha (by omega)
  have g1 := fun A' c' W h hc => crCountM n a A' c' W ha h hc hn6 (by omega)
  have k1 := fun W h => crWide41 w Al m cl ls W hll h hlc (by omega)
  have k2 := fun W h => crWide41 w Ap r cp ps W hpl h hpc (by omega)
  have hil : (idx a).length = m := by rw [← idxI_length]; exact hm
  have u1 := fun A' c' W h hc h2 h3 e => crUpM w n a A' c' Al m cl ls Ap r cp ps W ha h hc hn6 (by omega) hll h2 hlc hpl h3 hpc (by omega) (by omega) (by omega) e hzl hzp
  have hinj := fun (a' : List Bool) (e1 : a'.length = n) (e2 : idxI a' = idxI a) => idxI_inj a' a (by omega) e2
  unfold rootMR
  rw [hpl]
  have H1 := Lib.hid h1
  have HRI := Lib.hid hri
  have HLS := Lib.hid hls
  have HPS := Lib.hid hps
  have HINJ := Lib.hid hinj
  have hm1 : 1 ≤ m := by rw [← hm]; exact hge
  obtain ⟨K, HK⟩ : ∃ x, Hid (cn a = x) := ⟨_, Lib.hid rfl⟩
  simp only [HK.out] at g1 hcl u1 ⊢
  obtain ⟨X, HX⟩ : ∃ x, Hid (upM (wd w) a ls ps = x) := ⟨_, Lib.hid rfl⟩
  simp only [HX.out] at u1 ⊢
  obtain ⟨Y, HY⟩ : ∃ x, Hid ((idx a).length = x) := ⟨_, Lib.hid rfl⟩
  simp only [HY.out] at u1
  have G1 := Lib.hid g1
  have K1 := Lib.hid k1
  have K2 := Lib.hid k2
  have U1 := Lib.hid u1
  clear h1 hri hs hls hps g1 k1 k2 u1 hinj hll hpl hzl hzp hle hge hm hil ha hna
  by_cases hrK : r = K
  · have hrI : ((r : Int) != (K : Int)) = false := by simp; omega
    have HRK := Lib.hid hrK
    clear hrK
    cases hal : (ls.all fun s => s.size == wd w) with
    | false =>
      have HAL := Lib.hid hal
      rw [if_neg (fun h => by have := h.2.1; cases this)]
      clear hal
      go_enter Try.func15, Try.ntmps15
      go_wp2_with fail
      (with_reducible refine H1.out.mono ?_); rintro e w1 ⟨⟨A', m', c', b, rfl, hr, hx⟩, hb1⟩
      cases b with
      | false => exact absurd (hr.2 HRI.out) (by decide)
      | true =>
        obtain ⟨a', e1, rfl, e2, hc', hbo⟩ := hx rfl
        obtain rfl := HINJ.out a' e1 e2
        have HBO := Lib.hid hbo
        clear hr hx hbo e1 e2
        go_wp2_with fail
        (with_reducible refine (G1.out _ _ _ HBO.out hc').mono ?_); rintro e w2 ⟨rfl, hb2⟩
        have hb12 := hb1.trans (hb2.mono hb1.size)
        have k1 := K1.out w2 (HLS.out.fresh hb12)
        rw [HAL.out] at k1
        have KA := Lib.hid k1
        clear k1 hb1 hb2
        go_wp2_with fail
        (with_reducible refine KA.out.mono ?_); rintro e w3 ⟨rfl, hb3⟩
        have hb13 := hb12.trans (hb3.mono hb12.size)
        clear hb12 hb3
        go_wp2_with fail
        go_ret2
        exact ⟨rfl, hb13⟩
    | true =>
      have HAL := Lib.hid hal
      cases hap : (ps.all fun s => s.size == wd w) with
      | false =>
        have HAP := Lib.hid hap
        rw [if_neg (fun h => by have := h.2.2; cases this)]
        clear hal hap
        go_enter Try.func15, Try.ntmps15
        go_wp2_with fail
        (with_reducible refine H1.out.mono ?_); rintro e w1 ⟨⟨A', m', c', b, rfl, hr, hx⟩, hb1⟩
        cases b with
        | false => exact absurd (hr.2 HRI.out) (by decide)
        | true =>
          obtain ⟨a', e1, rfl, e2, hc', hbo⟩ := hx rfl
          obtain rfl := HINJ.out a' e1 e2
          have HBO := Lib.hid hbo
          clear hr hx hbo e1 e2
          go_wp2_with fail
          (with_reducible refine (G1.out _ _ _ HBO.out hc').mono ?_); rintro e w2 ⟨rfl, hb2⟩
          have hb12 := hb1.trans (hb2.mono hb1.size)
          have k1 := K1.out w2 (HLS.out.fresh hb12)
          rw [HAL.out] at k1
          have KA := Lib.hid k1
          clear k1 hb1 hb2
          go_wp2_with fail
          (with_reducible refine KA.out.mono ?_); rintro e w3 ⟨rfl, hb3⟩
          have hb13 := hb12.trans (hb3.mono hb12.size)
          have k2 := K2.out w3 (HPS.out.fresh hb13)
          rw [HAP.out] at k2
          have KB := Lib.hid k2
          clear k2 hb12 hb3
          go_wp2_with fail
          (with_reducible refine KB.out.mono ?_); rintro e w4 ⟨rfl, hb4⟩
          have hb14 := hb13.trans (hb4.mono hb13.size)
          clear hb13 hb4
          go_wp2_with fail
          go_ret2
          exact ⟨rfl, hb14⟩
      | true =>
        have HAP := Lib.hid hap
        rw [if_pos ⟨HRK.out, rfl, rfl⟩]
        clear hal hap
        go_enter Try.func15, Try.ntmps15
        go_wp2_with fail
        (with_reducible refine H1.out.mono ?_); rintro e w1 ⟨⟨A', m', c', b, rfl, hr, hx⟩, hb1⟩
        cases b with
        | false => exact absurd (hr.2 HRI.out) (by decide)
        | true =>
          obtain ⟨a', e1, rfl, e2, hc', hbo⟩ := hx rfl
          obtain rfl := HINJ.out a' e1 e2
          have HBO := Lib.hid hbo
          clear hr hx hbo e1 e2
          go_wp2_with fail
          (with_reducible refine (G1.out _ _ _ HBO.out hc').mono ?_); rintro e w2 ⟨rfl, hb2⟩
          have hb12 := hb1.trans (hb2.mono hb1.size)
          have k1 := K1.out w2 (HLS.out.fresh hb12)
          rw [HAL.out] at k1
          have KA := Lib.hid k1
          clear k1
          go_wp2_with fail
          (with_reducible refine KA.out.mono ?_); rintro e w3 ⟨rfl, hb3⟩
          have hb13 := hb12.trans (hb3.mono hb12.size)
          have hb23 := hb2.trans (hb3.mono hb2.size)
          have k2 := K2.out w3 (HPS.out.fresh hb13)
          rw [HAP.out] at k2
          have KB := Lib.hid k2
          clear k2 hb12 hb3
          go_wp2_with fail
          (with_reducible refine KB.out.mono ?_); rintro e w4 ⟨rfl, hb4⟩
          have hb14 := hb13.trans (hb4.mono hb13.size)
          have hb24 := hb23.trans (hb4.mono hb23.size)
          have HU := Lib.hid (U1.out _ _ _ (HBO.out.fresh hb24) hc' (HLS.out.fresh hb14) (HPS.out.fresh hb14) (Nat.le_of_eq HRK.out.symm))
          clear hb13 hb23 hb24 hb4 hb1 hb2
          go_wp2_with fail
          (with_reducible refine HU.out.mono ?_); rintro e w5 ⟨rfl, hb5⟩
          have hb15 := hb14.trans (hb5.mono hb14.size)
          clear hb14 hb5
          go_wp2_with fail
          go_ret2
          exact ⟨rfl, hb15⟩
  · have hrI : ((r : Int) != (K : Int)) = true := by simp; omega
    rw [if_neg (fun h => hrK h.1)]
    clear hrK
    go_enter Try.func15, Try.ntmps15
    go_wp2_with fail
    (with_reducible refine H1.out.mono ?_); rintro e w1 ⟨⟨A', m', c', b, rfl, hr, hx⟩, hb1⟩
    cases b with
    | false => exact absurd (hr.2 HRI.out) (by decide)
    | true =>
      obtain ⟨a', e1, rfl, e2, hc', hbo⟩ := hx rfl
      obtain rfl := HINJ.out a' e1 e2
      have HBO := Lib.hid hbo
      clear hr hx hbo e1 e2
      go_wp2_with fail
      (with_reducible refine (G1.out _ _ _ HBO.out hc').mono ?_); rintro e w2 ⟨rfl, hb2⟩
      have hb12 := hb1.trans (hb2.mono hb1.size)
      clear hb1 hb2
      go_wp2_with fail
      go_ret2
      exact ⟨rfl, hb12⟩
end Go.Proofs.Ytcnhhlnbmliihaa
namespace Go.Proofs.Ytcnhhlnbmliihaa
open Go.RowKit
set_option linter.unusedVariables false
set_option linter.unusedSimpArgs false

theorem any_take_succ (p : ByteArray → Bool) (l : List ByteArray) (q : Nat) (h : q < l.length) : (l.take (q + 1)).any p = ((l.take q).any p || p (l.getD q ByteArray.empty)) := by
  rw [List.take_succ_eq_append_getElem h, List.any_append, List.getD_eq_getElem?_getD, List.getElem?_eq_getElem h]; simp
theorem any_of_take {p : ByteArray → Bool} {l : List ByteArray} {q : Nat} (h : q < l.length) (hp : p (l.getD q ByteArray.empty) = true) : l.any p = true := by
  rw [List.any_eq_true]
  refine ⟨_, ?_, hp⟩
  rw [List.getD_eq_getElem?_getD, List.getElem?_eq_getElem h]
  exact List.getElem_mem h
set_option maxRecDepth 100000 in
theorem cIndexFunc40 (b : Addr) (p : ByteArray → Bool) (A : Option Addr) (n c : Nat) (l : List ByteArray) (W : World) (hn : l.length = n) (hs : Strs W A l) (hnc : n ≤ c) (hn6 : n ≤ 140737488355328)
    (hp : ∀ s, Calls Try.prog 52 #[.string s, .pointer (some b)] W fun e w' => e = .returned (.bool (p s)) ∧ W = w') :
    Calls Try.prog 61 #[.slice A n c, .func (.func 52) #[] #[.pointer (some b)]] W fun e w' => ∃ i : Int, e = .returned (.int .i64 i) ∧ decide (0 ≤ i) = l.any p ∧ W = w' := by
  have hnI : (n : Int) ≤ 140737488355328 := by omega
  have hncI : (n : Int) ≤ (c : Int) := by omega
  have HN := Lib.hid hn
  have HS := Lib.hid hs
  have HP := Lib.hid hp
  clear hn hs hp
  go_enter Try.func61, Try.ntmps61
  go_wp2_with fail
  go_loopw [5, 8] (fun _ v wr => ∃ q : Nat, q ≤ n ∧ v = .int .i64 q ∧ (l.take q).any p = false ∧ W = wr) (fun _ v _ => n - (intOf v).toNat)
  case atStart => exact ⟨0, by omega, rfl, by simp, rfl⟩
  case round =>
    obtain ⟨q, hq, rfl, hA, rfl⟩ := hrel
    have HA := Lib.hid hA
    clear hA
    by_cases hlt : q < n
    · have hqI : (q : Int) < (n : Int) := by omega
      obtain ⟨g, o, rfl, c1⟩ := HS.out.cell_ q (by rw [HN.out]; exact hlt)
      have hst := any_take_succ p l q (by rw [HN.out]; exact hlt)
      have hot := fun h => any_of_take (p := p) (l := l) (q := q) (by rw [HN.out]; exact hlt) h
      obtain ⟨s, HSS⟩ : ∃ s, Hid (l.getD q ByteArray.empty = s) := ⟨_, Lib.hid rfl⟩
      rw [HSS.out] at c1 hst hot
      have h1 := HP.out s
      cases hps : p s with
      | true =>
        rw [hps] at h1
        have H1 := Lib.hid h1
        have HOT := Lib.hid (hot hps)
        clear h1 hst hot hps
        go_wp2_with fail
        (with_reducible refine H1.out.mono ?_); rintro e w1 ⟨rfl, rfl⟩
        go_wp2_with fail
        go_ret
        exact ⟨_, rfl, by rw [HOT.out]; exact decide_eq_true (by omega), rfl⟩
      | false =>
        rw [hps] at h1 hst
        rw [HA.out, Bool.or_false] at hst
        have H1 := Lib.hid h1
        have HST := Lib.hid hst
        clear h1 hst hot hps
        go_wp2_with fail
        (with_reducible refine H1.out.mono ?_); rintro e w1 ⟨rfl, rfl⟩
        go_wp2_with fail
        go_roundw
        case rel => exact ⟨q + 1, by omega, by go_num, HST.out, trivial⟩
        case measure => simp [intOf]; omega
    · have e : q = n := by omega
      subst e
      have hall := HA.out
      rw [List.take_of_length_le (by rw [HN.out]; omega)] at hall
      go_wp2_with fail
      go_ret
      exact ⟨-1, rfl, by rw [hall]; rfl, rfl⟩
theorem cContainsFunc40 (b : Addr) (p : ByteArray → Bool) (A : Option Addr) (n c : Nat) (l : List ByteArray) (W : World) (hn : l.length = n) (hs : Strs W A l) (hnc : n ≤ c) (hn6 : n ≤ 140737488355328)
    (hp : ∀ s, Calls Try.prog 52 #[.string s, .pointer (some b)] W fun e w' => e = .returned (.bool (p s)) ∧ W = w') :
    Calls Try.prog 39 #[.slice A n c, .func (.func 52) #[] #[.pointer (some b)]] W fun e w' => e = .returned (.bool (l.any p)) ∧ W = w' := by
  have H := Lib.hid (cIndexFunc40 b p A n c l W hn hs hnc hn6 hp)
  clear hn hs hp
  obtain ⟨t, HT⟩ : ∃ t, Hid (l.any p = t) := ⟨_, Lib.hid rfl⟩
  rw [HT.out]
  go_enter Try.func39, Try.ntmps39
  go_wp2_with fail
  (with_reducible refine H.out.mono ?_); rintro e w1 ⟨i, rfl, hi, rfl⟩
  rw [HT.out] at hi
  go_wp2_with fail
  go_ret
  exact ⟨rfl, rfl⟩
set_option maxRecDepth 100000 in
theorem cIndexFunc41 (b : Addr) (p : ByteArray → Bool) (A : Option Addr) (n c : Nat) (l : List ByteArray) (W : World) (hn : l.length = n) (hs : Strs W A l) (hnc : n ≤ c) (hn6 : n ≤ 140737488355328)
    (hp : ∀ s, Calls Try.prog 37 #[.string s, .pointer (some b)] W fun e w' => e = .returned (.bool (p s)) ∧ W = w') :
    Calls Try.prog 61 #[.slice A n c, .func (.func 37) #[] #[.pointer (some b)]] W fun e w' => ∃ i : Int, e = .returned (.int .i64 i) ∧ decide (0 ≤ i) = l.any p ∧ W = w' := by
  have hnI : (n : Int) ≤ 140737488355328 := by omega
  have hncI : (n : Int) ≤ (c : Int) := by omega
  have HN := Lib.hid hn
  have HS := Lib.hid hs
  have HP := Lib.hid hp
  clear hn hs hp
  go_enter Try.func61, Try.ntmps61
  go_wp2_with fail
  go_loopw [5, 8] (fun _ v wr => ∃ q : Nat, q ≤ n ∧ v = .int .i64 q ∧ (l.take q).any p = false ∧ W = wr) (fun _ v _ => n - (intOf v).toNat)
  case atStart => exact ⟨0, by omega, rfl, by simp, rfl⟩
  case round =>
    obtain ⟨q, hq, rfl, hA, rfl⟩ := hrel
    have HA := Lib.hid hA
    clear hA
    by_cases hlt : q < n
    · have hqI : (q : Int) < (n : Int) := by omega
      obtain ⟨g, o, rfl, c1⟩ := HS.out.cell_ q (by rw [HN.out]; exact hlt)
      have hst := any_take_succ p l q (by rw [HN.out]; exact hlt)
      have hot := fun h => any_of_take (p := p) (l := l) (q := q) (by rw [HN.out]; exact hlt) h
      obtain ⟨s, HSS⟩ : ∃ s, Hid (l.getD q ByteArray.empty = s) := ⟨_, Lib.hid rfl⟩
      rw [HSS.out] at c1 hst hot
      have h1 := HP.out s
      cases hps : p s with
      | true =>
        rw [hps] at h1
        have H1 := Lib.hid h1
        have HOT := Lib.hid (hot hps)
        clear h1 hst hot hps
        go_wp2_with fail
        (with_reducible refine H1.out.mono ?_); rintro e w1 ⟨rfl, rfl⟩
        go_wp2_with fail
        go_ret
        exact ⟨_, rfl, by rw [HOT.out]; exact decide_eq_true (by omega), rfl⟩
      | false =>
        rw [hps] at h1 hst
        rw [HA.out, Bool.or_false] at hst
        have H1 := Lib.hid h1
        have HST := Lib.hid hst
        clear h1 hst hot hps
        go_wp2_with fail
        (with_reducible refine H1.out.mono ?_); rintro e w1 ⟨rfl, rfl⟩
        go_wp2_with fail
        go_roundw
        case rel => exact ⟨q + 1, by omega, by go_num, HST.out, trivial⟩
        case measure => simp [intOf]; omega
    · have e : q = n := by omega
      subst e
      have hall := HA.out
      rw [List.take_of_length_le (by rw [HN.out]; omega)] at hall
      go_wp2_with fail
      go_ret
      exact ⟨-1, rfl, by rw [hall]; rfl, rfl⟩
theorem cContainsFunc41 (b : Addr) (p : ByteArray → Bool) (A : Option Addr) (n c : Nat) (l : List ByteArray) (W : World) (hn : l.length = n) (hs : Strs W A l) (hnc : n ≤ c) (hn6 : n ≤ 140737488355328)
    (hp : ∀ s, Calls Try.prog 37 #[.string s, .pointer (some b)] W fun e w' => e = .returned (.bool (p s)) ∧ W = w') :
    Calls Try.prog 39 #[.slice A n c, .func (.func 37) #[] #[.pointer (some b)]] W fun e w' => e = .returned (.bool (l.any p)) ∧ W = w' := by
  have H := Lib.hid (cIndexFunc41 b p A n c l W hn hs hnc hn6 hp)
  clear hn hs hp
  obtain ⟨t, HT⟩ : ∃ t, Hid (l.any p = t) := ⟨_, Lib.hid rfl⟩
  rw [HT.out]
  go_enter Try.func39, Try.ntmps39
  go_wp2_with fail
  (with_reducible refine H.out.mono ?_); rintro e w1 ⟨i, rfl, hi, rfl⟩
  rw [HT.out] at hi
  go_wp2_with fail
  go_ret
  exact ⟨rfl, rfl⟩
theorem cShort40 (w : Int) (b : Nat) (W : World) (hb : W.cell? ⟨b, 0, none⟩ = some (.int .i64 w)) (s : ByteArray) :
    Calls Try.prog 52 #[.string s, .pointer (some ⟨b, 0, none⟩)] W fun e w' => e = .returned (.bool (!(s.size == wd w))) ∧ W = w' := by
  have h3 := fun W => cWidth w W
  obtain ⟨d, HD⟩ : ∃ d, Hid (wd w = d) := ⟨_, Lib.hid rfl⟩
  simp only [HD.out] at h3 ⊢
  have H3 := Lib.hid h3
  clear h3
  by_cases h : s.size = d
  · have hI : ((s.size : Int) != (d : Int)) = false := by simp; omega
    have hK : (s.size == d) = true := by simp; omega
    rw [hK]
    clear hK h
    go_enter Try.func52, Try.ntmps52
    go_wp2_with fail
    (with_reducible refine (H3.out _).mono ?_); rintro e w1 ⟨rfl, rfl⟩
    go_wp2_with fail
    go_ret
    exact ⟨rfl, rfl⟩
  · have hI : ((s.size : Int) != (d : Int)) = true := by simp; omega
    have hK : (s.size == d) = false := by simp; omega
    rw [hK]
    clear hK h
    go_enter Try.func52, Try.ntmps52
    go_wp2_with fail
    (with_reducible refine (H3.out _).mono ?_); rintro e w1 ⟨rfl, rfl⟩
    go_wp2_with fail
    go_ret
    exact ⟨rfl, rfl⟩
theorem cShort41 (w : Int) (b : Nat) (W : World) (hb : W.cell? ⟨b, 0, none⟩ = some (.int .i64 w)) (s : ByteArray) :
    Calls Try.prog 37 #[.string s, .pointer (some ⟨b, 0, none⟩)] W fun e w' => e = .returned (.bool (!(s.size == wd w))) ∧ W = w' := by
  have h3 := fun W => cWidth w W
  obtain ⟨d, HD⟩ : ∃ d, Hid (wd w = d) := ⟨_, Lib.hid rfl⟩
  simp only [HD.out] at h3 ⊢
  have H3 := Lib.hid h3
  clear h3
  by_cases h : s.size = d
  · have hI : ((s.size : Int) != (d : Int)) = false := by simp; omega
    have hK : (s.size == d) = true := by simp; omega
    rw [hK]
    clear hK h
    go_enter Try.func37, Try.ntmps37
    go_wp2_with fail
    (with_reducible refine (H3.out _).mono ?_); rintro e w1 ⟨rfl, rfl⟩
    go_wp2_with fail
    go_ret
    exact ⟨rfl, rfl⟩
  · have hI : ((s.size : Int) != (d : Int)) = true := by simp; omega
    have hK : (s.size == d) = false := by simp; omega
    rw [hK]
    clear hK h
    go_enter Try.func37, Try.ntmps37
    go_wp2_with fail
    (with_reducible refine (H3.out _).mono ?_); rintro e w1 ⟨rfl, rfl⟩
    go_wp2_with fail
    go_ret
    exact ⟨rfl, rfl⟩
end Go.Proofs.Ytcnhhlnbmliihaa
namespace Go.Proofs.Ytcnhhlnbmliihaa
open Go.RowKit
set_option linter.unusedVariables false
set_option linter.unusedSimpArgs false

theorem any_short' (w : Nat) (p : List ByteArray) : (p.any fun s => !(s.size == w)) = !(p.all fun s => s.size == w) := by
  induction p with
  | nil => rfl
  | cons x p ih => rw [List.any_cons, List.all_cons, ih, Bool.not_and]
set_option maxRecDepth 100000 in
set_option maxHeartbeats 2000000 in
theorem cRootM_arg (w : Int) (n : Int) (A : Option Addr) (m c : Nat) (want : List Int) (Al : Option Addr) (q cl : Nat) (Ap : Option Addr) (r cp : Nat) (W : World) (hm : want.length = m) (hs : Ints W A want) (hmc : m ≤ c) (hm6 : m ≤ 1000000) (hn : -9223372036854775808 ≤ n ∧ n ≤ 9223372036854775807) (h : ¬ (riseP want n ∧ q = m)) :
    Calls Try.prog 14 #[.int .i64 w, .int .i64 n, .slice A m c, .slice Al q cl, .slice Ap r cp] W fun e W' => e = .returned (.tuple #[.string ⟨#[]⟩, .int .i64 1]) ∧ Below W.heap.size W W' := by
  have hB := (Below.refl W.heap.size W).alloc (Nat.le_refl _) (.cells #[.int .i64 w] 3)
  have hs2 := hs.alloc (.cells #[.int .i64 w] 3)
  have h1 := cRises A m c want n _ hm hs2 hmc hm6 hn
  have H1 := Lib.hid h1
  have HN := Lib.hid h
  have HB := Lib.hid hB
  clear h1 h hm hs hs2 hB
  by_cases hqm : q = m
  · have hqI : ((q : Int) != (m : Int)) = false := by simp; omega
    have HQ := Lib.hid hqm
    clear hqm
    go_enter Try.func14, Try.ntmps14
    go_wp2_with fail
    (with_reducible refine H1.out.mono ?_); rintro e w1 ⟨⟨b, rfl, hr⟩, rfl⟩
    cases b with
    | true => exact absurd ⟨hr.1 rfl, HQ.out⟩ HN.out
    | false =>
      clear hr
      go_wp2_with fail
      go_ret2
      exact ⟨rfl, HB.out⟩
  · have hqI : ((q : Int) != (m : Int)) = true := by simp; omega
    go_enter Try.func14, Try.ntmps14
    go_wp2_with fail
    (with_reducible refine H1.out.mono ?_); rintro e w1 ⟨⟨b, rfl, hr⟩, rfl⟩
    cases b with
    | true =>
      clear hr
      go_wp2_with fail
      go_ret2
      exact ⟨rfl, HB.out⟩
    | false =>
      clear hr
      go_wp2_with fail
      go_ret2
      exact ⟨rfl, HB.out⟩
set_option maxRecDepth 100000 in
set_option maxHeartbeats 4000000 in
theorem cRootM (w : Int) (a : List Bool) (n : Nat) (A : Option Addr) (m c : Nat) (Al : Option Addr) (cl : Nat) (ls : List ByteArray) (Ap : Option Addr) (r cp : Nat) (ps : List ByteArray) (W : World) (ha : a.length = n) (hna : noneB a = false) (hn6 : n ≤ 1000000) (hm : (idxI a).length = m) (hs : Ints W A (idxI a)) (hmc : m ≤ c)
    (hll : ls.length = m) (hls : Strs W Al ls) (hlc : m ≤ cl) (hpl : ps.length = r) (hps : Strs W Ap ps) (hpc : r ≤ cp) (hr6 : r ≤ 1000000) (hzl : ∀ s ∈ ls, s.size ≤ 300000000) (hzp : ∀ s ∈ ps, s.size ≤ 300000000) :
    Calls Try.prog 14 #[.int .i64 w, .int .i64 n, .slice A m c, .slice Al m cl, .slice Ap r cp] W fun e W' => e = .returned (.tuple (if r = cn a ∧ (ls.all fun s => s.size == wd w) = true ∧ (ps.all fun s => s.size == wd w) = true then #[.string (upM (wd w) a ls ps), .int .i64 0] else #[.string ⟨#[]⟩, .int .i64 2])) ∧ Below W.heap.size W W' := by
  have hB := (Below.refl W.heap.size W).alloc (Nat.le_refl _) (.cells #[.int .i64 w] 3)
  have hs2 := hs.alloc (.cells #[.int .i64 w] 3)
  have hls2 := hls.alloc (.cells #[.int .i64 w] 3)
  have hps2 := hps.alloc (.cells #[.int .i64 w] 3)
  have hle := idx_length_le a
  have hge := noneB_false a hna
  rw [← idxI_length] at hle hge
  have hri := rise_of a hna
  rw [ha] at hri
  have cb : (W.alloc (.cells #[.int .i64 w] 3)).cell? ⟨W.heap.size, 0, none⟩ = some (.int .i64 w) := ((Blk.new W 3 #[.int .i64 w]).cell 0).trans rfl
  have h1 := cRises A m c (idxI a) (n : Int) _ hm hs2 hmc (by omega) (by omega)
  have g1 := cCountM n a A m c _ ha hm hs2 hmc hn6 (by omega)
  have hcl := cn_le n a ha (by omega)
  have k1 := fun W' hc h => cContainsFunc41 ⟨W.heap.size, 0, none⟩ (fun s => !(s.size == wd w)) Al m cl ls W' hll h hlc (by omega) (fun s => cShort41 w W.heap.size W' hc s)
  have k2 := fun W' hc h => cContainsFunc41 ⟨W.heap.size, 0, none⟩ (fun s => !(s.size == wd w)) Ap r cp ps W' hpl h hpc (by omega) (fun s => cShort41 w W.heap.size W' hc s)
  simp only [any_short'] at k1 k2
  have u1 := fun g W' h hx hC hi hc => cUpM g w n a A m c ls ps W' ha hm h hmc hx hn6 (by omega) hC hi hc (by omega) (by omega) hzl hzp
  have H1 := Lib.hid h1
  have G1 := Lib.hid g1
  have HRI := Lib.hid hri
  have HB := Lib.hid hB
  have hB8 := hB
  have HS := Lib.hid hs2
  have HLS := Lib.hid hls2
  have HPS := Lib.hid hps2
  have HKA := Lib.hid k1
  have HKB := Lib.hid k2
  have HU := Lib.hid u1
  have HMA := Lib.hid hm
  have HLL := Lib.hid hll
  have HPL := Lib.hid hpl
  have HIL := Lib.hid (idxI_length a)
  have hbl : W.heap.size < (W.alloc (.cells #[.int .i64 w] 3)).heap.size := by simp
  have hm1 : 1 ≤ m := by rw [← hm]; exact hge
  clear h1 g1 hri hB hs hs2 hls hls2 hps hps2 k1 k2 u1 hm hll hpl hzl hzp hle hge
  by_cases hrK : r = cn a
  · have hrI : ((r : Int) != ((cn a : Nat) : Int)) = false := by simp; omega
    obtain ⟨K, HK⟩ : ∃ x, Hid (cn a = x) := ⟨_, Lib.hid rfl⟩
    simp only [HK.out] at hrI hrK G1 ⊢
    have HRK := Lib.hid hrK
    clear hrK
    cases hal : (ls.all fun s => s.size == wd w) with
    | false =>
      have HAL := Lib.hid hal
      rw [if_neg (fun h => by have := h.2.1; cases this)]
      clear hal
      go_enter Try.func14, Try.ntmps14
      go_wp2_with fail
      (with_reducible refine H1.out.mono ?_); rintro e w1 ⟨⟨b, rfl, hr⟩, rfl⟩
      cases b with
      | false => exact absurd (hr.2 HRI.out) (by decide)
      | true =>
        clear hr
        go_wp2_with fail
        (with_reducible refine G1.out.mono ?_); rintro e w2 ⟨rfl, hb2⟩
        have cb2 : w2.cell? ⟨W.heap.size, 0, none⟩ = some (.int .i64 w) := (hb2.cell hbl).trans cb
        have ka := HKA.out w2 cb2 (HLS.out.fresh hb2)
        rw [HAL.out] at ka
        have KA := Lib.hid ka
        clear ka
        go_wp2_with fail
        (with_reducible refine KA.out.mono ?_); rintro e w3 ⟨rfl, rfl⟩
        have hbf := HB.out.trans (hb2.mono HB.out.size)
        clear hb2
        go_wp2_with fail
        go_ret2
        exact ⟨rfl, hbf⟩
    | true =>
      have HAL := Lib.hid hal
      cases hap : (ps.all fun s => s.size == wd w) with
      | false =>
        have HAP := Lib.hid hap
        rw [if_neg (fun h => by have := h.2.2; cases this)]
        clear hal hap
        go_enter Try.func14, Try.ntmps14
        go_wp2_with fail
        (with_reducible refine H1.out.mono ?_); rintro e w1 ⟨⟨b, rfl, hr⟩, rfl⟩
        cases b with
        | false => exact absurd (hr.2 HRI.out) (by decide)
        | true =>
          clear hr
          go_wp2_with fail
          (with_reducible refine G1.out.mono ?_); rintro e w2 ⟨rfl, hb2⟩
          have cb2 : w2.cell? ⟨W.heap.size, 0, none⟩ = some (.int .i64 w) := (hb2.cell hbl).trans cb
          have ka := HKA.out w2 cb2 (HLS.out.fresh hb2)
          rw [HAL.out] at ka
          have KA := Lib.hid ka
          clear ka
          go_wp2_with fail
          (with_reducible refine KA.out.mono ?_); rintro e w3 ⟨rfl, rfl⟩
          have kb := HKB.out w2 cb2 (HPS.out.fresh hb2)
          rw [HAP.out] at kb
          have KB := Lib.hid kb
          clear kb
          go_wp2_with fail
          (with_reducible refine KB.out.mono ?_); rintro e w3 ⟨rfl, rfl⟩
          have hbf := HB.out.trans (hb2.mono HB.out.size)
          clear hb2
          go_wp2_with fail
          go_ret2
          exact ⟨rfl, hbf⟩
      | true =>
        have HAP := Lib.hid hap
        rw [if_pos ⟨HRK.out, rfl, rfl⟩]
        obtain ⟨Z, HZ⟩ : ∃ x, Hid (upM (wd w) a ls ps = x) := ⟨_, Lib.hid rfl⟩
        rw [HZ.out]
        clear hal hap
        go_enter Try.func14, Try.ntmps14
        go_wp2_with fail
        (with_reducible refine H1.out.mono ?_); rintro e w1 ⟨⟨b, rfl, hr⟩, rfl⟩
        cases b with
        | false => exact absurd (hr.2 HRI.out) (by decide)
        | true =>
          clear hr
          go_wp2_with fail
          (with_reducible refine G1.out.mono ?_); rintro e w2 ⟨rfl, hb2⟩
          have cb2 : w2.cell? ⟨W.heap.size, 0, none⟩ = some (.int .i64 w) := (hb2.cell hbl).trans cb
          have ka := HKA.out w2 cb2 (HLS.out.fresh hb2)
          rw [HAL.out] at ka
          have KA := Lib.hid ka
          clear ka
          go_wp2_with fail
          (with_reducible refine KA.out.mono ?_); rintro e w3 ⟨rfl, rfl⟩
          have kb := HKB.out w2 cb2 (HPS.out.fresh hb2)
          rw [HAP.out] at kb
          have KB := Lib.hid kb
          clear kb
          go_wp2_with fail
          (with_reducible refine KB.out.mono ?_); rintro e w3 ⟨rfl, rfl⟩
          have HBW := Lib.hid (hB8.trans (hb2.mono hB8.size))
          have hgg := hb2.size
          have hC : CL (w2.alloc (.cells #[.int .i64 w, .slice Al m cl, .slice Ap r cp] 68)) w2.heap.size w ls ps := by
            refine ⟨Al, cl, Ap, cp, by rw [HLL.out, HPL.out]; exact Blk.new w2 68 _, by rw [HLL.out]; exact hlc, by rw [HPL.out]; exact hpc, (HLS.out.fresh hb2).alloc _, (HPS.out.fresh hb2).alloc _, fun hl b o e => ?_, fun hl b o e => ?_⟩
            · obtain ⟨g', o', e1, e2, _⟩ := (HLS.out.fresh hb2) hl
              rw [e1] at e; injection e with e; injection e with e _ _; omega
            · obtain ⟨g', o', e1, e2, _⟩ := (HPS.out.fresh hb2) hl
              rw [e1] at e; injection e with e; injection e with e _ _; omega
          have hu := HU.out w2.heap.size (w2.alloc (.cells #[.int .i64 w, .slice Al m cl, .slice Ap r cp] 68)) ((HS.out.fresh hb2).alloc _) (fun b o e => by
            obtain ⟨g', o', e1, e2, _⟩ := (HS.out.fresh hb2) (by rw [HMA.out]; omega)
            rw [e1] at e; injection e with e; injection e with e _ _; omega) hC (by rw [HLL.out, ← HIL.out, HMA.out]; exact Nat.le_refl m) (by rw [HPL.out, HK.out]; exact Nat.le_of_eq HRK.out.symm)
          rw [HZ.out] at hu
          have HUU := Lib.hid hu
          clear hu hC
          have hba := HBW.out.alloc HBW.out.size (.cells #[.int .i64 w, .slice Al m cl, .slice Ap r cp] 68)
          have hgg2 : W.heap.size ≤ w2.heap.size := HBW.out.size
          go_wp2_with fail
          (with_reducible refine HUU.out.mono ?_); rintro e w5 ⟨rfl, _, ho⟩
          have hbf := hba.trans (ho.below (B := W.heap.size) hba.size (fun k e => by omega))
          clear ho hba
          go_wp2_with fail
          go_ret2
          exact ⟨rfl, hbf⟩
  · have hrI : ((r : Int) != ((cn a : Nat) : Int)) = true := by simp; omega
    rw [if_neg (fun h => hrK h.1)]
    obtain ⟨K, HK⟩ : ∃ x, Hid (cn a = x) := ⟨_, Lib.hid rfl⟩
    rw [HK.out] at hrI
    simp only [HK.out] at G1
    clear hrK
    go_enter Try.func14, Try.ntmps14
    go_wp2_with fail
    (with_reducible refine H1.out.mono ?_); rintro e w1 ⟨⟨b, rfl, hr⟩, rfl⟩
    cases b with
    | false => exact absurd (hr.2 HRI.out) (by decide)
    | true =>
      clear hr
      go_wp2_with fail
      (with_reducible refine G1.out.mono ?_); rintro e w2 ⟨rfl, hb2⟩
      have hbf := HB.out.trans (hb2.mono HB.out.size)
      clear hb2
      go_wp2_with fail
      go_ret2
      exact ⟨rfl, hbf⟩
end Go.Proofs.Ytcnhhlnbmliihaa
namespace Go.Proofs.Ytcnhhlnbmliihaa
open Go.RowKit
set_option linter.unusedVariables false
set_option linter.unusedSimpArgs false

def checkM (x : ByteArray) (e : Nat) (root : ByteArray) : Nat := if e = 0 ∧ ¬ x = root then 11 else e
set_option maxRecDepth 100000 in
theorem cCheckM (w n : Int) (want ls ps : Value) (root x : ByteArray) (e : Nat) (W : World)
    (h : Calls Try.prog 14 #[.int .i64 w, .int .i64 n, want, ls, ps] W fun r W' => r = .returned (.tuple #[.string x, .int .i64 (e : Int)]) ∧ Below W.heap.size W W') :
    Calls Try.prog 16 #[.int .i64 w, .string root, .int .i64 n, want, ls, ps] W fun r W' => r = .returned (.int .i64 (checkM x e root : Nat)) ∧ Below W.heap.size W W' := by
  have H := Lib.hid h
  clear h
  by_cases he : e = 0
  · subst he
    by_cases hx : x = root
    · have hc : checkM x 0 root = 0 := if_neg (fun h => h.2 hx)
      have hx2 : (x.toList == root.toList) = true := by rw [hx]; exact beq_self_eq_true _
      rw [hc]
      clear hc hx
      go_enter Try.func16, Try.ntmps16
      go_wp2_with fail
      (with_reducible refine H.out.mono ?_); rintro r w1 ⟨rfl, hb1⟩
      go_wp2_with fail
      go_ret
      exact ⟨rfl, hb1⟩
    · have hc : checkM x 0 root = 11 := if_pos ⟨rfl, hx⟩
      have hx2 := beq_text_ne hx
      rw [hc]
      clear hc hx
      go_enter Try.func16, Try.ntmps16
      go_wp2_with fail
      (with_reducible refine H.out.mono ?_); rintro r w1 ⟨rfl, hb1⟩
      go_wp2_with fail
      go_ret
      exact ⟨rfl, hb1⟩
  · have hc : checkM x e root = e := if_neg (fun h => he h.1)
    have heI : ((e : Int) == 0) = false := by simp; omega
    rw [hc]
    clear hc
    go_enter Try.func16, Try.ntmps16
    go_wp2_with fail
    (with_reducible refine H.out.mono ?_); rintro r w1 ⟨rfl, hb1⟩
    go_wp2_with fail
    go_ret
    exact ⟨rfl, hb1⟩
end Go.Proofs.Ytcnhhlnbmliihaa
