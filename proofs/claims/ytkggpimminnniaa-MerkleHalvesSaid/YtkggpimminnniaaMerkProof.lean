/- merkle.Proof. -/
import Derived.Test.YtkggpimminnniaaMerkRoot
import Derived.Test.YtkggpimminnniaaOrdT
import Derived.Test.YtkggpimminnniaaWi
namespace Go.Proofs.Ytkggpimminnniaa
open Go.RowKit
set_option linter.unusedVariables false
set_option linter.unusedSimpArgs false

/-- A slice's length. -/
def slen : Value → Nat | .slice _ n _ => n | _ => 0
set_option maxRecDepth 100000 in
/-- The closure 'side'. -/
theorem cside (w : Int) (g0 : Nat) (A : Option Addr) (n c : Nat) (l : List ByteArray) (Ap : Option Addr) (np cp : Nat) (ps : List ByteArray) (W : World) (hn : l.length = n) (hs : Strs W A l) (hnc : n ≤ c) (hn6 : n ≤ 1000000) (hz : ∀ s ∈ l, s.size ≤ 300000000)
    (h0 : Blk W g0 3 #[.int .i64 w]) (h1 : Blk W (g0 + 1) 28 #[.slice Ap np cp]) (hS : SL W (g0 + 1 + 1) 9 (.slice Ap np cp) (ps.map Value.string)) (hps : ps.length = np) (hp6 : np ≤ 1000000) :
    Calls Try.prog 48 #[.slice A n c, .pointer (some ⟨g0 + 1, 0, none⟩), .pointer (some ⟨g0, 0, none⟩)] W fun e W' => e = .returned (.tuple #[]) ∧ ∃ Ap' cp', np + 1 ≤ cp' ∧ Blk W' g0 3 #[.int .i64 w] ∧ Blk W' (g0 + 1) 28 #[.slice Ap' (np + 1) cp'] ∧ SL W' (g0 + 1 + 1) 9 (.slice Ap' (np + 1) cp') ((ps ++ [root (wd w) l]).map Value.string) ∧ Below g0 W W' := by
  have h2 := fun W (h : Strs W A l) => cRoot w n A c l W hn h hnc hn6 hz
  obtain ⟨R, HR⟩ : ∃ X, Hid (root (wd w) l = X) := ⟨_, Lib.hid rfl⟩
  simp only [HR.out] at h2
  have hg1 := h1.lt
  have c1 : W.drew.cell? ⟨g0 + 1, 0, none⟩ = some (.slice Ap np cp) := (h1.cell 0).trans rfl
  have c0 : W.drew.cell? ⟨g0, 0, none⟩ = some (.int .i64 w) := (h0.cell 0).trans rfl
  have H2 := Lib.hid h2
  have H0 := Lib.hid h0
  have H1 := Lib.hid h1
  have HS := Lib.hid hS
  have HST := Lib.hid hs
  have hB0 : Below g0 W W.drew := (Below.refl g0 W).drew
  clear h2 h0 h1 hS hs hn hz
  go_enter Try.func48, Try.ntmps48
  go_wp2_with fail
  refine wp_region_lexU rfl (fun w' => w'.cell? ⟨g0 + 1, 0, none⟩ = some (.slice Ap np cp) ∧ w'.cell? ⟨g0, 0, none⟩ = some (.int .i64 w)) 0 [] (by kernel_rfl) (by kernel_rfl) ⟨c1, c0⟩ ?_
  have c2 := And.intro c1 c0
  repeat (first
    | (refine wpX_load0 rfl rfl _ _ rfl _ rfl _ rfl Try.underlying28 _ (fun w' h => h.1) c2 ?_; simp only [Act.put, List.setIfInBounds_toArray, List.set_cons_zero, List.set_cons_succ, List.getElem_toArray, List.getElem_cons_zero, List.getElem_cons_succ])
    | (refine wpX_load0 rfl rfl _ _ rfl _ rfl _ rfl Try.underlying3 _ (fun w' h => h.2) c2 ?_; simp only [Act.put, List.setIfInBounds_toArray, List.set_cons_zero, List.set_cons_succ, List.getElem_toArray, List.getElem_cons_zero, List.getElem_cons_succ])
    | (refine wpX_pure rfl rfl rfl ?_; intro K hK; go_big_quiet_op; refine hK _ ?_; clear hK K))
  clear c1 c0 c2
  refine wpX_eff rfl rfl ?_; intro K hK; go_wp2_with fail
  (with_reducible refine (H2.out _ HST.out.drew).mono ?_); rintro e w1 ⟨rfl, hb1⟩
  go_wp2_with fail
  have hsz : W.drew.heap.size = W.heap.size := rfl
  rw [hsz] at hb1
  have HB1 := Lib.hid (hB0.trans (hb1.mono (by omega)))
  have H01 := Lib.hid (H0.out.drew.below hb1 (by show g0 < W.heap.size; omega))
  have H11 := Lib.hid (H1.out.drew.below hb1 hg1)
  have HS1 := Lib.hid (SL.below (w := W.drew) HS.out hb1 (Nat.le_refl _))
  have hs1 := hb1.size
  have hs2 : W.heap.size ≤ w1.heap.size := hs1
  refine hK _ _ ⟨(H11.out.cell 0).trans rfl, (H01.out.cell 0).trans rfl⟩ ?_; clear hK K
  clear hb1 hB0 hsz hs1
  refine wpX_eff rfl rfl ?_; intro K hK; go_wp2_with fail
  refine hK _ _ ⟨((H11.out.alloc _).cell 0).trans rfl, ((H01.out.alloc _).cell 0).trans rfl⟩ ?_; clear hK K
  refine wpX_eff rfl rfl ?_; intro K hK
  (refine wpList_app1 Value.string (fun _ => rfl) str_elem rfl (.tmp 4) (.tmp 8) rfl (g0 + 1 + 1) Ap np cp _ R _ hps rfl HS1.out rfl _ rfl rfl (by omega) (by decide) (by omega) ?_; intro A3 c3 w3 hS3 hc3 hb3; dsimp only [Act.put])
  have H02 := Lib.hid (H01.out.below hb3 (by omega))
  have h12 := H11.out.below hb3 (by omega)
  refine wpList_nil (hK _ _ ⟨(h12.cell 0).trans rfl, (H02.out.cell 0).trans rfl⟩ ?_); clear hK K
  refine wpX_nil ?_
  have f1 := h12.frozen 0
  have c1 : w3.cell? ⟨g0 + 1, 0, none⟩ = some (.slice Ap np cp) := (h12.cell 0).trans rfl
  have H12 := Lib.hid h12
  have HB3 := Lib.hid (HB1.out.trans (hb3.mono (by omega)))
  have HS3 := Lib.hid hS3
  clear h12 hS3 hb3
  refine wpX_eff rfl rfl ?_; intro K hK; go_wp2_with fail
  refine hK _ _ trivial ?_; clear hK K
  refine wpX_nil ?_
  go_wp2_with fail
  go_end0
  have hk1 : ∀ k, (Value.slice A3 (np + 1) c3).ownBlock = some k → ¬ k = g0 + 1 := fun k e => by have := SL.own_lt HS3.out k e; omega
  refine ⟨rfl, A3, c3, hc3, H02.out.far (p := ⟨g0 + 1, 0, none⟩) (by show g0 ≠ g0 + 1; omega) _, H12.out.set_ 0 _, ?_, HB3.out.setCell (by show g0 ≤ g0 + 1; omega) _⟩
  rw [HR.out]
  exact (Only.setCell (S := fun k => k = g0 + 1) (Only.refl _ w3) (p := ⟨g0 + 1, 0, none⟩) (fun _ => rfl) _).sl HS3.out hk1

/-- A row that is turned round in place, so far. -/
def flip1 (L : List ByteArray) (a b : Nat) : List ByteArray := (L.set a (L.getD b ByteArray.empty)).set b (L.getD a ByteArray.empty)
theorem flip1_map (L : List ByteArray) (a b : Nat) : ((L.map Value.string).set a (.string (L.getD b ByteArray.empty))).set b (.string (L.getD a ByteArray.empty)) = (flip1 L a b).map Value.string := by
  simp [flip1, List.map_set]
theorem map_str_get (L : List ByteArray) (a : Nat) (h : a < L.length) : (L.map Value.string)[a]? = some (.string (L.getD a ByteArray.empty)) := by simp [h]
def Flip (ps L : List ByteArray) (a : Nat) : Prop := L.length = ps.length ∧ ∀ j, j < ps.length → L.getD j ByteArray.empty = if j < a ∨ ps.length ≤ j + a then ps.getD (ps.length - 1 - j) ByteArray.empty else ps.getD j ByteArray.empty
theorem Flip.start (ps : List ByteArray) : Flip ps ps 0 := ⟨rfl, fun j hj => by rw [if_neg (by omega)]⟩
theorem Flip.step {ps L : List ByteArray} {a b : Nat} (h : Flip ps L a) (hab : a + b + 1 = ps.length) (hlt : a < b) : Flip ps (flip1 L a b) (a + 1) := by
  obtain ⟨h1, h2⟩ := h
  refine ⟨by simp [flip1, h1], fun j hj => ?_⟩
  have ha := h2 a (by omega)
  have hb := h2 b (by omega)
  have hj2 := h2 j hj
  rw [if_neg (by omega)] at ha hb
  unfold flip1
  rw [List.getD_eq_getElem?_getD, List.getElem?_set]
  by_cases e1 : b = j
  · subst e1
    rw [if_pos rfl, if_pos (by simp; omega), if_pos (by omega), Option.getD_some, ha]
    congr 1; omega
  · rw [if_neg e1, List.getElem?_set]
    by_cases e2 : a = j
    · subst e2
      rw [if_pos rfl, if_pos (by omega), if_pos (by omega), Option.getD_some, hb]
      congr 1; omega
    · rw [if_neg e2, ← List.getD_eq_getElem?_getD, hj2]
      by_cases e3 : j < a ∨ ps.length ≤ j + a
      · rw [if_pos e3, if_pos (by omega)]
      · rw [if_neg e3, if_neg (by omega)]
theorem Flip.done {ps L : List ByteArray} {a : Nat} (h : Flip ps L a) (hlt : ps.length ≤ 2 * a + 1) : L = ps.reverse := by
  obtain ⟨h1, h2⟩ := h
  refine List.ext_getElem? fun j => ?_
  by_cases hj : j < ps.length
  · have h3 := h2 j hj
    rw [List.getElem?_reverse hj]
    rw [List.getD_eq_getElem?_getD, List.getElem?_eq_getElem (by omega)] at h3
    rw [List.getElem?_eq_getElem (by omega), List.getElem?_eq_getElem (by omega)]
    rw [Option.getD_some] at h3
    rw [h3]
    split
    · rw [List.getD_eq_getElem?_getD, List.getElem?_eq_getElem (by omega)]; rfl
    · have e : ps.length - 1 - j = j := by omega
      rw [List.getD_eq_getElem?_getD, List.getElem?_eq_getElem hj, Option.getD_some]
      simp only [e]
  · rw [List.getElem?_eq_none (by omega), List.getElem?_eq_none (by simp; omega)]
theorem Strs.of_rw {w : World} {g : Nat} {t : TypeId} {L : List ByteArray} (h : Rw w g t (L.map Value.string)) : Strs w (some ⟨g, 0, none⟩) L := fun _ => ⟨g, 0, rfl, h.lt, fun j hj => by rw [Nat.zero_add]; exact h.cell j _ (by simp [hj])⟩
attribute [irreducible] flip1
/-- The state of the second loop's row. -/
def FlipRow (w : World) (g0 : Nat) (ps : List ByteArray) (Ap : Option Addr) (a : Nat) : Prop :=
  ∃ L, Flip ps L a ∧ (0 < ps.length → ∃ g, Ap = some ⟨g, 0, none⟩ ∧ g0 + 1 + 1 ≤ g ∧ Rw w g 9 (L.map Value.string))
theorem FlipRow.of_sl {w : World} {g0 : Nat} {ps : List ByteArray} {Ap : Option Addr} {n c : Nat} (h : SL w (g0 + 1 + 1) 9 (.slice Ap n c) (ps.map Value.string)) : FlipRow w g0 ps Ap 0 := by
  refine ⟨ps, Flip.start ps, fun h0 => ?_⟩
  obtain ⟨g, cap, e1, _, h2, h3⟩ := h.rw (by intro e; simp at e; subst e; simp at h0)
  injection e1 with e1 _ _
  exact ⟨g, e1, h2, h3⟩
theorem FlipRow.strs {w : World} {g0 : Nat} {ps : List ByteArray} {Ap : Option Addr} {a : Nat} (h : FlipRow w g0 ps Ap a) (hl : ps.length ≤ 2 * a + 1) : Strs w Ap ps.reverse := by
  obtain ⟨L, h1, h2⟩ := h
  have e := h1.done hl
  subst e
  intro h0
  obtain ⟨g, rfl, _, h3⟩ := h2 (by simpa using h0)
  exact Strs.of_rw h3 h0

set_option maxRecDepth 100000 in
set_option maxHeartbeats 2000000 in
theorem cProof (w : Int) (A : Option Addr) (n c i : Nat) (l : List ByteArray) (W : World) (hn : l.length = n) (hs : Strs W A l) (hnc : n ≤ c) (hn6 : n ≤ 1000000) (hz : ∀ s ∈ l, s.size ≤ 300000000) (hi : i < n) :
    Calls Try.prog 28 #[.int .i64 w, .int .i64 i, .slice A n c] W fun e W' => ∃ A' c', e = .returned (.tuple #[.slice A' (proof (wd w) i l).length c', .int .i64 0]) ∧ (proof (wd w) i l).length ≤ c' ∧ Strs W' A' (proof (wd w) i l) ∧ Below W.heap.size W W' := by
  have hB0 := (((Below.refl W.heap.size W).alloc (Nat.le_refl _) (.cells #[.int .i64 w] 3)).alloc (by simp) (.cells #[.slice none 0 0] 28))
  have b0 : Blk ((W.alloc (.cells #[.int .i64 w] 3)).alloc (.cells #[.slice none 0 0] 28)) W.heap.size 3 #[.int .i64 w] := (Blk.new W _ _).alloc _
  have b1 : Blk ((W.alloc (.cells #[.int .i64 w] 3)).alloc (.cells #[.slice none 0 0] 28)) (W.heap.size + 1) 28 #[.slice none 0 0] := by
    have := Blk.new (W.alloc (.cells #[.int .i64 w] 3)) 28 #[.slice none 0 0]
    rw [show (W.alloc (.cells #[.int .i64 w] 3)).heap.size = W.heap.size + 1 by simp] at this
    exact this
  have HB0 := Lib.hid hB0
  have H0 := Lib.hid b0
  have H1 := Lib.hid b1
  have HST := Lib.hid hs
  have HN := Lib.hid hn
  have HZ := Lib.hid hz
  have hnI : (n : Int) ≤ 1000000 := by omega
  have hiI : (i : Int) < (n : Int) := by omega
  have g0 : decide ((i : Int) < 0) = false := decide_eq_false (by omega)
  have g1 : decide ((n : Int) ≤ (i : Int)) = false := decide_eq_false (by omega)
  have g2 : decide (n ≤ i) = false := decide_eq_false (by omega)
  clear hB0 b0 b1 hs hn hz
  go_enter Try.func28, Try.ntmps28
  go_wp2_with fail
  go_loopw [1, 2] (fun u v wr => ∃ (j : Nat) (A1 : Option Addr) (n1 c1 : Nat) (l1 : List ByteArray) (Ap : Option Addr) (np cp : Nat) (ps : List ByteArray),
      u = .int .i64 j ∧ v = .slice A1 n1 c1 ∧ l1.length = n1 ∧ Strs W A1 l1 ∧ n1 ≤ c1 ∧ j < n1 ∧ (∀ s ∈ l1, s.size ≤ 300000000) ∧ Blk wr W.heap.size 3 #[.int .i64 w] ∧ Blk wr (W.heap.size + 1) 28 #[.slice Ap np cp] ∧ SL wr (W.heap.size + 1 + 1) 9 (.slice Ap np cp) (ps.map Value.string) ∧ ps.length = np ∧ np ≤ cp ∧ np + n1 ≤ n ∧ Below W.heap.size W wr ∧ proof (wd w) i l = proof (wd w) j l1 ++ ps.reverse)
    (fun _ v _ => slen v)
  case atStart =>
    exact ⟨i, A, n, c, l, none, 0, 0, [], rfl, rfl, HN.out, HST.out, hnc, hi, HZ.out, H0.out, H1.out, SL.nil _ _ _, rfl, by omega, by omega, HB0.out, by simp⟩
  case round =>
    clear HB0 H0 H1
    obtain ⟨j, A1, n1, c1, l1, Ap, np, cp, ps, rfl, rfl, hl1, hs1, hnc1, hj, hz1, hb0, hb1, hS, hps, hpc, hnp, hB, hpr⟩ := hrel
    have HL1 := Lib.hid hl1
    have HS1 := Lib.hid hs1
    have HZ1 := Lib.hid hz1
    have HB0 := Lib.hid hb0
    have HB1 := Lib.hid hb1
    have HS := Lib.hid hS
    have HPS := Lib.hid hps
    have HB := Lib.hid hB
    have HPR := Lib.hid hpr
    have hn1I : (n1 : Int) ≤ 1000000 := by omega
    clear hl1 hs1 hz1 hS hps hB hpr
    rcases Nat.lt_or_ge n1 2 with h2 | h2
    · have e1 : n1 = 1 := by omega
      subst e1
      have hpr := HPR.out
      rw [proof_one (wd w) j l1 (by rw [HL1.out]; omega), List.nil_append] at hpr
      have HPE := Lib.hid hpr
      have hlr : (proof (wd w) i l).length = np := by rw [hpr, List.length_reverse, HPS.out]
      have hf0 := FlipRow.of_sl HS.out
      have HF := Lib.hid hf0
      have c1 : wr.drew.cell? ⟨W.heap.size + 1, 0, none⟩ = some (.slice Ap np cp) := (hb1.cell 0).trans rfl
      have HLR := Lib.hid hlr
      have hnpI : (np : Int) ≤ 1000000 := by omega
      have hBd := HB.out.drew
      clear hpr hf0 hb0 hb1 hlr
      go_wp2_with fail
      refine wp_region_lexX [] (by kernel_rfl) (by kernel_rfl) ?_
      repeat (first
        | (refine wpX_pure rfl rfl rfl ?_; intro K hK; go_big_quiet_op; refine hK _ ?_; clear hK K)
        | (refine wpX_load rfl rfl rfl ?_; intro K hK; go_big_quiet_op; refine hK _ ?_; clear hK K))
      refine wpX_nil ?_
      go_wp2_with fail
      clear c1
      have HB1d := Lib.hid (HB1.out.drew)
      have HFd : Hid (FlipRow wr.drew W.heap.size ps Ap 0) := Lib.hid HF.out
      clear HF HB1 HB0 HS HB
      obtain ⟨wr0, HWR⟩ : ∃ x, Hid (wr.drew = x) := ⟨_, Lib.hid rfl⟩
      rw [HWR.out] at HB1d HFd hBd
      rw [HWR.out]
      clear HWR wr
      go_loopw [11, 12] (fun u v wr => ∃ a : Nat, u = .int .i64 a ∧ v = .int .i64 ((np : Int) - 1 - a) ∧ 2 * a ≤ np + 1 ∧ Blk wr (W.heap.size + 1) 28 #[.slice Ap np cp] ∧ FlipRow wr W.heap.size ps Ap a ∧ Below W.heap.size W wr)
        (fun u _ _ => np - (intOf u).toNat)
      case atStart => exact ⟨0, rfl, by go_num, by omega, HB1d.out, HFd.out, hBd⟩
      case round =>
        clear HB1d HFd hBd
        obtain ⟨a, rfl, rfl, ha, hb1, hf, hB⟩ := hrel
        by_cases hab : (a : Int) < (np : Int) - 1 - (a : Int)
        · obtain ⟨b, hb⟩ : ∃ b : Nat, (np : Int) - 1 - (a : Int) = (b : Int) := ⟨np - 1 - a, by omega⟩
          rw [hb] at hab ⊢
          obtain ⟨L, hL, hrow⟩ := hf
          obtain ⟨g, rfl, hg, hR⟩ := hrow (by rw [HPS.out]; omega)
          have hLn : L.length = np := hL.1.trans HPS.out
          have d1 : wr.drew.cell? ⟨g, a, none⟩ = some (.string (L.getD a ByteArray.empty)) := hR.cell a _ (map_str_get L a (by omega))
          have d2 : wr.drew.cell? ⟨g, b, none⟩ = some (.string (L.getD b ByteArray.empty)) := hR.cell b _ (map_str_get L b (by omega))
          have f1 : wr.drew.frozen? ⟨g, a, none⟩ = false := hR.frozen a
          have f2 : wr.drew.frozen? ⟨g, b, none⟩ = false := hR.frozen b
          have c1 : wr.drew.cell? ⟨W.heap.size + 1, 0, none⟩ = some (.slice (some ⟨g, 0, none⟩) np cp) := (hb1.cell 0).trans rfl
          have hr2 := ((hR.drewN 1).set_ a (.string (L.getD b ByteArray.empty))).set_ b (.string (L.getD a ByteArray.empty))
          rw [flip1_map] at hr2
          have hR1 := hR.set_ a (.string (L.getD b ByteArray.empty))
          have d3 : (wr.setCell ⟨g, a, none⟩ (.string (L.getD b ByteArray.empty))).cell? ⟨g, b, none⟩ = some (.string (L.getD b ByteArray.empty)) := hR1.cell b _ (by rw [List.getElem?_set_ne (by omega)]; exact map_str_get L b (by omega))
          have f3 : (wr.setCell ⟨g, a, none⟩ (.string (L.getD b ByteArray.empty))).frozen? ⟨g, b, none⟩ = false := hR1.frozen b
          have f4 : (wr.setCell ⟨g, a, none⟩ (.string (L.getD b ByteArray.empty))).drew.frozen? ⟨g, b, none⟩ = false := hR1.frozen b
          clear hR1
          have hf2 := hL.step (b := b) (by rw [HPS.out]; omega) (by omega)
          obtain ⟨L2, HL2⟩ : ∃ x, Hid (flip1 L a b = x) := ⟨_, Lib.hid rfl⟩
          rw [HL2.out] at hr2 hf2
          obtain ⟨x, HX⟩ : ∃ x, Hid (L.getD a ByteArray.empty = x) := ⟨_, Lib.hid rfl⟩
          obtain ⟨y, HY⟩ : ∃ x, Hid (L.getD b ByteArray.empty = x) := ⟨_, Lib.hid rfl⟩
          rw [HX.out] at d1 hr2
          rw [HY.out] at d2 d3 f3 f4 hr2
          have HR2 := Lib.hid hr2
          have HF2 := Lib.hid hf2
          have S0 : Blk wr.drew (W.heap.size + 1) 28 #[.slice (some ⟨g, 0, none⟩) np cp] := hb1
          have S1 := hb1.far (p := ⟨g, a, none⟩) (by show W.heap.size + 1 ≠ g; omega) (.string y)
          have S2 := S1.far (p := ⟨g, b, none⟩) (by show W.heap.size + 1 ≠ g; omega) (.string x)
          have hb2 := ((hb1.drewN 1).far (p := ⟨g, a, none⟩) (by show W.heap.size + 1 ≠ g; omega) (.string y)).far (p := ⟨g, b, none⟩) (by show W.heap.size + 1 ≠ g; omega) (.string x)
          have HB2 := Lib.hid hb2
          have HBB := Lib.hid ((hB.drew.setCell (p := ⟨g, a, none⟩) (by show W.heap.size ≤ g; omega) (.string y)).setCell (p := ⟨g, b, none⟩) (by show W.heap.size ≤ g; omega) (.string x))
          have hbn : (b : Int) < (np : Int) := by omega
          have hne : ¬ a = b := by omega
          have hne2 : ¬ b = a := by omega
          have han : (a : Int) < (np : Int) := by omega
          clear hr2 hf2 hb2 hL hR hB hb1 hrow
          go_wp2_with fail
          refine wp_region_lexS (fun w' => Blk w' (W.heap.size + 1) 28 #[.slice (some ⟨g, 0, none⟩) np cp]) 1 [(0, 0), (2, 0), (4, 0), (8, 0)] (by kernel_rfl) (by kernel_rfl) S0 ?_
          repeat (first
            | (refine wpX_load0 rfl rfl _ _ rfl _ rfl _ rfl Try.underlying28 _ (fun w' h => (Blk.cell h 0).trans rfl) S0 ?_; simp only [Act.put, List.setIfInBounds_toArray, List.set_cons_zero, List.set_cons_succ, List.getElem_toArray, List.getElem_cons_zero, List.getElem_cons_succ])
            | (refine wpX_pure rfl rfl rfl ?_; intro K hK; go_big_quiet_op; refine hK _ ?_; clear hK K)
            | (refine wpX_load rfl rfl rfl ?_; intro K hK; go_big_quiet_op; refine hK _ ?_; clear hK K))
          refine wpX_eff rfl rfl ?_; intro K hK; go_wp2_with fail; refine hK _ _ S1 ?_; clear hK K
          repeat (refine wpX_pure rfl rfl rfl ?_; intro K hK; go_big_quiet_op; refine hK _ ?_; clear hK K)
          refine wpX_eff rfl rfl ?_; intro K hK; go_wp2_with fail; refine hK _ _ S2 ?_; clear hK K
          refine wpX_nil ?_
          go_wp2_with fail
          go_roundw
          case rel => exact ⟨a + 1, by go_num, by go_num, by omega, HB2.out, ⟨L2, HF2.out, fun _ => ⟨g, rfl, hg, HR2.out⟩⟩, HBB.out⟩
          case measure => simp [intOf]; omega
        · have hst := hf.strs (by rw [HPS.out]; omega)
          have c1 : wr.cell? ⟨W.heap.size + 1, 0, none⟩ = some (.slice Ap np cp) := (hb1.cell 0).trans rfl
          have HST2 := Lib.hid hst
          clear hst hf hb1
          go_wp2_with fail
          go_ret2
          exact ⟨Ap, cp, by rw [HLR.out]; rfl, by rw [HLR.out]; exact hpc, by rw [HPE.out]; exact HST2.out, hB⟩
    · have hcl := cut_lt n1 h2
      have hcp := cut_pos n1
      have h3 := fun W => cCut n1 W (by omega)
      obtain ⟨g, o, rfl, hg, _⟩ := HS1.out (by rw [HL1.out]; omega)
      have hst := HS1.out.take (cut n1)
      have hsd := HS1.out.from_ (cut n1) (by rw [HL1.out]; exact hcl) (c := c1) (by rw [HL1.out]; exact hnc1)
      have ht : (l1.take (cut n1)).length = cut n1 := by rw [List.length_take, HL1.out]; omega
      have hd : (l1.drop (cut n1)).length = n1 - cut n1 := by rw [List.length_drop, HL1.out]
      have hzt := mem_take_le (k := cut n1) HZ1.out
      have hzd := mem_drop_le (k := cut n1) HZ1.out
      have hpl := proof_left (wd w) j l1 (by rw [HL1.out]; exact h2)
      have hpr := proof_right (wd w) j l1 (by rw [HL1.out]; exact h2)
      rw [HL1.out] at hpl hpr
      obtain ⟨k, HK⟩ : ∃ k, Hid (cut n1 = k) := ⟨_, Lib.hid rfl⟩
      simp only [HK.out] at h3 hst hsd ht hd hzt hzd hpl hpr hcl hcp
      have s1 := cside w W.heap.size (some ⟨g, o + k, none⟩) (n1 - k) (c1 - k) (l1.drop k) Ap np cp ps wr hd (hsd.fresh HB.out) (by omega) (by omega) hzd HB0.out HB1.out HS.out HPS.out (by omega)
      have s2 := cside w W.heap.size (some ⟨g, o, none⟩) k c1 (l1.take k) Ap np cp ps wr ht (hst.fresh HB.out) (by omega) (by omega) hzt HB0.out HB1.out HS.out HPS.out (by omega)
      have H3 := Lib.hid h3
      have S1 := Lib.hid s1
      have S2 := Lib.hid s2
      have HST1 := Lib.hid hst
      have HSD1 := Lib.hid hsd
      have HZT := Lib.hid hzt
      have HZD := Lib.hid hzd
      have HT := Lib.hid ht
      have HD := Lib.hid hd
      have HPL := Lib.hid hpl
      have HPR2 := Lib.hid hpr
      have hkn : (k : Int) ≤ (n1 : Int) := by omega
      have hkn2 : (k : Int) < (n1 : Int) := by omega
      have hkc : (k : Int) ≤ (c1 : Int) := by omega
      have hnc2 : (n1 : Int) ≤ (c1 : Int) := by omega
      have hck : ¬ c1 = k := by omega
      have h2I : (2 : Int) ≤ (n1 : Int) := by omega
      have h1I : decide ((1 : Int) < (n1 : Int)) = true := decide_eq_true (by omega)
      clear h3 s1 s2 hst hsd hzt hzd ht hd hpl hpr hb0 hb1
      by_cases hjk : j < k
      · have hjI : (j : Int) < (k : Int) := by omega
        go_wp2_with fail
        (with_reducible refine (H3.out _).mono ?_); rintro e w1 ⟨rfl, rfl⟩
        go_wp2_with fail
        (with_reducible refine S1.out.mono ?_); rintro e w1 ⟨rfl, Ap2, cp2, hcp2, q0, q1, q2, q3⟩
        have Q0 := Lib.hid q0
        have Q1 := Lib.hid q1
        have Q2 := Lib.hid q2
        have Q3 := Lib.hid q3
        clear q0 q1 q2 q3
        go_wp2_with fail
        go_roundw
        case rel =>
          refine ⟨j, some ⟨g, o, none⟩, k, c1, l1.take k, Ap2, np + 1, cp2, ps ++ [root (wd w) (l1.drop k)], rfl, by go_num, HT.out, HST1.out, by omega, hjk, HZT.out, Q0.out, Q1.out, Q2.out, by rw [List.length_append, HPS.out]; rfl, hcp2, by omega, HB.out.trans Q3.out, ?_⟩
          rw [HPR.out, HPL.out hjk]; simp
        case measure => simp [slen]; omega
      · have hjI : ¬ (j : Int) < (k : Int) := by omega
        have hjI2 : decide ((j : Int) < (k : Int)) = false := decide_eq_false hjI
        go_wp2_with fail
        (with_reducible refine (H3.out _).mono ?_); rintro e w1 ⟨rfl, rfl⟩
        go_wp2_with fail
        (with_reducible refine S2.out.mono ?_); rintro e w1 ⟨rfl, Ap2, cp2, hcp2, q0, q1, q2, q3⟩
        have Q0 := Lib.hid q0
        have Q1 := Lib.hid q1
        have Q2 := Lib.hid q2
        have Q3 := Lib.hid q3
        clear q0 q1 q2 q3
        go_wp2_with fail
        go_roundw
        case rel =>
          refine ⟨j - k, some ⟨g, o + k, none⟩, n1 - k, c1 - k, l1.drop k, Ap2, np + 1, cp2, ps ++ [root (wd w) (l1.take k)], by go_num, by go_num, HD.out, HSD1.out, by omega, by omega, HZD.out, Q0.out, Q1.out, Q2.out, by rw [List.length_append, HPS.out]; rfl, hcp2, by omega, HB.out.trans Q3.out, ?_⟩
          rw [HPR.out, HPR2.out (by omega)]; simp
        case measure => simp [slen]; omega

theorem cProof_no (w i : Int) (A : Option Addr) (n c : Nat) (W : World) (hi : i < 0 ∨ (n : Int) ≤ i) (hn6 : n ≤ 140737488355328) :
    Calls Try.prog 28 #[.int .i64 w, .int .i64 i, .slice A n c] W fun e W' => e = .returned (.tuple #[.slice none 0 0, .int .i64 1]) ∧ Below W.heap.size W W' := by
  have hB := (Below.refl W.heap.size W).alloc (Nat.le_refl _) (.cells #[.int .i64 w] 3)
  have HB := Lib.hid hB
  clear hB
  rcases Int.lt_or_le i 0 with h | h
  · go_enter Try.func28, Try.ntmps28
    go_wp2_with fail
    go_ret2
    exact ⟨rfl, HB.out⟩
  · have h1 : (n : Int) ≤ i := by omega
    have h2 : decide (i < (n : Int)) = false := decide_eq_false (by omega)
    go_enter Try.func28, Try.ntmps28
    go_wp2_with fail
    go_ret2
    exact ⟨rfl, HB.out⟩
end Go.Proofs.Ytkggpimminnniaa
