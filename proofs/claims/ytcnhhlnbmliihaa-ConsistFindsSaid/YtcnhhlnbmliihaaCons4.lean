/- Proofs of beginnings: the reference's Roots; Check, Prove. -/
import Derived.Test.YtcnhhlnbmliihaaCons3
namespace Go.Proofs.Ytcnhhlnbmliihaa
open Go.RowKit
set_option linter.unusedVariables false
set_option linter.unusedSimpArgs false

theorem all_take_succ (p : ByteArray → Bool) (l : List ByteArray) (q : Nat) (h : q < l.length) : (l.take (q + 1)).all p = ((l.take q).all p && p (l.getD q ByteArray.empty)) := by
  rw [List.take_succ_eq_append_getElem h, List.all_append, List.getD_eq_getElem?_getD, List.getElem?_eq_getElem h]; simp
theorem not_all_of {p : ByteArray → Bool} {l : List ByteArray} {q : Nat} (h : q < l.length) (hp : p (l.getD q ByteArray.empty) = false) : l.all p = false := by
  rw [List.all_eq_false]
  refine ⟨_, ?_, by rw [hp]; decide⟩
  rw [List.getD_eq_getElem?_getD, List.getElem?_eq_getElem h]
  exact List.getElem_mem h
set_option maxRecDepth 100000 in
set_option maxHeartbeats 4000000 in
theorem crRootsC (w m n : Int) (kn : ByteArray) (A : Option Addr) (q c : Nat) (p : List ByteArray) (W : World) (hn : n ≤ 1000000) (hk : kn.size ≤ 200000) (hl : p.length = q) (hs : Strs W A p) (hqc : q ≤ c) (hq6 : q ≤ 1000000) (hz : ∀ s ∈ p, s.size ≤ 300000000) :
    Calls Try.prog 30 #[.int .i64 w, .int .i64 m, .int .i64 n, .string kn, .slice A q c] W fun e W' => e = .returned (rT (rootsC (wd w) kn m n p)) ∧ Below W.heap.size W W' := by
  have HS := Lib.hid hs
  have HZ := Lib.hid hz
  clear hs hz
  rcases Int.lt_or_le m 1 with hm1 | hm1
  · rw [rootsC_arg (.inl hm1)]
    clear hl
    go_enter Try.func30, Try.ntmps30
    go_wp2_with fail
    go_ret3
    exact ⟨rfl, Below.refl _ _⟩
  rcases Int.lt_or_le n m with hmn | hmn
  · rw [rootsC_arg (.inr hmn)]
    clear hl
    go_enter Try.func30, Try.ntmps30
    go_wp2_with fail
    go_ret3
    exact ⟨rfl, Below.refl _ _⟩
  obtain ⟨M, rfl⟩ : ∃ x : Nat, m = x := ⟨m.toNat, by omega⟩
  obtain ⟨N, rfl⟩ : ∃ x : Nat, n = x := ⟨n.toNat, by omega⟩
  have hMN : M ≤ N := by omega
  have h1M : 1 ≤ M := by omega
  have g1 := fun W => crLong N M true W (by omega) h1M hMN
  have g3 := fun W => crWidth w W
  have hll := long_le 61 N M true (by omega) h1M hMN
  have hno := rootsC_form (w := wd w) (kn := kn) (p := p) h1M hMN
  have hyes := rootsC_ok (w := wd w) (kn := kn) (p := p) h1M hMN
  have hr1 := fun W e hh => crFirst w kn (by omega) N M true A q c p W h1M hMN (by omega) e hl hh hqc HZ.out
  have hr2 := fun W e hh => crAll w kn (by omega) N M true A q c p W h1M hMN (by omega) e hl hh hqc HZ.out
  obtain ⟨L, HL⟩ : ∃ x, Hid (long M N true = x) := ⟨_, Lib.hid rfl⟩
  rw [HL.out] at hll hno hyes
  simp only [HL.out] at g1 hr1 hr2
  obtain ⟨d, HD⟩ : ∃ x, Hid (wd w = x) := ⟨_, Lib.hid rfl⟩
  rw [HD.out] at hno hyes
  simp only [HD.out] at g3 hr1 hr2
  rw [HD.out]
  have G1 := Lib.hid g1
  have G3 := Lib.hid g3
  have HR1 := Lib.hid hr1
  have HR2 := Lib.hid hr2
  have HNO := Lib.hid hno
  have HYES := Lib.hid hyes
  have HLQ := Lib.hid hl
  clear g1 g3 hr1 hr2 hno hyes hl
  by_cases hqL : q = L
  · have hqI : ((q : Int) != (L : Int)) = false := by simp; omega
    cases hkw : (kn.size == d) with
    | false =>
      have hkI : ((kn.size : Int) != (d : Int)) = true := by rw [beq_eq_false_iff_ne] at hkw; simp; omega
      rw [HNO.out (fun h => by rw [beq_eq_false_iff_ne] at hkw; exact hkw h.2.1)]
      clear hkw hqL
      go_enter Try.func30, Try.ntmps30
      go_wp2_with fail
      (with_reducible refine (G1.out _).mono ?_); rintro e w1 ⟨rfl, rfl⟩
      go_wp2_with fail
      (with_reducible refine (G3.out _).mono ?_); rintro e w1 ⟨rfl, rfl⟩
      go_wp2_with fail
      go_ret3
      exact ⟨rfl, Below.refl _ _⟩
    | true =>
      have hkI : ((kn.size : Int) != (d : Int)) = false := by rw [beq_iff_eq] at hkw; simp; omega
      have HKW := Lib.hid hkw
      have HQL := Lib.hid hqL
      clear hkw hqL
      have hB0 := Below.refl W.heap.size W
      have hqcI : (q : Int) ≤ (c : Int) := by omega
      go_enter Try.func30, Try.ntmps30
      go_wp2_with fail
      (with_reducible refine (G1.out _).mono ?_); rintro e w1 ⟨rfl, rfl⟩
      go_wp2_with fail
      (with_reducible refine (G3.out _).mono ?_); rintro e w1 ⟨rfl, rfl⟩
      go_wp2_with fail
      go_loopw [13] (fun v wr => ∃ j : Nat, j ≤ q ∧ v = .int .i64 j ∧ ((p.take j).all fun s => s.size == d) = true ∧ Below W.heap.size W wr) (fun v _ => q - (intOf v).toNat)
      case atStart => exact ⟨0, by omega, rfl, by simp, hB0⟩
      case round =>
        clear hB0
        obtain ⟨j, hj, rfl, hA, hB⟩ := hrel
        have HA := Lib.hid hA
        have hSr := HS.out.fresh hB
        have HSR := Lib.hid hSr
        clear hA hSr
        by_cases hlt : j < q
        · have hjI : (j : Int) < (q : Int) := by omega
          obtain ⟨g, o, rfl, c1⟩ := HSR.out.cell_ j (by rw [HLQ.out]; exact hlt)
          have hgl : g < wr.heap.size := by
            obtain ⟨g', o', e1, e2, _⟩ := HSR.out (by rw [HLQ.out]; omega)
            injection e1 with e1; injection e1 with e1 _ _; omega
          have hst := all_take_succ (fun s => s.size == d) p j (by rw [HLQ.out]; exact hlt)
          have hot := fun h => not_all_of (p := fun s => s.size == d) (l := p) (q := j) (by rw [HLQ.out]; exact hlt) h
          obtain ⟨s, HSS⟩ : ∃ s, Hid (p.getD j ByteArray.empty = s) := ⟨_, Lib.hid rfl⟩
          rw [HSS.out] at c1 hst hot
          have c1d : wr.drew.cell? ⟨g, o + j, none⟩ = some (.string s) := c1
          have hgd : g < wr.drew.heap.size := hgl
          have hS0 := Below.refl wr.drew.heap.size wr.drew
          have hBd := hB.drew
          clear c1
          cases hsd : (s.size == d) with
          | true =>
            have hsI : ((s.size : Int) != (d : Int)) = false := by rw [beq_iff_eq] at hsd; simp; omega
            rw [HA.out, hsd, Bool.true_and] at hst
            have HST := Lib.hid hst
            clear hst hot hsd
            go_wp2_with fail
            refine wp_region_lexS (fun w' => Below wr.drew.heap.size wr.drew w') 0 [] (by kernel_rfl) (by kernel_rfl) hS0 ?_
            repeat (first | (refine wpX_load0 rfl rfl _ _ rfl _ rfl _ rfl Try.underlying9 _ (fun w' h => (h.cell hgd).trans c1d) hS0 ?_; simp only [Act.put, List.setIfInBounds_toArray, List.set_cons_zero, List.set_cons_succ, List.getElem_toArray, List.getElem_cons_zero, List.getElem_cons_succ]) | (refine wpX_pure rfl rfl rfl ?_; intro K hK; go_big_quiet_op; refine hK _ ?_; clear hK K))
            refine wpX_eff rfl rfl ?_; intro K hK; go_wp2_with fail
            (with_reducible refine (G3.out _).mono ?_); rintro e w2 ⟨rfl, rfl⟩
            go_wp2_with fail
            refine hK _ _ hS0 ?_; clear hK K
            repeat (refine wpX_pure rfl rfl rfl ?_; intro K hK; go_big_quiet_op; refine hK _ ?_; clear hK K)
            refine wpX_nil ?_
            go_wp2_with fail
            go_roundw
            case rel => exact ⟨j + 1, by omega, by go_num, HST.out, hBd⟩
            case measure => simp [intOf]; omega
          | false =>
            have hsI : ((s.size : Int) != (d : Int)) = true := by rw [beq_eq_false_iff_ne] at hsd; simp; omega
            have hf := HNO.out (fun h => by rw [hot hsd] at h; exact absurd h.2.2 (by decide))
            have HF := Lib.hid hf
            clear hst hot hsd hf
            go_wp2_with fail
            refine wp_region_lexS (fun w' => Below wr.drew.heap.size wr.drew w') 0 [] (by kernel_rfl) (by kernel_rfl) hS0 ?_
            repeat (first | (refine wpX_load0 rfl rfl _ _ rfl _ rfl _ rfl Try.underlying9 _ (fun w' h => (h.cell hgd).trans c1d) hS0 ?_; simp only [Act.put, List.setIfInBounds_toArray, List.set_cons_zero, List.set_cons_succ, List.getElem_toArray, List.getElem_cons_zero, List.getElem_cons_succ]) | (refine wpX_pure rfl rfl rfl ?_; intro K hK; go_big_quiet_op; refine hK _ ?_; clear hK K))
            refine wpX_eff rfl rfl ?_; intro K hK; go_wp2_with fail
            (with_reducible refine (G3.out _).mono ?_); rintro e w2 ⟨rfl, rfl⟩
            go_wp2_with fail
            refine hK _ _ hS0 ?_; clear hK K
            repeat (refine wpX_pure rfl rfl rfl ?_; intro K hK; go_big_quiet_op; refine hK _ ?_; clear hK K)
            refine wpX_nil ?_
            go_wp2_with fail
            go_ret3
            rw [HF.out]
            exact ⟨rfl, hBd⟩
        · have e : j = q := by omega
          subst e
          have hall := HA.out
          rw [List.take_of_length_le (by rw [HLQ.out]; omega)] at hall
          have hy := HYES.out ⟨HLQ.out.trans HQL.out, by simpa using HKW.out, hall⟩
          have r1 := fun W => HR1.out W HQL.out
          have r2 := fun W => HR2.out W HQL.out
          obtain ⟨F, HF⟩ : ∃ x, Hid (firstR d kn M N p true = x) := ⟨_, Lib.hid rfl⟩
          obtain ⟨G, HG⟩ : ∃ x, Hid (allR d kn M N p true = x) := ⟨_, Lib.hid rfl⟩
          simp only [HF.out] at r1
          simp only [HG.out] at r2
          rw [HF.out, HG.out] at hy
          have R1 := Lib.hid r1
          have R2 := Lib.hid r2
          have HY := Lib.hid hy
          clear r1 r2 hall hy
          go_wp2_with fail
          (with_reducible refine (R1.out _ HSR.out).mono ?_); rintro e w1 ⟨rfl, hb1⟩
          go_wp2_with fail
          (with_reducible refine (R2.out _ (HSR.out.fresh hb1)).mono ?_); rintro e w2 ⟨rfl, hb2⟩
          have hbf := hb1.trans (hb2.mono hb1.size)
          have hbg := hB.trans (hbf.mono hB.size)
          clear hb1 hb2 hbf
          go_wp2_with fail
          go_ret3
          rw [HY.out]
          exact ⟨rfl, hbg⟩
  · have hqI : ((q : Int) != (L : Int)) = true := by simp; omega
    rw [HNO.out (fun h => hqL (HLQ.out.symm.trans h.1))]
    clear hqL
    go_enter Try.func30, Try.ntmps30
    go_wp2_with fail
    (with_reducible refine (G1.out _).mono ?_); rintro e w1 ⟨rfl, rfl⟩
    go_wp2_with fail
    go_ret3
    exact ⟨rfl, Below.refl _ _⟩
end Go.Proofs.Ytcnhhlnbmliihaa
