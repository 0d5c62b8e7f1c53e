/- sledgeref02: Sum. -/
import Derived.Test.YtcnhhlnbmliihaaRefSha2
namespace Go.Proofs.Ytcnhhlnbmliihaa
open Go.RowKit
set_option linter.unusedVariables false
set_option linter.unusedSimpArgs false

theorem wrap_not (x : BitVec 32) : wrap64 ((4294967295 : Int) - V x) = V (~~~ x) := by
  have e : (~~~ x).toNat = 4294967295 - x.toNat := by rw [BitVec.toNat_not]
  unfold V wrap64
  rw [e]
  have := x.isLt
  omega
attribute [go_sem] wrap_not ofInt_addVr

theorem wby_take (x : BitVec 32) (m : Nat) (h : m < 4) : (wby x).take (m + 1) = (wby x).take m ++ [lob (x >>> (8 * (3 - m)))] := by
  match m, h with
  | 0, _ => rfl
  | 1, _ => rfl
  | 2, _ => rfl
  | 3, _ => simp [wby]
theorem Rw.only {S : Nat → Prop} {w w' : World} {g : Nat} {e : TypeId} {vs : List Value} (h : Rw w g e vs) (ho : Only S w w') (hn : ¬ S g) : Rw w' g e vs := by
  have hl := h.lt
  obtain ⟨cur, hg, r⟩ := h
  exact ⟨cur, (ho.block g hl hn).trans hg, r⟩
set_option maxRecDepth 100000 in
set_option maxHeartbeats 2000000 in
theorem crSum (s : ByteArray) (w : World) (hs : s.size ≤ 1000000000) :
    Calls Try.prog 65 #[.string s] w fun e w' => e = .returned (.string (str (sha s.data.toList))) ∧ Below w.heap.size w w' := by
  have hmod := padded_mod s.data.toList
  have hshaT : sha s.data.toList = (blocks hStart (padded s.data.toList) ((padded s.data.toList).length / 64)).bytes := rfl
  have hlen := padded_length s.data.toList
  have hzl := zpad_lt s.data.toList.length
  rw [data_length] at hlen hzl
  have hpad := fun W => crpadded s W hs
  obtain ⟨T, HT⟩ : ∃ T, Hid (padded s.data.toList = T) := ⟨_, Lib.hid rfl⟩
  rw [HT.out] at hmod hshaT hlen
  have hT9 : T.length ≤ 1000001000 := by omega
  simp only [HT.out] at hpad
  obtain ⟨n, HN⟩ : ∃ n, Hid (T.length = n) := ⟨_, Lib.hid rfl⟩
  rw [HN.out] at hmod hshaT hT9
  simp only [HN.out] at hpad
  have HPAD := Lib.hid hpad
  have HMOD := Lib.hid hmod
  have HSHA := Lib.hid hshaT
  clear hmod hshaT hlen hzl hpad
  go_enter Try.func65, Try.ntmps65
  go_wp2_with fail
  (with_reducible refine (HPAD.out _).mono ?_); rintro e w1 ⟨ga, ca, rfl, hca, hga, ha1, hb1⟩
  go_wp2_with fail
  (with_reducible refine (crstart _).mono ?_); rintro e w2 ⟨rfl, hh2, hb2⟩
  have ha2 := ha1.below hb2 ha1.lt hb2.size
  have hB2 := hb1.trans (hb2.mono hb1.size)
  go_wp2_with fail
  (with_reducible refine (crrounds _).mono ?_); rintro e w3 ⟨rfl, hk3, hb3⟩
  have ha3 := ha2.below hb3 ha2.lt hb3.size
  have hh3 := hh2.below hb3 hh2.lt
  have hB3 := hB2.trans (hb3.mono hB2.size)
  have hgh : w.heap.size ≤ w1.heap.size := hb1.size
  have hgq : w.heap.size ≤ w2.heap.size := hB2.size
  have hne : w1.heap.size ≠ w2.heap.size := by have := hh2.lt; omega
  have hnea : ga ≠ w1.heap.size := by have := ha1.lt; omega
  obtain ⟨gh, HGH⟩ : ∃ x, Hid (w1.heap.size = x) := ⟨_, Lib.hid rfl⟩
  obtain ⟨gq, HGQ⟩ : ∃ x, Hid (w2.heap.size = x) := ⟨_, Lib.hid rfl⟩
  rw [HGH.out] at hh3 hgh hne hnea ⊢
  rw [HGQ.out] at hk3 hgq hne ⊢
  clear ha1 hb1 hh2 hb2 ha2 hB2 hb3
  go_wp2_with fail
  go_loopw [6] (fun x wr => ∃ j : Nat, j ≤ n / 64 ∧ x = .int .i64 (64 * (j : Int)) ∧ Rw wr gh 3 ((blocks hStart T j).list.map wi) ∧ Rw wr gq 3 (kList.map wi) ∧ Byt wr ga 0 T ∧ Below w.heap.size w wr)
    (fun x _ => n - (intOf x).toNat)
  case atStart => exact ⟨0, by omega, rfl, by rw [blocks_zero]; exact hh3, hk3, ha3, hB3⟩
  case round =>
    clear hh3 hk3 ha3 hB3
    obtain ⟨j, hj, rfl, hh, hk, ha, hB⟩ := hrel
    have hjn : 64 * j ≤ n := by omega
    by_cases hlj : j < n / 64
    · have hd : decide (64 * (j : Int) < (n : Int)) = true := decide_eq_true (by omega)
      have hji : 64 * (j : Int) + 64 ≤ (n : Int) := by omega
      have hcap : ¬ ca = 64 * j := by omega
      have hbs := ha.sub (64 * j) 64
      rw [Nat.zero_add] at hbs
      have hlen : ((T.drop (64 * j)).take 64).length = 64 := by rw [List.length_take, List.length_drop, HN.out]; omega
      have hsucc := blocks_succ hStart T j
      obtain ⟨bb, HBB⟩ : ∃ bb, Hid ((T.drop (64 * j)).take 64 = bb) := ⟨_, Lib.hid rfl⟩
      rw [HBB.out] at hbs hlen hsucc
      have HLN := Lib.hid hlen
      have HSU := Lib.hid hsucc
      have HJ := Lib.hid hj
      clear hlen hsucc hj
      go_wp2_with fail
      (with_reducible refine (crscheduled ga (64 * j) (ca - 64 * j) bb _ HLN.out (by omega) hbs).mono ?_); rintro e w4 ⟨vs, rfl, hs4, hb4⟩
      obtain ⟨gs, cs, rfl, hcs, hgs, hS⟩ := hs4.rw (by intro e; have := congrArg List.length e; rw [List.length_map, sch_length] at this; simp at this)
      rw [List.length_map, sch_length]
      have hh4 := hh.below hb4 hh.lt
      have hk4 := hk.below hb4 hk.lt
      have ha4 := ha.below hb4 ha.lt hb4.size
      have hB4 := hB.trans (hb4.mono hB.size)
      have hns : gh ≠ gs := by have := hh.lt; omega
      clear hh hk ha hB hb4 hs4 hbs
      obtain ⟨W, HW⟩ : ∃ W, Hid (sch bb 64 = W) := ⟨_, Lib.hid rfl⟩
      have hlW := sch_length bb 64
      have hM : mixH (blocks hStart T j) bb = (blocks hStart T j).add (rnds (blocks hStart T j) (sch bb 64) 64) := by unfold mixH; rfl
      rw [HW.out] at hS hlW hM
      obtain ⟨st, HST⟩ : ∃ st, Hid (blocks hStart T j = st) := ⟨_, Lib.hid rfl⟩
      rw [HST.out] at hh4 hM
      have HM := Lib.hid hM
      have HLW := Lib.hid hlW
      clear hM hlW
      have d0 : w4.cell? ⟨gh, 0, none⟩ = some (.int .i64 (V st.a)) := hh4.cell 0 _ rfl
      have d1 : w4.cell? ⟨gh, 1, none⟩ = some (.int .i64 (V st.b)) := hh4.cell 1 _ rfl
      have d2 : w4.cell? ⟨gh, 2, none⟩ = some (.int .i64 (V st.c)) := hh4.cell 2 _ rfl
      have d3 : w4.cell? ⟨gh, 3, none⟩ = some (.int .i64 (V st.d)) := hh4.cell 3 _ rfl
      have d4 : w4.cell? ⟨gh, 4, none⟩ = some (.int .i64 (V st.e)) := hh4.cell 4 _ rfl
      have d5 : w4.cell? ⟨gh, 5, none⟩ = some (.int .i64 (V st.f)) := hh4.cell 5 _ rfl
      have d6 : w4.cell? ⟨gh, 6, none⟩ = some (.int .i64 (V st.g)) := hh4.cell 6 _ rfl
      have d7 : w4.cell? ⟨gh, 7, none⟩ = some (.int .i64 (V st.h)) := hh4.cell 7 _ rfl
      go_wp2_with fail
      refine wp_region_lexX [] (by kernel_rfl) (by kernel_rfl) ?_
      repeat (first
        | (refine wpX_pure rfl rfl rfl ?_; intro K hK; go_big_quiet_op; refine hK _ ?_; clear hK K)
        | (refine wpX_load rfl rfl rfl ?_; intro K hK; go_big_quiet_op; refine hK _ ?_; clear hK K))
      refine wpX_nil ?_
      clear d0 d1 d2 d3 d4 d5 d6 d7
      go_wp2_with fail
      go_loopw [8, 9, 10, 11, 12, 13, 14, 15, 16] (fun va vb vc vd ve vf vg vh i wr => ∃ (t : Nat) (sx : H8), t ≤ 64 ∧ rnds st W t = sx ∧ i = .int .i64 t ∧ va = .int .i64 (V sx.a) ∧ vb = .int .i64 (V sx.b) ∧ vc = .int .i64 (V sx.c) ∧ vd = .int .i64 (V sx.d) ∧ ve = .int .i64 (V sx.e) ∧ vf = .int .i64 (V sx.f) ∧ vg = .int .i64 (V sx.g) ∧ vh = .int .i64 (V sx.h) ∧
        Rw wr gh 3 (st.list.map wi) ∧ Rw wr gq 3 (kList.map wi) ∧ Rw wr gs 3 (W.map wi) ∧ Byt wr ga 0 T ∧ Below w.heap.size w wr)
        (fun _ _ _ _ _ _ _ _ i _ => 64 - (intOf i).toNat)
      case atStart => exact ⟨0, st, by omega, rnds_zero _ _, rfl, rfl, rfl, rfl, rfl, rfl, rfl, rfl, rfl, hh4.drewN 1, hk4.drewN 1, hS.drewN 1, ha4.drew, below_drewN hB4 1⟩
      case round =>
        clear hh4 hk4 hS ha4 hB4
        obtain ⟨t, ⟨a, b, c, d, e, f, g, h⟩, ht, hsx, rfl, rfl, rfl, rfl, rfl, rfl, rfl, rfl, rfl, m1, m2, m3, m4, m5⟩ := hrel
        dsimp only
        by_cases hlt : t < 64
        · have hdt : decide ((t : Int) < 64) = true := by simp; omega
          have hs := rnds_succ st W t
          rw [hsx] at hs
          have k1 := wi_get kList t (by rw [kList_length]; exact hlt)
          have k2 := wi_get W t (by rw [HLW.out]; exact hlt)
          have ek : kList.getD t 0 = kAt t := by unfold kAt; rfl
          rw [ek] at k1
          obtain ⟨kt, HK⟩ : ∃ x, Hid (kAt t = x) := ⟨_, Lib.hid rfl⟩
          obtain ⟨wt, HWT⟩ : ∃ x, Hid (W.getD t 0 = x) := ⟨_, Lib.hid rfl⟩
          rw [HK.out] at k1 hs
          rw [HWT.out] at k2 hs
          have K1 := Lib.hid k1
          have K2 := Lib.hid k2
          have HS := Lib.hid hs
          have M1 := Lib.hid m1
          have M4 := Lib.hid m4
          have M5 := Lib.hid m5
          have hS0 : Rw wr gq 3 (kList.map wi) ∧ Rw wr gs 3 (W.map wi) := ⟨m2, m3⟩
          clear hs k1 k2 ek hsx m1 m4 m5
          go_wp2_with fail
          refine wp_region_lexS (fun w' => Rw w' gq 3 (kList.map wi) ∧ Rw w' gs 3 (W.map wi)) 0 [] (by kernel_rfl) (by kernel_rfl) hS0 ?_
          repeat (first
            | (refine wpX_pure rfl rfl rfl ?_; intro K hK; go_big_quiet_op; refine hK _ ?_; clear hK K)
            | (refine wpX_load0 rfl rfl _ _ rfl _ rfl _ rfl Try.underlying3 _ (fun w' h => h.1.cell _ _ K1.out) hS0 ?_; simp only [Act.put, List.setIfInBounds_toArray, List.set_cons_zero, List.set_cons_succ])
            | (refine wpX_load0 rfl rfl _ _ rfl _ rfl _ rfl Try.underlying3 _ (fun w' h => h.2.cell _ _ K2.out) hS0 ?_; simp only [Act.put, List.setIfInBounds_toArray, List.set_cons_zero, List.set_cons_succ])
            | (refine wpX_eff rfl rfl ?_; intro K hK; go_wp2_with (go_at_call 73; ((with_reducible refine (crrotr _ _ _ (by decide) (by decide)).mono ?_); rintro e' w' ⟨rfl, m, rfl⟩)); refine hK _ _ hS0 ?_; clear hK K))
          refine wpX_nil ?_
          go_wp2_with (go_at_call 73; ((with_reducible refine (crrotr _ _ _ (by decide) (by decide)).mono ?_); rintro e' w' ⟨rfl, m, rfl⟩))
          go_roundw
          case rel =>
            refine ⟨t + 1, _, by omega, HS.out, by go_num, ?_, rfl, rfl, rfl, ?_, rfl, rfl, rfl, M1.out.drewN _, hS0.1.drewN _, hS0.2.drewN _, M4.out.drewN _, below_drewN M5.out _⟩
            · unfold H8.step one two sgE sgF; rfl
            · unfold H8.step one sgE; rfl
          case measure => simp [intOf]; omega
        · have e0 : t = 64 := by omega
          have hdt : decide ((t : Int) < 64) = false := by simp; omega
          rw [e0] at hsx
          have hmx : mixH st bb = st.add ⟨a, b, c, d, e, f, g, h⟩ := by rw [HM.out, hsx]
          have hsu := HSU.out
          rw [HST.out, hmx] at hsu
          have hsl : (blocks hStart T (j + 1)).list = adL st.list [a, b, c, d, e, f, g, h] 8 := by rw [hsu]; exact (adL_all st ⟨a, b, c, d, e, f, g, h⟩).symm
          have hl0 : st.list.length = 8 := rfl
          obtain ⟨L, HL0⟩ : ∃ L, Hid (st.list = L) := ⟨_, Lib.hid rfl⟩
          rw [HL0.out] at hsl hl0 m1
          have HSL := Lib.hid hsl
          have LL := Lib.hid hl0
          have hM5 := m5.size
          have M1 := Lib.hid m1
          have M2 := Lib.hid m2
          have M4 := Lib.hid m4
          have M5 := Lib.hid m5
          clear hsl hl0 hsu hmx hsx e0 m1 m2 m3 m4 m5
          go_wp2_with fail
          obtain ⟨wo, rfl⟩ : ∃ wo : World, wo = wr := ⟨_, rfl⟩
          obtain ⟨M, HM0⟩ : ∃ M, Hid ([a, b, c, d, e, f, g, h] = M) := ⟨_, Lib.hid rfl⟩
          have r1 := M1.out.alloc (.cells ([a, b, c, d, e, f, g, h].map wi).toArray 3)
          have r2 := M2.out.alloc (.cells ([a, b, c, d, e, f, g, h].map wi).toArray 3)
          have r4 := M4.out.alloc (.cells ([a, b, c, d, e, f, g, h].map wi).toArray 3)
          have r5 := M5.out.alloc hM5 (.cells ([a, b, c, d, e, f, g, h].map wi).toArray 3)
          have r3 : Rw (wo.alloc (.cells ([a, b, c, d, e, f, g, h].map wi).toArray 3)) wo.heap.size 3 (M.map wi) := by
            have := Rw.of_blk (Blk.new wo 3 ([a, b, c, d, e, f, g, h].map wi).toArray)
            rw [← HM0.out]
            simpa using this
          have LM : Hid (M.length = 8) := Lib.hid (by rw [← HM0.out]; rfl)
          have hgv : gh ≠ wo.heap.size := by have := M1.out.lt; omega
          rw [HM0.out] at HSL
          go_loopw [20] (fun x wr => ∃ i : Nat, i ≤ 8 ∧ x = .int .i64 i ∧ Rw wr gh 3 ((adL L M i).map wi) ∧ Rw wr gq 3 (kList.map wi) ∧ Rw wr wo.heap.size 3 (M.map wi) ∧ Byt wr ga 0 T ∧ Below w.heap.size w wr)
            (fun x _ => 8 - (intOf x).toNat)
          case atStart => exact ⟨0, by omega, rfl, by rw [adL_zero]; exact r1, r2, r3, r4, r5⟩
          case round =>
            clear r1 r2 r3 r4 r5
            obtain ⟨i, hi, rfl, r1, r2, r3, r4, r5⟩ := hrel
            by_cases hli : i < 8
            · have hdi : decide ((i : Int) < 8) = true := by simp; omega
              have c1 := r1.cell i _ (wi_get _ _ (by rw [adL_length _ _ _ (by rw [LL.out, LM.out]) (by rw [LL.out]; omega), LL.out]; omega))
              rw [adL_get _ _ _ (by rw [LL.out, LM.out]) (by rw [LL.out]; omega)] at c1
              have c3 := r3.cell i _ (wi_get _ _ (by rw [LM.out]; omega))
              have hs := adL_succ L M i (by rw [LL.out, LM.out]) (by rw [LL.out]; omega)
              obtain ⟨x, HX0⟩ : ∃ x, Hid (L.getD i 0 = x) := ⟨_, Lib.hid rfl⟩
              obtain ⟨y, HY0⟩ : ∃ y, Hid (M.getD i 0 = y) := ⟨_, Lib.hid rfl⟩
              rw [HX0.out] at c1 hs
              rw [HY0.out] at c3 hs
              have HS := Lib.hid hs
              have f1 := r1.frozen i
              have R1 := Lib.hid r1
              have R2 := Lib.hid r2
              have R3 := Lib.hid r3
              have R4 := Lib.hid r4
              have R5 := Lib.hid r5
              clear hs r1 r2 r3 r4 r5
              go_wp2_with fail
              refine wp_region_lexX [] (by kernel_rfl) (by kernel_rfl) ?_
              repeat (first
                | (refine wpX_pure rfl rfl rfl ?_; intro K hK; go_big_quiet_op; refine hK _ ?_; clear hK K)
                | (refine wpX_load rfl rfl rfl ?_; intro K hK; go_big_quiet_op; refine hK _ ?_; clear hK K)
                | (refine wpX_eff rfl rfl ?_; intro K hK; go_wp2_with fail; refine hK _ _ trivial ?_; clear hK K))
              refine wpX_nil ?_
              go_wp2
              go_roundw
              case rel =>
                have hx := (R1.out.set_ i (.int .i64 (V (x + y)))).drewN 1
                rw [wi_set, HS.out] at hx
                exact ⟨i + 1, by omega, by go_num, hx, (R2.out.far (fun e => hne e.symm) _).drewN 1, (R3.out.far (fun e => hgv e.symm) _).drewN 1, (R4.out.far hnea _).drew, below_drewN (R5.out.setCell (p := ⟨gh, i, none⟩) hgh _) 1⟩
              case measure => simp [intOf]; omega
            · have hdi : decide ((i : Int) < 8) = false := by simp; omega
              have ei : i = 8 := by omega
              rw [ei, ← HSL.out] at r1
              clear ei
              go_wp2_with fail
              go_roundw
              case rel => exact ⟨j + 1, by have := HJ.out; omega, by first | (congr 1; done) | (congr 1; omega), r1, r2, r4, r5⟩
              case measure => simp [intOf]; omega
    · have hd : decide (64 * (j : Int) < (n : Int)) = false := decide_eq_false (by have := HMOD.out; omega)
      have ej : j = n / 64 := by omega
      have hsb := HSHA.out
      rw [ej] at hh
      obtain ⟨st, HST⟩ : ∃ st, Hid (blocks hStart T (n / 64) = st) := ⟨_, Lib.hid rfl⟩
      rw [HST.out] at hh hsb
      rw [← wbs_all] at hsb
      have hll : st.list.length = 8 := rfl
      obtain ⟨L, HL0⟩ : ∃ L, Hid (st.list = L) := ⟨_, Lib.hid rfl⟩
      rw [HL0.out] at hh hsb hll
      have HSB := Lib.hid hsb
      have HLL := Lib.hid hll
      clear hsb hll ej hk ha hj
      go_wp2_with fail
      obtain ⟨wo, rfl⟩ : ∃ wo : World, wo = wr := ⟨_, rfl⟩
      have hglt := hh.lt
      have hBs := hB.size
      go_loopw [21, 22] (fun u x wr => ∃ (i n c' : Nat) (A' : Option Addr), i ≤ 8 ∧ x = .int .i64 i ∧ n = 4 * i ∧ u = .slice A' n c' ∧ SL wr wo.heap.size 5 (.slice A' n c') ((wbs L i).map bv) ∧ Rw wr gh 3 (L.map wi) ∧ Below w.heap.size w wr ∧ wo.heap.size ≤ wr.heap.size)
        (fun _ x _ => 8 - (intOf x).toNat)
      case atStart => exact ⟨0, 0, 0, none, by omega, rfl, rfl, rfl, by rw [wbs_zero]; exact SL.nil _ _ _, hh, hB, Nat.le_refl _⟩
      case round =>
        clear hh hB
        obtain ⟨i, n1, c1, A1, hi, rfl, hn1, rfl, s1, h1, n2, hsz⟩ := hrel
        by_cases hli : i < 8
        · have hdi : decide ((i : Int) < 8) = true := by simp; omega
          have hws := wbs_succ L i (by rw [HLL.out]; exact hli)
          have k1 := wi_get L i (by rw [HLL.out]; exact hli)
          obtain ⟨x, HX⟩ : ∃ x, Hid (L.getD i 0 = x) := ⟨_, Lib.hid rfl⟩
          rw [HX.out] at hws k1
          have HWS := Lib.hid hws
          have K1 := Lib.hid k1
          have hwl := wbs_length L i (by rw [HLL.out]; omega)
          have HWL := Lib.hid hwl
          have hn9 : n1 ≤ 32 := by omega
          have HN1 := Lib.hid hn1
          clear hws k1 hwl hn1
          go_wp2_with fail
          go_loopw [21, 23] (fun u y wr => ∃ (m n c' : Nat) (A' : Option Addr), m ≤ 4 ∧ y = .int .i64 (3 - (m : Int)) ∧ n = n1 + m ∧ u = .slice A' n c' ∧ SL wr wo.heap.size 5 (.slice A' n c') ((wbs L i ++ (wby x).take m).map bv) ∧ Rw wr gh 3 (L.map wi) ∧ Below w.heap.size w wr ∧ wo.heap.size ≤ wr.heap.size)
            (fun _ y _ => (intOf y + 1).toNat)
          case atStart => exact ⟨0, n1, c1, A1, by omega, rfl, rfl, rfl, by rw [List.take_zero, List.append_nil]; exact s1, h1, n2, hsz⟩
          case round =>
            clear s1 h1 n2 hsz
            obtain ⟨m, n3, c3, A3, hm, rfl, hn3, rfl, s3, h3, n4, hsz⟩ := hrel
            have HN3 := Lib.hid hn3
            by_cases hlm : m < 4
            · have hdm : decide ((0 : Int) ≤ 3 - (m : Int)) = true := by simp; omega
              have cx := h3.cell i _ K1.out
              have hwt := wby_take x m hlm
              have hl3 : ((wbs L i ++ (wby x).take m).map bv).length ≤ 1000 := by rw [List.length_map, List.length_append, HWL.out, List.length_take]; omega
              have HWT := Lib.hid hwt
              have S3 := Lib.hid s3
              have H3 := Lib.hid h3
              have N4 := Lib.hid n4
              clear hwt s3 h3 n4 hn3
              have hdm2 : decide ((m : Int) ≤ 3) = true := by simp; omega
              go_wp2_with (refine wpList_app_grown u8_elem rfl (.tmp 167) (.tmp 177) rfl wo.heap.size _ _ rfl (S3.out.alloc _) (.slice (some ⟨wr.heap.size, 0, none⟩) 1 1) 1 [bv (lob (x >>> (8 * (3 - m))))] rfl (src_new1 Try.underlying94 wr _ _ rfl) (by omega) (by decide) (by simp; omega) ?_
                           intro v7 w7 s7 g7 o7
                           have s8 : SL w7 wo.heap.size 5 v7 ((wbs L i ++ (wby x).take (m + 1)).map bv) := by
                             rw [HWT.out, ← List.append_assoc, List.map_append]
                             exact s7
                           have o8 := Only.grown (S := fun k => wo.heap.size ≤ k) g7 (fun k e => (S3.out.own_lt k e).2)
                           have h8 := (H3.out.alloc _).only o8 (by omega)
                           have n8 := (N4.out.alloc (by omega) _).trans (o8.below (B := w.heap.size) (by simp; omega) (fun _ e => by omega))
                           have z8 := o8.size
                           clear g7 o7 s7 o8
                           dsimp only [Act.put])
              go_roundw
              case rel =>
                obtain ⟨A7, c7, hv7, _, _⟩ := s8.view
                rw [List.length_append, HWL.out, List.length_take, ← HN1.out] at hv7
                have e4 : min (m + 1) (wby x).length = m + 1 := by show min (m + 1) 4 = m + 1; omega
                rw [e4] at hv7
                exact ⟨m + 1, _, c7, A7, by omega, by congr 1; omega, by omega, hv7, by rw [← hv7]; exact s8, h8, n8, by simp at z8; omega⟩
              case measure => simp [intOf]; omega
            · have hdm : decide ((0 : Int) ≤ 3 - (m : Int)) = false := by simp; omega
              have hdm2 : decide ((m : Int) ≤ 3) = false := by simp; omega
              have em : m = 4 := by omega
              have e5 : (wby x).take 4 = wby x := rfl
              rw [em, e5, ← HWS.out] at s3
              have S3 := Lib.hid s3
              have H3 := Lib.hid h3
              have N4 := Lib.hid n4
              clear s3 h3 n4 hn3 em
              go_wp2_with fail
              go_roundw
              case rel =>
                have h1 := HN1.out
                have h2 := HN3.out
                exact ⟨i + 1, n3, c3, A3, by omega, by go_num, by omega, rfl, S3.out, H3.out, N4.out, hsz⟩
              case measure => simp [intOf]; omega
        · have hi8 : i = 8 := by omega
          have hdi : decide ((i : Int) < 8) = false := by simp; omega
          rw [hi8, ← HSB.out] at s1
          have hcv := sl_text (P := Try.prog) s1 Try.underlying94 Try.underlying5 Try.underlying9 (by rw [sha_length]; omega)
          have N2 := Lib.hid n2
          clear s1 h1 n2 hi8 hn1
          go_wp2_with fail
          go_ret
          exact ⟨rfl, N2.out⟩
end Go.Proofs.Ytcnhhlnbmliihaa
