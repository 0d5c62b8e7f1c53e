/- The reference's block. -/
import Derived.Test.YtbofmfocnbennaaRefPlain
import Derived.Test.YtbofmfocnbennaaSized
namespace Go.Proofs.Ytbofmfocnbennaa
open Go.RowKit
set_option maxRecDepth 100000
set_option linter.unusedVariables false
set_option linter.unusedSimpArgs false

set_option maxRecDepth 100000 in
set_option maxHeartbeats 1000000 in
theorem crblock (key nonce : ByteArray) (c : Int) (w : World) (hk : key.size = 32) (hn : nonce.size = 12) (hc0 : 0 ≤ c) (hc1 : c ≤ 4294967295) :
    Calls Try.prog 70 #[.string key, .string nonce, .int .i64 c] w fun e w' =>
      ∃ v, e = .returned v ∧ SL w' w.heap.size 5 v ((strm key nonce (.ofInt 32 c)).map bv) ∧ Below w.heap.size w w' := by
  have hb := bgn_list key nonce (.ofInt 32 c)
  have hcv : V (BitVec.ofInt 32 c) = c := by rw [V_mod]; omega
  have hlen := bgn_length key nonce (.ofInt 32 c)
  obtain ⟨f, HF⟩ : ∃ f, Hid (bgn key nonce (.ofInt 32 c) = f) := ⟨_, Lib.hid rfl⟩
  rw [HF.out] at hb hlen
  have E5 : Hid (([.int .i64 1634760805, .int .i64 857760878, .int .i64 2036477234, .int .i64 1797285236] ++ ((List.range 8).map fun i => wi (lew key i)) ++ [.int .i64 c] ++ ((List.range 3).map fun i => wi (lew nonce i)) : List Value) = f.map wi) := by
    apply Lib.hid
    rw [hb]
    simp only [List.map_append, List.map_map, List.map_cons, List.map_nil]
    have e : wi (BitVec.ofInt 32 c) = .int .i64 c := by unfold wi iv; rw [hcv]
    rw [e]
    rfl
  have HK := Lib.hid hk
  have HN := Lib.hid hn
  have HL := Lib.hid hlen
  have O5 := Lib.hid (one_wi f)
  have L5 : Hid ((f.map wi).length = 16) := Lib.hid (by rw [List.length_map, hlen])
  clear hb hcv hk hn hlen
  go_enter Try.func70, Try.ntmps70
  go_wp2_with fail
  have s0 := SL.lit w w.heap.size 3 #[.int .i64 1634760805, .int .i64 857760878, .int .i64 2036477234, .int .i64 1797285236] (Nat.le_refl _) (by decide)
  have hb0 : Below w.heap.size w (w.alloc (.cells #[.int .i64 1634760805, .int .i64 857760878, .int .i64 2036477234, .int .i64 1797285236] 3)) := (Below.refl _ _).alloc (Nat.le_refl _) _
  (with_reducible refine (crwords key 8 HK.out (by omega) _).mono ?_); rintro e w1 ⟨v1, rfl, hv1, hb1⟩
  have s1 := s0.below hb1 (Nat.le_refl _)
  have hB1 := hb0.trans (hb1.mono hb0.size)
  obtain ⟨A1, c1, rfl, hc1⟩ := hv1.form
  have r1 := hv1.reads
  have o1 := one_wi ((List.range 8).map fun i => lew key i)
  rw [List.map_map] at o1
  have hs1 := hB1.size
  clear s0 hb0 hv1 hb1
  go_wp2_with (first
    | (refine wpList_app int_elem rfl (.tmp 22) (.tmp 24) rfl w.heap.size _ _ rfl s1 _ _ _ _ _ rfl r1 o1 (by simp) (by decide) hs1 ?_; intro v2 w2 s2 hbel2 hx hy; clear hx hy; obtain ⟨A2, c2, rfl, hc2⟩ := s2.form; dsimp only [Act.put])
    | (refine wpList_app int_elem rfl (.tmp 26) (.tmp 28) rfl w.heap.size _ _ rfl (s2.alloc _) _ _ _ _ _ rfl (reads_one w2 _ _) (by intro u hu; simp at hu; subst hu; rfl) (by simp) (by decide) (by have := (hB1.trans (hbel2 _ (Nat.le_refl _))).size; simp; omega) ?_; intro v3 w3 s3 hbel3 hx hy; clear hx hy; obtain ⟨A3, c3, rfl, hc3⟩ := s3.form; dsimp only [Act.put]))
  have hB2 := hB1.trans (hbel2 _ (Nat.le_refl _))
  have hB3 := (hB2.alloc hB2.size _).trans (hbel3 _ (Nat.le_refl _))
  have hs3 := hB3.size
  clear hbel2 hbel3 s1 r1 o1 hs1 hB1 s2 hB2
  (with_reducible refine (crwords nonce 3 HN.out (by omega) _).mono ?_); rintro e w4 ⟨v4, rfl, hv4, hb4⟩
  have s4 := s3.below hb4 (Nat.le_refl _)
  have hB4 := hB3.trans (hb4.mono hB3.size)
  obtain ⟨A4, c4, rfl, hc4⟩ := hv4.form
  have r4 := hv4.reads
  have o4 := one_wi ((List.range 3).map fun i => lew nonce i)
  rw [List.map_map] at o4
  have hs4 := hB4.size
  clear s3 hB3 hv4 hb4
  go_wp2_with (first
    | (refine wpList_app int_elem rfl (.tmp 30) (.tmp 32) rfl w.heap.size _ _ rfl s4 _ _ _ _ _ rfl r4 o4 (by simp) (by decide) hs4 ?_; intro v5 w5 s50 hbel5 hx hy; clear hx hy; have s5 : SL w5 w.heap.size 3 v5 (f.map wi) := (by rw [← E5.out]; exact s50); clear s50; obtain ⟨g5, c5, rfl, hc5, hg5, R5⟩ := s5.rw16 L5.out; have r5 := s5.reads; rw [L5.out] at r5; dsimp only [Act.put])
    | (refine wpList_app int_elem rfl (.tmp 34) (.tmp 35) rfl w.heap.size _ _ rfl (SL.nil _ _ _) _ _ _ _ _ rfl r5 O5.out (by simp) (by decide) ((hB4.trans (hbel5 _ (Nat.le_refl _))).size) ?_; intro v6 w6 s6 hbel6 hblk6 hown6; obtain ⟨g6, c6, rfl, hc6, hg6, R6⟩ := s6.rw16 (n := 15) (by simpa using L5.out);
        have hg56 : g5 < g6 := (by have := R5.lt; simp [Value.ownBlock, Act.eval] at hown6; omega);
        have R5' : Rw w6 g5 3 (f.map wi) := (by obtain ⟨cur, h1, h2⟩ := R5; exact ⟨cur, hblk6 _ _ _ h1 (by simp [Value.ownBlock, Act.eval]), h2⟩);
        clear hown6 hblk6; dsimp only [Act.put]))
  have hB6 := (hB4.trans (hbel5 _ (Nat.le_refl _))).trans (hbel6 _ (Nat.le_refl _))
  have hlt6 := R6.lt
  have k1 := Rds.new w6 3 78
  have k2 : Rw ((mkR w6 3 rdA).alloc (.cells (rdS w6.heap.size) 78)) g6 3 ((rndL f 0).map wi) := by
    rw [rndL_zero]
    obtain ⟨cur, h1, h2⟩ := R6
    exact Rw.alloc ⟨cur, (mkR_old _ _ _ _ hlt6).trans h1, by simpa using h2⟩ _
  have k3 : Rw ((mkR w6 3 rdA).alloc (.cells (rdS w6.heap.size) 78)) g5 3 (f.map wi) := by
    obtain ⟨cur, h1, h2⟩ := R5'
    exact Rw.alloc ⟨cur, (mkR_old _ _ _ _ (by omega)).trans h1, h2⟩ _
  have k4 : Below w.heap.size w ((mkR w6 3 rdA).alloc (.cells (rdS w6.heap.size) 78)) := (mkR_below _ _ _ _ _ (Nat.le_refl _) hB6).alloc (mkR_below _ _ _ _ _ (Nat.le_refl _) hB6).size _
  clear hB6 hbel5 hbel6 hB4 s4 r4 o4 hs4 s5 r5 R5 R6 R5' s6
  go_loopw [10] (fun i wr => ∃ n : Nat, n ≤ 10 ∧ i = .int .i64 n ∧ Rw wr g6 3 ((rndL f n).map wi) ∧ Rw wr g5 3 (f.map wi) ∧ Rds wr w6.heap.size ∧ Below w.heap.size w wr)
    (fun i _ => 10 - (intOf i).toNat)
  case atStart => exact ⟨0, by omega, rfl, k2, k3, k1, k4⟩
  case round =>
    clear k1 k2 k3 k4
    obtain ⟨n, hn, rfl, h1, h2, h3, h4⟩ := hrel
    by_cases hlt : n < 10
    · have hdn : decide ((n : Int) < 10) = true := by simp; omega
      go_wp2_with fail
      obtain ⟨wo, rfl⟩ : ∃ wo : World, wo = wr := ⟨_, rfl⟩
      go_loopw [11] (fun i wr => ∃ r : Nat, r ≤ 8 ∧ i = .int .i64 r ∧ Rw wr g6 3 ((refL (rndL f n) r).map wi) ∧ Rw wr g5 3 (f.map wi) ∧ Rds wr w6.heap.size ∧ Below w.heap.size w wr)
        (fun i _ => 8 - (intOf i).toNat)
      case atStart => exact ⟨0, by omega, rfl, by rw [refL_zero]; exact h1, h2, h3, h4⟩
      case round =>
        clear h1 h2 h3 h4
        obtain ⟨r, hr, rfl, h1, h2, h3, h4⟩ := hrel
        by_cases hlr : r < 8
        · have q0 : wr.cell? ⟨w6.heap.size + 1 + 1 + 1 + 1 + 1 + 1 + 1 + 1, r, none⟩ = some (.slice (some ⟨w6.heap.size + r, 0, none⟩) 4 4) := h3.1 r hlr
          obtain ⟨p0, p1, p2, p3⟩ := h3.2 r hlr
          obtain ⟨b1, b2, b3, b4, b5, b6, b7⟩ := q_bounds r hlr
          have hl : (refL (rndL f n) r).length = 16 := by rw [refL_length, rndL_length, HL.out]
          have hstep := refL_succ (rndL f n) r
          obtain ⟨a, HA⟩ : ∃ a, Hid (qa r = a) := ⟨_, Lib.hid rfl⟩
          obtain ⟨b, HBb⟩ : ∃ b, Hid (qb r = b) := ⟨_, Lib.hid rfl⟩
          obtain ⟨d, HD⟩ : ∃ d, Hid (qc r = d) := ⟨_, Lib.hid rfl⟩
          obtain ⟨e, HE⟩ : ∃ e, Hid (qd r = e) := ⟨_, Lib.hid rfl⟩
          obtain ⟨l, HLL⟩ : ∃ l, Hid (refL (rndL f n) r = l) := ⟨_, Lib.hid rfl⟩
          rw [HA.out] at b1 p0 hstep
          rw [HBb.out] at b2 b3 p1 hstep
          rw [HD.out] at b4 b5 p2 hstep
          rw [HE.out] at b6 b7 p3 hstep
          rw [HLL.out] at h1 hl hstep
          have HST := Lib.hid hstep
          have x0 := h1.cell a _ (wi_get l a (by omega))
          have x1 := h1.cell b _ (wi_get l b (by omega))
          have x2 := h1.cell d _ (wi_get l d (by omega))
          have x3 := h1.cell e _ (wi_get l e (by omega))
          obtain ⟨y0, Y0⟩ : ∃ y, Hid (l.getD a 0 = y) := ⟨_, Lib.hid rfl⟩
          obtain ⟨y1, Y1⟩ : ∃ y, Hid (l.getD b 0 = y) := ⟨_, Lib.hid rfl⟩
          obtain ⟨y2, Y2⟩ : ∃ y, Hid (l.getD d 0 = y) := ⟨_, Lib.hid rfl⟩
          obtain ⟨y3, Y3⟩ : ∃ y, Hid (l.getD e 0 = y) := ⟨_, Lib.hid rfl⟩
          obtain ⟨z, Z⟩ : ∃ z, Hid (qr y0 y1 y2 y3 = z) := ⟨_, Lib.hid rfl⟩
          rw [Y0.out] at x0
          rw [Y1.out] at x1
          rw [Y2.out] at x2
          rw [Y3.out] at x3
          have f0 := h1.frozen a
          have f1 := h1.frozen b
          have f2 := h1.frozen d
          have f3 := h1.frozen e
          have hgr : g6 ≠ w6.heap.size + r := by omega
          clear hstep
          go_wp2_with fail
          refine wp_region_lexX [] (by kernel_rfl) (by kernel_rfl) ?_
          repeat (first
            | (refine wpX_pure rfl rfl rfl ?_; intro K hK; go_big_quiet_op; refine hK _ ?_; clear hK K)
            | (refine wpX_load rfl rfl rfl ?_; intro K hK; go_big_quiet_op; refine hK _ ?_; clear hK K)
            | (refine wpX_eff rfl rfl ?_; intro K hK; go_wp2_with (go_at_call 76; ((with_reducible refine (cRefQuarter _ _ _ _ _).mono ?_); rw [V_ofInt, V_ofInt, V_ofInt, V_ofInt, Z.out]; rintro e' w' ⟨rfl, m, rfl⟩)); refine hK _ _ trivial ?_; clear hK K))
          refine wpX_nil ?_
          go_wp2
          go_roundw
          case rel =>
            have hx := ((((h1.drewN (1 + m)).set_ a (.int .i64 (V z.1))).set_ b (.int .i64 (V z.2.1))).set_ d (.int .i64 (V z.2.2.1))).set_ e (.int .i64 (V z.2.2.2))
            have hm : mixL l a b d e = (((l.set a z.1).set b z.2.1).set d z.2.2.1).set e z.2.2.2 := by
              unfold mixL; rw [Y0.out, Y1.out, Y2.out, Y3.out, Z.out]
            rw [wi_set, wi_set, wi_set, wi_set, ← hm, ← HST.out] at hx
            have hn5 : g5 ≠ g6 := by omega
            exact ⟨r + 1, by omega, by go_num, hx, ((((h2.drewN (1 + m)).far hn5 _).far hn5 _).far hn5 _).far hn5 _,
              ((((h3.drewN (1 + m)).setCell ⟨g6, a, none⟩ hlt6 _).setCell ⟨g6, b, none⟩ hlt6 _).setCell ⟨g6, d, none⟩ hlt6 _).setCell ⟨g6, e, none⟩ hlt6 _,
              ((((below_drewN h4 (1 + m)).setCell (p := ⟨g6, a, none⟩) hg6 _).setCell (p := ⟨g6, b, none⟩) hg6 _).setCell (p := ⟨g6, d, none⟩) hg6 _).setCell (p := ⟨g6, e, none⟩) hg6 _⟩
          case measure => simp [intOf]; omega
        · have e : r = 8 := by omega
          rw [e, refL_eight, ← rndL_succ] at h1
          clear e
          go_wp2_with fail
          go_roundw
          case rel => exact ⟨n + 1, by omega, by go_num, h1, h2, h3, h4⟩
          case measure => simp [intOf]; omega
    · have e : n = 10 := by omega
      rw [e] at h1
      clear e
      have hl := rndL_length f 10
      rw [HL.out] at hl
      have hS := strm_outA key nonce (.ofInt 32 c)
      rw [HF.out] at hS
      obtain ⟨x, HX⟩ : ∃ x, Hid (rndL f 10 = x) := ⟨_, Lib.hid rfl⟩
      rw [HX.out] at h1 hl hS
      have HS := Lib.hid hS
      have HLX := Lib.hid hl
      have hg5l := h2.lt
      have hg6l := h1.lt
      clear hS hl h3
      go_wp2_with fail
      obtain ⟨wo, rfl⟩ : ∃ wo : World, wo = wr := ⟨_, rfl⟩
      go_loopw [17, 18] (fun v i wr => ∃ k : Nat, k ≤ 16 ∧ i = .int .i64 k ∧ SL wr wo.heap.size 5 v ((outA f x k).map bv) ∧ Below wo.heap.size wo wr)
        (fun _ i _ => 16 - (intOf i).toNat)
      case atStart => exact ⟨0, by omega, rfl, by unfold outA; exact SL.nil _ _ _, Below.refl _ _⟩
      case round =>
        obtain ⟨k, hk, rfl, hv, hB⟩ := hrel
        by_cases hlk : k < 16
        · have hdk : decide ((k : Int) < 16) = true := by simp; omega
          have x0 := (h1.below hB hg6l).cell k _ (wi_get x k (by rw [HLX.out]; omega))
          have x1 := (h2.below hB hg5l).cell k _ (wi_get f k (by rw [HL.out]; omega))
          obtain ⟨y0, Y0⟩ : ∃ y, Hid (x.getD k 0 = y) := ⟨_, Lib.hid rfl⟩
          obtain ⟨y1, Y1⟩ : ∃ y, Hid (f.getD k 0 = y) := ⟨_, Lib.hid rfl⟩
          rw [Y0.out] at x0
          rw [Y1.out] at x1
          go_wp2_with fail
          refine wp_region_lexX [] (by kernel_rfl) (by kernel_rfl) ?_
          repeat (first
            | (refine wpX_pure rfl rfl rfl ?_; intro K hK; go_big_quiet_op; refine hK _ ?_; clear hK K)
            | (refine wpX_load rfl rfl rfl ?_; intro K hK; go_big_quiet_op; refine hK _ ?_; clear hK K))
          refine wpX_nil ?_
          go_wp2
          obtain ⟨z, Z⟩ : ∃ z, Hid (y0 + y1 = z) := ⟨_, Lib.hid rfl⟩
          rw [Z.out]
          have hout := outA_succ f x k
          rw [Y0.out, Y1.out, Z.out] at hout
          have HO := Lib.hid hout
          have hlo := outA_length f x k
          obtain ⟨A, HA⟩ : ∃ A, Hid (outA f x k = A) := ⟨_, Lib.hid rfl⟩
          rw [HA.out] at hv hout hlo
          have HO := Lib.hid hout
          clear hout x0 x1
          obtain ⟨wi0, rfl⟩ : ∃ wi0 : World, wi0 = wr := ⟨_, rfl⟩
          go_loopw [17, 19, 20] (fun v y j wr => ∃ i : Nat, i ≤ 4 ∧ j = .int .i64 i ∧ y = .int .i64 (V (z >>> (8 * i))) ∧ SL wr wo.heap.size 5 v ((A ++ (four z).take i).map bv) ∧ Below wo.heap.size wo wr)
            (fun _ _ j _ => 4 - (intOf j).toNat)
          case atStart => exact ⟨0, by omega, rfl, by simp, (by rw [List.take_zero, List.append_nil]; exact hv.drewN 1), below_drewN hB 1⟩
          case round =>
            clear hv hB
            obtain ⟨i, hi, rfl, rfl, hv, hB⟩ := hrel
            have hsz := hB.size
            by_cases hli : i < 4
            · obtain ⟨Av, cv, rfl, hcv⟩ := hv.form
              go_wp2_with (refine wpList_app byte_elem rfl (.tmp 130) (.tmp 134) rfl wo.heap.size _ _ rfl (hv.alloc _) _ _ _ _ [bv (lob (z >>> (8 * i)))] rfl (reads_one wr _ _) (by intro u hu; simp at hu; subst hu; rfl) (by simp; omega) (by decide) (by simp; omega) ?_; intro v' w' s' hbel hx hy; clear hx hy; dsimp only [Act.put])
              go_roundw
              case rel =>
                refine ⟨i + 1, by omega, by go_num, by rw [← shr_next], ?_, (hB.alloc hsz _).trans (hbel _ (Nat.le_refl _))⟩
                rw [four_take z i hli, ← List.append_assoc, List.map_append]
                exact s'
              case measure => simp [intOf]; omega
            · have e : i = 4 := by omega
              rw [e] at hv
              clear e
              have ht : (four z).take 4 = four z := rfl
              rw [ht, ← HO.out] at hv
              go_wp2_with fail
              go_roundw
              case rel => exact ⟨k + 1, by omega, by go_num, hv, hB⟩
              case measure => simp [intOf]; omega
        · have e : k = 16 := by omega
          rw [e, ← HS.out] at hv
          clear e
          go_wp2_with fail
          refine bodyPost_ret (results_tmp rfl _ _ _) rfl ⟨_, rfl, ?_, h4.trans (hB.mono h4.size)⟩
          exact hv.lower h4.size
end Go.Proofs.Ytbofmfocnbennaa
