/- sha.mix. -/
import Derived.Test.YtcnhhlnbmliihaaShaWords
namespace Go.Proofs.Ytcnhhlnbmliihaa
open Go.RowKit
set_option linter.unusedVariables false
set_option linter.unusedSimpArgs false

def H8.cells (s : H8) : Array Value := #[.int .u32 (V s.a), .int .u32 (V s.b), .int .u32 (V s.c), .int .u32 (V s.d), .int .u32 (V s.e), .int .u32 (V s.f), .int .u32 (V s.g), .int .u32 (V s.h)]
theorem b_not32 (x : BitVec 32) : bits .xor .u32 (if IntKind.u32.signed = true then -1 else IntKind.u32.max) (V x) = V (~~~ x) := by
  have e : (if IntKind.u32.signed = true then -1 else IntKind.u32.max) = V (BitVec.allOnes 32) := by decide
  rw [e, b_xor32, BitVec.allOnes_xor]
attribute [go_sem] b_not32
theorem shword_info : (Try.prog.info? 103).map (·.size) = some 1 := by kernel_rfl
theorem row8_info : (Try.prog.info? 104).map (·.size) = some 8 := by kernel_rfl
theorem run_index_w64 {P : Program} {t e : TypeId} {n : Nat} {k : IntKind} (hu : P.underlying t = some (.array n e)) (hue : P.underlying e = some (.int k)) (he : (P.info? e).map (·.size) = some 1) (l : List (BitVec 32)) (i : Nat) (hi : i < n) (hl : l.length = n) (W : World) :
    (Instr.index t (.agg (wcells l)) (.int .i64 (i : Int))).run P W = .ok (.int .u32 (V (l.getD i 0))) W := by
  obtain ⟨inf, h1, h2⟩ : ∃ inf, P.info? e = some inf ∧ inf.size = 1 := by
    cases h : P.info? e with
    | none => rw [h] at he; cases he
    | some inf => rw [h] at he; exact ⟨inf, rfl, by simpa using he⟩
  have hin : (0 : Int) ≤ (i : Int) ∧ (i : Int) < (n : Int) := ⟨by omega, by omega⟩
  have hg := wcells_get l i (by omega)
  simp [Instr.index, asIntOf, run_underlying hu, run_underlying hue, part, isAgg, sizeOf, typeInfo, h1, h2, hg]
  intro h
  omega
theorem H8.one_ (s : H8) : ∀ v ∈ s.cells.toList, v.oneCell' = true := by
  intro v hv
  simp [H8.cells] at hv
  rcases hv with rfl | rfl | rfl | rfl | rfl | rfl | rfl | rfl <;> rfl
theorem H8.cells_size (s : H8) : s.cells.size = 8 := rfl

/-- The first k words with others added. -/
def adL (l m : List (BitVec 32)) (k : Nat) : List (BitVec 32) := (List.zipWith (· + ·) l m).take k ++ l.drop k
theorem adL_zero (l m : List (BitVec 32)) : adL l m 0 = l := by unfold adL; simp
theorem adL_length (l m : List (BitVec 32)) (k : Nat) (h : l.length = m.length) (hk : k ≤ l.length) : (adL l m k).length = l.length := by
  unfold adL; simp; omega
theorem adL_get (l m : List (BitVec 32)) (k : Nat) (h : l.length = m.length) (hk : k < l.length) : (adL l m k).getD k 0 = l.getD k 0 := by
  have e : ((List.zipWith (· + ·) l m).take k).length = k := by simp; omega
  unfold adL
  rw [List.getD_eq_getElem?_getD, List.getD_eq_getElem?_getD, List.getElem?_append_right (by omega), e, Nat.sub_self, List.getElem?_drop]
  rfl
theorem adL_succ (l m : List (BitVec 32)) (k : Nat) (h : l.length = m.length) (hk : k < l.length) : (adL l m k).set k (l.getD k 0 + m.getD k 0) = adL l m (k + 1) := by
  have e : ((List.zipWith (· + ·) l m).take k).length = k := by simp; omega
  have hl : l.drop k = l[k] :: l.drop (k + 1) := List.drop_eq_getElem_cons hk
  have hz : k < (List.zipWith (· + ·) l m).length := by simp; omega
  unfold adL
  rw [List.set_append_right _ _ (by omega), e, Nat.sub_self, hl, List.set_cons_zero, List.take_succ_eq_append_getElem hz, List.append_assoc]
  simp [List.getD_eq_getElem?_getD, List.getElem?_eq_getElem hk, List.getElem?_eq_getElem (show k < m.length by omega)]
theorem adL_all (s v : H8) : adL s.list v.list 8 = (s.add v).list := rfl
theorem H8.cells_list (s : H8) : s.cells = wcells s.list := rfl
attribute [irreducible] adL
theorem copy7_src {w : World} {g : Nat} {t : TypeId} {v0 v1 v2 v3 v4 v5 v6 v7 : Value} (h : Blk w g t #[v0, v1, v2, v3, v4, v5, v6, v7]) :
    ∀ j v, [v0, v1, v2, v3, v4, v5, v6][j]? = some v → w.cell? ((⟨g, 0, none⟩ : Addr).add j) = some v := by
  intro j v hj
  rw [add0, h.cell]
  match j, hj with
  | 0, hj => exact hj
  | 1, hj => exact hj
  | 2, hj => exact hj
  | 3, hj => exact hj
  | 4, hj => exact hj
  | 5, hj => exact hj
  | 6, hj => exact hj
  | j + 7, hj => simp at hj
/-- Seven of eight cells copied one place on. -/
theorem wpList_copy7 {P : Program} {w : World} {ops : Array Oper} {rest : List Oper} {o : Oper} {a : Act} {Q : Exit → Act → World → Prop} (hgd : o.guard = none) (d s : Operand) (dT sT : TypeId)
    (ho : o.op = .call { callee := .builtin .copy, args := #[d, s], argTypes := #[dT, sT] }) (elem : TypeId) (hu : P.underlying dT = some (.slice elem)) (hsz : (P.info? elem).map (·.size) = some 1)
    (g c1 c2 : Nat) (hd : a.eval d = .slice (some ⟨g, 1, none⟩) 7 c1) (hs : a.eval s = .slice (some ⟨g, 0, none⟩) 7 c2) (t : TypeId) (v0 v1 v2 v3 v4 v5 v6 v7 : Value)
    (hg : Blk w g t #[v0, v1, v2, v3, v4, v5, v6, v7]) (h1 : ∀ v ∈ [v0, v1, v2, v3, v4, v5, v6], v.oneCell' = true)
    (h : ∀ w', Blk w' g t #[v0, v0, v1, v2, v3, v4, v5, v6] → (∀ g' t' cs, g' ≠ g → Blk w g' t' cs → Blk w' g' t' cs) → (∀ B w0, B ≤ g → Below B w0 w → Below B w0 w') → wpList P ops Q rest (a.put o.dst (.int .i64 7)) w') :
    wpList P ops Q (o :: rest) a w := by
  refine wpList_copy_own hgd d s dT sT ho elem hu hsz g 1 7 c1 ⟨g, 0, none⟩ 7 c2 hd hs _ t hg [v0, v1, v2, v3, v4, v5, v6] rfl (copy7_src hg) (Nat.le_refl 8) h1 ?_
  exact h _ (hg.row _) (fun g' t' cs hne hb => hb.row_far hne _) (fun B w0 hB hb => below_row hb hB _)

set_option maxRecDepth 100000 in
set_option maxHeartbeats 1000000 in
theorem cshmix (s : H8) (g o c : Nat) (b : List UInt8) (w : World) (hl : b.length = 64) (hc : 64 ≤ c) (hb : Byt w g o b) :
    Calls Try.prog 79 #[.agg s.cells, .slice (some ⟨g, o, none⟩) 64 c] w fun e w' => e = .returned (.agg (mixH s b).cells) ∧ Below w.heap.size w w' := by
  have HL := Lib.hid hl
  clear hl
  obtain ⟨a, b', c', d, e, f, g', h⟩ := s
  obtain ⟨X, HX⟩ : ∃ X, Hid ((mixH ⟨a, b', c', d, e, f, g', h⟩ b).cells = X) := ⟨_, Lib.hid rfl⟩
  rw [HX.out]
  unfold H8.cells
  dsimp only
  go_enter Try.func79, Try.ntmps79
  go_wp2_with fail
  have k0 := ((hb.alloc (.cells (H8.cells ⟨a, b', c', d, e, f, g', h⟩) 104)).alloc (.cells (wcells (List.replicate 8 0)) 104)).alloc (.cells (H8.cells ⟨a, b', c', d, e, f, g', h⟩) 104)
  have k1 : Blk (((w.alloc (.cells (H8.cells ⟨a, b', c', d, e, f, g', h⟩) 104)).alloc (.cells (wcells (List.replicate 8 0)) 104)).alloc (.cells (H8.cells ⟨a, b', c', d, e, f, g', h⟩) 104)) w.heap.size 104 (H8.cells ⟨a, b', c', d, e, f, g', h⟩) := ((Blk.new _ _ _).alloc _).alloc _
  have k2 : BlkN (((w.alloc (.cells (H8.cells ⟨a, b', c', d, e, f, g', h⟩) 104)).alloc (.cells (wcells (List.replicate 8 0)) 104)).alloc (.cells (H8.cells ⟨a, b', c', d, e, f, g', h⟩) 104)) (w.heap.size + 1) 104 8 :=
    ⟨_, rfl, by have := (Blk.new (w.alloc (.cells (H8.cells ⟨a, b', c', d, e, f, g', h⟩) 104)) 104 (wcells (List.replicate 8 0))).alloc (.cells (H8.cells ⟨a, b', c', d, e, f, g', h⟩) 104); simpa using this⟩
  have k3 : Blk (((w.alloc (.cells (H8.cells ⟨a, b', c', d, e, f, g', h⟩) 104)).alloc (.cells (wcells (List.replicate 8 0)) 104)).alloc (.cells (H8.cells ⟨a, b', c', d, e, f, g', h⟩) 104)) (w.heap.size + 1 + 1) 104 (H8.cells ⟨a, b', c', d, e, f, g', h⟩) := by
    have := Blk.new ((w.alloc (.cells (H8.cells ⟨a, b', c', d, e, f, g', h⟩) 104)).alloc (.cells (wcells (List.replicate 8 0)) 104)) 104 (H8.cells ⟨a, b', c', d, e, f, g', h⟩)
    simpa using this
  have k4 := (((Below.refl w.heap.size w).alloc (Nat.le_refl _) (.cells (H8.cells ⟨a, b', c', d, e, f, g', h⟩) 104)).alloc (by simp) (.cells (wcells (List.replicate 8 0)) 104)).alloc (by simp; omega) (.cells (H8.cells ⟨a, b', c', d, e, f, g', h⟩) 104)
  (refine (cwords g o c b _ HL.out hc k0).mono ?_); rintro e w1 ⟨rfl, hb1⟩
  replace k1 := k1.below hb1 k1.lt
  replace k2 := k2.below hb1 k2.lt
  replace k3 := k3.below hb1 k3.lt
  replace k4 := k4.trans (hb1.mono k4.size)
  clear k0 hb1
  have hlW := sch_length b 64
  have hM : mixH ⟨a, b', c', d, e, f, g', h⟩ b = (⟨a, b', c', d, e, f, g', h⟩ : H8).add (rnds ⟨a, b', c', d, e, f, g', h⟩ (sch b 64) 64) := by unfold mixH; rfl
  obtain ⟨W, HW⟩ : ∃ W, Hid (sch b 64 = W) := ⟨_, Lib.hid rfl⟩
  rw [HW.out] at hlW hM ⊢
  obtain ⟨s0, S0⟩ : ∃ s0, Hid ((⟨a, b', c', d, e, f, g', h⟩ : H8) = s0) := ⟨_, Lib.hid rfl⟩
  rw [S0.out] at k1 k3 hM
  have HM := Lib.hid hM
  have HLW := Lib.hid hlW
  clear hM hlW
  go_wp2_with fail
  go_loopw [16] (fun i wr => ∃ t : Nat, t ≤ 64 ∧ i = .int .i64 t ∧ Blk wr w.heap.size 104 s0.cells ∧ BlkN wr (w.heap.size + 1) 104 8 ∧ Blk wr (w.heap.size + 1 + 1) 104 (rnds s0 W t).cells ∧ Below w.heap.size w wr)
    (fun i _ => 64 - (intOf i).toNat)
  case atStart => exact ⟨0, by omega, rfl, k1, k2, by rw [rnds_zero]; exact k3, k4⟩
  case round =>
    clear k1 k2 k3 k4
    obtain ⟨t, ht, rfl, h1, h2, h3, h4⟩ := hrel
    by_cases hlt : t < 64
    · have hdt : decide ((t : Int) < 64) = true := by simp; omega
      have hs := rnds_succ s0 W t
      have hix := run_index_w64 (P := Try.prog) Try.underlying108 Try.underlying103 shword_info W t hlt HLW.out
      obtain ⟨kt, HK⟩ : ∃ kt, Hid (kAt t = kt) := ⟨_, Lib.hid rfl⟩
      have hr := fun w => cround (t : Int) w (by omega) (by omega)
      simp only [Int.toNat_natCast] at hr
      obtain ⟨wt, HWT⟩ : ∃ wt, Hid (W.getD t 0 = wt) := ⟨_, Lib.hid rfl⟩
      rw [HWT.out] at hix
      rw [HK.out] at hr
      rw [HWT.out, HK.out] at hs
      have HR := Lib.hid hr
      clear hr
      obtain ⟨st, ST⟩ : ∃ st, Hid (rnds s0 W t = st) := ⟨_, Lib.hid rfl⟩
      rw [ST.out] at h3 hs
      have HS := Lib.hid hs
      clear hs ST
      obtain ⟨a, b', c', d, e, f, g', h⟩ := st
      replace h3 : Blk wr (w.heap.size + 1 + 1) 104 #[.int .u32 (V a), .int .u32 (V b'), .int .u32 (V c'), .int .u32 (V d), .int .u32 (V e), .int .u32 (V f), .int .u32 (V g'), .int .u32 (V h)] := h3
      have c0 : wr.cell? ⟨w.heap.size + 1 + 1, 0, none⟩ = some (.int .u32 (V a)) := h3.cell 0
      have c4 : wr.cell? ⟨w.heap.size + 1 + 1, 4, none⟩ = some (.int .u32 (V e)) := h3.cell 4
      go_wp2_with fail
      refine wp_region_lexX [] (by kernel_rfl) (by kernel_rfl) ?_
      repeat (first
        | (refine wpX_pure rfl rfl rfl ?_; intro K hK; go_big_quiet_op; refine hK _ ?_; clear hK K)
        | (refine wpX_load rfl rfl rfl ?_; intro K hK; go_big_quiet_op; refine hK _ ?_; clear hK K))
      refine wpX_nil ?_
      clear c0 c4
      go_wp2_with fail
      refine wp_region_lexS (fun w' => Blk w' (w.heap.size + 1 + 1) 104 #[.int .u32 (V a), .int .u32 (V b'), .int .u32 (V c'), .int .u32 (V d), .int .u32 (V e), .int .u32 (V f), .int .u32 (V g'), .int .u32 (V h)]) 0 [] (by kernel_rfl) (by kernel_rfl) h3 ?_
      repeat (first
        | (refine wpX_pure rfl rfl rfl ?_; intro K hK; go_big_quiet_op; refine hK _ ?_; clear hK K)
        | (refine wpX_load0 rfl rfl _ _ rfl _ rfl _ rfl Try.underlying103 _ (fun w' h => (Blk.cell h _).trans rfl) h3 ?_; simp only [Act.put, List.setIfInBounds_toArray, List.set_cons_zero, List.set_cons_succ, List.getElem_toArray, List.getElem_cons_zero, List.getElem_cons_succ])
        | (refine wpX_eff rfl rfl ?_; intro K hK; go_wp2_with (go_at_call 81; ((with_reducible refine (cshturn _ _ _ (by decide) (by decide)).mono ?_); rintro e' w' ⟨rfl, m, rfl⟩)); refine hK _ _ h3 ?_; clear hK K)
        | (refine wpX_eff rfl rfl ?_; intro K hK; go_wp2_with (go_at_call 82; ((with_reducible refine (HR.out _).mono ?_); rintro e' w2 ⟨rfl, hbr⟩)); refine hK _ _ ((h3.drewN _).below hbr h3.lt) ?_; clear hK K; replace h1 := (h1.drewN _).below hbr h1.lt; replace h2 := (h2.drewN _).below hbr h2.lt; replace h3 := (h3.drewN _).below hbr h3.lt; replace h4 := (below_drewN h4 _).trans (hbr.mono h4.size); clear hbr))
      refine wpX_nil ?_
      go_wp2_with fail
      refine wp_region_lexS (fun w' => Blk w' (w.heap.size + 1 + 1) 104 #[.int .u32 (V a), .int .u32 (V b'), .int .u32 (V c'), .int .u32 (V d), .int .u32 (V e), .int .u32 (V f), .int .u32 (V g'), .int .u32 (V h)]) 0 [] (by kernel_rfl) (by kernel_rfl) h3 ?_
      repeat (first
        | (refine wpX_pure rfl rfl rfl ?_; intro K hK; go_big_quiet_op; refine hK _ ?_; clear hK K)
        | (refine wpX_load0 rfl rfl _ _ rfl _ rfl _ rfl Try.underlying103 _ (fun w' h => (Blk.cell h _).trans rfl) h3 ?_; simp only [Act.put, List.setIfInBounds_toArray, List.set_cons_zero, List.set_cons_succ, List.getElem_toArray, List.getElem_cons_zero, List.getElem_cons_succ])
        | (refine wpX_eff rfl rfl ?_; intro K hK; go_wp2_with (go_at_call 81; ((with_reducible refine (cshturn _ _ _ (by decide) (by decide)).mono ?_); rintro e' w' ⟨rfl, m, rfl⟩)); refine hK _ _ h3 ?_; clear hK K))
      refine wpX_nil ?_
      go_wp2_with fail
      refine wp_region_lexX [] (by kernel_rfl) (by kernel_rfl) ?_
      repeat (refine wpX_pure rfl rfl rfl ?_; intro K hK; go_big_quiet_op; refine hK _ ?_; clear hK K)
      refine wpX_eff rfl rfl ?_; intro K hK
      refine wpList_copy7 rfl (.tmp 75) (.tmp 76) 112 112 rfl 103 Try.underlying112 shword_info (w.heap.size + 1 + 1) _ _ rfl rfl 104 _ _ _ _ _ _ _ _ h3 (by intro v hv; simp at hv; rcases hv with rfl | rfl | rfl | rfl | rfl | rfl | rfl <;> rfl) ?_
      intro w5 q3 qo qb
      have q1 := qo w.heap.size _ _ (by omega) (by exact h1)
      have q2 : BlkN w5 (w.heap.size + 1) 104 8 := by
        obtain ⟨z, hz, hz2⟩ := h2
        exact ⟨z, hz, qo (w.heap.size + 1) _ _ (by omega) (by exact hz2)⟩
      have q4 := qb w.heap.size w (by omega) (by exact below_drewN (below_drewN h4 _) 1)
      clear h1 h2 h3 h4 qo qb
      refine wpList_nil (hK _ _ trivial ?_); clear hK K
      simp only [Act.put, List.setIfInBounds_toArray, List.set_cons_zero, List.set_cons_succ]
      refine wpX_nil ?_
      have e0 : w5.cell? ⟨w.heap.size + 1 + 1, 0, none⟩ = some (.int .u32 (V a)) := q3.cell 0
      have e4 : w5.cell? ⟨w.heap.size + 1 + 1, 4, none⟩ = some (.int .u32 (V d)) := q3.cell 4
      have f0 := q3.frozen 0
      have f4 := q3.frozen 4
      go_wp2_with fail
      go_roundw
      case rel =>
        have hx := (q3.set_ 4 (.int .u32 (V (d + (h + (rotr e 6 ^^^ rotr e 11 ^^^ rotr e 25) + (e &&& f ^^^ ~~~e &&& g') + kt + wt))))).set_ 0 (.int .u32 (V (h + (rotr e 6 ^^^ rotr e 11 ^^^ rotr e 25) + (e &&& f ^^^ ~~~e &&& g') + kt + wt + ((rotr a 2 ^^^ rotr a 13 ^^^ rotr a 22) + (a &&& b' ^^^ a &&& c' ^^^ b' &&& c')))))
        refine ⟨t + 1, by omega, by go_num, (q1.far (by show w.heap.size ≠ w.heap.size + 1 + 1; omega) _).far (by show w.heap.size ≠ w.heap.size + 1 + 1; omega) _, (q2.far (by show w.heap.size + 1 ≠ w.heap.size + 1 + 1; omega) _).far (by show w.heap.size + 1 ≠ w.heap.size + 1 + 1; omega) _, ?_,
          (q4.setCell (p := ⟨w.heap.size + 1 + 1, 4, none⟩) (by show w.heap.size ≤ w.heap.size + 1 + 1; omega) _).setCell (p := ⟨w.heap.size + 1 + 1, 0, none⟩) (by show w.heap.size ≤ w.heap.size + 1 + 1; omega) _⟩
        rw [HS.out]
        unfold H8.step H8.cells one two sgE sgF
        exact hx
      case measure => simp [intOf]; omega
    · have e0 : t = 64 := by omega
      rw [e0] at h3
      clear e0
      have hdt : decide ((t : Int) < 64) = false := by simp; omega
      obtain ⟨v, HV⟩ : ∃ v, Hid (rnds s0 W 64 = v) := ⟨_, Lib.hid rfl⟩
      rw [HV.out] at h3
      rw [H8.cells_list] at h1 h3
      have HA := Lib.hid (adL_all s0 v)
      have hl0 : s0.list.length = 8 := rfl
      have hl1 : v.list.length = 8 := rfl
      have HMX : Hid ((mixH s0 b).cells = wcells (adL s0.list v.list 8)) := Lib.hid (by rw [HM.out, HV.out, HA.out]; rfl)
      obtain ⟨L, HL0⟩ : ∃ L, Hid (s0.list = L) := ⟨_, Lib.hid rfl⟩
      obtain ⟨M, HM0⟩ : ∃ M, Hid (v.list = M) := ⟨_, Lib.hid rfl⟩
      rw [HL0.out] at h1 hl0 HMX
      rw [HM0.out] at h3 hl1 HMX
      have LL := Lib.hid hl0
      have LM := Lib.hid hl1
      clear hl0 hl1
      go_wp2_with fail
      go_loopw [88] (fun i wr => ∃ k : Nat, k ≤ 8 ∧ i = .int .i64 k ∧ Blk wr w.heap.size 104 (wcells (adL L M k)) ∧ BlkN wr (w.heap.size + 1) 104 8 ∧ Blk wr (w.heap.size + 1 + 1) 104 (wcells M) ∧ Below w.heap.size w wr)
        (fun i _ => 8 - (intOf i).toNat)
      case atStart => exact ⟨0, by omega, rfl, by rw [adL_zero]; exact h1, h2, h3, h4⟩
      case round =>
        clear h1 h2 h3 h4
        obtain ⟨k, hk, rfl, h1, h2, h3, h4⟩ := hrel
        by_cases hlk : k < 8
        · have hdk : decide ((k : Int) < 8) = true := by simp; omega
          have c1 := (h1.cell k).trans (wcells_get _ _ (by rw [adL_length _ _ _ (by rw [LL.out, LM.out]) (by rw [LL.out]; omega), LL.out]; omega))
          rw [adL_get _ _ _ (by rw [LL.out, LM.out]) (by rw [LL.out]; omega)] at c1
          have c3 := (h3.cell k).trans (wcells_get _ _ (by rw [LM.out]; omega))
          have hs := adL_succ L M k (by rw [LL.out, LM.out]) (by rw [LL.out]; omega)
          obtain ⟨x, HX0⟩ : ∃ x, Hid (L.getD k 0 = x) := ⟨_, Lib.hid rfl⟩
          obtain ⟨y, HY0⟩ : ∃ y, Hid (M.getD k 0 = y) := ⟨_, Lib.hid rfl⟩
          rw [HX0.out] at c1 hs
          rw [HY0.out] at c3 hs
          have HS := Lib.hid hs
          have f1 := h1.frozen k
          clear hs
          go_wp2_with fail
          refine wp_region_lexX [] (by kernel_rfl) (by kernel_rfl) ?_
          repeat (first
            | (refine wpX_pure rfl rfl rfl ?_; intro K hK; go_big_quiet_op; refine hK _ ?_; clear hK K)
            | (refine wpX_load rfl rfl rfl ?_; intro K hK; go_big_quiet_op; refine hK _ ?_; clear hK K)
            | (refine wpX_eff rfl rfl ?_; intro K hK; go_wp2_with fail; refine hK _ _ trivial ?_; clear hK K))
          refine wpX_nil ?_
          go_wp2
          go_roundw
          case rel =>
            have hx := (h1.set_ k (.int .u32 (V (x + y)))).drew
            rw [wcells_set, HS.out] at hx
            exact ⟨k + 1, by omega, by go_num, hx, (h2.far (by show w.heap.size + 1 ≠ w.heap.size; omega) _).drewN 1, (h3.far (by show w.heap.size + 1 + 1 ≠ w.heap.size; omega) _).drew, below_drewN (h4.setCell (p := ⟨w.heap.size, k, none⟩) (Nat.le_refl _) _) 1⟩
          case measure => simp [intOf]; omega
        · have e0 : k = 8 := by omega
          rw [e0] at h1
          clear e0
          have hdk : decide ((k : Int) < 8) = false := by simp; omega
          obtain ⟨z, hz1, hz2⟩ := h2
          have hone := wcells_one (adL L M 8)
          have hsz : (wcells (adL L M 8)).size = 8 := by rw [size_wcells, adL_length _ _ _ (by rw [LL.out, LM.out]) (by rw [LL.out]; omega), LL.out]
          obtain ⟨cs, HC⟩ : ∃ cs, Hid (wcells (adL L M 8) = cs) := ⟨_, Lib.hid rfl⟩
          rw [HC.out] at h1 hone hsz
          have HI : Hid ((Try.prog.info? 104).map (·.size) = some cs.size) := Lib.hid (by rw [hsz]; exact row8_info)
          have HS : Hid (z.size = cs.size) := Lib.hid (by rw [hsz, hz1])
          clear hsz hz1
          go_wp2_with (first
            | ((with_reducible refine wpList_load_blk rfl 104 (.tmp 2) rfl w.heap.size cs 104 8 103 rfl h1 Try.underlying104 HI.out ?_); simp only [Act.put, List.setIfInBounds_toArray, List.set_cons_zero, List.set_cons_succ])
            | ((with_reducible refine wpList_store_blk rfl 104 (.tmp 4) (.tmp 100) rfl (w.heap.size + 1) cs z 104 rfl rfl hz2 HI.out HS.out hone ?_); simp only [Act.put]))
          refine bodyPost_ret (results_blk rfl _ (w.heap.size + 1) 104 cs 8 103 rfl (hz2.row cs) Try.underlying104 HI.out) rfl ⟨?_, below_row h4 (by omega) _⟩
          rw [← HC.out, ← HMX.out, ← HX.out, ← S0.out]
end Go.Proofs.Ytcnhhlnbmliihaa
