import Derived.Test.YtbofmfocnbennaaChaBegin
namespace Go.Proofs.Ytbofmfocnbennaa
open Go.RowKit
set_option maxRecDepth 100000
set_option linter.unusedVariables false
set_option linter.unusedSimpArgs false

def mixL (l : List (BitVec 32)) (a b c d : Nat) : List (BitVec 32) :=
  (((l.set a (qr (l.getD a 0) (l.getD b 0) (l.getD c 0) (l.getD d 0)).1).set b (qr (l.getD a 0) (l.getD b 0) (l.getD c 0) (l.getD d 0)).2.1).set c (qr (l.getD a 0) (l.getD b 0) (l.getD c 0) (l.getD d 0)).2.2.1).set d (qr (l.getD a 0) (l.getD b 0) (l.getD c 0) (l.getD d 0)).2.2.2
theorem mixL_length (l : List (BitVec 32)) (a b c d : Nat) : (mixL l a b c d).length = l.length := by simp [mixL]
def colL (l : List (BitVec 32)) (k : Nat) : List (BitVec 32) := (List.range k).foldl (fun l i => mixL l i (4 + i) (8 + i) (12 + i)) l
def diaL (l : List (BitVec 32)) (k : Nat) : List (BitVec 32) := (List.range k).foldl (fun l i => mixL l i (4 + (i + 1) % 4) (8 + (i + 2) % 4) (12 + (i + 3) % 4)) l
def dblL (l : List (BitVec 32)) : List (BitVec 32) := diaL (colL l 4) 4
def rndL (l : List (BitVec 32)) (n : Nat) : List (BitVec 32) := (List.range n).foldl (fun l _ => dblL l) l
theorem colL_zero (l : List (BitVec 32)) : colL l 0 = l := rfl
theorem diaL_zero (l : List (BitVec 32)) : diaL l 0 = l := rfl
theorem colL_succ (l : List (BitVec 32)) (k : Nat) : colL l (k + 1) = mixL (colL l k) k (4 + k) (8 + k) (12 + k) := by
  unfold colL; rw [List.range_succ, List.foldl_append, List.foldl_cons, List.foldl_nil]
theorem diaL_succ (l : List (BitVec 32)) (k : Nat) : diaL l (k + 1) = mixL (diaL l k) k (4 + (k + 1) % 4) (8 + (k + 2) % 4) (12 + (k + 3) % 4) := by
  unfold diaL; rw [List.range_succ, List.foldl_append, List.foldl_cons, List.foldl_nil]
theorem rndL_succ (l : List (BitVec 32)) (k : Nat) : rndL l (k + 1) = dblL (rndL l k) := by
  unfold rndL; rw [List.range_succ, List.foldl_append, List.foldl_cons, List.foldl_nil]
theorem colL_length (l : List (BitVec 32)) (k : Nat) : (colL l k).length = l.length := by
  induction k with
  | zero => rfl
  | succ k ih => rw [colL_succ, mixL_length, ih]
theorem diaL_length (l : List (BitVec 32)) (k : Nat) : (diaL l k).length = l.length := by
  induction k with
  | zero => rfl
  | succ k ih => rw [diaL_succ, mixL_length, ih]
theorem rndL_length (l : List (BitVec 32)) (k : Nat) : (rndL l k).length = l.length := by
  induction k with
  | zero => rfl
  | succ k ih => rw [rndL_succ, dblL, diaL_length, colL_length, ih]

theorem rndL_zero (l : List (BitVec 32)) : rndL l 0 = l := rfl
theorem dblL_eq (l : List (BitVec 32)) : dblL l = diaL (colL l 4) 4 := rfl
attribute [irreducible] colL diaL rndL dblL

/-- The sum of two states as bytes. -/
def outL (f s : List (BitVec 32)) (k : Nat) : List UInt8 := (List.range k).foldl (fun l i => (((l.set (4 * i) (lob (s.getD i 0 + f.getD i 0))).set (4 * i + 1) (lob ((s.getD i 0 + f.getD i 0) >>> 8))).set (4 * i + 2) (lob ((s.getD i 0 + f.getD i 0) >>> 16))).set (4 * i + 3) (lob ((s.getD i 0 + f.getD i 0) >>> 24))) (List.replicate 64 0)
theorem outL_zero (f s : List (BitVec 32)) : outL f s 0 = List.replicate 64 0 := rfl
theorem outL_succ (f s : List (BitVec 32)) (k : Nat) : outL f s (k + 1) = ((((outL f s k).set (4 * k) (lob (s.getD k 0 + f.getD k 0))).set (4 * k + 1) (lob ((s.getD k 0 + f.getD k 0) >>> 8))).set (4 * k + 2) (lob ((s.getD k 0 + f.getD k 0) >>> 16))).set (4 * k + 3) (lob ((s.getD k 0 + f.getD k 0) >>> 24)) := by
  unfold outL; rw [List.range_succ, List.foldl_append, List.foldl_cons, List.foldl_nil]
theorem outL_length (f s : List (BitVec 32)) (k : Nat) : (outL f s k).length = 64 := by
  induction k with
  | zero => rw [outL_zero, List.length_replicate]
  | succ k ih => rw [outL_succ]; simp only [List.length_set, ih]
attribute [irreducible] outL
/-- The stream's bytes of a counter. -/
def strm (key nonce : ByteArray) (c : BitVec 32) : List UInt8 := outL (bgn key nonce c) (rndL (bgn key nonce c) 10) 16
theorem strm_length (key nonce : ByteArray) (c : BitVec 32) : (strm key nonce c).length = 64 := outL_length _ _ _

theorem run_index_words {P : Program} {t e : TypeId} {n : Nat} {k : IntKind} (hu : P.underlying t = some (.array n e)) (hue : P.underlying e = some (.int k)) (he : (P.info? e).map (·.size) = some 1) (l : List (BitVec 32)) (i : Nat) (hi : i < n) (hl : l.length = n) (W : World) :
    (Instr.index t (.agg (wcells l)) (.int .i64 (i : Int))).run P W = .ok (.int .u32 (V (l.getD i 0))) W := by
  obtain ⟨inf, h1, h2⟩ : ∃ inf, P.info? e = some inf ∧ inf.size = 1 := by
    cases h : P.info? e with
    | none => rw [h] at he; cases he
    | some inf => rw [h] at he; exact ⟨inf, rfl, by simpa using he⟩
  have hin : (0 : Int) ≤ (i : Int) ∧ (i : Int) < (n : Int) := ⟨by omega, by omega⟩
  have hg := wcells_get l i (by omega)
  simp [Instr.index, asIntOf, run_underlying hu, run_underlying hue, part, isAgg, sizeOf, typeInfo, h1, h2, hg]
  intro h
  omega

theorem setCell_brow {w : World} {g i : Nat} {t : TypeId} {l : List UInt8} (h : Blk w g t (bcells l)) (x : UInt8) : w.setCell ⟨g, i, none⟩ (.int .u8 ((x.toNat : Nat) : Int)) = w.setRow g (bcells (l.set i x)) := by
  rw [setCell_eq_setRow w g i _ t (0, 0) _ h, bcells_set]
theorem four_bytes {w : World} {g : Nat} {t : TypeId} {l : List UInt8} (h : Blk w g t (bcells l)) (i0 i1 i2 i3 : Nat) (x : BitVec 32) :
    (((w.setCell ⟨g, i0, none⟩ (.int .u8 (((lob x).toNat : Nat) : Int))).setCell ⟨g, i1, none⟩ (.int .u8 (((lob (x >>> 8)).toNat : Nat) : Int))).setCell ⟨g, i2, none⟩ (.int .u8 (((lob (x >>> 16)).toNat : Nat) : Int))).setCell ⟨g, i3, none⟩ (.int .u8 (((lob (x >>> 24)).toNat : Nat) : Int)) =
      w.setRow g (bcells ((((l.set i0 (lob x)).set i1 (lob (x >>> 8))).set i2 (lob (x >>> 16))).set i3 (lob (x >>> 24)))) := by
  rw [setCell_brow h, setCell_brow (h.row _), setRow_setRow, setCell_brow (h.row _), setRow_setRow, setCell_brow (h.row _), setRow_setRow]

theorem setCell_wrow {w : World} {g i : Nat} {t : TypeId} {l : List (BitVec 32)} (h : Blk w g t (wcells l)) (x : BitVec 32) : w.setCell ⟨g, i, none⟩ (.int .u32 (V x)) = w.setRow g (wcells (l.set i x)) := by
  rw [setCell_eq_setRow w g i _ t (0, 0) _ h, wcells_set]

theorem cmixB (g : Nat) (l : List (BitVec 32)) (hl : l.length = 16) (a b c d : Int) (w : World) (ha0 : 0 ≤ a) (ha : a < 4) (hb0 : 4 ≤ b) (hb : b < 8) (hc0 : 8 ≤ c) (hc : c < 12) (hd0 : 12 ≤ d) (hd : d < 16)
    (hB : Blk w g 94 (wcells l)) :
    Calls Try.prog 74 #[.pointer (some ⟨g, 0, none⟩), .int .i64 a, .int .i64 b, .int .i64 c, .int .i64 d] w fun e w' =>
      e = .returned (.tuple #[]) ∧ ∃ m, w' = (w.drewN m).setRow g (wcells (mixL l a.toNat b.toNat c.toNat d.toNat)) := by
  obtain ⟨a, rfl⟩ := Int.eq_ofNat_of_zero_le ha0
  obtain ⟨b, rfl⟩ := Int.eq_ofNat_of_zero_le (show 0 ≤ b by omega)
  obtain ⟨c, rfl⟩ := Int.eq_ofNat_of_zero_le (show 0 ≤ c by omega)
  obtain ⟨d, rfl⟩ := Int.eq_ofNat_of_zero_le (show 0 ≤ d by omega)
  refine (cmix g a b c d _ _ _ _ w (by omega) (by omega) (by omega) (by omega) (by omega) (by omega) (by omega)
    ((hB.cell a).trans (wcells_get l a (by omega))) ((hB.cell b).trans (wcells_get l b (by omega))) ((hB.cell c).trans (wcells_get l c (by omega))) ((hB.cell d).trans (wcells_get l d (by omega)))
    (hB.frozen a) (hB.frozen b) (hB.frozen c) (hB.frozen d)).mono ?_
  rintro e w' ⟨he, m, hw⟩
  refine ⟨he, m, ?_⟩
  rw [hw, setCell_wrow (hB.drewN m), setCell_wrow ((hB.drewN m).row _), setRow_setRow, setCell_wrow ((hB.drewN m).row _), setRow_setRow,
    setCell_wrow ((hB.drewN m).row _), setRow_setRow]
  rfl

theorem word_info : (Try.prog.info? 88).map (·.size) = some 1 := by kernel_rfl
theorem row_size : (Try.prog.info? 84).map (·.size) = some 64 := by kernel_rfl

set_option maxRecDepth 100000 in
set_option maxHeartbeats 400000 in
theorem cblock (key nonce : ByteArray) (c : Int) (w : World) (hk : key.size = 32) (hn : nonce.size = 12) :
    Calls Try.prog 68 #[.string key, .string nonce, .int .i64 c] w fun e w' =>
      e = .returned (.agg (bcells (strm key nonce (.ofInt 32 c)))) ∧ Below w.heap.size w w' := by
  have HK := Lib.hid hk
  have HN := Lib.hid hn
  clear hk hn
  go_enter Try.func68, Try.ntmps68
  go_wp2_with fail
  (with_reducible refine (cbegin _ _ _ _ HK.out HN.out).mono ?_); rintro e w1 ⟨rfl, hB1⟩
  have hZ : BlkN w1 w.heap.size 84 64 := ⟨_, rfl, (Blk.new w _ _).below hB1 (by simp)⟩
  have hB : Below w.heap.size w w1 := ((Below.refl _ _).alloc (Nat.le_refl _) _).trans (hB1.mono (by simp))
  have hz := hZ.lt
  clear hB1
  have hl1 := bgn_length key nonce (.ofInt 32 c)
  generalize hs : bgn key nonce (.ofInt 32 c) = s0 at *
  have HI : Hid ((Try.prog.info? 94).map (·.size) = some (wcells s0).size) := by rw [size_wcells, hl1]; exact state_size
  have HS : Hid (16 = (wcells s0).size) := by rw [size_wcells, hl1]; rfl
  have hone := wcells_one s0
  have HLS := Lib.hid hs
  have HL1 := Lib.hid hl1
  clear hs hl1
  generalize hcs : wcells s0 = cs at *
  have HC := Lib.hid hcs
  clear hcs
  have hw16 : ∀ W : World, Hid (W.heap.size + 1 = (W.alloc (.cells cs 94)).heap.size) := fun W => Lib.hid (by simp)
  go_wp2_with (first
    | ((with_reducible refine wpList_store_new rfl 94 (.tmp 7) (.tmp 17) rfl w1.heap.size cs _ 94 rfl rfl rfl rfl HI.out ?hs1 hone ?_); (case hs1 => exact HS.out); dsimp only [Act.put])
    | ((with_reducible refine wpList_load_blk rfl 94 (.tmp 7) rfl w1.heap.size cs 94 16 88 rfl (Blk.new _ _ _) Try.underlying94 HI.out ?_); simp only [Act.put, List.setIfInBounds_toArray, List.set_cons_zero, List.set_cons_succ])
    | ((with_reducible refine wpList_store_new rfl 94 (.tmp 8) (.tmp 18) rfl (w1.heap.size + 1) cs _ 94 rfl rfl rfl ?hg2 HI.out ?hs2 hone ?_); (case hg2 => exact (hw16 w1).out.symm); (case hs2 => exact HS.out); dsimp only [Act.put]))
  have h1 : Blk ((w1.alloc (.cells cs 94)).alloc (.cells cs 94)) w1.heap.size 94 cs := heap_alloc2_old _ _ _
  have h2 : Blk ((w1.alloc (.cells cs 94)).alloc (.cells cs 94)) (w1.heap.size + 1) 94 (wcells (rndL s0 0)) := by rw [rndL_zero, HC.out]; exact heap_alloc2_new _ _ _
  have h3 := (hZ.alloc (.cells cs 94)).alloc (.cells cs 94)
  have h4 := (hB.alloc hB.size (.cells cs 94)).alloc (by have := hB.size; simp; omega) (.cells cs 94)
  clear hw16
  go_loopw [19] (fun i wr => ∃ n : Nat, n ≤ 10 ∧ i = .int .i64 n ∧ Blk wr w1.heap.size 94 cs ∧ Blk wr (w1.heap.size + 1) 94 (wcells (rndL s0 n)) ∧ BlkN wr w.heap.size 84 64 ∧ Below w.heap.size w wr)
    (fun i _ => 10 - (intOf i).toNat)
  case atStart => exact ⟨0, by omega, rfl, h1, h2, h3, h4⟩
  case round =>
    clear h1 h2 h3 h4
    obtain ⟨n, hn, rfl, h1, h2, h3, h4⟩ := hrel
    have HLn : Hid ((rndL s0 n).length = 16) := by rw [rndL_length]; exact HL1.out
    by_cases hlt : n < 10
    · have hdn : decide ((n : Int) < 10) = true := by simp; omega
      go_wp2_with fail
      go_loopw [21] (fun i wr => ∃ k : Nat, k ≤ 4 ∧ i = .int .i64 k ∧ Blk wr w1.heap.size 94 cs ∧ Blk wr (w1.heap.size + 1) 94 (wcells (colL (rndL s0 n) k)) ∧ BlkN wr w.heap.size 84 64 ∧ Below w.heap.size w wr)
        (fun i _ => 4 - (intOf i).toNat)
      case atStart => exact ⟨0, by omega, rfl, h1, by rw [colL_zero]; exact h2, h3, h4⟩
      case round =>
        clear h1 h2 h3 h4
        obtain ⟨k, hk, rfl, h1, h2, h3, h4⟩ := hrel
        have HLk : Hid ((colL (rndL s0 n) k).length = 16) := by rw [colL_length]; exact HLn.out
        by_cases hlk : k < 4
        · go_wp2_with (go_at_call 74; ((with_reducible refine (cmixB _ _ HLk.out _ _ _ _ _ (by omega) (by omega) (by omega) (by omega) (by omega) (by omega) (by omega) (by omega) h2).mono ?_); rintro e w' ⟨rfl, m, rfl⟩))
          go_roundw
          case rel =>
            refine ⟨k + 1, by omega, by go_num, (h1.drewN m).row_far (by omega) _, ?_, (h3.drewN m).row_far (by omega) _, below_row (below_drewN h4 m) (by omega) _⟩
            rw [colL_succ]
            exact (h2.drewN m).row _
          case measure => simp [intOf]; omega
        · have e : k = 4 := by omega
          rw [e] at h2
          clear e
          go_wp2_with fail
          go_loopw [33] (fun i wr => ∃ k : Nat, k ≤ 4 ∧ i = .int .i64 k ∧ Blk wr w1.heap.size 94 cs ∧ Blk wr (w1.heap.size + 1) 94 (wcells (diaL (colL (rndL s0 n) 4) k)) ∧ BlkN wr w.heap.size 84 64 ∧ Below w.heap.size w wr)
            (fun i _ => 4 - (intOf i).toNat)
          case atStart => exact ⟨0, by omega, rfl, h1, by rw [diaL_zero]; exact h2, h3, h4⟩
          case round =>
            clear h1 h2 h3 h4
            obtain ⟨k, hk, rfl, h1, h2, h3, h4⟩ := hrel
            have HLk : Hid ((diaL (colL (rndL s0 n) 4) k).length = 16) := by rw [diaL_length, colL_length]; exact HLn.out
            by_cases hlk : k < 4
            · go_wp2_with (go_at_call 74; ((with_reducible refine (cmixB _ _ HLk.out _ _ _ _ _ (by omega) (by omega) (by omega) (by omega) (by omega) (by omega) (by omega) (by omega) h2).mono ?_); rintro e w' ⟨rfl, m, rfl⟩))
              go_roundw
              case rel =>
                refine ⟨k + 1, by omega, by go_num, (h1.drewN m).row_far (by omega) _, ?_, (h3.drewN m).row_far (by omega) _, below_row (below_drewN h4 m) (by omega) _⟩
                rw [diaL_succ]
                exact (h2.drewN m).row _
              case measure => simp [intOf]; omega
            · have e : k = 4 := by omega
              rw [e] at h2
              clear e
              go_wp2_with fail
              go_roundw
              case rel =>
                exact ⟨n + 1, by omega, by go_num, h1, by rw [rndL_succ, dblL_eq]; exact h2, h3, h4⟩
              case measure => simp [intOf]; omega
    · have e : n = 10 := by omega
      rw [e] at h2
      clear e
      obtain ⟨s, HR⟩ : ∃ s, Hid (rndL s0 10 = s) := ⟨_, Lib.hid rfl⟩
      have HL2 : Hid (s.length = 16) := by rw [← HR.out, rndL_length]; exact HL1.out
      rw [HR.out] at h2
      have HI2 : Hid ((Try.prog.info? 94).map (·.size) = some (wcells s).size) := by rw [size_wcells, HL2.out]; exact state_size
      have hdn : decide ((n : Int) < 10) = false := by simp; omega
      go_wp2_with ((with_reducible refine wpList_load_blk rfl 94 (.tmp 8) rfl (w1.heap.size + 1) (wcells s) 94 16 88 rfl (h2.alloc _) Try.underlying94 HI2.out ?_); simp only [Act.put, List.setIfInBounds_toArray, List.set_cons_zero, List.set_cons_succ])
      obtain ⟨wo, rfl⟩ : ∃ wo : World, wo = wr := ⟨_, rfl⟩
      have hq1 := h1.alloc (.cells (bcells (List.replicate 64 0)) 84)
      have hq2 : Blk (wo.alloc (.cells (bcells (List.replicate 64 0)) 84)) wo.heap.size 84 (bcells (outL s0 s 0)) := by rw [outL_zero]; exact Blk.new _ _ _
      have hq3 := h3.alloc (.cells (bcells (List.replicate 64 0)) 84)
      have hq4 := h4.alloc h4.size (.cells (bcells (List.replicate 64 0)) 84)
      have hg1 := h1.lt
      have hg3 := h3.lt
      have hg4 := h4.size
      clear h1 h2 h3 h4 hdn
      go_loopw [53] (fun i w2 => ∃ k : Nat, k ≤ 16 ∧ i = .int .i64 k ∧ Blk w2 w1.heap.size 94 cs ∧ Blk w2 wo.heap.size 84 (bcells (outL s0 s k)) ∧ BlkN w2 w.heap.size 84 64 ∧ Below w.heap.size w w2)
        (fun i _ => 16 - (intOf i).toNat)
      case atStart => exact ⟨0, by omega, rfl, hq1, hq2, hq3, hq4⟩
      case round =>
        clear hq1 hq2 hq3 hq4
        obtain ⟨k, hk, rfl, h1, h2, h3, h4⟩ := hrel
        by_cases hlk : k < 16
        · have hix := run_index_words (P := Try.prog) Try.underlying94 Try.underlying88 word_info s k hlk HL2.out
          have hcf : wr.cell? ⟨w1.heap.size, k, none⟩ = some (.int .u32 (V (s0.getD k 0))) := by
            rw [h1.cell, ← HC.out]; exact wcells_get _ _ (by rw [HL1.out]; exact hlk)
          have c0 := (h2.cell (4 * k)).trans (bcells_get _ _ (by rw [outL_length]; omega))
          have c1 := (h2.cell (4 * k + 1)).trans (bcells_get _ _ (by rw [outL_length]; omega))
          have c2 := (h2.cell (4 * k + 2)).trans (bcells_get _ _ (by rw [outL_length]; omega))
          have c3 := (h2.cell (4 * k + 3)).trans (bcells_get _ _ (by rw [outL_length]; omega))
          have f0 := h2.frozen (4 * k)
          have f1 := h2.frozen (4 * k + 1)
          have f2 := h2.frozen (4 * k + 2)
          have f3 := h2.frozen (4 * k + 3)
          go_wp2_with fail
          go_roundw
          case rel =>
            have e := four_bytes h2 (4 * k) (4 * k + 1) (4 * k + 2) (4 * k + 3) (s[k]?.getD 0#32 + s0[k]?.getD 0#32)
            rw [e]
            exact ⟨k + 1, by omega, by go_num, h1.row_far (by omega) _, by rw [outL_succ]; exact h2.row _, h3.row_far (by omega) _, below_row h4 (by omega) _⟩
          case measure => simp [intOf]; omega
        · have e : k = 16 := by omega
          rw [e] at h2
          clear e
          obtain ⟨z, hz1, hz2⟩ := h3
          obtain ⟨o, HO⟩ : ∃ o, Hid (bcells (outL s0 s 16) = o) := ⟨_, Lib.hid rfl⟩
          have hone2 := bcells_one (outL s0 s 16)
          have hsz : (bcells (outL s0 s 16)).size = 64 := by rw [size_bcells, outL_length]
          rw [HO.out] at h2 hone2 hsz
          have HI3 : Hid ((Try.prog.info? 84).map (·.size) = some o.size) := by rw [hsz]; exact row_size
          have HS3 : Hid (z.size = o.size) := by rw [hsz]; exact hz1
          clear hsz hz1
          go_wp2_with (first
            | ((with_reducible refine wpList_load_blk rfl 84 (.tmp 11) rfl wo.heap.size o 84 64 5 rfl h2 Try.underlying84 HI3.out ?_); simp only [Act.put, List.setIfInBounds_toArray, List.set_cons_zero, List.set_cons_succ])
            | ((with_reducible refine wpList_store_blk rfl 84 (.tmp 6) (.tmp 89) rfl w.heap.size o z 84 rfl rfl hz2 HI3.out HS3.out hone2 ?_); simp only [Act.put]))
          refine bodyPost_ret (results_blk rfl _ w.heap.size 84 o 64 5 rfl (hz2.row o) Try.underlying84 HI3.out) rfl ⟨?_, below_row h4 (Nat.le_refl _) _⟩
          rw [← HO.out, ← HR.out, ← HLS.out]
          rfl
end Go.Proofs.Ytbofmfocnbennaa
