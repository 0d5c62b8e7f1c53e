/- What is proved leads to the root; the example of chapter 41. -/
import Derived.Test.YtcnhhlnbmliihaaMultiC
import Derived.Test.YtcnhhlnbmliihaaMultiAll
import Derived.Test.YtcnhhlnbmliihaaFewAll
import Derived.Test.YtcnhhlnbmliihaaOrdP
namespace Go.Proofs.Ytcnhhlnbmliihaa
open Go.RowKit
set_option linter.unusedVariables false
set_option linter.unusedSimpArgs false

theorem Ints.of_blk {w : World} {g : Nat} {t : TypeId} {zs : List Int} (h : Blk w g t (zs.map vInt).toArray) : Ints w (some ⟨g, 0, none⟩) zs := fun _ => by
  refine ⟨g, 0, rfl, h.lt, fun j hj => ?_⟩
  rw [Nat.zero_add, h.cell]
  simp [hj]
theorem upM_back (w : Nat) (a : List Bool) (l : List ByteArray) (n : Nat) (hl : l.length = n) (ha : a.length = n) (h1 : 1 ≤ n) : upM w a (sel a l) (pv w a l) = root w l := by
  have := upM_pv w n a l [] [] hl ha h1
  rw [List.append_nil, List.append_nil] at this
  exact this
theorem rise_len (a : List Bool) (h : noneB a = false) : 1 ≤ a.length := by
  have h1 := noneB_false a h
  have h2 := idx_length_le a
  omega
theorem cRootM_back (w : Int) (a : List Bool) (l : List ByteArray) (n : Nat) (A : Option Addr) (m c : Nat) (Al : Option Addr) (cl : Nat) (Ap : Option Addr) (r cp : Nat) (W : World) (ha : a.length = n) (hl : l.length = n) (hna : noneB a = false) (hn6 : n ≤ 1000000) (hz : ∀ s ∈ l, s.size = wd w) (hm : (idxI a).length = m) (hs : Ints W A (idxI a)) (hmc : m ≤ c)
    (hls : Strs W Al (sel a l)) (hlc : m ≤ cl) (hr : (pv (wd w) a l).length = r) (hps : Strs W Ap (pv (wd w) a l)) (hpc : r ≤ cp) :
    Calls Try.prog 14 #[.int .i64 w, .int .i64 n, .slice A m c, .slice Al m cl, .slice Ap r cp] W fun e W' => e = .returned (.tuple #[.string (root (wd w) l), .int .i64 0]) ∧ Below W.heap.size W W' := by
  have h1 : 1 ≤ n := by rw [← ha]; exact rise_len a hna
  have hw := wd_hi w
  have hsl : (sel a l).length = m := by rw [sel_length a l (by omega), ← idxI_length]; exact hm
  have hpl := pv_length (wd w) n a l hl ha h1
  have hcn := cn_le n a ha h1
  have hpz := pv_sizes (wd w) hw n a l hl h1 hz
  have hsz : ∀ s ∈ sel a l, s.size = wd w := fun s hs => hz s (sel_mem a l s hs)
  refine (cRootM w a n A m c Al cl (sel a l) Ap r cp (pv (wd w) a l) W ha hna hn6 hm hs hmc hsl hls hlc hr hps hpc (by omega) (fun s h => by have := hsz s h; omega) (fun s h => by have := hpz s h; omega)).mono ?_
  rintro e W' ⟨rfl, hb⟩
  refine ⟨?_, hb⟩
  have e1 : ((sel a l).all fun s => s.size == wd w) = true := by
    rw [List.all_eq_true]
    intro s hs
    rw [hsz s hs]; exact beq_self_eq_true _
  have e2 : ((pv (wd w) a l).all fun s => s.size == wd w) = true := by
    rw [List.all_eq_true]
    intro s hs
    rw [hpz s hs]; exact beq_self_eq_true _
  rw [if_pos ⟨by omega, e1, e2⟩, upM_back (wd w) a l n hl ha h1]
theorem cCheckM_back (w : Int) (a : List Bool) (l : List ByteArray) (n : Nat) (A : Option Addr) (m c : Nat) (Al : Option Addr) (cl : Nat) (Ap : Option Addr) (r cp : Nat) (W : World) (ha : a.length = n) (hl : l.length = n) (hna : noneB a = false) (hn6 : n ≤ 1000000) (hz : ∀ s ∈ l, s.size = wd w) (hm : (idxI a).length = m) (hs : Ints W A (idxI a)) (hmc : m ≤ c)
    (hls : Strs W Al (sel a l)) (hlc : m ≤ cl) (hr : (pv (wd w) a l).length = r) (hps : Strs W Ap (pv (wd w) a l)) (hpc : r ≤ cp) :
    Calls Try.prog 16 #[.int .i64 w, .string (root (wd w) l), .int .i64 n, .slice A m c, .slice Al m cl, .slice Ap r cp] W fun e W' => e = .returned (.int .i64 0) ∧ Below W.heap.size W W' := by
  refine (cCheckM w (n : Int) _ _ _ (root (wd w) l) (root (wd w) l) 0 W (cRootM_back w a l n A m c Al cl Ap r cp W ha hl hna hn6 hz hm hs hmc hls hlc hr hps hpc)).mono ?_
  rintro e W' ⟨rfl, hb⟩
  refine ⟨?_, hb⟩
  have e : checkM (root (wd w) l) 0 (root (wd w) l) = 0 := if_neg (fun h => h.2 rfl)
  rw [e]; exact rfl
theorem cut4 : cut 4 = 2 := by decide +kernel
theorem cut2 : cut 2 = 1 := by decide +kernel
theorem pv_four (w : Nat) (a b c d : ByteArray) : pv w [false, true, true, false] [a, b, c, d] = [a, d] := by
  rw [pv_cut w _ _ rfl (by simp)]
  show pv w ([false, true, true, false].take (cut 4)) ([a, b, c, d].take (cut 4)) ++ pv w ([false, true, true, false].drop (cut 4)) ([a, b, c, d].drop (cut 4)) = _
  rw [cut4]
  show pv w [false, true] [a, b] ++ pv w [true, false] [c, d] = _
  rw [pv_cut w [false, true] [a, b] rfl (by simp), pv_cut w [true, false] [c, d] rfl (by simp)]
  show (pv w ([false, true].take (cut 2)) ([a, b].take (cut 2)) ++ pv w ([false, true].drop (cut 2)) ([a, b].drop (cut 2))) ++ (pv w ([true, false].take (cut 2)) ([c, d].take (cut 2)) ++ pv w ([true, false].drop (cut 2)) ([c, d].drop (cut 2))) = _
  rw [cut2]
  show (pv w [false] [a] ++ pv w [true] [b]) ++ (pv w [true] [c] ++ pv w [false] [d]) = _
  rw [pv_none w [false] [a] rfl, pv_one w [true] [b] rfl (by simp), pv_one w [true] [c] rfl (by simp), pv_none w [false] [d] rfl, root_one w [a] rfl, root_one w [d] rfl]
  rfl
abbrev four : List ByteArray := [⟨#[97]⟩, ⟨#[98]⟩, ⟨#[99]⟩, ⟨#[100]⟩]
set_option maxRecDepth 100000 in
set_option maxHeartbeats 4000000 in
theorem cAwake41 (w : World) : Calls Try.prog 13 #[] w fun e w' => e = .returned (.bool true) ∧ Below w.heap.size w w' := by
  have s1 := fun (W : World) => cSumsAll41 32 (some ⟨W.heap.size, 0, none⟩) 4 4 four (W.alloc (.cells #[.string ⟨#[97]⟩, .string ⟨#[98]⟩, .string ⟨#[99]⟩, .string ⟨#[100]⟩] 9)) rfl (Strs.of_blk (t := 9) (Blk.new W 9 _)) (by omega) (by omega) (by decide +kernel)
  obtain ⟨ls, HL⟩ : ∃ x, Hid (four.map (mleaf (wd 32)) = x) := ⟨_, Lib.hid rfl⟩
  simp only [HL.out] at s1
  have hll : ls.length = 4 := by rw [← HL.out]; rfl
  have hlz : ∀ s ∈ ls, s.size = wd 32 := fun s hs => by
    rw [← HL.out] at hs
    obtain ⟨x, _, rfl⟩ := List.mem_map.1 hs
    exact mleaf_size _ _ (wd_hi 32)
  obtain ⟨a, b, c, d, rfl⟩ : ∃ a b c d, ls = [a, b, c, d] := by
    match ls, hll with
    | [a, b, c, d], _ => exact ⟨a, b, c, d, rfl⟩
  have hlz3 : ∀ s ∈ [a, b, c, d], s.size ≤ 300000000 := fun s hs => by have := hlz s hs; have := wd_hi 32; omega
  have hi2 : idxI [false, true, true, false] = [1, 2] := rfl
  have p1 := fun A ca W (h : Strs W A [a, b, c, d]) hc => cProveM_yes 32 [false, true, true, false] [a, b, c, d] (some ⟨W.heap.size, 0, none⟩) 2 2 A 4 ca (W.alloc (.cells #[.int .i64 1, .int .i64 2] 3)) rfl rfl rfl (by rw [hi2]; exact Ints.of_blk (t := 3) (Blk.new W 3 _)) (by omega) (h.alloc _) hc (by omega) rfl hlz3
  have r3 := fun A ca W h hc => crRoot 32 4 A ca [a, b, c, d] W rfl h hc (by omega) hlz3
  have hsel : sel [false, true, true, false] [a, b, c, d] = [b, c] := rfl
  have k1 := fun A g o ca cp G W (hI : Ints W (some ⟨G, 0, none⟩) [1, 2]) (h : Strs W (some ⟨g, o, none⟩) [b, c]) hc (h' : Strs W A [a, d]) hc' => cCheckM_back 32 [false, true, true, false] [a, b, c, d] 4 (some ⟨G, 0, none⟩) 2 2 (some ⟨g, o, none⟩) ca A 2 cp W rfl rfl rfl (by omega) hlz rfl (by rw [hi2]; exact hI) (by omega) (by rw [hsel]; exact h) hc (by rw [pv_four]; rfl) (by rw [pv_four]; exact h') hc'
  have E4 : ((4 : Nat) : Int) = 4 := rfl
  simp only [pv_four] at p1
  simp only [E4] at k1
  dsimp only [List.length] at p1
  obtain ⟨Y, HY⟩ : ∃ x, Hid (root (wd 32) [a, b, c, d] = x) := ⟨_, Lib.hid rfl⟩
  simp only [HY.out] at r3 k1
  have sm := fun A ca W (h : Strs W A [a, d]) => cSame A (some ⟨W.heap.size, 0, none⟩) 2 2 ca 2 [a, d] [a, d] (W.alloc (.cells #[.string a, .string d] 9)).drew rfl rfl (h.alloc _).drew (Strs.of_blk (t := 9) (Blk.new W 9 _)).drew (by omega) (by omega)
  have edd : decide ([a, d] = [a, d]) = true := decide_eq_true rfl
  simp only [edd] at sm
  have S1 := Lib.hid s1
  have P1 := Lib.hid p1
  have R3 := Lib.hid r3
  have K1 := Lib.hid k1
  have SM := Lib.hid sm
  clear s1 p1 r3 k1 sm edd hlz hlz3 hll hi2 hsel E4
  have hB0 := Below.refl w.heap.size w
  go_enter Try.func13, Try.ntmps13
  go_wp2_with fail
  (with_reducible refine (S1.out _).mono ?_); rintro e w1 ⟨A, ca, rfl, hca, hS1, hb1⟩
  have hBa : Below w.heap.size w (w.alloc (.cells #[.string ⟨#[97]⟩, .string ⟨#[98]⟩, .string ⟨#[99]⟩, .string ⟨#[100]⟩] 9)) := hB0.alloc (Nat.le_refl _) _
  have hB1 := hBa.trans (hb1.mono hBa.size)
  clear hb1 hBa hB0
  go_wp2_with fail
  (with_reducible refine (P1.out _ _ _ hS1 hca).mono ?_); rintro e w2 ⟨A2, c2, rfl, hc2, hSL, hb2⟩
  have HS2 := Lib.hid (Strs.of_sl hSL)
  have hb2' := ((Below.refl w1.heap.size w1).alloc (Nat.le_refl _) (.cells #[.int .i64 1, .int .i64 2] 3))
  replace hb2 := hb2'.trans (hb2.mono hb2'.size)
  have HS1 := Lib.hid (hS1.fresh hb2)
  have hB2 := hB1.trans (hb2.mono hB1.size)
  clear hb2 hb2' hB1 hSL hS1
  obtain ⟨gl, ol, rfl, hgl, hcl⟩ := HS1.out (by simp)
  have c0 : w2.drew.cell? ⟨gl, ol, none⟩ = some (.string a) := hcl 0 (by simp)
  have c3 : w2.drew.cell? ⟨gl, ol + 3, none⟩ = some (.string d) := hcl 3 (by simp)
  have hgd : gl < w2.drew.heap.size := hgl
  clear hcl
  have HSA := Lib.hid ((HS1.out.from_ 1 (by simp) (c := ca) (by simpa using hca)).take 2)
  have hcaI : (4 : Int) ≤ (ca : Int) := by omega
  have hcaJ : (3 : Int) ≤ (ca : Int) := by omega
  have hca1 : ¬ ca = 1 := by omega
  go_wp2_with fail
  have hBd := hB2.drew
  have hS0 := Below.refl w2.drew.heap.size w2.drew
  have HD1 := Lib.hid HS1.out.drew
  have HD2 := Lib.hid HS2.out.drew
  have HDA := Lib.hid HSA.out.drew
  refine wp_region_lexP 15 rfl (fun w' => Below w2.drew.heap.size w2.drew w') 0 [] (by kernel_rfl) (by kernel_rfl) hS0 ?_
  dsimp only [List.take]
  repeat (first | (refine wpX_load0 rfl rfl _ _ rfl _ rfl _ rfl Try.underlying9 _ (fun w' h => (h.cell hgd).trans c0) hS0 ?_; simp only [Act.put, List.setIfInBounds_toArray, List.set_cons_zero, List.set_cons_succ, List.getElem_toArray, List.getElem_cons_zero, List.getElem_cons_succ]) | (refine wpX_load0 rfl rfl _ _ rfl _ rfl _ rfl Try.underlying9 _ (fun w' h => (h.cell hgd).trans c3) hS0 ?_; simp only [Act.put, List.setIfInBounds_toArray, List.set_cons_zero, List.set_cons_succ, List.getElem_toArray, List.getElem_cons_zero, List.getElem_cons_succ]) | (refine wpX_pure rfl rfl rfl ?_; intro K hK; go_big_quiet_op; refine hK _ ?_; clear hK K) | (refine wpX_eff rfl rfl ?_; intro K hK; go_wp2_with fail; refine hK _ _ hS0 ?_; clear hK K))
  refine wpX_eff rfl rfl ?_; intro K hK; go_wp2_with fail
  (refine (fun h => hK _ _ h ?_) (hS0.alloc hS0.size _)); clear hK K
  refine wpX_eff rfl rfl ?_; intro K hK; go_wp2_with fail
  (with_reducible refine (SM.out _ _ _ HS2.out).mono ?_); rintro e w5 ⟨rfl, hb5⟩
  go_wp2_with fail
  have hS1 : Below w2.drew.heap.size w2.drew (w2.alloc (.cells #[.string a, .string d] 9)).drew := (hS0.alloc hS0.size (.cells #[.string a, .string d] 9))
  refine hK _ _ (hS1.trans (hb5.mono hS1.size)) ?_; clear hK K h
  replace hS0 := hS1.trans (hb5.mono hS1.size)
  clear hb5 hS1
  repeat (first | (refine wpX_load0 rfl rfl _ _ rfl _ rfl _ rfl Try.underlying9 _ (fun w' h => (h.cell hgd).trans c0) hS0 ?_; simp only [Act.put, List.setIfInBounds_toArray, List.set_cons_zero, List.set_cons_succ, List.getElem_toArray, List.getElem_cons_zero, List.getElem_cons_succ]) | (refine wpX_load0 rfl rfl _ _ rfl _ rfl _ rfl Try.underlying9 _ (fun w' h => (h.cell hgd).trans c3) hS0 ?_; simp only [Act.put, List.setIfInBounds_toArray, List.set_cons_zero, List.set_cons_succ, List.getElem_toArray, List.getElem_cons_zero, List.getElem_cons_succ]) | (refine wpX_pure rfl rfl rfl ?_; intro K hK; go_big_quiet_op; refine hK _ ?_; clear hK K) | (refine wpX_eff rfl rfl ?_; intro K hK; go_wp2_with fail; refine hK _ _ hS0 ?_; clear hK K))
  refine wpX_nil ?_
  refine ⟨?_, ?_⟩
  · refine wpX_eff rfl rfl ?_; intro K hK; go_wp2_with fail
    (with_reducible refine (R3.out _ _ _ (HD1.out.fresh hS0) hca).mono ?_); rintro e w6 ⟨rfl, hb6⟩
    go_wp2_with fail
    refine hK _ _ (hS0.trans (hb6.mono hS0.size)) ?_; clear hK K
    replace hS0 := hS0.trans (hb6.mono hS0.size)
    clear hb6
    refine wpX_eff rfl rfl ?_; intro K hK; go_wp2_with fail
    (refine (fun h => hK _ _ h ?_) (hS0.alloc hS0.size _)); clear hK K
    have HI := Lib.hid (Ints.of_blk (zs := [1, 2]) (t := 3) (Blk.new w6 3 #[.int .i64 1, .int .i64 2]))
    replace hS0 := hS0.alloc hS0.size (.cells #[.int .i64 1, .int .i64 2] 3)
    clear h
    repeat (first | (refine wpX_load0 rfl rfl _ _ rfl _ rfl _ rfl Try.underlying9 _ (fun w' h => (h.cell hgd).trans c0) hS0 ?_; simp only [Act.put, List.setIfInBounds_toArray, List.set_cons_zero, List.set_cons_succ, List.getElem_toArray, List.getElem_cons_zero, List.getElem_cons_succ]) | (refine wpX_load0 rfl rfl _ _ rfl _ rfl _ rfl Try.underlying9 _ (fun w' h => (h.cell hgd).trans c3) hS0 ?_; simp only [Act.put, List.setIfInBounds_toArray, List.set_cons_zero, List.set_cons_succ, List.getElem_toArray, List.getElem_cons_zero, List.getElem_cons_succ]) | (refine wpX_pure rfl rfl rfl ?_; intro K hK; go_big_quiet_op; refine hK _ ?_; clear hK K) | (refine wpX_eff rfl rfl ?_; intro K hK; go_wp2_with fail; refine hK _ _ hS0 ?_; clear hK K))
    refine wpX_eff rfl rfl ?_; intro K hK; go_wp2_with fail
    (with_reducible refine (K1.out _ _ _ _ _ _ _ HI.out (HDA.out.fresh hS0) (by omega) (HD2.out.fresh hS0) hc2).mono ?_); rintro e w7 ⟨rfl, hb7⟩
    go_wp2_with fail
    refine hK _ _ (hS0.trans (hb7.mono hS0.size)) ?_; clear hK K
    replace hS0 := hS0.trans (hb7.mono hS0.size)
    clear hb7
    repeat (first | (refine wpX_load0 rfl rfl _ _ rfl _ rfl _ rfl Try.underlying9 _ (fun w' h => (h.cell hgd).trans c0) hS0 ?_; simp only [Act.put, List.setIfInBounds_toArray, List.set_cons_zero, List.set_cons_succ, List.getElem_toArray, List.getElem_cons_zero, List.getElem_cons_succ]) | (refine wpX_load0 rfl rfl _ _ rfl _ rfl _ rfl Try.underlying9 _ (fun w' h => (h.cell hgd).trans c3) hS0 ?_; simp only [Act.put, List.setIfInBounds_toArray, List.set_cons_zero, List.set_cons_succ, List.getElem_toArray, List.getElem_cons_zero, List.getElem_cons_succ]) | (refine wpX_pure rfl rfl rfl ?_; intro K hK; go_big_quiet_op; refine hK _ ?_; clear hK K) | (refine wpX_eff rfl rfl ?_; intro K hK; go_wp2_with fail; refine hK _ _ hS0 ?_; clear hK K))
    refine wpX_nil ?_
    go_wp2_with fail
    go_ret
    exact ⟨rfl, hBd.trans (hS0.mono hBd.size)⟩
  · refine wpX_eff rfl rfl ?_; intro K hK; go_wp2_with fail
    (refine (fun h => hK _ _ h ?_) (hS0.alloc hS0.size _)); clear hK K
    have HI := Lib.hid (Ints.of_blk (zs := [1, 2]) (t := 3) (Blk.new w5 3 #[.int .i64 1, .int .i64 2]))
    replace hS0 := hS0.alloc hS0.size (.cells #[.int .i64 1, .int .i64 2] 3)
    clear h
    refine wpX_eff rfl rfl ?_; intro K hK; go_wp2_with fail
    (with_reducible refine (R3.out _ _ _ (HD1.out.fresh hS0) hca).mono ?_); rintro e w6 ⟨rfl, hb6⟩
    go_wp2_with fail
    refine hK _ _ (hS0.trans (hb6.mono hS0.size)) ?_; clear hK K
    replace hS0 := hS0.trans (hb6.mono hS0.size)
    have HI2 := Lib.hid (HI.out.fresh hb6)
    clear hb6
    repeat (first | (refine wpX_load0 rfl rfl _ _ rfl _ rfl _ rfl Try.underlying9 _ (fun w' h => (h.cell hgd).trans c0) hS0 ?_; simp only [Act.put, List.setIfInBounds_toArray, List.set_cons_zero, List.set_cons_succ, List.getElem_toArray, List.getElem_cons_zero, List.getElem_cons_succ]) | (refine wpX_load0 rfl rfl _ _ rfl _ rfl _ rfl Try.underlying9 _ (fun w' h => (h.cell hgd).trans c3) hS0 ?_; simp only [Act.put, List.setIfInBounds_toArray, List.set_cons_zero, List.set_cons_succ, List.getElem_toArray, List.getElem_cons_zero, List.getElem_cons_succ]) | (refine wpX_pure rfl rfl rfl ?_; intro K hK; go_big_quiet_op; refine hK _ ?_; clear hK K) | (refine wpX_eff rfl rfl ?_; intro K hK; go_wp2_with fail; refine hK _ _ hS0 ?_; clear hK K))
    refine wpX_eff rfl rfl ?_; intro K hK; go_wp2_with fail
    (with_reducible refine (K1.out _ _ _ _ _ _ _ HI2.out (HDA.out.fresh hS0) (by omega) (HD2.out.fresh hS0) hc2).mono ?_); rintro e w7 ⟨rfl, hb7⟩
    go_wp2_with fail
    refine hK _ _ (hS0.trans (hb7.mono hS0.size)) ?_; clear hK K
    replace hS0 := hS0.trans (hb7.mono hS0.size)
    clear hb7
    repeat (first | (refine wpX_load0 rfl rfl _ _ rfl _ rfl _ rfl Try.underlying9 _ (fun w' h => (h.cell hgd).trans c0) hS0 ?_; simp only [Act.put, List.setIfInBounds_toArray, List.set_cons_zero, List.set_cons_succ, List.getElem_toArray, List.getElem_cons_zero, List.getElem_cons_succ]) | (refine wpX_load0 rfl rfl _ _ rfl _ rfl _ rfl Try.underlying9 _ (fun w' h => (h.cell hgd).trans c3) hS0 ?_; simp only [Act.put, List.setIfInBounds_toArray, List.set_cons_zero, List.set_cons_succ, List.getElem_toArray, List.getElem_cons_zero, List.getElem_cons_succ]) | (refine wpX_pure rfl rfl rfl ?_; intro K hK; go_big_quiet_op; refine hK _ ?_; clear hK K) | (refine wpX_eff rfl rfl ?_; intro K hK; go_wp2_with fail; refine hK _ _ hS0 ?_; clear hK K))
    refine wpX_nil ?_
    go_wp2_with fail
    go_ret
    exact ⟨rfl, hBd.trans (hS0.mono hBd.size)⟩
end Go.Proofs.Ytcnhhlnbmliihaa
