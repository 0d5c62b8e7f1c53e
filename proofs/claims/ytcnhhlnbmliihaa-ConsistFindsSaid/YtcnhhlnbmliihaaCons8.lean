/- Proofs of beginnings: what a proof leads to; awake40. -/
import Derived.Test.YtcnhhlnbmliihaaCons5
import Derived.Test.YtcnhhlnbmliihaaFewAll
namespace Go.Proofs.Ytcnhhlnbmliihaa
open Go.RowKit
set_option linter.unusedVariables false
set_option linter.unusedSimpArgs false

theorem sub_sizes (w : Nat) (hw : w ≤ 32) : ∀ (n m : Nat) (l : List ByteArray) (wh : Bool), l.length = n → 1 ≤ m → m ≤ n → (∀ s ∈ l, s.size = w) → ∀ s ∈ sub w m l wh, s.size = w := by
  intro n
  induction n using Nat.strongRecOn with
  | _ n ih =>
    intro m l wh hl h1 hm hz s hs
    by_cases e : m = n
    · rw [sub_all w m l wh h1 (by omega)] at hs
      cases wh with
      | true => simp at hs
      | false =>
        simp at hs
        rw [hs]; exact root_width w hw l (by omega) hz
    · have hc := cut_lt n (by omega)
      have hp := cut_pos n
      have ht : (l.take (cut n)).length = cut n := by rw [List.length_take]; omega
      have hd : (l.drop (cut n)).length = n - cut n := by rw [List.length_drop, hl]
      have zt : ∀ s ∈ l.take (cut n), s.size = w := fun s hs => hz s (List.mem_of_mem_take hs)
      have zd : ∀ s ∈ l.drop (cut n), s.size = w := fun s hs => hz s (List.mem_of_mem_drop hs)
      by_cases hmc : m ≤ cut n
      · rw [sub_left w m l wh h1 (by omega) (by rw [hl]; exact hmc), hl, List.mem_append] at hs
        rcases hs with hs | hs
        · exact ih (cut n) hc m _ wh ht h1 hmc zt s hs
        · simp at hs; rw [hs]; exact root_width w hw _ (by omega) zd
      · rw [sub_right w m l wh (by omega) (by rw [hl]; omega), hl, List.mem_append] at hs
        rcases hs with hs | hs
        · exact ih (n - cut n) (by omega) (m - cut n) _ false hd (by omega) (by omega) zd s hs
        · simp at hs; rw [hs]; exact root_width w hw _ (by omega) zt
/-- A proof of the first m leads to both roots. -/
theorem roots_sub (w : Nat) (hw : w ≤ 32) (m n : Nat) (l : List ByteArray) (hl : l.length = n) (h1 : 1 ≤ m) (hm : m ≤ n) (hz : ∀ s ∈ l, s.size = w) :
    rootsC w (root w (l.take m)) (m : Int) (n : Int) (sub w m l true) = (root w (l.take m), root w l, 0) := by
  have hb := both_sub w (root w (l.take m)) n m l true hl h1 hm (fun _ => rfl)
  rw [rootsC_ok h1 hm ⟨sub_length w n m l true hl h1 hm, root_width w hw _ (by rw [List.length_take]; omega) (fun s hs => hz s (List.mem_of_mem_take hs)), ?_⟩, hb.1, hb.2]
  rw [List.all_eq_true]
  intro s hs
  rw [sub_sizes w hw n m l true hl h1 hm hz s hs]; exact beq_self_eq_true _
theorem checkC_ok (f a : ByteArray) : checkC (f, a, 0) f a = 0 := if_neg (fun h => h.2 ⟨rfl, rfl⟩)
theorem cut_7 : cut 7 = 4 := by decide +kernel
theorem cut_4 : cut 4 = 2 := by decide +kernel
theorem cut_2' : cut 2 = 1 := by decide +kernel
theorem sub_seven (w : Nat) (a b c d e f g : ByteArray) : sub w 3 [a, b, c, d, e, f, g] true = [c, d, mnode w a b, root w [e, f, g]] := by
  rw [sub_left w 3 [a, b, c, d, e, f, g] true (by decide) (by simp) (by show 3 ≤ cut 7; rw [cut_7]; decide)]
  show sub w 3 ([a, b, c, d, e, f, g].take (cut 7)) true ++ [root w ([a, b, c, d, e, f, g].drop (cut 7))] = _
  rw [cut_7]
  show sub w 3 [a, b, c, d] true ++ [root w [e, f, g]] = _
  rw [sub_right w 3 [a, b, c, d] true (by simp) (by show cut 4 < 3; rw [cut_4]; decide)]
  show sub w (3 - cut 4) ([a, b, c, d].drop (cut 4)) false ++ [root w ([a, b, c, d].take (cut 4))] ++ _ = _
  rw [cut_4]
  show sub w 1 [c, d] false ++ [root w [a, b]] ++ _ = _
  rw [sub_left w 1 [c, d] false (by decide) (by simp) (by show 1 ≤ cut 2; rw [cut_2']; decide)]
  show sub w 1 ([c, d].take (cut 2)) false ++ [root w ([c, d].drop (cut 2))] ++ _ ++ _ = _
  rw [cut_2']
  show sub w 1 [c] false ++ [root w [d]] ++ _ ++ _ = _
  rw [sub_all w 1 [c] false (by decide) rfl, root_two]
  show [root w [c]] ++ [root w [d]] ++ [mnode w a b] ++ [root w [e, f, g]] = _
  rw [root_one w [c] rfl, root_one w [d] rfl]; rfl

abbrev seven : List ByteArray := [⟨#[97]⟩, ⟨#[98]⟩, ⟨#[99]⟩, ⟨#[100]⟩, ⟨#[101]⟩, ⟨#[102]⟩, ⟨#[103]⟩]
set_option maxRecDepth 100000 in
set_option maxHeartbeats 4000000 in
theorem cAwake40 (w : World) : Calls Try.prog 24 #[] w fun e w' => e = .returned (.bool true) ∧ Below w.heap.size w w' := by
  have s1 := fun (W : World) => cSumsAll40 32 (some ⟨W.heap.size, 0, none⟩) 7 7 seven (W.alloc (.cells #[.string ⟨#[97]⟩, .string ⟨#[98]⟩, .string ⟨#[99]⟩, .string ⟨#[100]⟩, .string ⟨#[101]⟩, .string ⟨#[102]⟩, .string ⟨#[103]⟩] 9)) rfl (Strs.of_blk (t := 9) (Blk.new W 9 _)) (by omega) (by omega) (by decide +kernel)
  obtain ⟨ls, HL⟩ : ∃ x, Hid (seven.map (mleaf (wd 32)) = x) := ⟨_, Lib.hid rfl⟩
  simp only [HL.out] at s1
  have hll : ls.length = 7 := by rw [← HL.out]; rfl
  have hlz : ∀ s ∈ ls, s.size = wd 32 := fun s hs => by
    rw [← HL.out] at hs
    obtain ⟨x, _, rfl⟩ := List.mem_map.1 hs
    exact mleaf_size _ _ (wd_hi 32)
  obtain ⟨a, b, c, d, e5, f, g, rfl⟩ : ∃ a b c d e f g, ls = [a, b, c, d, e, f, g] := by
    match ls, hll with
    | [a, b, c, d, e, f, g], _ => exact ⟨a, b, c, d, e, f, g, rfl⟩
  have hlz3 : ∀ s ∈ [a, b, c, d, e5, f, g], s.size ≤ 300000000 := fun s hs => by have := hlz s hs; have := wd_hi 32; omega
  have hw := wd_hi 32
  have p1 := fun A c' W h hc => cProveC 32 3 7 A c' [a, b, c, d, e5, f, g] W rfl h hc (by omega) hlz3 (by omega) (by omega)
  have hrs := roots_sub (wd 32) hw 3 7 [a, b, c, d, e5, f, g] rfl (by omega) (by omega) hlz
  have hsz := sub_sizes (wd 32) hw 7 3 [a, b, c, d, e5, f, g] true rfl (by omega) (by omega) hlz
  rw [sub_seven] at hrs hsz
  have E3 : ((3 : Nat) : Int) = 3 := rfl
  simp only [sub_seven, E3] at p1
  have z3 := root_width (wd 32) hw ([a, b, c, d, e5, f, g].take 3) (by simp) (fun s hs => hlz s (List.mem_of_mem_take hs))
  have n1 := fun W => crNode 32 a b W (by have := hlz a (by simp); omega) (by have := hlz b (by simp); omega)
  have r1 := fun A c' W h hc => crRoot 32 3 A c' ([a, b, c, d, e5, f, g].drop 4) W rfl h hc (by omega) (mem_drop_le hlz3)
  have r2 := fun A c' W h hc => crRoot 32 3 A c' ([a, b, c, d, e5, f, g].take 3) W rfl h hc (by omega) (mem_take_le hlz3)
  have r3 := fun A c' W h hc => crRoot 32 7 A c' [a, b, c, d, e5, f, g] W rfl h hc (by omega) hlz3
  have k1 := fun A c' W h hc => cCheckC 32 3 7 (root (wd 32) ([a, b, c, d, e5, f, g].take 3)) (root (wd 32) [a, b, c, d, e5, f, g]) A 4 c' [c, d, mnode (wd 32) a b, root (wd 32) [e5, f, g]] W (by omega) (by omega) rfl h hc (by omega) (fun s hs => by have := hsz s hs; omega)
  have e37 : rootsC (wd 32) (root (wd 32) ([a, b, c, d, e5, f, g].take 3)) 3 7 [c, d, mnode (wd 32) a b, root (wd 32) [e5, f, g]] = (root (wd 32) ([a, b, c, d, e5, f, g].take 3), root (wd 32) [a, b, c, d, e5, f, g], 0) := hrs
  simp only [e37, checkC_ok] at k1
  have ed : [a, b, c, d, e5, f, g].drop 4 = [e5, f, g] := rfl
  simp only [ed] at r1
  obtain ⟨N, HN⟩ : ∃ x, Hid (mnode (wd 32) a b = x) := ⟨_, Lib.hid rfl⟩
  obtain ⟨R, HR⟩ : ∃ x, Hid (root (wd 32) [e5, f, g] = x) := ⟨_, Lib.hid rfl⟩
  simp only [HN.out] at n1 p1 k1
  simp only [HR.out] at r1 p1 k1
  obtain ⟨X, HX⟩ : ∃ x, Hid (root (wd 32) ([a, b, c, d, e5, f, g].take 3) = x) := ⟨_, Lib.hid rfl⟩
  obtain ⟨Y, HY⟩ : ∃ x, Hid (root (wd 32) [a, b, c, d, e5, f, g] = x) := ⟨_, Lib.hid rfl⟩
  simp only [HX.out] at r2 k1
  simp only [HY.out] at r3 k1
  have sm := fun A c' W (h : Strs W A [c, d, N, R]) => cSame A (some ⟨W.heap.size, 0, none⟩) 4 4 c' 4 [c, d, N, R] [c, d, N, R] (W.alloc (.cells #[.string c, .string d, .string N, .string R] 9)) rfl rfl (h.alloc _) (Strs.of_blk (t := 9) (Blk.new W 9 _)) (by omega) (by omega)
  have edd : decide ([c, d, N, R] = [c, d, N, R]) = true := decide_eq_true rfl
  simp only [edd] at sm
  have S1 := Lib.hid s1
  have P1 := Lib.hid p1
  have N1 := Lib.hid n1
  have R1 := Lib.hid r1
  have R2 := Lib.hid r2
  have R3 := Lib.hid r3
  have K1 := Lib.hid k1
  have SM := Lib.hid sm
  clear s1 p1 n1 r1 r2 r3 k1 sm hrs hsz z3 e37 ed edd hlz hlz3 hll
  have hB0 := Below.refl w.heap.size w
  go_enter Try.func24, Try.ntmps24
  go_wp2_with fail
  (with_reducible refine (S1.out _).mono ?_); rintro e w1 ⟨A, ca, rfl, hca, hS1, hb1⟩
  have hBa : Below w.heap.size w (w.alloc (.cells #[.string ⟨#[97]⟩, .string ⟨#[98]⟩, .string ⟨#[99]⟩, .string ⟨#[100]⟩, .string ⟨#[101]⟩, .string ⟨#[102]⟩, .string ⟨#[103]⟩] 9)) := hB0.alloc (Nat.le_refl _) _
  have hB1 := hBa.trans (hb1.mono hBa.size)
  clear hb1 hBa hB0
  go_wp2_with fail
  (with_reducible refine (P1.out _ _ _ hS1 hca).mono ?_); rintro e w2 ⟨A2, c2, rfl, hc2, hSL, hb2⟩
  have HS2 := Lib.hid (Strs.of_sl hSL)
  have HS1 := Lib.hid (hS1.fresh hb2)
  have hB2 := hB1.trans (hb2.mono hB1.size)
  clear hb2 hB1 hSL hS1
  obtain ⟨gl, ol, rfl, hgl, hcl⟩ := HS1.out (by simp)
  have c0 : w2.drew.cell? ⟨gl, ol, none⟩ = some (.string a) := hcl 0 (by simp)
  have c1 : w2.drew.cell? ⟨gl, ol + 1, none⟩ = some (.string b) := hcl 1 (by simp)
  have c2' : w2.drew.cell? ⟨gl, ol + 2, none⟩ = some (.string c) := hcl 2 (by simp)
  have c3 : w2.drew.cell? ⟨gl, ol + 3, none⟩ = some (.string d) := hcl 3 (by simp)
  have hgd : gl < w2.drew.heap.size := hgl
  clear hcl
  dsimp only [List.length] at hc2
  have HSA := Lib.hid (HS1.out.from_ 4 (by simp) (c := ca) (by simpa using hca))
  have HSB := Lib.hid (HS1.out.take 3)
  have hcaI : (7 : Int) ≤ (ca : Int) := by omega
  have hca4 : ¬ ca = 4 := by omega
  go_wp2_with fail
  have hBd := hB2.drew
  have hS0 := Below.refl w2.drew.heap.size w2.drew
  have HD1 := Lib.hid HS1.out.drew
  have HD2 := Lib.hid HS2.out.drew
  have HDA := Lib.hid HSA.out.drew
  have HDB := Lib.hid HSB.out.drew
  refine wp_region_lexS (fun w' => Below w2.drew.heap.size w2.drew w') 0 [] (by kernel_rfl) (by kernel_rfl) hS0 ?_
  repeat (first | (refine wpX_load0 rfl rfl _ _ rfl _ rfl _ rfl Try.underlying9 _ (fun w' h => (h.cell hgd).trans c0) hS0 ?_; simp only [Act.put, List.setIfInBounds_toArray, List.set_cons_zero, List.set_cons_succ, List.getElem_toArray, List.getElem_cons_zero, List.getElem_cons_succ]) | (refine wpX_load0 rfl rfl _ _ rfl _ rfl _ rfl Try.underlying9 _ (fun w' h => (h.cell hgd).trans c1) hS0 ?_; simp only [Act.put, List.setIfInBounds_toArray, List.set_cons_zero, List.set_cons_succ, List.getElem_toArray, List.getElem_cons_zero, List.getElem_cons_succ]) | (refine wpX_load0 rfl rfl _ _ rfl _ rfl _ rfl Try.underlying9 _ (fun w' h => (h.cell hgd).trans c2') hS0 ?_; simp only [Act.put, List.setIfInBounds_toArray, List.set_cons_zero, List.set_cons_succ, List.getElem_toArray, List.getElem_cons_zero, List.getElem_cons_succ]) | (refine wpX_load0 rfl rfl _ _ rfl _ rfl _ rfl Try.underlying9 _ (fun w' h => (h.cell hgd).trans c3) hS0 ?_; simp only [Act.put, List.setIfInBounds_toArray, List.set_cons_zero, List.set_cons_succ, List.getElem_toArray, List.getElem_cons_zero, List.getElem_cons_succ]) | (refine wpX_pure rfl rfl rfl ?_; intro K hK; go_big_quiet_op; refine hK _ ?_; clear hK K) | (refine wpX_eff rfl rfl ?_; intro K hK; go_wp2_with fail; refine hK _ _ hS0 ?_; clear hK K))
  refine wpX_eff rfl rfl ?_; intro K hK; go_wp2_with fail
  (with_reducible refine (N1.out _).mono ?_); rintro e w5 ⟨rfl, hb5⟩
  go_wp2_with fail
  refine hK _ _ (hS0.trans (hb5.mono hS0.size)) ?_; clear hK K
  replace hS0 := hS0.trans (hb5.mono hS0.size)
  clear hb5
  repeat (first | (refine wpX_load0 rfl rfl _ _ rfl _ rfl _ rfl Try.underlying9 _ (fun w' h => (h.cell hgd).trans c0) hS0 ?_; simp only [Act.put, List.setIfInBounds_toArray, List.set_cons_zero, List.set_cons_succ, List.getElem_toArray, List.getElem_cons_zero, List.getElem_cons_succ]) | (refine wpX_load0 rfl rfl _ _ rfl _ rfl _ rfl Try.underlying9 _ (fun w' h => (h.cell hgd).trans c1) hS0 ?_; simp only [Act.put, List.setIfInBounds_toArray, List.set_cons_zero, List.set_cons_succ, List.getElem_toArray, List.getElem_cons_zero, List.getElem_cons_succ]) | (refine wpX_load0 rfl rfl _ _ rfl _ rfl _ rfl Try.underlying9 _ (fun w' h => (h.cell hgd).trans c2') hS0 ?_; simp only [Act.put, List.setIfInBounds_toArray, List.set_cons_zero, List.set_cons_succ, List.getElem_toArray, List.getElem_cons_zero, List.getElem_cons_succ]) | (refine wpX_load0 rfl rfl _ _ rfl _ rfl _ rfl Try.underlying9 _ (fun w' h => (h.cell hgd).trans c3) hS0 ?_; simp only [Act.put, List.setIfInBounds_toArray, List.set_cons_zero, List.set_cons_succ, List.getElem_toArray, List.getElem_cons_zero, List.getElem_cons_succ]) | (refine wpX_pure rfl rfl rfl ?_; intro K hK; go_big_quiet_op; refine hK _ ?_; clear hK K) | (refine wpX_eff rfl rfl ?_; intro K hK; go_wp2_with fail; refine hK _ _ hS0 ?_; clear hK K))
  refine wpX_eff rfl rfl ?_; intro K hK; go_wp2_with fail
  (with_reducible refine (R1.out _ (ca - 4) _ (HDA.out.fresh hS0) (by omega)).mono ?_); rintro e w5 ⟨rfl, hb5⟩
  go_wp2_with fail
  refine hK _ _ (hS0.trans (hb5.mono hS0.size)) ?_; clear hK K
  replace hS0 := hS0.trans (hb5.mono hS0.size)
  clear hb5
  repeat (first | (refine wpX_load0 rfl rfl _ _ rfl _ rfl _ rfl Try.underlying9 _ (fun w' h => (h.cell hgd).trans c0) hS0 ?_; simp only [Act.put, List.setIfInBounds_toArray, List.set_cons_zero, List.set_cons_succ, List.getElem_toArray, List.getElem_cons_zero, List.getElem_cons_succ]) | (refine wpX_load0 rfl rfl _ _ rfl _ rfl _ rfl Try.underlying9 _ (fun w' h => (h.cell hgd).trans c1) hS0 ?_; simp only [Act.put, List.setIfInBounds_toArray, List.set_cons_zero, List.set_cons_succ, List.getElem_toArray, List.getElem_cons_zero, List.getElem_cons_succ]) | (refine wpX_load0 rfl rfl _ _ rfl _ rfl _ rfl Try.underlying9 _ (fun w' h => (h.cell hgd).trans c2') hS0 ?_; simp only [Act.put, List.setIfInBounds_toArray, List.set_cons_zero, List.set_cons_succ, List.getElem_toArray, List.getElem_cons_zero, List.getElem_cons_succ]) | (refine wpX_load0 rfl rfl _ _ rfl _ rfl _ rfl Try.underlying9 _ (fun w' h => (h.cell hgd).trans c3) hS0 ?_; simp only [Act.put, List.setIfInBounds_toArray, List.set_cons_zero, List.set_cons_succ, List.getElem_toArray, List.getElem_cons_zero, List.getElem_cons_succ]) | (refine wpX_pure rfl rfl rfl ?_; intro K hK; go_big_quiet_op; refine hK _ ?_; clear hK K) | (refine wpX_eff rfl rfl ?_; intro K hK; go_wp2_with fail; refine hK _ _ hS0 ?_; clear hK K))
  refine wpX_eff rfl rfl ?_; intro K hK; go_wp2_with fail
  (refine (fun h => hK _ _ h ?_) (hS0.alloc hS0.size _)); clear hK K
  refine wpX_eff rfl rfl ?_; intro K hK; go_wp2_with fail
  (with_reducible refine (SM.out _ _ _ (HD2.out.fresh hS0)).mono ?_); rintro e w5 ⟨rfl, hb5⟩
  go_wp2_with fail
  have hS1 := (hS0.alloc hS0.size (.cells #[.string c, .string d, .string N, .string R] 9))
  refine hK _ _ (hS1.trans (hb5.mono hS1.size)) ?_; clear hK K h
  replace hS0 := hS1.trans (hb5.mono hS1.size)
  clear hb5 hS1
  repeat (first | (refine wpX_load0 rfl rfl _ _ rfl _ rfl _ rfl Try.underlying9 _ (fun w' h => (h.cell hgd).trans c0) hS0 ?_; simp only [Act.put, List.setIfInBounds_toArray, List.set_cons_zero, List.set_cons_succ, List.getElem_toArray, List.getElem_cons_zero, List.getElem_cons_succ]) | (refine wpX_load0 rfl rfl _ _ rfl _ rfl _ rfl Try.underlying9 _ (fun w' h => (h.cell hgd).trans c1) hS0 ?_; simp only [Act.put, List.setIfInBounds_toArray, List.set_cons_zero, List.set_cons_succ, List.getElem_toArray, List.getElem_cons_zero, List.getElem_cons_succ]) | (refine wpX_load0 rfl rfl _ _ rfl _ rfl _ rfl Try.underlying9 _ (fun w' h => (h.cell hgd).trans c2') hS0 ?_; simp only [Act.put, List.setIfInBounds_toArray, List.set_cons_zero, List.set_cons_succ, List.getElem_toArray, List.getElem_cons_zero, List.getElem_cons_succ]) | (refine wpX_load0 rfl rfl _ _ rfl _ rfl _ rfl Try.underlying9 _ (fun w' h => (h.cell hgd).trans c3) hS0 ?_; simp only [Act.put, List.setIfInBounds_toArray, List.set_cons_zero, List.set_cons_succ, List.getElem_toArray, List.getElem_cons_zero, List.getElem_cons_succ]) | (refine wpX_pure rfl rfl rfl ?_; intro K hK; go_big_quiet_op; refine hK _ ?_; clear hK K) | (refine wpX_eff rfl rfl ?_; intro K hK; go_wp2_with fail; refine hK _ _ hS0 ?_; clear hK K))
  refine wpX_eff rfl rfl ?_; intro K hK; go_wp2_with fail
  (with_reducible refine (R2.out _ ca _ (HDB.out.fresh hS0) (by omega)).mono ?_); rintro e w5 ⟨rfl, hb5⟩
  go_wp2_with fail
  refine hK _ _ (hS0.trans (hb5.mono hS0.size)) ?_; clear hK K
  replace hS0 := hS0.trans (hb5.mono hS0.size)
  clear hb5
  repeat (first | (refine wpX_load0 rfl rfl _ _ rfl _ rfl _ rfl Try.underlying9 _ (fun w' h => (h.cell hgd).trans c0) hS0 ?_; simp only [Act.put, List.setIfInBounds_toArray, List.set_cons_zero, List.set_cons_succ, List.getElem_toArray, List.getElem_cons_zero, List.getElem_cons_succ]) | (refine wpX_load0 rfl rfl _ _ rfl _ rfl _ rfl Try.underlying9 _ (fun w' h => (h.cell hgd).trans c1) hS0 ?_; simp only [Act.put, List.setIfInBounds_toArray, List.set_cons_zero, List.set_cons_succ, List.getElem_toArray, List.getElem_cons_zero, List.getElem_cons_succ]) | (refine wpX_load0 rfl rfl _ _ rfl _ rfl _ rfl Try.underlying9 _ (fun w' h => (h.cell hgd).trans c2') hS0 ?_; simp only [Act.put, List.setIfInBounds_toArray, List.set_cons_zero, List.set_cons_succ, List.getElem_toArray, List.getElem_cons_zero, List.getElem_cons_succ]) | (refine wpX_load0 rfl rfl _ _ rfl _ rfl _ rfl Try.underlying9 _ (fun w' h => (h.cell hgd).trans c3) hS0 ?_; simp only [Act.put, List.setIfInBounds_toArray, List.set_cons_zero, List.set_cons_succ, List.getElem_toArray, List.getElem_cons_zero, List.getElem_cons_succ]) | (refine wpX_pure rfl rfl rfl ?_; intro K hK; go_big_quiet_op; refine hK _ ?_; clear hK K) | (refine wpX_eff rfl rfl ?_; intro K hK; go_wp2_with fail; refine hK _ _ hS0 ?_; clear hK K))
  refine wpX_eff rfl rfl ?_; intro K hK; go_wp2_with fail
  (with_reducible refine (R3.out _ _ _ (HD1.out.fresh hS0) hca).mono ?_); rintro e w5 ⟨rfl, hb5⟩
  go_wp2_with fail
  refine hK _ _ (hS0.trans (hb5.mono hS0.size)) ?_; clear hK K
  replace hS0 := hS0.trans (hb5.mono hS0.size)
  clear hb5
  repeat (first | (refine wpX_load0 rfl rfl _ _ rfl _ rfl _ rfl Try.underlying9 _ (fun w' h => (h.cell hgd).trans c0) hS0 ?_; simp only [Act.put, List.setIfInBounds_toArray, List.set_cons_zero, List.set_cons_succ, List.getElem_toArray, List.getElem_cons_zero, List.getElem_cons_succ]) | (refine wpX_load0 rfl rfl _ _ rfl _ rfl _ rfl Try.underlying9 _ (fun w' h => (h.cell hgd).trans c1) hS0 ?_; simp only [Act.put, List.setIfInBounds_toArray, List.set_cons_zero, List.set_cons_succ, List.getElem_toArray, List.getElem_cons_zero, List.getElem_cons_succ]) | (refine wpX_load0 rfl rfl _ _ rfl _ rfl _ rfl Try.underlying9 _ (fun w' h => (h.cell hgd).trans c2') hS0 ?_; simp only [Act.put, List.setIfInBounds_toArray, List.set_cons_zero, List.set_cons_succ, List.getElem_toArray, List.getElem_cons_zero, List.getElem_cons_succ]) | (refine wpX_load0 rfl rfl _ _ rfl _ rfl _ rfl Try.underlying9 _ (fun w' h => (h.cell hgd).trans c3) hS0 ?_; simp only [Act.put, List.setIfInBounds_toArray, List.set_cons_zero, List.set_cons_succ, List.getElem_toArray, List.getElem_cons_zero, List.getElem_cons_succ]) | (refine wpX_pure rfl rfl rfl ?_; intro K hK; go_big_quiet_op; refine hK _ ?_; clear hK K) | (refine wpX_eff rfl rfl ?_; intro K hK; go_wp2_with fail; refine hK _ _ hS0 ?_; clear hK K))
  refine wpX_eff rfl rfl ?_; intro K hK; go_wp2_with fail
  (with_reducible refine (K1.out _ _ _ (HD2.out.fresh hS0) hc2).mono ?_); rintro e w5 ⟨rfl, hb5⟩
  go_wp2_with fail
  refine hK _ _ (hS0.trans (hb5.mono hS0.size)) ?_; clear hK K
  replace hS0 := hS0.trans (hb5.mono hS0.size)
  clear hb5
  repeat (first | (refine wpX_load0 rfl rfl _ _ rfl _ rfl _ rfl Try.underlying9 _ (fun w' h => (h.cell hgd).trans c0) hS0 ?_; simp only [Act.put, List.setIfInBounds_toArray, List.set_cons_zero, List.set_cons_succ, List.getElem_toArray, List.getElem_cons_zero, List.getElem_cons_succ]) | (refine wpX_load0 rfl rfl _ _ rfl _ rfl _ rfl Try.underlying9 _ (fun w' h => (h.cell hgd).trans c1) hS0 ?_; simp only [Act.put, List.setIfInBounds_toArray, List.set_cons_zero, List.set_cons_succ, List.getElem_toArray, List.getElem_cons_zero, List.getElem_cons_succ]) | (refine wpX_load0 rfl rfl _ _ rfl _ rfl _ rfl Try.underlying9 _ (fun w' h => (h.cell hgd).trans c2') hS0 ?_; simp only [Act.put, List.setIfInBounds_toArray, List.set_cons_zero, List.set_cons_succ, List.getElem_toArray, List.getElem_cons_zero, List.getElem_cons_succ]) | (refine wpX_load0 rfl rfl _ _ rfl _ rfl _ rfl Try.underlying9 _ (fun w' h => (h.cell hgd).trans c3) hS0 ?_; simp only [Act.put, List.setIfInBounds_toArray, List.set_cons_zero, List.set_cons_succ, List.getElem_toArray, List.getElem_cons_zero, List.getElem_cons_succ]) | (refine wpX_pure rfl rfl rfl ?_; intro K hK; go_big_quiet_op; refine hK _ ?_; clear hK K) | (refine wpX_eff rfl rfl ?_; intro K hK; go_wp2_with fail; refine hK _ _ hS0 ?_; clear hK K))
  refine wpX_nil ?_
  go_wp2_with fail
  go_ret
  exact ⟨rfl, hBd.trans (hS0.mono hBd.size)⟩
end Go.Proofs.Ytcnhhlnbmliihaa
