/- Clashes: the program's trees (grown). -/
import Derived.Test.YtgkjpemgfbkejaaClash2
import Derived.Test.YtgkjpemgfbkejaaMerkRoot
import Derived.Test.YtgkjpemgfbkejaaGrow3
namespace Go.Proofs.Ytgkjpemgfbkejaa
open Go.RowKit
set_option linter.unusedVariables false
set_option linter.unusedSimpArgs false

/-- Block g is a tree over leaves; all its blocks lie from B on. -/
inductive GT (d : Nat) (w : World) (B : Nat) : Nat → List ByteArray → Prop
  | leaf (g : Nat) (l : List ByteArray) (hl : l.length < 2) (hg : B ≤ g) (hb : Blk w g 59 #[.string (top d l), .string (msum d (top d l)), .pointer none, .pointer none]) : GT d w B g l
  | node (g g1 g2 : Nat) (l : List ByteArray) (hl : 2 ≤ l.length) (hg : B ≤ g) (hb : Blk w g 59 #[.string (top d l), .string (msum d (top d l)), .pointer (some ⟨g1, 0, none⟩), .pointer (some ⟨g2, 0, none⟩)])
      (h1 : GT d w B g1 (l.take (cut l.length))) (h2 : GT d w B g2 (l.drop (cut l.length))) : GT d w B g l
section
variable {d B g : Nat} {w w' : World} {l : List ByteArray}
theorem GT.lt (h : GT d w B g l) : g < w.heap.size := by
  cases h with
  | leaf _ _ _ _ hb => exact hb.lt
  | node _ _ _ _ _ _ hb _ _ => exact hb.lt
theorem GT.ge (h : GT d w B g l) : B ≤ g := by
  cases h with
  | leaf _ _ _ hg _ => exact hg
  | node _ _ _ _ _ hg _ _ _ => exact hg
theorem GT.keep (h : GT d w B g l) (hk : ∀ k, B ≤ k → k < w.heap.size → w'.heap[k]? = w.heap[k]?) : GT d w' B g l := by
  induction h with
  | leaf g l hl hg hb => exact .leaf g l hl hg ((hk g hg hb.lt).trans hb)
  | node g g1 g2 l hl hg hb _ _ i1 i2 => exact .node g g1 g2 l hl hg ((hk g hg hb.lt).trans hb) i1 i2
theorem GT.fresh (h : GT d w B g l) (hb : Below w.heap.size w w') : GT d w' B g l := h.keep fun k _ hlt => hb.block k hlt
theorem GT.drew (h : GT d w B g l) : GT d w.drew B g l := h.keep fun _ _ _ => rfl
theorem GT.far (h : GT d w B g l) {p : Addr} (hp : p.block < B) (u : Value) : GT d (w.setCell p u) B g l := h.keep fun k hk _ => Below.heap_setCell w p u k (by omega)
theorem GT.lower (h : GT d w B g l) {B' : Nat} (hB : B' ≤ B) : GT d w B' g l := by
  induction h with
  | leaf g l hl hg hb => exact .leaf g l hl (by omega) hb
  | node g g1 g2 l hl hg hb _ _ i1 i2 => exact .node g g1 g2 l hl (by omega) hb i1 i2
theorem GT.inn (h : GT d w B g l) : w.cell? ⟨g, 0, none⟩ = some (.string (top d l)) := by
  cases h with
  | leaf _ _ _ _ hb => exact (hb.cell 0).trans rfl
  | node _ _ _ _ _ _ hb _ _ => exact (hb.cell 0).trans rfl
theorem GT.sum (h : GT d w B g l) : w.cell? ⟨g, 1, none⟩ = some (.string (msum d (top d l))) := by
  cases h with
  | leaf _ _ _ _ hb => exact (hb.cell 1).trans rfl
  | node _ _ _ _ _ _ hb _ _ => exact (hb.cell 1).trans rfl
theorem GT.small (h : GT d w B g l) (hl : l.length < 2) : w.cell? ⟨g, 2, none⟩ = some (.pointer none) := by
  cases h with
  | leaf _ _ _ _ hb => exact (hb.cell 2).trans rfl
  | node _ _ _ _ hl2 _ _ _ _ => omega
theorem GT.parts (h : GT d w B g l) (hl : 2 ≤ l.length) : ∃ g1 g2, w.cell? ⟨g, 2, none⟩ = some (.pointer (some ⟨g1, 0, none⟩)) ∧ w.cell? ⟨g, 3, none⟩ = some (.pointer (some ⟨g2, 0, none⟩)) ∧
    GT d w B g1 (l.take (cut l.length)) ∧ GT d w B g2 (l.drop (cut l.length)) := by
  cases h with
  | leaf _ _ hl2 _ hb => omega
  | node _ g1 g2 _ _ _ hb h1 h2 => exact ⟨g1, g2, (hb.cell 2).trans rfl, (hb.cell 3).trans rfl, h1, h2⟩
end
set_option maxRecDepth 100000 in
set_option maxHeartbeats 4000000 in
theorem cGrown (w : Int) : ∀ (n : Nat) (A : Option Addr) (c : Nat) (ss : List ByteArray) (W : World), ss.length = n → Strs W A ss → n ≤ c → n ≤ 1000000 → (∀ s ∈ ss, s.size ≤ 200000) →
    Calls Try.prog 39 #[.int .i64 w, .slice A n c] W fun e W' => ∃ g, e = .returned (.pointer (some ⟨g, 0, none⟩)) ∧ GT (wd w) W' W.heap.size g ss ∧ Below W.heap.size W W' := by
  intro n
  induction n using Nat.strongRecOn with
  | _ n ih =>
    intro A c ss W hn hs hnc hn6 hb
    have hB1 : Below W.heap.size W (W.alloc (.cells #[.string ⟨#[]⟩, .string ⟨#[]⟩, .pointer none, .pointer none] 59)) := (Below.refl _ _).alloc (Nat.le_refl _) _
    have hK1 := Blk.new W 59 #[.string ⟨#[]⟩, .string ⟨#[]⟩, .pointer none, .pointer none]
    have hwd := wd_hi w
    have zt := top_le (wd w) hwd ss hb
    have m1 := fun W => cMSum1 w (top (wd w) ss) W (by omega)
    rcases Nat.lt_or_ge n 1 with h1 | h1
    · have e0 : n = 0 := by omega
      subst e0
      have htn : top (wd w) ss = ⟨#[]⟩ := top_nil (wd w) ss hn
      have hgt := fun W' hb => GT.leaf (d := wd w) (w := W') (B := W.heap.size) W.heap.size ss (by omega) (Nat.le_refl _) hb
      simp only [htn] at m1 hgt
      obtain ⟨P, HP⟩ : ∃ V, Hid (msum (wd w) ⟨#[]⟩ = V) := ⟨_, Lib.hid rfl⟩
      simp only [HP.out] at m1 hgt
      have M1 := Lib.hid m1
      have HGT := Lib.hid hgt
      have b0 : (W.alloc (.cells #[.string ⟨#[]⟩, .string ⟨#[]⟩, .pointer none, .pointer none] 59)).cell? ⟨W.heap.size, 0, none⟩ = some (.string ⟨#[]⟩) := (hK1.cell 0).trans rfl
      have hsz : (W.alloc (.cells #[.string ⟨#[]⟩, .string ⟨#[]⟩, .pointer none, .pointer none] 59)).heap.size = W.heap.size + 1 := by simp
      have m2 := m1 (W.alloc (.cells #[.string ⟨#[]⟩, .string ⟨#[]⟩, .pointer none, .pointer none] 59))
      rw [hsz] at m2
      have M2 := Lib.hid m2
      clear m1 m2 hgt ih hs hb hn zt htn hsz
      go_enter Try.func39, Try.ntmps39
      go_wp2_with fail
      (with_reducible refine M2.out.mono ?_); rintro e wv ⟨rfl, hb9⟩
      have hKe := hK1.below hb9 (Nat.lt_succ_self _)
      have hBe := hB1.trans (hb9.mono (by omega))
      have b1 : wv.cell? ⟨W.heap.size, 1, none⟩ = some (.string ⟨#[]⟩) := (hKe.cell 1).trans rfl
      have f1 : wv.frozen? ⟨W.heap.size, 1, none⟩ = false := hKe.frozen 1
      have hKf := hKe.set_ 1 (.string P)
      have hBf := hBe.setCell (p := ⟨W.heap.size, 1, none⟩) (Nat.le_refl _) (.string P)
      have hb8 := hb9
      clear hb9 hKe hBe
      go_wp2_with fail
      go_ret
      exact ⟨W.heap.size, rfl, HGT.out _ hKf, hBf⟩
    · obtain ⟨ga, o, rfl, hga, hcell⟩ := hs (by omega)
      rcases Nat.lt_or_ge n 2 with h2 | h2
      · have e1 : n = 1 := by omega
        subst e1
        have htn : top (wd w) ss = ⟨#[0]⟩ ++ ss.getD 0 ByteArray.empty := top_one (wd w) ss hn
        have hgt := fun W' hb => GT.leaf (d := wd w) (w := W') (B := W.heap.size) W.heap.size ss (by omega) (Nat.le_refl _) hb
        have c0 := hcell 0 (by omega)
        have hz := hb _ (getD_mem (by omega : 0 < ss.length))
        rw [Nat.add_zero] at c0
        obtain ⟨s, HS⟩ : ∃ X, Hid (ss.getD 0 ByteArray.empty = X) := ⟨_, Lib.hid rfl⟩
        rw [HS.out] at c0 hz htn
        obtain ⟨X, HX⟩ : ∃ X, Hid (top (wd w) ss = X) := ⟨_, Lib.hid rfl⟩
        rw [HX.out] at htn
        simp only [HX.out] at m1 hgt
        obtain ⟨P, HP⟩ : ∃ V, Hid (msum (wd w) X = V) := ⟨_, Lib.hid rfl⟩
        simp only [HP.out] at m1 hgt
        have hzI : (s.size : Int) ≤ 200000 := by omega
        have M1 := Lib.hid m1
        have HGT := Lib.hid hgt
        have HTN := Lib.hid htn.symm
        have c0 : (W.alloc (.cells #[.string ⟨#[]⟩, .string ⟨#[]⟩, .pointer none, .pointer none] 59)).cell? ⟨ga, o, none⟩ = some (.string s) := (World.cell?_alloc_lt W _ _ hga).trans c0
        have hB1 : Below W.heap.size W (W.alloc (.cells #[.string X, .string ⟨#[]⟩, .pointer none, .pointer none] 59)) := (Below.refl _ _).alloc (Nat.le_refl _) _
        have hK1 := Blk.new W 59 #[.string X, .string ⟨#[]⟩, .pointer none, .pointer none]
        have hsz : (W.alloc (.cells #[.string X, .string ⟨#[]⟩, .pointer none, .pointer none] 59)).heap.size = W.heap.size + 1 := by simp
        have m2 := m1 (W.alloc (.cells #[.string X, .string ⟨#[]⟩, .pointer none, .pointer none] 59))
        rw [hsz] at m2
        have M2 := Lib.hid m2
        clear m1 m2 hgt ih hs hb hn zt htn hcell hsz
        go_enter Try.func39, Try.ntmps39
        go_wp2_with fail
        rw [HTN.out]
        (with_reducible refine M2.out.mono ?_); rintro e wv ⟨rfl, hb9⟩
        have hKe := hK1.below hb9 (Nat.lt_succ_self _)
        have hBe := hB1.trans (hb9.mono (by omega))
        have b1 : wv.cell? ⟨W.heap.size, 1, none⟩ = some (.string ⟨#[]⟩) := (hKe.cell 1).trans rfl
        have f1 : wv.frozen? ⟨W.heap.size, 1, none⟩ = false := hKe.frozen 1
        have hKf := hKe.set_ 1 (.string P)
        have hBf := hBe.setCell (p := ⟨W.heap.size, 1, none⟩) (Nat.le_refl _) (.string P)
        have hb8 := hb9
        clear hb9 hKe hBe
        go_wp2_with fail
        go_ret
        exact ⟨W.heap.size, rfl, HGT.out _ hKf, hBf⟩
      · have hr := top_cut (wd w) ss (by omega)
        rw [hn] at hr
        have hgt := fun W' g1 g2 hb => GT.node (d := wd w) (w := W') (B := W.heap.size) W.heap.size g1 g2 ss (by omega) (Nat.le_refl _) hb
        simp only [hn] at hgt
        have hcl := cut_lt n h2
        have hcp := cut_pos n
        have h3 := fun W => cCut n W (by omega)
        have ht : (ss.take (cut n)).length = cut n := by rw [List.length_take]; omega
        have hd : (ss.drop (cut n)).length = n - cut n := by rw [List.length_drop, hn]
        have hst := hs.take (cut n)
        have hsd := hs.from_ (cut n) (by omega) (c := c) (by omega)
        have i1 := fun W (h : Strs W (some ⟨ga, o, none⟩) (ss.take (cut n))) => ih (cut n) hcl (some ⟨ga, o, none⟩) c (ss.take (cut n)) W ht h (by omega) (by omega) (mem_take_s hb)
        have i2 := fun W (h : Strs W (some ⟨ga, o + cut n, none⟩) (ss.drop (cut n))) => ih (n - cut n) (by omega) (some ⟨ga, o + cut n, none⟩) (c - cut n) (ss.drop (cut n)) W hd h (by omega) (by omega) (mem_drop_s hb)
        have z3 := msum_size (wd w) (top (wd w) (ss.take (cut n))) hwd
        have z4 := msum_size (wd w) (top (wd w) (ss.drop (cut n))) hwd
        obtain ⟨X, HX⟩ : ∃ X, Hid (top (wd w) ss = X) := ⟨_, Lib.hid rfl⟩
        rw [HX.out] at hr
        simp only [HX.out] at m1 hgt
        obtain ⟨P, HP⟩ : ∃ V, Hid (msum (wd w) X = V) := ⟨_, Lib.hid rfl⟩
        simp only [HP.out] at m1 hgt
        have sm1 := fun W' g1 (h : GT (wd w) W' (W.heap.size + 1) g1 (ss.take (cut n))) => h.sum
        have sm2 := fun W' g1 (h : GT (wd w) W' (W.heap.size + 1) g1 (ss.drop (cut n))) => h.sum
        obtain ⟨Y, HY⟩ : ∃ V, Hid (msum (wd w) (top (wd w) (ss.take (cut n))) = V) := ⟨_, Lib.hid rfl⟩
        obtain ⟨Z, HZ⟩ : ∃ V, Hid (msum (wd w) (top (wd w) (ss.drop (cut n))) = V) := ⟨_, Lib.hid rfl⟩
        rw [HY.out] at hr z3
        rw [HZ.out] at hr z4
        simp only [HY.out] at sm1
        simp only [HZ.out] at sm2
        obtain ⟨k, HK⟩ : ∃ k, Hid (cut n = k) := ⟨_, Lib.hid rfl⟩
        simp only [HK.out] at h3 i1 i2 hst hsd hcl hcp hgt sm1 sm2
        have H3 := Lib.hid h3
        have I1 := Lib.hid i1
        have I2 := Lib.hid i2
        have M1 := Lib.hid m1
        have HST := Lib.hid hst
        have HSD := Lib.hid hsd
        have HGT := Lib.hid hgt
        have HR := Lib.hid hr.symm
        have SM1 := Lib.hid sm1
        have SM2 := Lib.hid sm2
        have hkn : (k : Int) ≤ (n : Int) := by omega
        have hkc : (k : Int) ≤ (c : Int) := by omega
        have hnc2 : (n : Int) ≤ (c : Int) := by omega
        have hck : ¬ c = k := by omega
        have hYI : (Y.size : Int) ≤ 32 := by omega
        have hZI : (Z.size : Int) ≤ 32 := by omega
        have hn0 : ((n : Int) == 0) = false := by simp; omega
        have hn1 : ((n : Int) == 1) = false := by simp; omega
        have hB2 := hB1.drew
        have hK2 := hK1.drew
        have hsz : (W.alloc (.cells #[.string ⟨#[]⟩, .string ⟨#[]⟩, .pointer none, .pointer none] 59)).drew.heap.size = W.heap.size + 1 := by show (W.alloc (.cells #[.string ⟨#[]⟩, .string ⟨#[]⟩, .pointer none, .pointer none] 59)).heap.size = _; simp
        clear h3 i1 i2 m1 hst hsd hr z3 z4 ht hd ih hb hs hcell hn zt hwd hgt sm1 sm2 hB1 hK1
        go_enter Try.func39, Try.ntmps39
        go_wp2_with fail
        (with_reducible refine (H3.out _).mono ?_); rintro e w1 ⟨rfl, rfl⟩
        go_wp2_with fail
        refine wp_region_lexX [] (by kernel_rfl) (by kernel_rfl) ?_
        repeat (first | (refine wpX_pure rfl rfl rfl ?_; intro K hK; go_big_quiet_op; refine hK _ ?_; clear hK K) | (refine wpX_eff rfl rfl ?_; intro K hK; go_wp2_with fail; refine hK _ _ trivial ?_; clear hK K))
        refine wpX_eff rfl rfl ?_; intro K hK; go_wp2_with fail
        (with_reducible refine (I1.out _ (HST.out.fresh hB2)).mono ?_); rintro e w1 ⟨g1, rfl, hg1, hb1⟩
        go_wp2_with fail
        refine hK _ _ trivial ?_; clear hK K
        rw [hsz] at hg1
        have hlt1 : W.heap.size < (W.alloc (.cells #[.string ⟨#[]⟩, .string ⟨#[]⟩, .pointer none, .pointer none] 59)).drew.heap.size := by rw [hsz]; omega
        have hK3 := hK2.below hb1 hlt1
        have hB3 := hB2.trans (hb1.mono hB2.size)
        have hs1 : W.heap.size + 1 ≤ w1.heap.size := by rw [← hsz]; exact hb1.size
        have HG1 := Lib.hid hg1
        clear hb1 hK2 hB2 hg1
        repeat (first | (refine wpX_pure rfl rfl rfl ?_; intro K hK; go_big_quiet_op; refine hK _ ?_; clear hK K) | (refine wpX_eff rfl rfl ?_; intro K hK; go_wp2_with fail; refine hK _ _ trivial ?_; clear hK K))
        refine wpX_eff rfl rfl ?_; intro K hK; go_wp2_with fail
        (with_reducible refine (I2.out _ (HSD.out.fresh hB3)).mono ?_); rintro e w2 ⟨g2, rfl, hg2, hb2⟩
        go_wp2_with fail
        refine hK _ _ trivial ?_; clear hK K
        have HG1 := Lib.hid (HG1.out.fresh hb2)
        have HG2 := Lib.hid (hg2.lower hs1)
        have hK4 := hK3.below hb2 hK3.lt
        have hB4 := hB3.trans (hb2.mono hB3.size)
        clear hb2 hK3 hB3 hg2
        have d2 : w2.cell? ⟨W.heap.size, 2, none⟩ = some (.pointer none) := (hK4.cell 2).trans rfl
        have f2 : w2.frozen? ⟨W.heap.size, 2, none⟩ = false := hK4.frozen 2
        have hK5 := hK4.set_ 2 (.pointer (some ⟨g1, 0, none⟩))
        have hB5 := hB4.setCell (p := ⟨W.heap.size, 2, none⟩) (Nat.le_refl _) (.pointer (some ⟨g1, 0, none⟩))
        have HG1 := Lib.hid (HG1.out.far (p := ⟨W.heap.size, 2, none⟩) (Nat.lt_succ_self _) (.pointer (some ⟨g1, 0, none⟩)))
        have HG2 := Lib.hid (HG2.out.far (p := ⟨W.heap.size, 2, none⟩) (Nat.lt_succ_self _) (.pointer (some ⟨g1, 0, none⟩)))
        have d3 : (w2.setCell ⟨W.heap.size, 2, none⟩ (.pointer (some ⟨g1, 0, none⟩))).cell? ⟨W.heap.size, 3, none⟩ = some (.pointer none) := (hK5.cell 3).trans rfl
        have f3 : (w2.setCell ⟨W.heap.size, 2, none⟩ (.pointer (some ⟨g1, 0, none⟩))).frozen? ⟨W.heap.size, 3, none⟩ = false := hK5.frozen 3
        have hK6 := hK5.set_ 3 (.pointer (some ⟨g2, 0, none⟩))
        have hB6 := hB5.setCell (p := ⟨W.heap.size, 3, none⟩) (Nat.le_refl _) (.pointer (some ⟨g2, 0, none⟩))
        have HG1 := Lib.hid (HG1.out.far (p := ⟨W.heap.size, 3, none⟩) (Nat.lt_succ_self _) (.pointer (some ⟨g2, 0, none⟩)))
        have HG2 := Lib.hid (HG2.out.far (p := ⟨W.heap.size, 3, none⟩) (Nat.lt_succ_self _) (.pointer (some ⟨g2, 0, none⟩)))
        clear hK4 hB4 hK5 hB5
        repeat (first | (refine wpX_pure rfl rfl rfl ?_; intro K hK; go_big_quiet_op; refine hK _ ?_; clear hK K) | (refine wpX_eff rfl rfl ?_; intro K hK; go_wp2_with fail; refine hK _ _ trivial ?_; clear hK K))
        refine wpX_nil ?_
        obtain ⟨u, HU⟩ : ∃ u, Hid ((w2.setCell ⟨W.heap.size, 2, none⟩ (.pointer (some ⟨g1, 0, none⟩))).setCell ⟨W.heap.size, 3, none⟩ (.pointer (some ⟨g2, 0, none⟩)) = u) := ⟨_, Lib.hid rfl⟩
        rw [HU.out] at hK6 hB6 HG1 HG2
        rw [HU.out]
        have hK6 : Blk u W.heap.size 59 #[.string ⟨#[]⟩, .string ⟨#[]⟩, .pointer (some ⟨g1, 0, none⟩), .pointer (some ⟨g2, 0, none⟩)] := hK6
        clear d2 f2 d3 f3
        have c0 : u.drew.cell? ⟨W.heap.size, 0, none⟩ = some (.string ⟨#[]⟩) := (hK6.drew.cell 0).trans rfl
        have f0 : u.drew.frozen? ⟨W.heap.size, 0, none⟩ = false := hK6.drew.frozen 0
        have c2 : u.drew.cell? ⟨W.heap.size, 2, none⟩ = some (.pointer (some ⟨g1, 0, none⟩)) := (hK6.drew.cell 2).trans rfl
        have c3 : u.drew.cell? ⟨W.heap.size, 3, none⟩ = some (.pointer (some ⟨g2, 0, none⟩)) := (hK6.drew.cell 3).trans rfl
        have e1 : u.drew.cell? ⟨g1, 1, none⟩ = some (.string Y) := SM1.out _ _ HG1.out.drew
        have e2 : u.drew.cell? ⟨g2, 1, none⟩ = some (.string Z) := SM2.out _ _ HG2.out.drew
        have hK7 := (hK6.set_ 0 (.string X)).drew
        have hB7 := (hB6.setCell (p := ⟨W.heap.size, 0, none⟩) (Nat.le_refl _) (.string X)).drew
        have HG1 := Lib.hid (HG1.out.far (p := ⟨W.heap.size, 0, none⟩) (Nat.lt_succ_self _) (.string X)).drew
        have HG2 := Lib.hid (HG2.out.far (p := ⟨W.heap.size, 0, none⟩) (Nat.lt_succ_self _) (.string X)).drew
        clear hK6 hB6
        go_wp2_with fail
        refine wp_region_lexX [] (by kernel_rfl) (by kernel_rfl) ?_
        repeat (first
          | (refine wpX_pure rfl rfl rfl ?_; intro K hK; go_big_quiet_op; refine hK _ ?_; clear hK K)
          | (refine wpX_load rfl rfl rfl ?_; intro K hK; go_big_quiet_op; refine hK _ ?_; clear hK K)
          | (refine wpX_eff rfl rfl ?_; intro K hK; go_wp2_with fail; refine hK _ _ trivial ?_; clear hK K))
        refine wpX_nil ?_
        rw [HR.out]
        obtain ⟨v, HV⟩ : ∃ v, Hid ((u.setCell ⟨W.heap.size, 0, none⟩ (.string X)).drew = v) := ⟨_, Lib.hid rfl⟩
        rw [HV.out] at hK7 hB7 HG1 HG2
        rw [HV.out]
        have hK1 : Blk v W.heap.size 59 #[.string X, .string ⟨#[]⟩, .pointer (some ⟨g1, 0, none⟩), .pointer (some ⟨g2, 0, none⟩)] := hK7
        have hB1 := hB7
        clear c0 f0 c2 c3 e1 e2 hK7 hB7
        have b0 : v.cell? ⟨W.heap.size, 0, none⟩ = some (.string X) := (hK1.cell 0).trans rfl
        go_wp2_with fail
        (with_reducible refine (M1.out _).mono ?_); rintro e wv ⟨rfl, hb9⟩
        have hKe := hK1.below hb9 hK1.lt
        have hBe := hB1.trans (hb9.mono hB1.size)
        have b1 : wv.cell? ⟨W.heap.size, 1, none⟩ = some (.string ⟨#[]⟩) := (hKe.cell 1).trans rfl
        have f1 : wv.frozen? ⟨W.heap.size, 1, none⟩ = false := hKe.frozen 1
        have hKf := hKe.set_ 1 (.string P)
        have hBf := hBe.setCell (p := ⟨W.heap.size, 1, none⟩) (Nat.le_refl _) (.string P)
        have hb8 := hb9
        clear hb9 hKe hBe
        go_wp2_with fail
        go_ret
        have HG1 := (HG1.out.fresh hb8).far (p := ⟨W.heap.size, 1, none⟩) (Nat.lt_succ_self _) (.string P)
        have HG2 := (HG2.out.fresh hb8).far (p := ⟨W.heap.size, 1, none⟩) (Nat.lt_succ_self _) (.string P)
        exact ⟨W.heap.size, rfl, HGT.out _ g1 g2 hKf (HG1.lower (Nat.le_succ _)) (HG2.lower (Nat.le_succ _)), hBf⟩
end Go.Proofs.Ytgkjpemgfbkejaa
