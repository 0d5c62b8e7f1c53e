/- merkle.Root. -/
import Derived.Test.YtcnhhlnbmliihaaMerk
namespace Go.Proofs.Ytcnhhlnbmliihaa
open Go.RowKit
set_option linter.unusedVariables false
set_option linter.unusedSimpArgs false

theorem root_le (w : Nat) (hw : w ≤ 32) (b : Nat) (hb : 32 ≤ b) (l : List ByteArray) (h : ∀ s ∈ l, s.size ≤ b) : (root w l).size ≤ b := by
  rcases Nat.lt_or_ge l.length 1 with h1 | h1
  · rw [root_nil w l (by omega), msum_size w _ hw]; omega
  · rcases Nat.lt_or_ge l.length 2 with h2 | h2
    · rw [root_one w l (by omega)]
      exact h _ (by rw [List.getD_eq_getElem?_getD, List.getElem?_eq_getElem (by omega)]; exact List.getElem_mem _)
    · rw [root_cut w l h2, mnode_size w _ _ hw]; omega
theorem mem_take_le {b k : Nat} {l : List ByteArray} (h : ∀ s ∈ l, s.size ≤ b) : ∀ s ∈ l.take k, s.size ≤ b := fun s hs => h s (List.mem_of_mem_take hs)
theorem mem_drop_le {b k : Nat} {l : List ByteArray} (h : ∀ s ∈ l, s.size ≤ b) : ∀ s ∈ l.drop k, s.size ≤ b := fun s hs => h s (List.mem_of_mem_drop hs)
/-- A slice of texts from a place on. -/
theorem Strs.from_ {w : World} {g o c : Nat} {ss : List ByteArray} (h : Strs w (some ⟨g, o, none⟩) ss) (k : Nat) (hk : k < ss.length) (hc : ss.length ≤ c) : Strs w (some ⟨g, o + k, none⟩) (ss.drop k) := by
  have := h.drop k c hc
  rw [if_neg (by omega)] at this
  simpa [addo] using this

set_option maxRecDepth 100000 in
theorem cRoot (w : Int) : ∀ (n : Nat) (A : Option Addr) (c : Nat) (ss : List ByteArray) (W : World), ss.length = n → Strs W A ss → n ≤ c → n ≤ 1000000 → (∀ s ∈ ss, s.size ≤ 300000000) →
    Calls Try.prog 59 #[.int .i64 w, .slice A n c] W fun e W' => e = .returned (.string (root (wd w) ss)) ∧ Below W.heap.size W W' := by
  intro n
  induction n using Nat.strongRecOn with
  | _ n ih =>
    intro A c ss W hn hs hnc hn6 hb
    rcases Nat.lt_or_ge n 1 with h1 | h1
    · have e0 : n = 0 := by omega
      subst e0
      have hr := root_nil (wd w) ss hn
      rw [hr]
      have h := fun W => cMSum0 w W
      obtain ⟨X, HX⟩ : ∃ X, Hid (msum (wd w) ByteArray.empty = X) := ⟨_, Lib.hid rfl⟩
      simp only [HX.out] at h
      rw [HX.out]
      have H := Lib.hid h
      clear h hr ih hs hb hn
      go_enter Try.func59, Try.ntmps59
      go_wp2_with fail
      (with_reducible refine (H.out _).mono ?_); rintro e w1 ⟨rfl, hb⟩
      go_wp2_with fail
      go_ret
      exact ⟨rfl, hb⟩
    · obtain ⟨g, o, rfl, hg, hcell⟩ := hs (by omega)
      rcases Nat.lt_or_ge n 2 with h2 | h2
      · have e1 : n = 1 := by omega
        subst e1
        have hr := root_one (wd w) ss hn
        have c0 := hcell 0 (by omega)
        rw [Nat.add_zero] at c0
        rw [hr]
        obtain ⟨X, HX⟩ : ∃ X, Hid (ss.getD 0 ByteArray.empty = X) := ⟨_, Lib.hid rfl⟩
        rw [HX.out] at c0
        rw [HX.out]
        clear hr hcell ih hs hb hn
        go_enter Try.func59, Try.ntmps59
        go_wp2_with fail
        go_ret
        exact ⟨rfl, Below.refl _ _⟩
      · have hr := root_cut (wd w) ss (by omega)
        rw [hn] at hr
        have hcl := cut_lt n h2
        have hcp := cut_pos n
        have h3 := fun W => cCut n W (by omega)
        have ht : (ss.take (cut n)).length = cut n := by rw [List.length_take]; omega
        have hd : (ss.drop (cut n)).length = n - cut n := by rw [List.length_drop, hn]
        have hst := hs.take (cut n)
        have hsd := hs.from_ (cut n) (by omega) (c := c) (by omega)
        have i1 := fun W (h : Strs W (some ⟨g, o, none⟩) (ss.take (cut n))) => ih (cut n) hcl (some ⟨g, o, none⟩) c (ss.take (cut n)) W ht h (by omega) (by omega) (mem_take_le hb)
        have i2 := fun W (h : Strs W (some ⟨g, o + cut n, none⟩) (ss.drop (cut n))) => ih (n - cut n) (by omega) (some ⟨g, o + cut n, none⟩) (c - cut n) (ss.drop (cut n)) W hd h (by omega) (by omega) (mem_drop_le hb)
        have z1 := root_le (wd w) (wd_hi w) 300000000 (by omega) (ss.take (cut n)) (mem_take_le hb)
        have z2 := root_le (wd w) (wd_hi w) 300000000 (by omega) (ss.drop (cut n)) (mem_drop_le hb)
        have h4 := fun W => cNode w (root (wd w) (ss.take (cut n))) (root (wd w) (ss.drop (cut n))) W (by omega) (by omega)
        rw [← hr] at h4
        obtain ⟨X, HX⟩ : ∃ X, Hid (root (wd w) (ss.take (cut n)) = X) := ⟨_, Lib.hid rfl⟩
        obtain ⟨Y, HY⟩ : ∃ X, Hid (root (wd w) (ss.drop (cut n)) = X) := ⟨_, Lib.hid rfl⟩
        obtain ⟨Z, HZ⟩ : ∃ X, Hid (root (wd w) ss = X) := ⟨_, Lib.hid rfl⟩
        simp only [HX.out] at i1 h4
        simp only [HY.out] at i2 h4
        simp only [HZ.out] at h4
        rw [HZ.out]
        obtain ⟨k, HK⟩ : ∃ k, Hid (cut n = k) := ⟨_, Lib.hid rfl⟩
        simp only [HK.out] at h3 i1 i2 hst hsd hcl hcp
        have H3 := Lib.hid h3
        have H4 := Lib.hid h4
        have I1 := Lib.hid i1
        have I2 := Lib.hid i2
        have HST := Lib.hid hst
        have HSD := Lib.hid hsd
        have hB0 : Below W.heap.size W W.drew := (Below.refl W.heap.size W).drew
        have hkn : (k : Int) ≤ (n : Int) := by omega
        have hkc : (k : Int) ≤ (c : Int) := by omega
        have hnc2 : (n : Int) ≤ (c : Int) := by omega
        have hck : ¬ c = k := by omega
        clear h3 h4 i1 i2 hst hsd hr z1 z2 ht hd ih hb hs hcell hn
        go_enter Try.func59, Try.ntmps59
        go_wp2_with fail
        (with_reducible refine (H3.out _).mono ?_); rintro e w1 ⟨rfl, rfl⟩
        go_wp2_with fail
        refine wp_region_lexX [] (by kernel_rfl) (by kernel_rfl) ?_
        repeat (refine wpX_pure rfl rfl rfl ?_; intro K hK; go_big_quiet_op; refine hK _ ?_; clear hK K)
        refine wpX_eff rfl rfl ?_; intro K hK; go_wp2_with fail
        (with_reducible refine (I1.out _ HST.out.drew).mono ?_); rintro e w1 ⟨rfl, hb1⟩
        go_wp2_with fail
        refine hK _ _ trivial ?_; clear hK K
        have hB1 := hB0.trans (hb1.mono hB0.size)
        have HB1 := Lib.hid hB1
        clear hb1 hB1 hB0
        repeat (refine wpX_pure rfl rfl rfl ?_; intro K hK; go_big_quiet_op; refine hK _ ?_; clear hK K)
        refine wpX_eff rfl rfl ?_; intro K hK; go_wp2_with fail
        (with_reducible refine (I2.out _ (HSD.out.fresh HB1.out)).mono ?_); rintro e w2 ⟨rfl, hb2⟩
        go_wp2_with fail
        refine hK _ _ trivial ?_; clear hK K
        have hB2 := HB1.out.trans (hb2.mono HB1.out.size)
        have HB2 := Lib.hid hB2
        clear hb2 hB2
        refine wpX_eff rfl rfl ?_; intro K hK; go_wp2_with fail
        (with_reducible refine (H4.out _).mono ?_); rintro e w3 ⟨rfl, hb3⟩
        go_wp2_with fail
        refine hK _ _ trivial ?_; clear hK K
        have hB3 := HB2.out.trans (hb3.mono HB2.out.size)
        refine wpX_pure rfl rfl rfl ?_; intro K hK; go_big_quiet_op; refine hK _ ?_; clear hK K
        refine wpX_nil ?_
        go_wp2_with fail
        go_ret
        exact ⟨rfl, hB3⟩
end Go.Proofs.Ytcnhhlnbmliihaa
