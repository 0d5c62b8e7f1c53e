/- The laws MerkleChecks, MerkleBack, MerkleHalves, walked. -/
import Derived.Test.YtkggpimminnniaaMerkLaws
import Derived.Test.YtkggpimminnniaaMerkUpI
import Derived.Test.YtkggpimminnniaaGrowS
namespace Go.Proofs.Ytkggpimminnniaa
open Go.RowKit
set_option linter.unusedVariables false
set_option linter.unusedSimpArgs false

set_option maxRecDepth 100000 in
theorem merkleChecks_walk {w : World} (k : Int) (hk : (Lit.int .i64 k).wf = true) (i : Int) (hi : (Lit.int .i64 i).wf = true) (n : Int) (hn : (Lit.int .i64 n).wf = true) (leaf : ByteArray) (hleaf : leaf.size ≤ reachBytes) (root : ByteArray) (hroot : root.size ≤ reachBytes) (v : Value) (ss : List ByteArray) (hv : StrsIn w v ss) :
    Calls Try.prog 10 #[.int .i64 k, .int .i64 i, .int .i64 n, .string leaf, .string root, v] w fun e w' => e = .returned (.bool true) ∧ Below w.heap.size w w' := by
  have h0 := cFewV hv
  have H0 := Lib.hid h0
  have hl1 : leaf.size ≤ 140737488355328 := by unfold reachBytes at hleaf; omega
  have hr1 : root.size ≤ 140737488355328 := by unfold reachBytes at hroot; omega
  clear h0 hv hleaf hroot
  have ha := and_4095 n
  have hm1 := Int.emod_nonneg n (show (4096 : Int) ≠ 0 by decide)
  have hm2 := Int.emod_lt_of_pos n (show (0 : Int) < 4096 by decide)
  obtain ⟨q0, hm⟩ : ∃ m : Int, n % 4096 = m := ⟨_, rfl⟩
  rw [hm] at ha hm1 hm2
  clear hm
  by_cases hlz : leaf.size ≤ 1000
  · by_cases hrz : root.size ≤ 1000
    · have g1 : ¬ (1000 : Int) < (leaf.size : Int) := by omega
      have g2 : ¬ (1000 : Int) < (root.size : Int) := by omega
      have g3 : decide ((1000 : Int) < (leaf.size : Int)) = false := decide_eq_false g1
      have g4 : decide ((1000 : Int) < (root.size : Int)) = false := decide_eq_false g2
      have g5 : decide (1000 < leaf.size) = false := decide_eq_false (by omega)
      have g6 : decide (1000 < root.size) = false := decide_eq_false (by omega)
      obtain ⟨N, hNn, hN⟩ : ∃ N : Int, N = (if 4096 < n then q0 else n) ∧ N ≤ 2305843009213693952 := ⟨_, rfl, by split <;> omega⟩
      by_cases hbig : 4096 < n
      · rw [if_pos hbig] at hNn
        subst hNn
        go_enter Try.func10, Try.ntmps10
        go_wp2_with fail
        (with_reducible refine H0.out.mono ?_); rintro e w1 ⟨A, m, c, p, rfl, hl, hs, hmc, hm, hz, rfl⟩
        have u1 := fun W h => cUpI k i N leaf A m c p W hl h hN (by omega)
        have u2 := fun W h => crUpI k i N leaf A m c p W hl h hmc hN (by omega)
        have u3 := fun W h => cCheckI k i N root leaf A m c p W hl h hN (by omega)
        have u4 := fun W h => cCheckI k i N (upI (wd k) i N leaf p).1 leaf A m c p W hl h hN (by omega)
        have hle := upI_le (wd k) i N leaf p
        obtain ⟨R, HR⟩ : ∃ x, Hid (upI (wd k) i N leaf p = x) := ⟨_, Lib.hid rfl⟩
        simp only [HR.out] at u1 u2 u3 u4 hle
        obtain ⟨r, q⟩ := R
        dsimp only at u1 u2 u3 u4 hle
        have U1 := Lib.hid u1
        have U2 := Lib.hid u2
        have HS := Lib.hid hs
        have hrr : (r.toList == r.toList) = true := beq_self_eq_true _
        clear u1 u2 hs hz
        by_cases hq : q = 0
        · subst hq
          by_cases hr : r = root
          · subst hr
            rw [if_neg (by simp)] at u3 u4
            have U3 := Lib.hid u3
            have U4 := Lib.hid u4
            clear u3 u4
            go_wp2_with fail
            (with_reducible refine (U1.out _ HS.out).mono ?_); rintro e w1 ⟨rfl, hb1⟩
            go_wp2_with fail
            (with_reducible refine (U2.out _ (HS.out.fresh hb1)).mono ?_); rintro e w2 ⟨rfl, hb2⟩
            replace hb1 := hb1.trans (hb2.mono hb1.size); clear hb2
            go_wp2_with fail
            (with_reducible refine (U3.out _ (HS.out.fresh hb1)).mono ?_); rintro e w3 ⟨rfl, hb2⟩
            replace hb1 := hb1.trans (hb2.mono hb1.size); clear hb2
            go_wp2_with fail
            (with_reducible refine (U4.out _ (HS.out.fresh hb1)).mono ?_); rintro e w3 ⟨rfl, hb2⟩
            replace hb1 := hb1.trans (hb2.mono hb1.size); clear hb2
            go_wp2_with fail
            (with_reducible refine (cAwake15 _).mono ?_); rintro e w7 ⟨rfl, hb2⟩
            go_wp2_with fail
            go_ret
            exact ⟨rfl, hb1.trans (hb2.mono hb1.size)⟩
          · rw [if_pos ⟨rfl, hr⟩] at u3
            rw [if_neg (by simp)] at u4
            have hbe := beq_text_ne hr
            have U3 := Lib.hid u3
            have U4 := Lib.hid u4
            clear u3 u4 hr
            go_wp2_with fail
            (with_reducible refine (U1.out _ HS.out).mono ?_); rintro e w1 ⟨rfl, hb1⟩
            go_wp2_with fail
            (with_reducible refine (U2.out _ (HS.out.fresh hb1)).mono ?_); rintro e w2 ⟨rfl, hb2⟩
            replace hb1 := hb1.trans (hb2.mono hb1.size); clear hb2
            go_wp2_with fail
            (with_reducible refine (U3.out _ (HS.out.fresh hb1)).mono ?_); rintro e w3 ⟨rfl, hb2⟩
            replace hb1 := hb1.trans (hb2.mono hb1.size); clear hb2
            go_wp2_with fail
            (with_reducible refine (U4.out _ (HS.out.fresh hb1)).mono ?_); rintro e w3 ⟨rfl, hb2⟩
            replace hb1 := hb1.trans (hb2.mono hb1.size); clear hb2
            go_wp2_with fail
            (with_reducible refine (cAwake15 _).mono ?_); rintro e w7 ⟨rfl, hb2⟩
            go_wp2_with fail
            go_ret
            exact ⟨rfl, hb1.trans (hb2.mono hb1.size)⟩
        · rw [if_neg (fun h => hq h.1)] at u3
          have hq1 : ((q : Int) == 0) = false := by simp; omega
          have hq2 : ((q : Int) != 0) = true := by simp; omega
          have U3 := Lib.hid u3
          clear u3 u4
          go_wp2_with fail
          (with_reducible refine (U1.out _ HS.out).mono ?_); rintro e w1 ⟨rfl, hb1⟩
          go_wp2_with fail
          (with_reducible refine (U2.out _ (HS.out.fresh hb1)).mono ?_); rintro e w2 ⟨rfl, hb2⟩
          replace hb1 := hb1.trans (hb2.mono hb1.size); clear hb2
          go_wp2_with fail
          (with_reducible refine (U3.out _ (HS.out.fresh hb1)).mono ?_); rintro e w3 ⟨rfl, hb2⟩
          replace hb1 := hb1.trans (hb2.mono hb1.size); clear hb2
          go_wp2_with fail
          (with_reducible refine (cAwake15 _).mono ?_); rintro e w7 ⟨rfl, hb2⟩
          go_wp2_with fail
          go_ret
          exact ⟨rfl, hb1.trans (hb2.mono hb1.size)⟩
      · rw [if_neg hbig] at hNn
        subst hNn
        go_enter Try.func10, Try.ntmps10
        go_wp2_with fail
        (with_reducible refine H0.out.mono ?_); rintro e w1 ⟨A, m, c, p, rfl, hl, hs, hmc, hm, hz, rfl⟩
        have u1 := fun W h => cUpI k i N leaf A m c p W hl h hN (by omega)
        have u2 := fun W h => crUpI k i N leaf A m c p W hl h hmc hN (by omega)
        have u3 := fun W h => cCheckI k i N root leaf A m c p W hl h hN (by omega)
        have u4 := fun W h => cCheckI k i N (upI (wd k) i N leaf p).1 leaf A m c p W hl h hN (by omega)
        have hle := upI_le (wd k) i N leaf p
        obtain ⟨R, HR⟩ : ∃ x, Hid (upI (wd k) i N leaf p = x) := ⟨_, Lib.hid rfl⟩
        simp only [HR.out] at u1 u2 u3 u4 hle
        obtain ⟨r, q⟩ := R
        dsimp only at u1 u2 u3 u4 hle
        have U1 := Lib.hid u1
        have U2 := Lib.hid u2
        have HS := Lib.hid hs
        have hrr : (r.toList == r.toList) = true := beq_self_eq_true _
        clear u1 u2 hs hz
        by_cases hq : q = 0
        · subst hq
          by_cases hr : r = root
          · subst hr
            rw [if_neg (by simp)] at u3 u4
            have U3 := Lib.hid u3
            have U4 := Lib.hid u4
            clear u3 u4
            go_wp2_with fail
            (with_reducible refine (U1.out _ HS.out).mono ?_); rintro e w1 ⟨rfl, hb1⟩
            go_wp2_with fail
            (with_reducible refine (U2.out _ (HS.out.fresh hb1)).mono ?_); rintro e w2 ⟨rfl, hb2⟩
            replace hb1 := hb1.trans (hb2.mono hb1.size); clear hb2
            go_wp2_with fail
            (with_reducible refine (U3.out _ (HS.out.fresh hb1)).mono ?_); rintro e w3 ⟨rfl, hb2⟩
            replace hb1 := hb1.trans (hb2.mono hb1.size); clear hb2
            go_wp2_with fail
            (with_reducible refine (U4.out _ (HS.out.fresh hb1)).mono ?_); rintro e w3 ⟨rfl, hb2⟩
            replace hb1 := hb1.trans (hb2.mono hb1.size); clear hb2
            go_wp2_with fail
            (with_reducible refine (cAwake15 _).mono ?_); rintro e w7 ⟨rfl, hb2⟩
            go_wp2_with fail
            go_ret
            exact ⟨rfl, hb1.trans (hb2.mono hb1.size)⟩
          · rw [if_pos ⟨rfl, hr⟩] at u3
            rw [if_neg (by simp)] at u4
            have hbe := beq_text_ne hr
            have U3 := Lib.hid u3
            have U4 := Lib.hid u4
            clear u3 u4 hr
            go_wp2_with fail
            (with_reducible refine (U1.out _ HS.out).mono ?_); rintro e w1 ⟨rfl, hb1⟩
            go_wp2_with fail
            (with_reducible refine (U2.out _ (HS.out.fresh hb1)).mono ?_); rintro e w2 ⟨rfl, hb2⟩
            replace hb1 := hb1.trans (hb2.mono hb1.size); clear hb2
            go_wp2_with fail
            (with_reducible refine (U3.out _ (HS.out.fresh hb1)).mono ?_); rintro e w3 ⟨rfl, hb2⟩
            replace hb1 := hb1.trans (hb2.mono hb1.size); clear hb2
            go_wp2_with fail
            (with_reducible refine (U4.out _ (HS.out.fresh hb1)).mono ?_); rintro e w3 ⟨rfl, hb2⟩
            replace hb1 := hb1.trans (hb2.mono hb1.size); clear hb2
            go_wp2_with fail
            (with_reducible refine (cAwake15 _).mono ?_); rintro e w7 ⟨rfl, hb2⟩
            go_wp2_with fail
            go_ret
            exact ⟨rfl, hb1.trans (hb2.mono hb1.size)⟩
        · rw [if_neg (fun h => hq h.1)] at u3
          have hq1 : ((q : Int) == 0) = false := by simp; omega
          have hq2 : ((q : Int) != 0) = true := by simp; omega
          have U3 := Lib.hid u3
          clear u3 u4
          go_wp2_with fail
          (with_reducible refine (U1.out _ HS.out).mono ?_); rintro e w1 ⟨rfl, hb1⟩
          go_wp2_with fail
          (with_reducible refine (U2.out _ (HS.out.fresh hb1)).mono ?_); rintro e w2 ⟨rfl, hb2⟩
          replace hb1 := hb1.trans (hb2.mono hb1.size); clear hb2
          go_wp2_with fail
          (with_reducible refine (U3.out _ (HS.out.fresh hb1)).mono ?_); rintro e w3 ⟨rfl, hb2⟩
          replace hb1 := hb1.trans (hb2.mono hb1.size); clear hb2
          go_wp2_with fail
          (with_reducible refine (cAwake15 _).mono ?_); rintro e w7 ⟨rfl, hb2⟩
          go_wp2_with fail
          go_ret
          exact ⟨rfl, hb1.trans (hb2.mono hb1.size)⟩
    · have g1 : ¬ (1000 : Int) < (leaf.size : Int) := by omega
      have g2 : (1000 : Int) < (root.size : Int) := by omega
      go_enter Try.func10, Try.ntmps10
      go_wp2_with fail
      (with_reducible refine H0.out.mono ?_); rintro e w1 ⟨A, m, c, p, rfl, hl, hs, hmc, hm, hz, rfl⟩
      go_wp2_with fail
      (with_reducible refine (cAwake15 _).mono ?_); rintro e w7 ⟨rfl, hb2⟩
      go_wp2_with fail
      go_ret
      exact ⟨rfl, hb2⟩
  · have g1 : (1000 : Int) < (leaf.size : Int) := by omega
    go_enter Try.func10, Try.ntmps10
    go_wp2_with fail
    (with_reducible refine H0.out.mono ?_); rintro e w1 ⟨A, m, c, p, rfl, hl, hs, hmc, hm, hz, rfl⟩
    go_wp2_with fail
    (with_reducible refine (cAwake15 _).mono ?_); rintro e w7 ⟨rfl, hb2⟩
    go_wp2_with fail
    go_ret
    exact ⟨rfl, hb2⟩
end Go.Proofs.Ytkggpimminnniaa
