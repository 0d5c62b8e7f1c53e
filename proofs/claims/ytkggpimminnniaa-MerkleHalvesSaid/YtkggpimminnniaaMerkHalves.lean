/- The law MerkleHalves, walked. -/
import Derived.Test.YtkggpimminnniaaMerkBack
import Derived.Test.YtkggpimminnniaaAppL
namespace Go.Proofs.Ytkggpimminnniaa
open Go.RowKit
set_option linter.unusedVariables false
set_option linter.unusedSimpArgs false

set_option maxRecDepth 100000 in
set_option maxHeartbeats 4000000 in
theorem merkleHalves_walk {w : World} (k : Int) (hk : (Lit.int .i64 k).wf = true) (v1 : Value) (s1 : List ByteArray) (hv1 : StrsIn w v1 s1) (v2 : Value) (s2 : List ByteArray) (hv2 : StrsIn w v2 s2) :
    Calls Try.prog 6 #[.int .i64 k, v1, v2] w fun e w' => e = .returned (.bool true) ∧ Below w.heap.size w w' := by
  have h0 := cFewV hv1
  have h1 := cFewV hv2
  have H0 := Lib.hid h0
  have H1 := Lib.hid h1
  clear h0 h1 hv1 hv2
  go_enter Try.func6, Try.ntmps6
  go_wp2_with fail
  (with_reducible refine H0.out.mono ?_); rintro e w1 ⟨A1, n1, c1, l1, rfl, hl1, hs1, hnc1, hn1, hz1, rfl⟩
  go_wp2_with fail
  (with_reducible refine H1.out.mono ?_); rintro e w1 ⟨A2, n2, c2, l2, rfl, hl2, hs2, hnc2, hn2, hz2, rfl⟩
  have HL1 := Lib.hid hl1
  have HS1 := Lib.hid hs1
  have HZ1 := Lib.hid hz1
  have HL2 := Lib.hid hl2
  have HS2 := Lib.hid hs2
  have HZ2 := Lib.hid hz2
  have hn1I : (n1 : Int) ≤ 70 := by omega
  clear hl1 hs1 hz1 hl2 hs2 hz2 H0 H1
  go_wp2_with fail
  go_loop [7] (fun u => ∃ j : Nat, u = .int .i64 ((2 ^ j : Nat) : Int) ∧ (2 ^ j ≤ n1 ∨ j = 0)) (fun u => 100 - (intOf u).toNat)
  case atStart => exact ⟨0, rfl, .inr rfl⟩
  case round =>
    obtain ⟨j, rfl, hj⟩ := hrel
    have hp := Nat.one_le_two_pow (n := j)
    have hs : 2 ^ (j + 1) = 2 ^ j * 2 := Nat.pow_succ 2 j
    have hq70 : 2 ^ j ≤ 70 := by rcases hj with h | h; omega; subst h; decide
    obtain ⟨N, HN⟩ : ∃ q, Hid (2 ^ j = q) := ⟨_, Lib.hid rfl⟩
    rw [HN.out] at hp hs hj hq70
    rw [HN.out]
    have HS := Lib.hid hs
    have HJ := Lib.hid hj
    clear hs hj
    have hqI : (N : Int) ≤ 70 := by omega
    by_cases hlt : (N : Int) * 2 ≤ (n1 : Int)
    · go_wp2_with fail
      go_round
      case rel => exact ⟨j + 1, by rw [HS.out]; go_num, .inl (by rw [HS.out]; omega)⟩
      case measure => simp [intOf]; omega
    · have hltD : decide ((N : Int) * 2 ≤ (n1 : Int)) = false := decide_eq_false hlt
      by_cases h1 : n1 = 0
      · subst h1
        go_wp2_with fail
        (with_reducible refine (cAwake15 _).mono ?_); rintro e w7 ⟨rfl, hb2⟩
        go_wp2_with fail
        go_ret
        exact ⟨rfl, hb2⟩
      · have h1I : ((n1 : Int) == 0) = false := by simp; omega
        have h1J : (n1 == 0) = false := by simp; omega
        by_cases h2 : n2 = 0
        · subst h2
          go_wp2_with fail
          (with_reducible refine (cAwake15 _).mono ?_); rintro e w7 ⟨rfl, hb2⟩
          go_wp2_with fail
          go_ret
          exact ⟨rfl, hb2⟩
        · have h2I : ((n2 : Int) == 0) = false := by simp; omega
          have h2J : (n2 == 0) = false := by simp; omega
          have hNn : N ≤ n1 := by have := HJ.out; have e0 := HN.out; rcases this with h | h; omega; subst h; simp at e0; omega
          have hNI : (N : Int) ≤ (n1 : Int) := by omega
          have hNc : (N : Int) ≤ (c1 : Int) := by omega
          have ht1 : (l1.take N).length = N := by rw [List.length_take, HL1.out]; omega
          have hb0 := Below.refl w.heap.size w
          have hst1 := HS1.out.take N
          have hzt1 := mem_take_le (b := 20000) (k := N) HZ1.out
          obtain ⟨m1, HM1⟩ : ∃ x, Hid (l1.take N = x) := ⟨_, Lib.hid rfl⟩
          rw [HM1.out] at ht1 hst1 hzt1
          have HT1 := Lib.hid hst1
          have HZT1 := Lib.hid hzt1
          clear hst1 hzt1
          by_cases hgt : (N : Int) < (n2 : Int)
          · have hNc2 : (N : Int) ≤ (c2 : Int) := by omega
            have hN2 : (N : Int) ≤ (n2 : Int) := by omega
            have ht2 : (l2.take N).length = N := by rw [List.length_take, HL2.out]; omega
            have hst2 := HS2.out.take N
            have hzt2 := mem_take_le (b := 20000) (k := N) HZ2.out
            obtain ⟨m2, HM2⟩ : ∃ x, Hid (l2.take N = x) := ⟨_, Lib.hid rfl⟩
            rw [HM2.out] at ht2 hst2 hzt2
            have HT2 := Lib.hid hst2
            have HZT2 := Lib.hid hzt2
            clear hst2 hzt2
            have hrh := root_half (wd k) j m1 m2 (by rw [ht1, HN.out]) (by omega) (by rw [HN.out]; omega)
            have hla : (m1 ++ m2).length = N + N := by rw [List.length_append, ht1, ht2]
            have hza : ∀ s ∈ m1 ++ m2, s.size ≤ 300000000 := fun s hs => by
              rcases List.mem_append.1 hs with h | h
              · have := HZT1.out s h; omega
              · have := HZT2.out s h; omega
            have r0 := fun A c W h hc => cRoot k (N + N) A c (m1 ++ m2) W hla h hc (by omega) hza
            have r1 := fun W h => cRoot k N A1 c1 m1 W ht1 h (by omega) (by omega) (fun s hs => by have := HZT1.out s hs; omega)
            have r2 := fun W h => cRoot k N A2 c2 m2 W ht2 h (by omega) (by omega) (fun s hs => by have := HZT2.out s hs; omega)
            have z1 := root_le (wd k) (wd_hi k) 300000000 (by omega) m1 (fun s hs => by have := HZT1.out s hs; omega)
            have z2 := root_le (wd k) (wd_hi k) 300000000 (by omega) m2 (fun s hs => by have := HZT2.out s hs; omega)
            have r3 := fun W => cNode k (root (wd k) m1) (root (wd k) m2) W (by omega) (by omega)
            rw [← hrh] at r3
            obtain ⟨X, HX⟩ : ∃ x, Hid (root (wd k) (m1 ++ m2) = x) := ⟨_, Lib.hid rfl⟩
            obtain ⟨Y, HY⟩ : ∃ x, Hid (root (wd k) m1 = x) := ⟨_, Lib.hid rfl⟩
            obtain ⟨Z, HZ⟩ : ∃ x, Hid (root (wd k) m2 = x) := ⟨_, Lib.hid rfl⟩
            simp only [HX.out] at r0 r3
            simp only [HY.out] at r1 r3
            simp only [HZ.out] at r2 r3
            have R0 := Lib.hid r0
            have R1 := Lib.hid r1
            have R2 := Lib.hid r2
            have R3 := Lib.hid r3
            have hxx : (X.toList == X.toList) = true := beq_self_eq_true _
            clear r0 r1 r2 r3 z1 z2 hrh hza
            go_wp2_with (first
              | (refine wpList_appL str_elem Try.underlying28 rfl (.tmp 39) (.tmp 40) rfl w.heap.size none 0 0 [] rfl rfl (SL.nil _ _ _) A1 N c1 m1 ht1 rfl HT1.out (by omega) (by decide) (Nat.le_refl _) ?_; intro A3 c3 w3 hS3 hc3 hb3; dsimp only [Act.put]; rw [List.nil_append] at hS3; simp only [Nat.zero_add] at hS3 hc3 ⊢; have HS3 := Lib.hid hS3; have HT2b := Lib.hid (HT2.out.below hb3 (Nat.le_refl _)); have HB3 := Lib.hid hb3; have hbs3 := hb3.size; clear hS3 hb3)
              | (refine wpList_appL str_elem Try.underlying28 rfl (.tmp 42) (.tmp 43) rfl w.heap.size A3 N c3 m1 ht1 rfl HS3.out A2 N c2 m2 ht2 rfl HT2b.out (by omega) (by decide) hbs3 ?_; intro A4 c4 w4 hS4 hc4 hb4; dsimp only [Act.put]))
            have HSA := Lib.hid (Strs.of_sl hS4)
            have HT2c := Lib.hid (HT2.out.fresh (HB3.out.trans hb4))
            have HT1c := Lib.hid (HT1.out.fresh (HB3.out.trans hb4))
            have HB4 := Lib.hid (HB3.out.trans hb4)
            clear hS4 hb4
            go_wp2_with fail
            (with_reducible refine (R0.out _ _ _ HSA.out hc4).mono ?_); rintro e w5 ⟨rfl, hb5⟩
            go_wp2_with fail
            (with_reducible refine (R1.out _ (HT1c.out.fresh hb5)).mono ?_); rintro e w6 ⟨rfl, hb6⟩
            replace hb5 := hb5.trans (hb6.mono hb5.size); clear hb6
            go_wp2_with fail
            (with_reducible refine (R2.out _ (HT2c.out.fresh hb5)).mono ?_); rintro e w7 ⟨rfl, hb6⟩
            replace hb5 := hb5.trans (hb6.mono hb5.size); clear hb6
            go_wp2_with fail
            (with_reducible refine (R3.out _).mono ?_); rintro e w8 ⟨rfl, hb6⟩
            replace hb5 := hb5.trans (hb6.mono hb5.size); clear hb6
            go_wp2_with fail
            (with_reducible refine (cAwake15 _).mono ?_); rintro e w9 ⟨rfl, hb6⟩
            replace hb5 := hb5.trans (hb6.mono hb5.size); clear hb6
            go_wp2_with fail
            go_ret
            exact ⟨rfl, HB4.out.trans (hb5.mono HB4.out.size)⟩
          · have hgtD : decide ((N : Int) < (n2 : Int)) = false := decide_eq_false hgt
            have HT2 := HS2
            have HZT2 := HZ2
            have ht2 := HL2.out
            obtain ⟨m2, HM2⟩ : ∃ x, Hid (l2 = x) := ⟨_, Lib.hid rfl⟩
            rw [HM2.out] at HT2 HZT2 ht2
            have hrh := root_half (wd k) j m1 m2 (by rw [ht1, HN.out]) (by omega) (by rw [HN.out]; omega)
            have hla : (m1 ++ m2).length = N + n2 := by rw [List.length_append, ht1, ht2]
            have hza : ∀ s ∈ m1 ++ m2, s.size ≤ 300000000 := fun s hs => by
              rcases List.mem_append.1 hs with h | h
              · have := HZT1.out s h; omega
              · have := HZT2.out s h; omega
            have r0 := fun A c W h hc => cRoot k (N + n2) A c (m1 ++ m2) W hla h hc (by omega) hza
            have r1 := fun W h => cRoot k N A1 c1 m1 W ht1 h (by omega) (by omega) (fun s hs => by have := HZT1.out s hs; omega)
            have r2 := fun W h => cRoot k n2 A2 c2 m2 W ht2 h (by omega) (by omega) (fun s hs => by have := HZT2.out s hs; omega)
            have z1 := root_le (wd k) (wd_hi k) 300000000 (by omega) m1 (fun s hs => by have := HZT1.out s hs; omega)
            have z2 := root_le (wd k) (wd_hi k) 300000000 (by omega) m2 (fun s hs => by have := HZT2.out s hs; omega)
            have r3 := fun W => cNode k (root (wd k) m1) (root (wd k) m2) W (by omega) (by omega)
            rw [← hrh] at r3
            obtain ⟨X, HX⟩ : ∃ x, Hid (root (wd k) (m1 ++ m2) = x) := ⟨_, Lib.hid rfl⟩
            obtain ⟨Y, HY⟩ : ∃ x, Hid (root (wd k) m1 = x) := ⟨_, Lib.hid rfl⟩
            obtain ⟨Z, HZ⟩ : ∃ x, Hid (root (wd k) m2 = x) := ⟨_, Lib.hid rfl⟩
            simp only [HX.out] at r0 r3
            simp only [HY.out] at r1 r3
            simp only [HZ.out] at r2 r3
            have R0 := Lib.hid r0
            have R1 := Lib.hid r1
            have R2 := Lib.hid r2
            have R3 := Lib.hid r3
            have hxx : (X.toList == X.toList) = true := beq_self_eq_true _
            clear r0 r1 r2 r3 z1 z2 hrh hza
            go_wp2_with (first
              | (refine wpList_appL str_elem Try.underlying28 rfl (.tmp 39) (.tmp 40) rfl w.heap.size none 0 0 [] rfl rfl (SL.nil _ _ _) A1 N c1 m1 ht1 rfl HT1.out (by omega) (by decide) (Nat.le_refl _) ?_; intro A3 c3 w3 hS3 hc3 hb3; dsimp only [Act.put]; rw [List.nil_append] at hS3; simp only [Nat.zero_add] at hS3 hc3 ⊢; have HS3 := Lib.hid hS3; have HT2b := Lib.hid (HT2.out.below hb3 (Nat.le_refl _)); have HB3 := Lib.hid hb3; have hbs3 := hb3.size; clear hS3 hb3)
              | (refine wpList_appL str_elem Try.underlying28 rfl (.tmp 42) (.tmp 43) rfl w.heap.size A3 N c3 m1 ht1 rfl HS3.out A2 n2 c2 m2 ht2 rfl HT2b.out (by omega) (by decide) hbs3 ?_; intro A4 c4 w4 hS4 hc4 hb4; dsimp only [Act.put]))
            have HSA := Lib.hid (Strs.of_sl hS4)
            have HT2c := Lib.hid (HT2.out.fresh (HB3.out.trans hb4))
            have HT1c := Lib.hid (HT1.out.fresh (HB3.out.trans hb4))
            have HB4 := Lib.hid (HB3.out.trans hb4)
            clear hS4 hb4
            go_wp2_with fail
            (with_reducible refine (R0.out _ _ _ HSA.out hc4).mono ?_); rintro e w5 ⟨rfl, hb5⟩
            go_wp2_with fail
            (with_reducible refine (R1.out _ (HT1c.out.fresh hb5)).mono ?_); rintro e w6 ⟨rfl, hb6⟩
            replace hb5 := hb5.trans (hb6.mono hb5.size); clear hb6
            go_wp2_with fail
            (with_reducible refine (R2.out _ (HT2c.out.fresh hb5)).mono ?_); rintro e w7 ⟨rfl, hb6⟩
            replace hb5 := hb5.trans (hb6.mono hb5.size); clear hb6
            go_wp2_with fail
            (with_reducible refine (R3.out _).mono ?_); rintro e w8 ⟨rfl, hb6⟩
            replace hb5 := hb5.trans (hb6.mono hb5.size); clear hb6
            go_wp2_with fail
            (with_reducible refine (cAwake15 _).mono ?_); rintro e w9 ⟨rfl, hb6⟩
            replace hb5 := hb5.trans (hb6.mono hb5.size); clear hb6
            go_wp2_with fail
            go_ret
            exact ⟨rfl, HB4.out.trans (hb5.mono HB4.out.size)⟩
end Go.Proofs.Ytkggpimminnniaa
