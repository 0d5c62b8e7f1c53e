/- The reference's Width, Sum, Leaf, Node, Cut, Root. -/
import Derived.Test.YtcnhhlnbmliihaaMerkRoot
import Derived.Test.YtcnhhlnbmliihaaRefSha3
namespace Go.Proofs.Ytcnhhlnbmliihaa
open Go.RowKit
set_option linter.unusedVariables false
set_option linter.unusedSimpArgs false

theorem crWidth (w : Int) (W : World) : Calls Try.prog 56 #[.int .i64 w] W fun e W' => e = .returned (.int .i64 (wd w)) ∧ W = W' := by
  have h := wd_int w
  have H := Lib.hid h
  clear h
  rw [H.out]
  rcases Int.lt_or_le w 1 with h1 | h1
  · have e2 : min (max w 1) 32 = 1 := by omega
    rw [e2]
    go_enter Try.func56, Try.ntmps56
    go_wp2_with fail
    go_ret
    exact ⟨rfl, rfl⟩
  · rcases Int.lt_or_le 32 w with h2 | h2
    · have e2 : min (max w 1) 32 = 32 := by omega
      rw [e2]
      go_enter Try.func56, Try.ntmps56
      go_wp2_with fail
      go_ret
      exact ⟨rfl, rfl⟩
    · have e2 : min (max w 1) 32 = w := by omega
      rw [e2]
      go_enter Try.func56, Try.ntmps56
      go_wp2_with fail
      go_ret
      exact ⟨rfl, rfl⟩

theorem crMSum (w : Int) (s : ByteArray) (W : World) (hl : s.size ≤ 1000000000) :
    Calls Try.prog 51 #[.int .i64 w, .string s] W fun e W' => e = .returned (.string (msum (wd w) s)) ∧ Below W.heap.size W W' := by
  have h1 := fun W => crSum s W hl
  have hz : (str (sha s.data.toList)).size = 32 := by rw [str_size, sha_length]
  have hm : msum (wd w) s = (str (sha s.data.toList)).extract 0 (wd w) := rfl
  have hw := wd_hi w
  have hw1 := wd_lo w
  rw [hm]
  have h2 := fun W => crWidth w W
  obtain ⟨S, HS⟩ : ∃ X, Hid (str (sha s.data.toList) = X) := ⟨_, Lib.hid rfl⟩
  obtain ⟨d, HD⟩ : ∃ X, Hid (wd w = X) := ⟨_, Lib.hid rfl⟩
  simp only [HS.out] at h1 hz
  simp only [HD.out] at h2 hw hw1
  rw [HS.out, HD.out]
  have H1 := Lib.hid h1
  have H2 := Lib.hid h2
  have hdS : (d : Int) ≤ (S.size : Int) := by omega
  clear h1 h2 hz hm
  go_enter Try.func51, Try.ntmps51
  go_wp2_with fail
  (with_reducible refine (H1.out _).mono ?_); rintro e w1 ⟨rfl, hb⟩
  go_wp2_with fail
  (with_reducible refine (H2.out _).mono ?_); rintro e w2 ⟨rfl, rfl⟩
  go_wp2_with fail
  go_ret
  exact ⟨rfl, hb⟩
theorem crMSum0 (w : Int) (W : World) : Calls Try.prog 51 #[.int .i64 w, .string ⟨#[]⟩] W fun e W' => e = .returned (.string (msum (wd w) ByteArray.empty)) ∧ Below W.heap.size W W' := crMSum w ⟨#[]⟩ W (by decide)
theorem crLeaf (w : Int) (s : ByteArray) (W : World) (h : s.size ≤ 900000000) : Calls Try.prog 44 #[.int .i64 w, .string s] W fun e W' => e = .returned (.string (mleaf (wd w) s)) ∧ Below W.heap.size W W' := by
  have h1 := fun W => crMSum w (⟨#[0]⟩ ++ s) W (by rw [ByteArray.size_append]; have : (⟨#[0]⟩ : ByteArray).size = 1 := rfl; omega)
  have hm : mleaf (wd w) s = msum (wd w) (⟨#[0]⟩ ++ s) := rfl
  rw [hm]
  obtain ⟨X, HX⟩ : ∃ X, Hid (msum (wd w) (⟨#[0]⟩ ++ s) = X) := ⟨_, Lib.hid rfl⟩
  simp only [HX.out] at h1
  rw [HX.out]
  have H1 := Lib.hid h1
  have hI : (s.size : Int) ≤ 900000000 := by omega
  clear h1 hm
  go_enter Try.func44, Try.ntmps44
  go_wp2_with fail
  (with_reducible refine (H1.out _).mono ?_); rintro e w1 ⟨rfl, hb⟩
  go_wp2_with fail
  go_ret
  exact ⟨rfl, hb⟩
theorem crNode (w : Int) (a b : ByteArray) (W : World) (ha : a.size ≤ 400000000) (hb : b.size ≤ 400000000) : Calls Try.prog 50 #[.int .i64 w, .string a, .string b] W fun e W' => e = .returned (.string (mnode (wd w) a b)) ∧ Below W.heap.size W W' := by
  have h1 := fun W => crMSum w (⟨#[1]⟩ ++ a ++ b) W (by rw [ByteArray.size_append, ByteArray.size_append]; have : (⟨#[1]⟩ : ByteArray).size = 1 := rfl; omega)
  have hm : mnode (wd w) a b = msum (wd w) (⟨#[1]⟩ ++ a ++ b) := rfl
  rw [hm]
  obtain ⟨X, HX⟩ : ∃ X, Hid (msum (wd w) (⟨#[1]⟩ ++ a ++ b) = X) := ⟨_, Lib.hid rfl⟩
  simp only [HX.out] at h1
  rw [HX.out]
  have H1 := Lib.hid h1
  have hI : (a.size : Int) ≤ 400000000 := by omega
  have hJ : (b.size : Int) ≤ 400000000 := by omega
  clear h1 hm
  go_enter Try.func50, Try.ntmps50
  go_wp2_with fail
  (with_reducible refine (H1.out _).mono ?_); rintro e w1 ⟨rfl, hb⟩
  go_wp2_with fail
  go_ret
  exact ⟨rfl, hb⟩

theorem crCut (n : Nat) (W : World) (hn : n ≤ 2305843009213693952) : Calls Try.prog 46 #[.int .i64 n] W fun e W' => e = .returned (.int .i64 (cut n)) ∧ W = W' := by
  go_enter Try.func46, Try.ntmps46
  go_wp2_with fail
  go_loop [3] (fun u => ∃ j : Nat, u = .int .i64 ((2 ^ j : Nat) : Int) ∧ (2 ^ j < n ∨ j = 0)) (fun u => n - (intOf u).toNat)
  case atStart => exact ⟨0, rfl, .inr rfl⟩
  case round =>
    obtain ⟨j, rfl, hj⟩ := hrel
    have hp := Nat.one_le_two_pow (n := j)
    have hs : 2 ^ (j + 1) = 2 ^ j * 2 := Nat.pow_succ 2 j
    have hpc := pow_cut n j
    obtain ⟨q, HQ⟩ : ∃ q, Hid (2 ^ j = q) := ⟨_, Lib.hid rfl⟩
    rw [HQ.out] at hp hs hj hpc
    rw [HQ.out]
    have HS := Lib.hid hs
    have HJ := Lib.hid hj
    have HPC := Lib.hid hpc
    clear hs hj hpc
    have hqn : q ≤ n + 1 := by have := HJ.out; have e0 := HQ.out; rcases this with h | h; omega; subst h; simp at e0; omega
    by_cases hlt : (q : Int) * 2 < (n : Int)
    · go_wp2_with fail
      go_round
      case rel => exact ⟨j + 1, by rw [HS.out]; go_num, .inl (by rw [HS.out]; omega)⟩
      case measure => simp [intOf]; omega
    · have hc := HPC.out HJ.out (by omega)
      have HC := Lib.hid hc
      clear hc
      go_wp2_with fail
      go_ret
      exact ⟨by rw [← HC.out]; rfl, rfl⟩

set_option maxRecDepth 100000 in
theorem crRoot (w : Int) : ∀ (n : Nat) (A : Option Addr) (c : Nat) (ss : List ByteArray) (W : World), ss.length = n → Strs W A ss → n ≤ c → n ≤ 1000000 → (∀ s ∈ ss, s.size ≤ 300000000) →
    Calls Try.prog 27 #[.int .i64 w, .slice A n c] W fun e W' => e = .returned (.string (root (wd w) ss)) ∧ Below W.heap.size W W' := by
  intro n
  induction n using Nat.strongRecOn with
  | _ n ih =>
    intro A c ss W hn hs hnc hn6 hb
    rcases Nat.lt_or_ge n 1 with h1 | h1
    · have e0 : n = 0 := by omega
      subst e0
      have hr := root_nil (wd w) ss hn
      rw [hr]
      have h := fun W => crMSum0 w W
      obtain ⟨X, HX⟩ : ∃ X, Hid (msum (wd w) ByteArray.empty = X) := ⟨_, Lib.hid rfl⟩
      simp only [HX.out] at h
      rw [HX.out]
      have H := Lib.hid h
      clear h hr ih hs hb hn
      go_enter Try.func27, Try.ntmps27
      go_wp2_with fail
      (with_reducible refine (H.out _).mono ?_); rintro e w1 ⟨rfl, hb⟩
      go_wp2_with fail
      go_ret
      exact ⟨rfl, hb⟩
    · obtain ⟨g, o, rfl, hg, hcell⟩ := hs (by omega)
      rcases Nat.lt_or_ge n 2 with h2 | h2
      · have e1 : n = 1 := by omega
        subst e1
        have hr := root_one (wd w) ss hn
        have c0 := hcell 0 (by omega)
        rw [Nat.add_zero] at c0
        rw [hr]
        obtain ⟨X, HX⟩ : ∃ X, Hid (ss.getD 0 ByteArray.empty = X) := ⟨_, Lib.hid rfl⟩
        rw [HX.out] at c0
        rw [HX.out]
        clear hr hcell ih hs hb hn
        go_enter Try.func27, Try.ntmps27
        go_wp2_with fail
        go_ret
        exact ⟨rfl, Below.refl _ _⟩
      · have hr := root_cut (wd w) ss (by omega)
        rw [hn] at hr
        have hcl := cut_lt n h2
        have hcp := cut_pos n
        have h3 := fun W => crCut n W (by omega)
        have ht : (ss.take (cut n)).length = cut n := by rw [List.length_take]; omega
        have hd : (ss.drop (cut n)).length = n - cut n := by rw [List.length_drop, hn]
        have hst := hs.take (cut n)
        have hsd := hs.from_ (cut n) (by omega) (c := c) (by omega)
        have i1 := fun W (h : Strs W (some ⟨g, o, none⟩) (ss.take (cut n))) => ih (cut n) hcl (some ⟨g, o, none⟩) c (ss.take (cut n)) W ht h (by omega) (by omega) (mem_take_le hb)
        have i2 := fun W (h : Strs W (some ⟨g, o + cut n, none⟩) (ss.drop (cut n))) => ih (n - cut n) (by omega) (some ⟨g, o + cut n, none⟩) (c - cut n) (ss.drop (cut n)) W hd h (by omega) (by omega) (mem_drop_le hb)
        have z1 := root_le (wd w) (wd_hi w) 300000000 (by omega) (ss.take (cut n)) (mem_take_le hb)
        have z2 := root_le (wd w) (wd_hi w) 300000000 (by omega) (ss.drop (cut n)) (mem_drop_le hb)
        have h4 := fun W => crNode w (root (wd w) (ss.take (cut n))) (root (wd w) (ss.drop (cut n))) W (by omega) (by omega)
        rw [← hr] at h4
        obtain ⟨X, HX⟩ : ∃ X, Hid (root (wd w) (ss.take (cut n)) = X) := ⟨_, Lib.hid rfl⟩
        obtain ⟨Y, HY⟩ : ∃ X, Hid (root (wd w) (ss.drop (cut n)) = X) := ⟨_, Lib.hid rfl⟩
        obtain ⟨Z, HZ⟩ : ∃ X, Hid (root (wd w) ss = X) := ⟨_, Lib.hid rfl⟩
        simp only [HX.out] at i1 h4
        simp only [HY.out] at i2 h4
        simp only [HZ.out] at h4
        rw [HZ.out]
        obtain ⟨k, HK⟩ : ∃ k, Hid (cut n = k) := ⟨_, Lib.hid rfl⟩
        simp only [HK.out] at h3 i1 i2 hst hsd hcl hcp
        have H3 := Lib.hid h3
        have H4 := Lib.hid h4
        have I1 := Lib.hid i1
        have I2 := Lib.hid i2
        have HST := Lib.hid hst
        have HSD := Lib.hid hsd
        have hB0 : Below W.heap.size W W.drew := (Below.refl W.heap.size W).drew
        have hkn : (k : Int) ≤ (n : Int) := by omega
        have hkc : (k : Int) ≤ (c : Int) := by omega
        have hnc2 : (n : Int) ≤ (c : Int) := by omega
        have hck : ¬ c = k := by omega
        clear h3 h4 i1 i2 hst hsd hr z1 z2 ht hd ih hb hs hcell hn
        go_enter Try.func27, Try.ntmps27
        go_wp2_with fail
        (with_reducible refine (H3.out _).mono ?_); rintro e w1 ⟨rfl, rfl⟩
        go_wp2_with fail
        refine wp_region_lexX [] (by kernel_rfl) (by kernel_rfl) ?_
        repeat (refine wpX_pure rfl rfl rfl ?_; intro K hK; go_big_quiet_op; refine hK _ ?_; clear hK K)
        refine wpX_eff rfl rfl ?_; intro K hK; go_wp2_with fail
        (with_reducible refine (I1.out _ HST.out.drew).mono ?_); rintro e w1 ⟨rfl, hb1⟩
        go_wp2_with fail
        refine hK _ _ trivial ?_; clear hK K
        have hB1 := hB0.trans (hb1.mono hB0.size)
        have HB1 := Lib.hid hB1
        clear hb1 hB1 hB0
        repeat (refine wpX_pure rfl rfl rfl ?_; intro K hK; go_big_quiet_op; refine hK _ ?_; clear hK K)
        refine wpX_eff rfl rfl ?_; intro K hK; go_wp2_with fail
        (with_reducible refine (I2.out _ (HSD.out.fresh HB1.out)).mono ?_); rintro e w2 ⟨rfl, hb2⟩
        go_wp2_with fail
        refine hK _ _ trivial ?_; clear hK K
        have hB2 := HB1.out.trans (hb2.mono HB1.out.size)
        have HB2 := Lib.hid hB2
        clear hb2 hB2
        refine wpX_eff rfl rfl ?_; intro K hK; go_wp2_with fail
        (with_reducible refine (H4.out _).mono ?_); rintro e w3 ⟨rfl, hb3⟩
        go_wp2_with fail
        refine hK _ _ trivial ?_; clear hK K
        have hB3 := HB2.out.trans (hb3.mono HB2.out.size)
        refine wpX_pure rfl rfl rfl ?_; intro K hK; go_big_quiet_op; refine hK _ ?_; clear hK K
        refine wpX_nil ?_
        go_wp2_with fail
        go_ret
        exact ⟨rfl, hB3⟩
end Go.Proofs.Ytcnhhlnbmliihaa
