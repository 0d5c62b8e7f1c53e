/- merkle.Width, Sum, Leaf, Node, Cut. -/
import Derived.Test.YtcnhhlnbmliihaaShaOne
import Derived.Test.YtcnhhlnbmliihaaApp1
import Derived.Test.YtcnhhlnbmliihaaMerkP
namespace Go.Proofs.Ytcnhhlnbmliihaa
open Go.RowKit
set_option linter.unusedVariables false
set_option linter.unusedSimpArgs false

theorem cWidth (w : Int) (W : World) : Calls Try.prog 38 #[.int .i64 w] W fun e W' => e = .returned (.int .i64 (wd w)) ∧ W = W' := by
  have h := wd_int w
  have H := Lib.hid h
  clear h
  rw [H.out]
  rcases Int.lt_or_le w 1 with h1 | h1
  · have e1 : max w 1 = 1 := by omega
    have e2 : min (max w 1) 32 = 1 := by omega
    rw [e2]
    have h3 : ¬ 1 < w := by omega
    go_enter Try.func38, Try.ntmps38
    go_wp2_with fail
    go_ret
    exact ⟨rfl, rfl⟩
  · rcases Int.lt_or_le 32 w with h2 | h2
    · have e1 : max w 1 = w := by omega
      have e2 : min (max w 1) 32 = 32 := by omega
      rw [e2]
      have e3 : min w 32 = 32 := by omega
      go_enter Try.func38, Try.ntmps38
      go_wp2_with fail
      go_ret
      exact ⟨rfl, rfl⟩
    · have e1 : max w 1 = w := by omega
      have e2 : min (max w 1) 32 = w := by omega
      rw [e2]
      have e3 : min w 32 = w := by omega
      go_enter Try.func38, Try.ntmps38
      go_wp2_with fail
      go_ret
      exact ⟨rfl, rfl⟩

/-- The sum of a slice of texts, cut to a width. -/
theorem cMSum (w : Int) (A : Option Addr) (n c : Nat) (ss : List ByteArray) (W : World) (hn : ss.length = n) (hs : Strs W A ss) (hl : (joinL ss).length ≤ 1000000000) (hn2 : n ≤ 1000000000) :
    Calls Try.prog 66 #[.int .i64 w, .slice A n c] W fun e W' => e = .returned (.string (msum (wd w) (str (joinL ss)))) ∧ Below W.heap.size W W' := by
  have h1 := cSumL A n c ss W hn hs hl hn2
  have hz : (str (sha (joinL ss))).size = 32 := by rw [str_size, sha_length]
  have hm : msum (wd w) (str (joinL ss)) = (str (sha (joinL ss))).extract 0 (wd w) := by unfold msum shaB; rw [bytes_str]
  have hw := wd_hi w
  have hw1 := wd_lo w
  rw [hm]
  have h2 := fun W => cWidth w W
  obtain ⟨S, HS⟩ : ∃ X, Hid (str (sha (joinL ss)) = X) := ⟨_, Lib.hid rfl⟩
  obtain ⟨d, HD⟩ : ∃ X, Hid (wd w = X) := ⟨_, Lib.hid rfl⟩
  rw [HS.out] at h1 hz
  simp only [HD.out] at h2 hw hw1
  rw [HS.out, HD.out]
  have H1 := Lib.hid h1
  have H2 := Lib.hid h2
  have hdS : (d : Int) ≤ (S.size : Int) := by omega
  clear h1 h2 hz hm hs hn hl
  go_enter Try.func66, Try.ntmps66
  go_wp2_with fail
  (with_reducible refine H1.out.mono ?_); rintro e w1 ⟨rfl, hb⟩
  go_wp2_with fail
  (with_reducible refine (H2.out _).mono ?_); rintro e w2 ⟨rfl, rfl⟩
  go_wp2_with fail
  go_ret
  exact ⟨rfl, hb⟩
theorem cMSum0 (w : Int) (W : World) : Calls Try.prog 66 #[.int .i64 w, .slice none 0 0] W fun e W' => e = .returned (.string (msum (wd w) ByteArray.empty)) ∧ Below W.heap.size W W' := by
  have h := cMSum w none 0 0 [] W rfl (Strs.nil _ _) (by rw [joinL_nil]; simp) (by omega)
  rw [joinL_nil] at h
  exact h
theorem str_data (s : ByteArray) : str s.data.toList = s := str_bytes s
theorem cMSum1 (w : Int) (s : ByteArray) (W : World) (h : s.size ≤ 1000000000) : Calls Try.prog 66 #[.int .i64 w, .slice (some ⟨W.heap.size, 0, none⟩) 1 1] (W.alloc (.cells #[.string s] 9)) fun e W' => e = .returned (.string (msum (wd w) s)) ∧ Below W.heap.size W W' := by
  refine (cMSum w (some ⟨W.heap.size, 0, none⟩) 1 1 [s] (W.alloc (.cells #[.string s] 9)) rfl (Strs.one _ _ _) (by rw [joinL_one, data_length]; exact h) (by omega)).mono ?_
  rintro e w' ⟨rfl, hb⟩
  exact ⟨by rw [joinL_one, str_data], ((Below.refl _ _).alloc (Nat.le_refl _) _).trans (hb.mono (by simp))⟩
theorem cMSum2 (w : Int) (s u : ByteArray) (W : World) (h : s.size + u.size ≤ 1000000000) : Calls Try.prog 66 #[.int .i64 w, .slice (some ⟨W.heap.size, 0, none⟩) 2 2] (W.alloc (.cells #[.string s, .string u] 9)) fun e W' => e = .returned (.string (msum (wd w) (s ++ u))) ∧ Below W.heap.size W W' := by
  refine (cMSum w (some ⟨W.heap.size, 0, none⟩) 2 2 [s, u] (W.alloc (.cells #[.string s, .string u] 9)) rfl (Strs.two _ _ _ _) (by rw [joinL_two, data_length, ByteArray.size_append]; exact h) (by omega)).mono ?_
  rintro e w' ⟨rfl, hb⟩
  exact ⟨by rw [joinL_two, str_data], ((Below.refl _ _).alloc (Nat.le_refl _) _).trans (hb.mono (by simp))⟩
theorem cMSum3 (w : Int) (s u v : ByteArray) (W : World) (h : s.size + u.size + v.size ≤ 1000000000) : Calls Try.prog 66 #[.int .i64 w, .slice (some ⟨W.heap.size, 0, none⟩) 3 3] (W.alloc (.cells #[.string s, .string u, .string v] 9)) fun e W' => e = .returned (.string (msum (wd w) (s ++ u ++ v))) ∧ Below W.heap.size W W' := by
  refine (cMSum w (some ⟨W.heap.size, 0, none⟩) 3 3 [s, u, v] (W.alloc (.cells #[.string s, .string u, .string v] 9)) rfl (Strs.three _ _ _ _ _) (by rw [joinL_three, data_length, ByteArray.size_append, ByteArray.size_append]; exact h) (by omega)).mono ?_
  rintro e w' ⟨rfl, hb⟩
  exact ⟨by rw [joinL_three, str_data], ((Below.refl _ _).alloc (Nat.le_refl _) _).trans (hb.mono (by simp))⟩
theorem cNode (w : Int) (a b : ByteArray) (W : World) (ha : a.size ≤ 400000000) (hb : b.size ≤ 400000000) : Calls Try.prog 63 #[.int .i64 w, .string a, .string b] W fun e W' => e = .returned (.string (mnode (wd w) a b)) ∧ Below W.heap.size W W' := by
  have h1 := fun W => cMSum3 w ⟨#[1]⟩ a b W (by have : (⟨#[1]⟩ : ByteArray).size = 1 := rfl; omega)
  have hm : mnode (wd w) a b = msum (wd w) (⟨#[1]⟩ ++ a ++ b) := rfl
  rw [hm]
  obtain ⟨X, HX⟩ : ∃ X, Hid (msum (wd w) (⟨#[1]⟩ ++ a ++ b) = X) := ⟨_, Lib.hid rfl⟩
  simp only [HX.out] at h1
  rw [HX.out]
  have H1 := Lib.hid h1
  clear h1 hm
  go_enter Try.func63, Try.ntmps63
  go_wp2_with fail
  (with_reducible refine (H1.out _).mono ?_); rintro e w1 ⟨rfl, hb⟩
  go_wp2_with fail
  go_ret
  exact ⟨rfl, hb⟩

/-- How many stand on the left. -/
theorem cCut (n : Nat) (W : World) (hn : n ≤ 4611686018427387904) : Calls Try.prog 47 #[.int .i64 n] W fun e W' => e = .returned (.int .i64 (cut n)) ∧ W = W' := by
  go_enter Try.func47, Try.ntmps47
  go_wp2_with fail
  go_loop [3] (fun u => ∃ j : Nat, u = .int .i64 ((2 ^ j : Nat) : Int) ∧ (2 ^ j < n ∨ j = 0)) (fun u => n - (intOf u).toNat)
  case atStart => exact ⟨0, rfl, .inr rfl⟩
  case round =>
    obtain ⟨j, rfl, hj⟩ := hrel
    have hp := Nat.one_le_two_pow (n := j)
    have hs : 2 ^ (j + 1) = 2 ^ j * 2 := Nat.pow_succ 2 j
    have hpc := pow_cut n j
    obtain ⟨q, HQ⟩ : ∃ q, Hid (2 ^ j = q) := ⟨_, Lib.hid rfl⟩
    rw [HQ.out] at hp hs hj hpc
    rw [HQ.out]
    have HS := Lib.hid hs
    have HJ := Lib.hid hj
    have HPC := Lib.hid hpc
    clear hs hj hpc
    by_cases hlt : (q : Int) < (n : Int) - (q : Int)
    · go_wp2_with fail
      go_round
      case rel => exact ⟨j + 1, by rw [HS.out]; go_num, .inl (by rw [HS.out]; omega)⟩
      case measure => simp [intOf]; omega
    · have hqn : q ≤ n + 1 := by have := HJ.out; have e0 := HQ.out; rcases this with h | h; omega; subst h; simp at e0; omega
      have hc := HPC.out HJ.out (by omega)
      have HC := Lib.hid hc
      clear hc
      go_wp2_with fail
      go_ret
      exact ⟨by rw [← HC.out]; rfl, rfl⟩
end Go.Proofs.Ytcnhhlnbmliihaa
