/- The reference's Proof, Long, up, Up. -/
import Derived.Test.YtcnhhlnbmliihaaMerkUp
import Derived.Test.YtcnhhlnbmliihaaRefWay
namespace Go.Proofs.Ytcnhhlnbmliihaa
open Go.RowKit
set_option linter.unusedVariables false
set_option linter.unusedSimpArgs false

theorem crLong : ∀ (n i : Nat) (W : World), n ≤ 2305843009213693952 → i < n →
    Calls Try.prog 19 #[.int .i64 i, .int .i64 n] W fun e W' => e = .returned (.int .i64 ((way i n).length : Nat)) ∧ W = W' := by
  intro n
  induction n using Nat.strongRecOn with
  | _ n ih =>
    intro i W hn hi
    rcases Nat.lt_or_ge n 2 with h2 | h2
    · rw [way_one i n h2]
      go_enter Try.func19, Try.ntmps19
      go_wp2_with fail
      go_ret
      exact ⟨rfl, rfl⟩
    · have hcl := cut_lt n h2
      have hcp := cut_pos n
      have h3 := fun W => crCut n W (by omega)
      have hwl := fun h => congrArg List.length (way_left i n h2 h)
      have hwr := fun h => congrArg List.length (way_right i n h2 h)
      simp only [List.length_append, List.length_singleton] at hwl hwr
      have i1 := fun W h => ih (cut n) hcl i W (by omega) h
      have i2 := fun W h => ih (n - cut n) (by omega) (i - cut n) W (by omega) h
      have l1 := way_bits 61 i (cut n) (by omega)
      have l2 := way_bits 61 (i - cut n) (n - cut n) (by omega)
      obtain ⟨k, HK⟩ : ∃ k, Hid (cut n = k) := ⟨_, Lib.hid rfl⟩
      simp only [HK.out] at h3 i1 i2 l1 l2 hwl hwr hcl hcp
      have H3 := Lib.hid h3
      have hnI : (n : Int) ≤ 2305843009213693952 := by omega
      have h2I : ¬ (n : Int) < 2 := by omega
      have hiI : (i : Int) < (n : Int) := by omega
      have hkI : (k : Int) < (n : Int) := by omega
      by_cases hik : i < k
      · have hd := hwl hik
        have i1 := fun W => i1 W hik
        obtain ⟨q, HQ⟩ : ∃ q, Hid ((way i k).length = q) := ⟨_, Lib.hid rfl⟩
        simp only [HQ.out] at i1 hd l1
        have I1 := Lib.hid i1
        have HD := Lib.hid hd
        have hikJ : (i : Int) < (k : Int) := by omega
        clear hd i1 i2 hwl hwr ih h3 l2
        go_enter Try.func19, Try.ntmps19
        go_wp2_with fail
        (with_reducible refine (H3.out _).mono ?_); rintro e w1 ⟨rfl, rfl⟩
        go_wp2_with fail
        (with_reducible refine (I1.out _).mono ?_); rintro e w1 ⟨rfl, rfl⟩
        go_wp2_with fail
        go_ret
        exact ⟨by rw [HD.out]; go_num, rfl⟩
      · have hd := hwr (by omega)
        have i2 := fun W => i2 W (by omega)
        obtain ⟨q, HQ⟩ : ∃ q, Hid ((way (i - k) (n - k)).length = q) := ⟨_, Lib.hid rfl⟩
        simp only [HQ.out] at i2 hd l2
        have e1 : ((i - k : Nat) : Int) = (i : Int) - (k : Int) := by omega
        have e2 : ((n - k : Nat) : Int) = (n : Int) - (k : Int) := by omega
        simp only [e1, e2] at i2
        have I2 := Lib.hid i2
        have HD := Lib.hid hd
        have hikJ : ¬ (i : Int) < (k : Int) := by omega
        clear hd i1 i2 hwl hwr ih h3 l1 e1 e2
        go_enter Try.func19, Try.ntmps19
        go_wp2_with fail
        (with_reducible refine (H3.out _).mono ?_); rintro e w1 ⟨rfl, rfl⟩
        go_wp2_with fail
        (with_reducible refine (I2.out _).mono ?_); rintro e w1 ⟨rfl, rfl⟩
        go_wp2_with fail
        go_ret
        exact ⟨by rw [HD.out]; go_num, rfl⟩

theorem take_all_but {p : List ByteArray} {z : Nat} (h : p.length = z + 1) : p = p.take z ++ [p.getD z ByteArray.empty] := by
  have := List.take_succ_eq_append_getElem (l := p) (i := z) (by omega)
  rw [List.take_of_length_le (by omega)] at this
  rw [List.getD_eq_getElem?_getD, List.getElem?_eq_getElem (by omega)]
  exact this

end Go.Proofs.Ytcnhhlnbmliihaa
