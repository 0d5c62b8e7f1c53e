/- Growing trees: From; how many bits are 1, as the library and the reference count. -/
import Derived.Test.YtgkjpemgfbkejaaGrow3
import Derived.Test.YtgkjpemgfbkejaaOnes
import Derived.Laws.Bits64b
namespace Go.Proofs.Ytgkjpemgfbkejaa
open Go.RowKit
set_option linter.unusedVariables false
set_option linter.unusedSimpArgs false

set_option maxRecDepth 100000 in
theorem cOnes64 (n : Nat) (W : World) (hn : n < 18446744073709551616) : Calls Try.prog 59 #[.int .u64 (n : Int)] W fun e W' => e = .returned (.int .i64 (ones n : Int)) ∧ W = W' := by
  have hle := c3_le n hn
  have hsum := c3_sum n hn
  have e1 : c1 n = (n / 2 &&& m85) + (n &&& m85) := by unfold c1; rfl
  have e2 : c2 (c1 n) = (c1 n / 4 &&& m51) + (c1 n &&& m51) := by unfold c2; rfl
  have e3 : c3 (c2 (c1 n)) = (c2 (c1 n) / 16 + c2 (c1 n)) &&& m15 := by unfold c3; rfl
  obtain ⟨t0, t1, t2, h1, h2, h3, h4, h5, h6, h7⟩ := hsum
  rw [h1] at e3
  obtain ⟨s2, hs2⟩ : ∃ s, c2 (c1 n) = s := ⟨_, rfl⟩
  rw [hs2] at hle e2 e3
  obtain ⟨s1, hs1⟩ : ∃ s, c1 n = s := ⟨_, rfl⟩
  rw [hs1] at hle e1 e2
  obtain ⟨g1, g2, g3⟩ := hle
  have f1 : IntKind.u64.wrap (bits .and .u64 ((n : Int) / 2) 6148914691236517205 + bits .and .u64 (n : Int) 6148914691236517205) = (s1 : Int) := by
    have q : ((n : Int) / 2) = ((n / 2 : Nat) : Int) := by omega
    have a1 := bits_and_u64_nat (n / 2) m85 (by omega) (by decide)
    have a2 := bits_and_u64_nat n m85 (by omega) (by decide)
    have m : ((m85 : Nat) : Int) = 6148914691236517205 := by decide
    rw [m] at a1 a2
    rw [q, a1, a2, IntKind.wrap_u64]; omega
  have f2 : IntKind.u64.wrap (bits .and .u64 ((s1 : Int) / 4) 3689348814741910323 + bits .and .u64 (s1 : Int) 3689348814741910323) = (s2 : Int) := by
    have q : ((s1 : Int) / 4) = ((s1 / 4 : Nat) : Int) := by omega
    have a1 := bits_and_u64_nat (s1 / 4) m51 (by omega) (by decide)
    have a2 := bits_and_u64_nat s1 m51 (by omega) (by decide)
    have m : ((m51 : Nat) : Int) = 3689348814741910323 := by decide
    rw [m] at a1 a2
    rw [q, a1, a2, IntKind.wrap_u64]; omega
  have f3 : bits .and .u64 (IntKind.u64.wrap ((s2 : Int) / 16 + (s2 : Int))) 1085102592571150095 = (t0 : Int) := by
    have q : IntKind.u64.wrap ((s2 : Int) / 16 + (s2 : Int)) = ((s2 / 16 + s2 : Nat) : Int) := by rw [IntKind.wrap_u64]; omega
    have a1 := bits_and_u64_nat (s2 / 16 + s2) m15 (by omega) (by decide)
    have m : ((m15 : Nat) : Int) = 1085102592571150095 := by decide
    rw [m] at a1
    rw [q, a1, ← e3]
  obtain ⟨x1, hx1⟩ : ∃ x, t0 + t1 = x := ⟨_, rfl⟩
  obtain ⟨x2, hx2⟩ : ∃ x, x1 + t2 = x := ⟨_, rfl⟩
  obtain ⟨x3, hx3⟩ : ∃ x, x2 + x2 / 4294967296 = x := ⟨_, rfl⟩
  rw [hx1] at h3 h7
  rw [hx2, hx3] at h7
  have f4 : IntKind.u64.wrap ((t0 : Int) + (t0 : Int) / 256) = (x1 : Int) := by rw [IntKind.wrap_u64]; omega
  have f5 : IntKind.u64.wrap ((x1 : Int) + (x1 : Int) / 65536) = (x2 : Int) := by rw [IntKind.wrap_u64]; omega
  have f6 : IntKind.u64.wrap ((x2 : Int) + (x2 : Int) / 4294967296) = (x3 : Int) := by rw [IntKind.wrap_u64]; omega
  have f7 : bits .and .i64 (x3 : Int) 127 = (ones n : Int) := by
    rw [bits_and_mask 7 (by decide) (x3 : Int) 127 (by decide)]
    omega
  have hx3I : (x3 : Int) ≤ 9223372036854775807 := by omega
  obtain ⟨r, HR⟩ : ∃ x, Hid (ones n = x) := ⟨_, Lib.hid rfl⟩
  rw [HR.out] at f7
  rw [HR.out]
  clear e1 e2 e3 h1 h2 h3 h4 h5 h6 h7 hs1 hs2 hx1 hx2 hx3 g1 g2 g3
  go_enter Try.func59, Try.ntmps59
  go_wp2_with fail
  go_ret
  exact ⟨rfl, rfl⟩
theorem cOnes (n : Nat) (W : World) (hn : n < 18446744073709551616) : Calls Try.prog 53 #[.int .u64 (n : Int)] W fun e W' => e = .returned (.int .i64 (ones n : Int)) ∧ W = W' := by
  have h := cOnes64 n W hn
  obtain ⟨r, HR⟩ : ∃ x, Hid (ones n = x) := ⟨_, Lib.hid rfl⟩
  rw [HR.out] at h
  rw [HR.out]
  have H := Lib.hid h
  clear h
  go_enter Try.func53, Try.ntmps53
  go_wp2_with fail
  (with_reducible refine H.out.mono ?_); rintro e w1 ⟨rfl, rfl⟩
  go_wp2_with fail
  go_ret
  exact ⟨rfl, rfl⟩
theorem crOnes (n : Nat) (W : World) (hn : n < 9223372036854775808) : Calls Try.prog 36 #[.int .i64 (n : Int)] W fun e W' => e = .returned (.int .i64 (ones n : Int)) ∧ W = W' := by
  have hle := ones_le 63 n (by omega)
  obtain ⟨r, HR⟩ : ∃ x, Hid (ones n = x) := ⟨_, Lib.hid rfl⟩
  rw [HR.out]
  rw [HR.out] at hle
  go_enter Try.func36, Try.ntmps36
  go_wp2_with fail
  go_loop [0, 3] (fun u v => ∃ (q k : Nat), u = .int .i64 q ∧ v = .int .i64 k ∧ k + ones q = r ∧ q ≤ n) (fun u _ => (intOf u).toNat)
  case atStart => exact ⟨n, 0, rfl, rfl, by rw [HR.out]; omega, Nat.le_refl _⟩
  case round =>
    obtain ⟨q, k, rfl, rfl, hk, hqn⟩ := hrel
    have hk63 : k ≤ 63 := by omega
    have HK := Lib.hid hk
    clear hk
    by_cases h0 : 0 < q
    · have hqI : (0 : Int) < (q : Int) := by omega
      have ha : bits .and .i64 (q : Int) 1 = ((q % 2 : Nat) : Int) := by rw [and_1]; omega
      have ht : ((q : Int)).tdiv 2 = ((q / 2 : Nat) : Int) := by rw [Int.tdiv_eq_ediv_of_nonneg (by omega)]; omega
      have hlt : q % 2 < 2 := Nat.mod_lt _ (by decide)
      have hst := ones_step q
      obtain ⟨z, HZ⟩ : ∃ x, Hid (q % 2 = x) := ⟨_, Lib.hid rfl⟩
      rw [HZ.out] at ha hlt hst
      have HST := Lib.hid hst
      clear hst
      go_wp2_with fail
      go_round
      case rel => exact ⟨q / 2, k + z, by go_num, by go_num, by have := HK.out; have := HST.out; omega, by omega⟩
      case measure => simp [intOf]; omega
    · have e : q = 0 := by omega
      subst e
      have hk2 := HK.out
      rw [ones_zero] at hk2
      have e : k = r := by omega
      subst e
      go_wp2_with fail
      go_ret
      exact ⟨rfl, rfl⟩
end Go.Proofs.Ytgkjpemgfbkejaa
