/- The laws KdfExpands, KdfExtracts, KdfBegins, KdfMost, walked. -/
import Derived.Test.YtbofmfocnbennaaKdfRef
import Derived.Test.YtbofmfocnbennaaCut05
namespace Go.Proofs.Ytbofmfocnbennaa
open Go.RowKit
set_option linter.unusedVariables false
set_option linter.unusedSimpArgs false

set_option maxRecDepth 100000 in
theorem cAwake05 (w : World) : Calls Try.prog 19 #[] w fun e w' => e = .returned (.bool true) ∧ Below w.heap.size w w' := by
  have h1 : ∀ W, Calls Try.prog 42 #[.string ⟨#[107]⟩, .string ⟨#[]⟩, .int .i64 0] W fun e w' => e = .returned (.tuple #[.string ⟨#[]⟩, .int .i64 0]) ∧ Below W.heap.size W w' := fun W => by
    refine (cExpand ⟨#[107]⟩ ⟨#[]⟩ 0 W (by decide) (by decide) (by omega)).mono ?_
    rintro e w' ⟨rfl, hb⟩
    exact ⟨by rw [expL_zero]; rfl, hb⟩
  have h2 : ∀ W, Calls Try.prog 42 #[.string ⟨#[107]⟩, .string ⟨#[120]⟩, .int .i64 40] W fun e w' => e = .returned (.tuple #[.string (str (expL [107] [120] 40)), .int .i64 0]) ∧ Below W.heap.size W w' := fun W => cExpand ⟨#[107]⟩ ⟨#[120]⟩ 40 W (by decide) (by decide) (by omega)
  have h3 : ∀ W, Calls Try.prog 42 #[.string ⟨#[107]⟩, .string ⟨#[120]⟩, .int .i64 32] W fun e w' => e = .returned (.tuple #[.string (str (expL [107] [120] 32)), .int .i64 0]) ∧ Below W.heap.size W w' := fun W => cExpand ⟨#[107]⟩ ⟨#[120]⟩ 32 W (by decide) (by decide) (by omega)
  have hx : (str (expL [107] [120] 40)).extract 0 32 = str (expL [107] [120] 32) := by
    apply ba_ext
    rw [← expL_take [107] [120] 32 40 (by omega), bytes_str]
    simp [str]
  have hz : (str (expL [107] [120] 40)).size = 40 := by rw [str_size, expL_length]
  obtain ⟨A, HA⟩ : ∃ X, Hid (str (expL [107] [120] 40) = X) := ⟨_, Lib.hid rfl⟩
  obtain ⟨B, HB⟩ : ∃ X, Hid (str (expL [107] [120] 32) = X) := ⟨_, Lib.hid rfl⟩
  simp only [HA.out, HB.out] at h2 h3 hx hz
  have hz1 : ((A.size : Int) == 40) = true := by simp; omega
  have hz2 : (32 : Int) ≤ (A.size : Int) := by omega
  have H1 := Lib.hid h1
  have H2 := Lib.hid h2
  have H3 := Lib.hid h3
  clear h1 h2 h3 hz
  go_enter Try.func19, Try.ntmps19
  go_wp2_with fail
  (with_reducible refine (H1.out _).mono ?_); rintro e w1 ⟨rfl, hb1⟩
  go_wp2_with fail
  (with_reducible refine (H2.out _).mono ?_); rintro e w2 ⟨rfl, hb2⟩
  go_wp2_with fail
  (with_reducible refine (H3.out _).mono ?_); rintro e w3 ⟨rfl, hb3⟩
  go_wp2_with fail
  go_ret
  have q2 := hb1.trans (hb2.mono hb1.size)
  exact ⟨rfl, q2.trans (hb3.mono q2.size)⟩

theorem b_andP (n : Int) (p : Nat) (hp : p ≤ 62) (q : Int) (hq : q = 2 ^ p - 1) : bits .and .i64 n q = n % 2 ^ p := by
  have hpos : (0 : Int) < 2 ^ p := Int.pow_pos (by decide)
  have hpN : (2 : Nat) ^ p ≤ 2 ^ 62 := Nat.pow_le_pow_right (by decide) hp
  have hcast : ((2 ^ p : Nat) : Int) = 2 ^ p := by push_cast; rfl
  have h1 := Int.emod_nonneg n (show (2 : Int) ^ p ≠ 0 by omega)
  have h2 := Int.emod_lt_of_pos n hpos
  have hNpos : 1 ≤ (2 : Nat) ^ p := Nat.one_le_two_pow
  have e : (BitVec.ofInt 64 n &&& BitVec.ofInt 64 q).toNat = (n % 2 ^ p).toNat := by
    have e2 : (BitVec.ofInt 64 q).toNat = 2 ^ p - 1 := by
      rw [BitVec.toNat_ofInt, hq]
      have e5 : ((2 : Int) ^ p - 1) % ((2 ^ 64 : Nat) : Int) = 2 ^ p - 1 := Int.emod_eq_of_lt (by omega) (by rw [← hcast]; omega)
      rw [e5, ← hcast]; omega
    rw [BitVec.toNat_and, e2, Nat.and_two_pow_sub_one_eq_mod, BitVec.toNat_ofInt]
    have e3 : ((n % ((2 ^ 64 : Nat) : Int)).toNat % 2 ^ p : Nat) = (n % 2 ^ p).toNat := by
      have hd : ((2 : Int) ^ p) ∣ ((2 ^ 64 : Nat) : Int) := by
        rw [← hcast]; exact Int.ofNat_dvd.2 (Nat.pow_dvd_pow 2 (by omega))
      have h5 := Int.emod_nonneg n (show ((2 ^ 64 : Nat) : Int) ≠ 0 by decide)
      have e4 : (((n % ((2 ^ 64 : Nat) : Int)).toNat % 2 ^ p : Nat) : Int) = n % 2 ^ p := by
        rw [Int.natCast_emod, Int.toNat_of_nonneg h5, hcast, Int.emod_emod_of_dvd n hd]
      omega
    exact e3
  rw [bits_and64, e]
  have e3 : (((n % 2 ^ p).toNat : Nat) : Int) = n % 2 ^ p := by omega
  rw [e3]
  have h62 : (2 : Int) ^ p ≤ 4611686018427387904 := by rw [← hcast]; omega
  generalize n % 2 ^ p = m at *
  unfold wrap64
  omega

/-- Expand of both, for what a law asks. -/
theorem kdf_both (k i : ByteArray) (hk : k.size ≤ 1000) (hi : i.size ≤ 1000) (n : Int) : ∃ (X : ByteArray) (e : Int), (∀ W, Calls Try.prog 42 #[.string k, .string i, .int .i64 n] W fun e' w' => e' = .returned (.tuple #[.string X, .int .i64 e]) ∧ Below W.heap.size W w') ∧
    (∀ W, Calls Try.prog 41 #[.string k, .string i, .int .i64 n] W fun e' w' => e' = .returned (.tuple #[.string X, .int .i64 e]) ∧ Below W.heap.size W w') := by
  by_cases h : n < 0 ∨ 8160 < n
  · exact ⟨_, _, fun W => cExpand_no k i n W h, fun W => crExpand_no k i n W h⟩
  · obtain ⟨m, rfl⟩ : ∃ m : Nat, n = m := ⟨n.toNat, by omega⟩
    exact ⟨_, _, fun W => cExpand k i m W (by omega) (by omega) (by omega), fun W => crExpand k i m W (by omega) (by omega) (by omega)⟩
end Go.Proofs.Ytbofmfocnbennaa
