/- The reference's one, bytes, Fixed. -/
import Derived.Test.YtbofmfocnbennaaFixed
namespace Go.Proofs.Ytbofmfocnbennaa
open Go.RowKit
set_option maxRecDepth 100000
set_option linter.unusedVariables false
set_option linter.unusedSimpArgs false

theorem b_and255 (n : Int) : bits .and .i64 n 255 = n % 256 := by
  have h1 := Int.emod_nonneg n (show (256 : Int) ≠ 0 by decide)
  have h2 := Int.emod_lt_of_pos n (show (0 : Int) < 256 by decide)
  have e : (BitVec.ofInt 64 n &&& BitVec.ofInt 64 255).toNat = (n % 256).toNat := by
    rw [BitVec.toNat_and, BitVec.toNat_ofInt]
    have e2 : (BitVec.ofInt 64 255).toNat = 2 ^ 8 - 1 := rfl
    rw [e2, Nat.and_two_pow_sub_one_eq_mod]
    omega
  rw [bits_and64, e]
  have e3 : (((n % 256).toNat : Nat) : Int) = n % 256 := by omega
  rw [e3]
  generalize n % 256 = m at *
  unfold wrap64
  omega

theorem lit_byte (w : World) (t : TypeId) (b : UInt8) {src dst el : TypeId} {P : Program} (hs : P.underlying src = some (.slice el)) (he : P.underlying el = some (.int .u8)) (hd : P.underlying dst = some .string) :
    (convert src dst (.slice (some ⟨w.heap.size, 0, none⟩) 1 1)).run P (w.alloc (.cells #[.int .u8 ((b.toNat : Nat) : Int)] t)) = .ok (.string (str [b])) (w.alloc (.cells #[.int .u8 ((b.toNat : Nat) : Int)] t)) := by
  refine conv_bytes (P := P) hs he hd _ ⟨w.heap.size, 0, none⟩ 1 1 [b] rfl (fun j hj => ?_)
  have e : j = 0 := by omega
  subst e
  rw [add0]
  exact (Blk.new w t _).cell 0

theorem crone (n : Int) (w : World) : Calls Try.prog 72 #[.int .i64 n] w fun e w' => e = .returned (.string (str [nb n 0])) ∧ Below w.heap.size w w' := by
  have hb : n % 256 = (((nb n 0).toNat : Nat) : Int) := by rw [nb_val]; simp
  have hcv := lit_byte w 5 (nb n 0) (P := Try.prog) Try.underlying43 Try.underlying5 Try.underlying9
  rw [← hb] at hcv
  clear hb
  go_enter Try.func72, Try.ntmps72
  go_wp2
  go_ret
  exact ⟨rfl, (Below.refl _ _).alloc (Nat.le_refl _) _⟩

theorem str_append (a b : List UInt8) : str a ++ str b = str (a ++ b) := by
  apply ByteArray.ext; simp [str]

theorem nb_and (n : Int) (i : Nat) : nb (n / 256 ^ i % 256) 0 = nb n i := by
  apply UInt8.toNat_inj.1
  have h1 := nb_val (n / 256 ^ i % 256) 0
  have h2 := nb_val n i
  have h3 : n / 256 ^ i % 256 / 256 ^ 0 % 256 = n / 256 ^ i % 256 := by simp
  omega

theorem crbytes (n : Int) (k : Nat) (w : World) (hk : k ≤ 8) :
    Calls Try.prog 65 #[.int .i64 n, .int .i64 k] w fun e w' => e = .returned (.string (str (be n k))) ∧ Below w.heap.size w w' := by
  have hand := b_and255
  go_enter Try.func65, Try.ntmps65
  go_wp2_with fail
  go_loopw [0, 5, 6] (fun m s i wr => ∃ j : Nat, j ≤ k ∧ i = .int .i64 j ∧ m = .int .i64 (n / 256 ^ j) ∧ s = .string (str (be n j)) ∧ Below w.heap.size w wr)
    (fun _ _ i _ => k - (intOf i).toNat)
  case atStart => exact ⟨0, by omega, rfl, by simp, by rw [be_zero]; rfl, Below.refl _ _⟩
  case round =>
    obtain ⟨j, hj, rfl, rfl, rfl, hB⟩ := hrel
    by_cases hlj : j < k
    · have hdj : decide ((j : Int) < (k : Int)) = true := by simp; omega
      go_wp2_with fail
      (with_reducible refine (crone _ _).mono ?_); rw [nb_and]; rintro e w1 ⟨rfl, hb⟩
      have happ : str [nb n j] ++ str (be n j) = str (be n (j + 1)) := by rw [str_append, be_succ]; rfl
      have HAP := Lib.hid happ
      clear happ
      have z1 : (str (be n j)).size = j := by rw [str_size, be_length]
      have z2 : (str [nb n j]).size = 1 := str_size _
      go_wp2_with fail
      go_roundw
      case rel => exact ⟨j + 1, by omega, by go_num, by rw [← nb_next], by rw [← HAP.out], hB.trans (hb.mono hB.size)⟩
      case measure => simp [intOf]; omega
    · have e : j = k := by omega
      subst e
      go_wp2_with fail
      go_ret
      exact ⟨rfl, hB⟩

theorem crFixed (n : Int) (k : Nat) (w : World) (hk : k ≤ 8) :
    Calls Try.prog 46 #[.int .i64 n, .int .i64 k] w fun e w' => e = .returned (.string (str (be n k))) ∧ Below w.heap.size w w' := by
  go_enter Try.func46, Try.ntmps46
  go_wp2_with (go_at_call 65; ((with_reducible refine (crbytes _ _ _ hk).mono ?_); rintro e w' ⟨rfl, hb⟩))
  go_ret
  exact ⟨rfl, hb⟩
theorem cFixed4 (n : Int) (w : World) : Calls Try.prog 54 #[.int .i64 n, .int .i64 4] w fun e w' => e = .returned (.string (str (be n 4))) ∧ Below w.heap.size w w' := cFixed n 4 w (by omega) (by omega)
theorem cFixed2 (n : Int) (w : World) : Calls Try.prog 54 #[.int .i64 n, .int .i64 2] w fun e w' => e = .returned (.string (str (be n 2))) ∧ Below w.heap.size w w' := cFixed n 2 w (by omega) (by omega)
theorem crFixed4 (n : Int) (w : World) : Calls Try.prog 46 #[.int .i64 n, .int .i64 4] w fun e w' => e = .returned (.string (str (be n 4))) ∧ Below w.heap.size w w' := crFixed n 4 w (by omega)
theorem crFixed2 (n : Int) (w : World) : Calls Try.prog 46 #[.int .i64 n, .int .i64 2] w fun e w' => e = .returned (.string (str (be n 2))) ∧ Below w.heap.size w w' := crFixed n 2 w (by omega)
end Go.Proofs.Ytbofmfocnbennaa
