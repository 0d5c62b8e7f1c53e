/- enc.Take and the reference's Take: a number out of its bytes. -/
import Derived.Test.YtbofmfocnbennaaRefFixed
namespace Go.Proofs.Ytbofmfocnbennaa
open Go.RowKit
set_option maxRecDepth 100000
set_option linter.unusedVariables false
set_option linter.unusedSimpArgs false

/-- The number of so many bytes. -/
def num (s : ByteArray) : Nat → Nat
  | 0 => 0
  | k + 1 => num s k * 256 + (byteAt s k).toNat
theorem num_zero (s : ByteArray) : num s 0 = 0 := rfl
theorem num_succ (s : ByteArray) (k : Nat) : num s (k + 1) = num s k * 256 + (byteAt s k).toNat := rfl
theorem num_int (s : ByteArray) (k : Nat) : ((num s (k + 1) : Nat) : Int) = (num s k : Int) * 256 + ((byteAt s k).toNat : Int) := by
  rw [num_succ, Int.natCast_add, Int.natCast_mul]; rfl
theorem num_lt (s : ByteArray) (k : Nat) : num s k < 256 ^ k := by
  induction k with
  | zero => simp [num]
  | succ k ih =>
    have := (byteAt s k).toNat_lt
    rw [num_succ, Nat.pow_succ]
    omega
theorem num_lt4 (s : ByteArray) (k : Nat) (h : k ≤ 4) : num s k < 4294967296 := by
  have h1 := num_lt s k
  have h2 : 256 ^ k ≤ 256 ^ 4 := Nat.pow_le_pow_right (by decide) h
  omega
attribute [irreducible] num
theorem or_byte (m : Nat) (b : UInt8) (h : m < 4294967296) : bits .or .i64 ((m : Int) * 256) ((b.toNat : Nat) : Int) = (m : Int) * 256 + b.toNat := by
  have hb := b.toNat_lt
  have e : (BitVec.ofInt 64 ((m : Int) * 256) ||| BitVec.ofInt 64 ((b.toNat : Nat) : Int)).toNat = m * 256 + b.toNat := by
    rw [BitVec.toNat_or, BitVec.toNat_ofInt, BitVec.toNat_ofInt]
    have e1 : (((m : Int) * 256) % ((2 ^ 64 : Nat) : Int)).toNat = m * 256 := by omega
    have e2 : (((b.toNat : Nat) : Int) % ((2 ^ 64 : Nat) : Int)).toNat = b.toNat := by omega
    rw [e1, e2]
    have := Nat.shiftLeft_add_eq_or_of_lt (show b.toNat < 2 ^ 8 by omega) m
    rw [Nat.shiftLeft_eq] at this
    exact this.symm
  rw [bits_or64, e]
  unfold wrap64
  omega
theorem extract_byte (s : ByteArray) (k i : Nat) (hk : k ≤ s.size) (hi : i < k) : byteAt (s.extract 0 k) i = byteAt s i := by
  have hsz : s.data.size = s.size := rfl
  unfold byteAt
  rw [ByteArray.data_extract, List.getD_eq_getElem?_getD, List.getD_eq_getElem?_getD]
  have hm : min k s.data.size = k := by omega
  simp [Array.getElem?_extract, hm, hi]
theorem num_extract (s : ByteArray) (k : Nat) (hk : k ≤ s.size) : ∀ j, j ≤ k → num (s.extract 0 k) j = num s j
  | 0, _ => by rw [num_zero, num_zero]
  | j + 1, h => by rw [num_succ, num_succ, num_extract s k hk j (by omega), extract_byte s k j hk (by omega)]

theorem cTake (s : ByteArray) (k : Nat) (w : World) (hk0 : 1 ≤ k) (hk : k ≤ 4) (hs : k ≤ s.size) (hs2 : s.size ≤ 1000) :
    Calls Try.prog 37 #[.string s, .int .i64 k] w fun e w' => e = .returned (.tuple #[.int .i64 (num s k : Int), .string (s.extract k s.size), .int .i64 0]) ∧ Below w.heap.size w w' := by
  have hu : (s.extract 0 k).size = k := by simp; omega
  have hby : ∀ j, j < k → byteAt (s.extract 0 k) j = byteAt s j := fun j hj => extract_byte s k j hs hj
  have hcv := run_bytes_of_string (P := Try.prog) w 9 43 5 (s.extract 0 k) Try.underlying9 Try.underlying43 Try.underlying5
  have hge := grownCap_ge w (s.extract 0 k).size 0 5
  obtain ⟨cap, HP⟩ : ∃ n, Hid (grownCap w (s.extract 0 k).size 0 5 = n) := ⟨_, Lib.hid rfl⟩
  rw [HP.out] at hcv hge
  have hT := Tx.new w.drew 5 (s.extract 0 k) cap _ (Nat.le_refl _)
  have hB : Below w.heap.size w (w.drew.alloc (.cells (bytesRow (s.extract 0 k) cap) 5 ((bytesRow (s.extract 0 k) cap).size, (bytesRow (s.extract 0 k) cap).size + 1))) := (below_drewN (Below.refl _ _) 1).alloc (by simp) _
  obtain ⟨w1, HW⟩ : ∃ w1, Hid ((w.drew.alloc (.cells (bytesRow (s.extract 0 k) cap) 5 ((bytesRow (s.extract 0 k) cap).size, (bytesRow (s.extract 0 k) cap).size + 1))) = w1) := ⟨_, Lib.hid rfl⟩
  rw [HW.out] at hcv hT hB
  rw [hu] at hcv hge
  obtain ⟨l, HL⟩ : ∃ l, Hid ((s.extract 0 k).data.toList = l) := ⟨_, Lib.hid rfl⟩
  have hll : l.length = k := by rw [← HL.out, data_length, hu]
  have hlb : ∀ j, j < k → l.getD j 0 = byteAt s j := fun j hj => by rw [← hby j hj, ← HL.out]; rfl
  rw [HL.out] at hT
  have HLL := Lib.hid hll
  have HLB := Lib.hid hlb
  clear HW hby hll hlb hu
  go_enter Try.func37, Try.ntmps37
  go_wp2
  go_loopw [7, 27] (fun m i wr => ∃ j : Nat, j ≤ k ∧ i = .int .i64 j ∧ m = .int .i64 (num s j : Int) ∧ Tx wr w.heap.size 5 l ∧ Below w.heap.size w wr)
    (fun _ i _ => k - (intOf i).toNat)
  case atStart => exact ⟨0, by omega, rfl, by rw [num_zero]; rfl, hT, hB⟩
  case round =>
    clear hT hB hcv
    obtain ⟨j, hj, rfl, rfl, h1, hB⟩ := hrel
    have hn := num_lt4 s j (by omega)
    by_cases hlj : j < k
    · have hdj : decide ((j : Int) < (k : Int)) = true := decide_eq_true (by omega)
      have hb : ((byteAt s j).toNat : Int) < 256 := by have := (byteAt s j).toNat_lt; omega
      have c1 := h1.cell j (by rw [HLL.out]; exact hlj)
      rw [HLB.out j hlj] at c1
      have hor := or_byte (num s j) (byteAt s j) hn
      have HN := Lib.hid (num_int s j)
      go_wp2_with fail
      go_roundw
      case rel => exact ⟨j + 1, by omega, by go_num, by rw [HN.out], h1, hB⟩
      case measure => show _ < _; simp only [intOf]; omega
    · have e : j = k := by omega
      subst e
      have hsI : (j : Int) ≤ (s.size : Int) := by omega
      go_wp2_with fail
      refine wp_region_lexX [] (by kernel_rfl) (by kernel_rfl) ?_
      repeat (refine wpX_pure rfl rfl rfl ?_; intro K hK; go_big_quiet_op; refine hK _ ?_; clear hK K)
      refine wpX_nil ?_
      go_wp2
      refine bodyPost_ret (results_tmp3 rfl _ _ _) rfl ⟨rfl, below_drewN hB 1⟩

end Go.Proofs.Ytbofmfocnbennaa
