/- enc.Fixed and the reference's Fixed: the lowest bytes of a number, the highest first. -/
import Derived.Test.YtbofmfocnbennaaRows
import Derived.Test.YtbofmfocnbennaaText
import Derived.Test.YtbofmfocnbennaaBe
namespace Go.Proofs.Ytbofmfocnbennaa
open Go.RowKit
set_option maxRecDepth 100000
set_option linter.unusedVariables false
set_option linter.unusedSimpArgs false

def fx (n : Int) (i : Nat) : List UInt8 := List.replicate (8 - i) 0 ++ be n i
theorem fx_zero (n : Int) : fx n 0 = List.replicate 8 0 := by unfold fx; rw [be_zero]; simp
theorem fx_succ (n : Int) (i : Nat) (h : i < 8) : (fx n i).set (7 - i) (nb n i) = fx n (i + 1) := by
  unfold fx
  have e : 8 - i = (7 - i) + 1 := by omega
  have e2 : 8 - (i + 1) = 7 - i := by omega
  rw [e, e2, List.replicate_succ', List.append_assoc, List.set_append_right _ _ (by simp)]
  simp [be_succ]
theorem fx_length (n : Int) (i : Nat) (h : i ≤ 8) : (fx n i).length = 8 := by
  unfold fx; rw [List.length_append, List.length_replicate, be_length]; omega
theorem fx_eight (n : Int) : fx n 8 = be n 8 := by unfold fx; simp
attribute [irreducible] fx

theorem cFixed (n : Int) (k : Nat) (w : World) (hk : k ≤ 8) (hk0 : 0 < k) :
    Calls Try.prog 54 #[.int .i64 n, .int .i64 k] w fun e w' => e = .returned (.string (str (be n k))) ∧ Below w.heap.size w w' := by
  go_enter Try.func54, Try.ntmps54
  go_wp2_with fail
  go_loopw [7] (fun i wr => ∃ j : Nat, j ≤ 8 ∧ i = .int .i64 j ∧ Blk wr w.heap.size 87 (bcells (fx n j)) ∧ Below w.heap.size w wr)
    (fun i _ => 8 - (intOf i).toNat)
  case atStart => exact ⟨0, by omega, rfl, by rw [fx_zero]; exact Blk.new _ _ _, (Below.refl _ _).alloc (Nat.le_refl _) _⟩
  case round =>
    obtain ⟨j, hj, rfl, h1, h2⟩ := hrel
    by_cases hlj : j < 8
    · have c1 := (h1.cell (7 - j)).trans (bcells_get _ _ (by rw [fx_length _ _ hj]; omega))
      have f1 := h1.frozen (7 - j)
      go_wp2_with fail
      go_roundw
      case rel =>
        refine ⟨j + 1, by omega, by go_num, ?_, h2.setCell (p := ⟨w.heap.size, 7 - j, none⟩) (Nat.le_refl _) _⟩
        have h := h1.set_ (7 - j) (.int .u8 (((nb n j).toNat : Nat) : Int))
        rw [bcells_set, fx_succ n j hlj] at h
        rw [nb_shr]
        exact h
      case measure => simp [intOf]; omega
    · have e : j = 8 := by omega
      rw [e, fx_eight] at h1
      clear e
      have hd := be_drop n k hk
      have hcv := conv_bytes (P := Try.prog) Try.underlying43 Try.underlying5 Try.underlying9 wr ⟨w.heap.size, 8 - k, none⟩ k k (be n k) (be_length n k) (fun i hi => by
        rw [addo, h1.cell, bcells_get _ _ (by rw [be_length]; omega), ← hd]
        simp)
      clear hd
      have hal : Try.prog.arrayLen 87 = 8 := by kernel_rfl
      have hel : Try.prog.elem 87 = 5 := by kernel_rfl
      have hsz : (Try.prog.info? 5).map (·.size) = some 1 := by kernel_rfl
      have hsl : (Instr.sliceAt 87 (.pointer (some ⟨w.heap.size, 0, none⟩)) (some (.int .i64 (8 - (k : Int)))) none none).run Try.prog wr = .ok (.slice (some ⟨w.heap.size, 8 - k, none⟩) k k) wr := by
        rw [run_sliceAt_array_l wr 87 ⟨w.heap.size, 0, none⟩ (by kernel_rfl) .i64 (8 - (k : Int)) (by omega) (by rw [hal]; omega), hal, hel]
        obtain ⟨inf, h3, h4⟩ : ∃ inf, Try.prog.info? 5 = some inf ∧ inf.size = 1 := by
          cases h : Try.prog.info? 5 with
          | none => rw [h] at hsz; cases hsz
          | some inf => rw [h] at hsz; exact ⟨inf, rfl, by simpa using hsz⟩
        have e1 : (8 - (k : Int)).toNat = 8 - k := by omega
        have e2 : 8 - (8 - k) = k := by omega
        have e3 : ¬ 8 = 8 - k := by omega
        simp [sizeOf, typeInfo, h3, h4, slicedAt, e1, e2, e3, addo]
      clear hal hel hsz
      go_wp2_with fail
      go_ret
      exact ⟨rfl, h2⟩
end Go.Proofs.Ytbofmfocnbennaa
