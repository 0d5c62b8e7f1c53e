/- The law's cut. -/
import Derived.Test.YtbofmfocnbennaaMacOne
namespace Go.Proofs.Ytbofmfocnbennaa
open Go.RowKit
set_option linter.unusedVariables false
set_option linter.unusedSimpArgs false
theorem ccut05 (s : ByteArray) (m : Nat) (M : Int) (hM : (m : Int) = M) (w : World) (hs : s.size ≤ 140737488355328) (hm : m ≤ 1000000) : Calls Try.prog 16 #[.string s, .int .i64 M] w fun e w' => e = .returned (.string (cutB s m)) ∧ w = w' := by
  subst hM
  by_cases h : s.size ≤ m
  · have e := cutB_yes s m h
    have hI : (s.size : Int) ≤ (m : Int) := by omega
    have hg : decide (m < s.size) = false := decide_eq_false (by omega)
    have H := Lib.hid e
    clear e h
    go_enter Try.func16, Try.ntmps16
    go_wp2_with fail
    go_ret
    exact ⟨by rw [H.out]; rfl, rfl⟩
  · have e := cutB_no s m h
    have hI : (m : Int) < (s.size : Int) := by omega
    have hg : decide (m < s.size) = true := decide_eq_true (by omega)
    have H := Lib.hid e
    clear e h
    go_enter Try.func16, Try.ntmps16
    go_wp2_with fail
    go_ret
    exact ⟨by rw [H.out]; rfl, rfl⟩
end Go.Proofs.Ytbofmfocnbennaa
