/- header.Take's two closures (not yet built). -/
import Derived.Test.YtbofmfocnbennaaTake
import Derived.Test.YtbofmfocnbennaaHeaderLaw
namespace Go.Proofs.Ytbofmfocnbennaa
open Go.RowKit
set_option linter.unusedVariables false
set_option linter.unusedSimpArgs false

theorem cTake4 (s : ByteArray) (w : World) (hs : 4 ≤ s.size) (hs2 : s.size ≤ 1000) :
    Calls Try.prog 37 #[.string s, .int .i64 4] w fun e w' => e = .returned (.tuple #[.int .i64 (num s 4 : Int), .string (s.extract 4 s.size), .int .i64 0]) ∧ Below w.heap.size w w' := cTake s 4 w (by omega) (by omega) hs hs2
theorem cTake2 (s : ByteArray) (w : World) (hs : 2 ≤ s.size) (hs2 : s.size ≤ 1000) :
    Calls Try.prog 37 #[.string s, .int .i64 2] w fun e w' => e = .returned (.tuple #[.int .i64 (num s 2 : Int), .string (s.extract 2 s.size), .int .i64 0]) ∧ Below w.heap.size w w' := cTake s 2 w (by omega) (by omega) hs hs2

/-- The closure 'number': a number is taken from the boxed text. -/
theorem cnum (g : Nat) (s : ByteArray) (k : Nat) (w : World) (hk0 : 1 ≤ k) (hk : k ≤ 4) (hs : k ≤ s.size) (hs2 : s.size ≤ 1000) (hg : Blk w g 9 #[.string s]) :
    Calls Try.prog 36 #[.int .i64 k, .pointer (some ⟨g, 0, none⟩)] w fun e w' => e = .returned (.int .i64 (num s k : Int)) ∧ ∃ w0, Below w.heap.size w w0 ∧ w' = w0.setCell ⟨g, 0, none⟩ (.string (s.extract k s.size)) := by
  have c0 : w.cell? ⟨g, 0, none⟩ = some (.string s) := (hg.cell 0).trans rfl
  go_enter Try.func36, Try.ntmps36
  go_wp2_with fail
  (with_reducible refine (cTake _ _ _ hk0 hk hs hs2).mono ?_); rintro e w1 ⟨rfl, hb⟩
  have hg1 := hg.below hb hg.lt
  have c1 : w1.cell? ⟨g, 0, none⟩ = some (.string s) := (hg1.cell 0).trans rfl
  have f1 := hg1.frozen 0
  go_wp2_with fail
  go_ret
  exact ⟨rfl, w1, hb, rfl⟩

/-- The closure 'text'. -/
theorem ctext (g : Nat) (s : ByteArray) (k : Nat) (w : World) (hs : k ≤ s.size) (hs2 : s.size ≤ 1000) (hg : Blk w g 9 #[.string s]) :
    Calls Try.prog 38 #[.int .i64 k, .pointer (some ⟨g, 0, none⟩)] w fun e w' => e = .returned (.string (s.extract 0 k)) ∧ w' = w.setCell ⟨g, 0, none⟩ (.string (s.extract k s.size)) := by
  have c0 : w.cell? ⟨g, 0, none⟩ = some (.string s) := (hg.cell 0).trans rfl
  have f0 := hg.frozen 0
  have hI : (k : Int) ≤ (s.size : Int) := by omega
  go_enter Try.func38, Try.ntmps38
  go_wp2_with fail
  go_ret
  exact ⟨rfl, rfl⟩
end Go.Proofs.Ytbofmfocnbennaa
