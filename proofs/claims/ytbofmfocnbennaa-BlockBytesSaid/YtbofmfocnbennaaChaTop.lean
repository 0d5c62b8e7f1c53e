import Derived.Test.YtbofmfocnbennaaChaBlock
namespace Go.Proofs.Ytbofmfocnbennaa
open Go.RowKit
set_option maxRecDepth 100000
set_option linter.unusedVariables false
set_option linter.unusedSimpArgs false


theorem cright_yes (key nonce : ByteArray) (c : Int) (w : World) (h1 : key.size = 32) (h2 : nonce.size = 12) (h3 : 0 ≤ c) (h4 : c ≤ 4294967295) :
    Calls Try.prog 67 #[.string key, .string nonce, .int .i64 c] w fun e w' => e = .returned (.bool true) ∧ w = w' := by
  have e1 : ((key.size : Int) == 32) = true := by simp; omega
  have e2 : ((nonce.size : Int) == 12) = true := by simp; omega
  clear h1 h2
  go_enter Try.func67, Try.ntmps67
  go_wp2
  go_ret
  exact ⟨rfl, rfl⟩
theorem cright_no (key nonce : ByteArray) (c : Int) (w : World) (h : ¬ (key.size = 32 ∧ nonce.size = 12 ∧ 0 ≤ c ∧ c ≤ 4294967295)) :
    Calls Try.prog 67 #[.string key, .string nonce, .int .i64 c] w fun e w' => e = .returned (.bool false) ∧ w = w' := by
  by_cases h1 : key.size = 32
  · have e1 : ((key.size : Int) == 32) = true := by simp; omega
    by_cases h2 : nonce.size = 12
    · have e2 : ((nonce.size : Int) == 12) = true := by simp; omega
      by_cases h3 : 0 ≤ c
      · have h4 : ¬ c ≤ 4294967295 := fun h4 => h ⟨h1, h2, h3, h4⟩
        clear h h1 h2
        go_enter Try.func67, Try.ntmps67
        go_wp2
        go_ret
        exact ⟨rfl, rfl⟩
      · clear h h1 h2
        go_enter Try.func67, Try.ntmps67
        go_wp2
        go_ret
        exact ⟨rfl, rfl⟩
    · have e2 : ((nonce.size : Int) == 12) = false := by simp; omega
      clear h h1 h2
      go_enter Try.func67, Try.ntmps67
      go_wp2
      go_ret
      exact ⟨rfl, rfl⟩
  · have e1 : ((key.size : Int) == 32) = false := by simp; omega
    clear h h1
    go_enter Try.func67, Try.ntmps67
    go_wp2
    go_ret
    exact ⟨rfl, rfl⟩

end Go.Proofs.Ytbofmfocnbennaa
