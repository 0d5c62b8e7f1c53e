/- Few leaves a short list whole. -/
import Derived.Test.YtcnhhlnbmliihaaLeaves
namespace Go.Proofs.Ytcnhhlnbmliihaa
open Go.RowKit
set_option linter.unusedVariables false
set_option linter.unusedSimpArgs false

theorem cFewAll (A : Option Addr) (n c : Nat) (ss : List ByteArray) (w : World) (hn : ss.length = n) (hs : Strs w A ss) (hnc : n ≤ c) (hn7 : n ≤ 70) (hz : (joinL ss).length ≤ 20000) :
    Calls Try.prog 12 #[.slice A n c] w fun e w' => e = .returned (.slice A n c) ∧ w = w' := by
  have HN := Lib.hid hn
  have hn3 : (n : Int) ≤ 70 := by omega
  have hc3 : (n : Int) ≤ (c : Int) := by omega
  clear hn
  have HS0 := Lib.hid hs
  have HZ := Lib.hid hz
  clear hs hz
  go_enter Try.func12, Try.ntmps12
  go_wp2_with fail
  go_loop [3, 4] (fun u i => ∃ (k q : Nat), k ≤ n ∧ i = .int .i64 k ∧ u = .int .i64 q ∧ q = (joinL (ss.take k)).length) (fun _ i => n - (intOf i).toNat)
  case atStart => exact ⟨0, 0, by omega, rfl, rfl, by rw [List.take_zero, joinL_nil]; rfl⟩
  case round =>
    obtain ⟨k, q, hk, rfl, rfl, hqj⟩ := hrel
    have HQ := Lib.hid hqj
    clear hqj
    by_cases hlk : k < n
    · have hdk : decide ((k : Int) < (n : Int)) = true := decide_eq_true (by omega)
      have hkl : k < ss.length := by rw [HN.out]; exact hlk
      obtain ⟨g, o, ha, hg, hc⟩ := HS0.out (by omega)
      have hck := hc k hkl
      have hjt := joinL_take ss k hkl
      have hle := joinL_take_le ss (k + 1)
      have hss := HZ.out
      obtain ⟨s, HS⟩ : ∃ s, Hid (ss.getD k ByteArray.empty = s) := ⟨_, Lib.hid rfl⟩
      rw [HS.out] at hck hjt
      have hjl := congrArg List.length hjt
      rw [List.length_append, data_length, ← HQ.out] at hjl
      have HJL := Lib.hid hjl
      have h2 : q + s.size ≤ 20000 := by omega
      have h1 : s.size ≤ 1048576 := by omega
      have h3 : k < 70 := by omega
      subst ha
      clear hc hjt hjl hkl hle hss
      go_wp2_with fail
      all_goals
        go_round
        case rel => exact ⟨k + 1, q + s.size, by omega, by go_num, by go_num, HJL.out.symm⟩
        case measure => simp [intOf]; omega
    · go_wp2_with fail
      go_ret
      exact ⟨rfl, rfl⟩
theorem cSumsAll40 (k : Int) (A : Option Addr) (n c : Nat) (ss : List ByteArray) (w : World) (hn : ss.length = n) (hs : Strs w A ss) (hnc : n ≤ c) (hn7 : n ≤ 70) (hz : (joinL ss).length ≤ 20000) :
    Calls Try.prog 22 #[.int .i64 k, .slice A n c] w fun e w' => ∃ A' c', e = .returned (.slice A' n c') ∧ n ≤ c' ∧ Strs w' A' (ss.map (mleaf (wd k))) ∧ Below w.heap.size w w' := by
  refine (cSumsP40 k (fun l => l = ss) ((cFewAll A n c ss w hn hs hnc hn7 hz).mono ?_)).mono ?_
  · rintro e w' ⟨rfl, rfl⟩
    exact ⟨A, n, c, ss, rfl, hn, hs, hnc, hn7, fun s hs => by have := mem_joinL_le hs; omega, rfl, rfl⟩
  · rintro e w' ⟨A', n', c', L, rfl, h2, h3, h4, h5, h6, rfl, h7⟩
    rw [List.length_map, hn] at h2
    subst h2
    exact ⟨A', c', rfl, h3, h6, h7⟩
theorem cSumsAll41 (k : Int) (A : Option Addr) (n c : Nat) (ss : List ByteArray) (w : World) (hn : ss.length = n) (hs : Strs w A ss) (hnc : n ≤ c) (hn7 : n ≤ 70) (hz : (joinL ss).length ≤ 20000) :
    Calls Try.prog 17 #[.int .i64 k, .slice A n c] w fun e w' => ∃ A' c', e = .returned (.slice A' n c') ∧ n ≤ c' ∧ Strs w' A' (ss.map (mleaf (wd k))) ∧ Below w.heap.size w w' := by
  refine (cSumsP41 k (fun l => l = ss) ((cFewAll A n c ss w hn hs hnc hn7 hz).mono ?_)).mono ?_
  · rintro e w' ⟨rfl, rfl⟩
    exact ⟨A, n, c, ss, rfl, hn, hs, hnc, hn7, fun s hs => by have := mem_joinL_le hs; omega, rfl, rfl⟩
  · rintro e w' ⟨A', n', c', L, rfl, h2, h3, h4, h5, h6, rfl, h7⟩
    rw [List.length_map, hn] at h2
    subst h2
    exact ⟨A', c', rfl, h3, h6, h7⟩
end Go.Proofs.Ytcnhhlnbmliihaa
