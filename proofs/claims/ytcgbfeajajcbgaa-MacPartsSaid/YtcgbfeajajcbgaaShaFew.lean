/- sledgeref02.Join, sledgelaw02.few. -/
import Derived.Test.YtcgbfeajajcbgaaShaTop
namespace Go.Proofs.Ytcgbfeajajcbgaa
open Go.RowKit

theorem crJoin (A : Option Addr) (n c : Nat) (ss : List ByteArray) (w : World) (hn : ss.length = n) (hs : Strs w A ss) (hl : (joinL ss).length ≤ 1000000000) (hn2 : n ≤ 1000000000) :
    Calls Try.prog 18 #[.slice A n c] w fun e w' => e = .returned (.string (str (joinL ss))) ∧ w = w' := by
  have HN := Lib.hid hn
  have hn3 : (n : Int) ≤ 1000000000 := by omega
  clear hn
  have HS0 := Lib.hid hs
  clear hs
  go_enter Try.func18, Try.ntmps18
  go_wp2_with fail
  go_loop [3, 4] (fun u i => ∃ (k : Nat) (t : ByteArray), k ≤ n ∧ i = .int .i64 k ∧ u = .string t ∧ t = str (joinL (ss.take k))) (fun _ i => n - (intOf i).toNat)
  case atStart => exact ⟨0, ⟨#[]⟩, by omega, rfl, rfl, by rw [List.take_zero, joinL_nil]; rfl⟩
  case round =>
    obtain ⟨k, t, hk, rfl, rfl, ht⟩ := hrel
    have hts : t.size ≤ 1000000000 := by rw [ht, str_size]; have := joinL_take_le ss k; omega
    have HT := Lib.hid ht
    clear ht
    by_cases hlk : k < n
    · have hdk : decide ((k : Int) < (n : Int)) = true := decide_eq_true (by omega)
      obtain ⟨g, o, ha, hg, hc⟩ := HS0.out (by rw [HN.out]; omega)
      subst ha
      have hck := hc k (by rw [HN.out]; exact hlk)
      have hjl := joinL_get_le ss k (by rw [HN.out]; exact hlk)
      have hjt := joinL_take ss k (by rw [HN.out]; exact hlk)
      obtain ⟨s, HS⟩ : ∃ s, Hid (ss.getD k ByteArray.empty = s) := ⟨_, Lib.hid rfl⟩
      rw [HS.out] at hck hjl hjt
      have hss : s.size ≤ 1000000000 := by omega
      have HJT := Lib.hid hjt
      clear hc hjt
      go_wp2_with fail
      go_round
      case rel =>
        refine ⟨k + 1, _, by omega, by go_num, rfl, ?_⟩
        rw [HJT.out, HT.out, str_app]
      case measure => simp [intOf]; omega
    · have hdk : decide ((k : Int) < (n : Int)) = false := decide_eq_false (by omega)
      have e : ss.take k = ss := List.take_of_length_le (by rw [HN.out]; omega)
      go_wp2_with fail
      go_ret
      exact ⟨by rw [HT.out, e]; rfl, rfl⟩

set_option maxRecDepth 100000 in
theorem cfew (A : Option Addr) (n c : Nat) (ss : List ByteArray) (w : World) (hn : ss.length = n) (hs : Strs w A ss) (hn2 : n ≤ 140737488355328) (hnc : n ≤ c) (hz : ∀ s ∈ ss, s.size ≤ 140737488355328) :
    Calls Try.prog 17 #[.slice A n c] w fun e w' => ∃ m, m ≤ n ∧ m ≤ 200 ∧ e = .returned (.slice A m c) ∧ (joinL (ss.take m)).length ≤ 20000 ∧ w = w' := by
  have HN := Lib.hid hn
  have hn3 : (n : Int) ≤ 140737488355328 := by omega
  have hc3 : (n : Int) ≤ (c : Int) := by omega
  clear hn
  have HS0 := Lib.hid hs
  have HZ := Lib.hid hz
  clear hs hz
  go_enter Try.func17, Try.ntmps17
  go_wp2_with fail
  go_loop [3, 4] (fun u i => ∃ (k q : Nat), k ≤ n ∧ k ≤ 200 ∧ i = .int .i64 k ∧ u = .int .i64 q ∧ q ≤ 20000 ∧ q = (joinL (ss.take k)).length) (fun _ i => n - (intOf i).toNat)
  case atStart => exact ⟨0, 0, by omega, by omega, rfl, rfl, by omega, by rw [List.take_zero, joinL_nil]; rfl⟩
  case round =>
    obtain ⟨k, q, hk, hk2, rfl, rfl, hq, hqj⟩ := hrel
    have HQ := Lib.hid hqj
    clear hqj
    by_cases hlk : k < n
    · have hdk : decide ((k : Int) < (n : Int)) = true := decide_eq_true (by omega)
      have hkl : k < ss.length := by rw [HN.out]; exact hlk
      obtain ⟨g, o, ha, hg, hc⟩ := HS0.out (by omega)
      have hck := hc k hkl
      have hjt := joinL_take ss k hkl
      have hss : (ss.getD k ByteArray.empty).size ≤ 140737488355328 := HZ.out _ (by rw [List.getD_eq_getElem?_getD, List.getElem?_eq_getElem hkl]; exact List.getElem_mem hkl)
      obtain ⟨s, HS⟩ : ∃ s, Hid (ss.getD k ByteArray.empty = s) := ⟨_, Lib.hid rfl⟩
      rw [HS.out] at hck hjt hss
      have hjl := congrArg List.length hjt
      rw [List.length_append, data_length, ← HQ.out] at hjl
      have HJL := Lib.hid hjl
      subst ha
      clear hc hjt hjl hkl
      by_cases h1 : s.size ≤ 20001
      · by_cases h2 : q + s.size ≤ 20000
        · by_cases h3 : k < 200
          · go_wp2_with fail
            all_goals
              go_round
              case rel => exact ⟨k + 1, q + s.size, by omega, by omega, by go_num, by go_num, h2, HJL.out.symm⟩
              case measure => simp [intOf]; omega
          · go_wp2_with fail
            go_ret
            exact ⟨k, by omega, by omega, rfl, by rw [← HQ.out]; omega, rfl⟩
        · go_wp2_with fail
          go_ret
          exact ⟨k, by omega, by omega, rfl, by rw [← HQ.out]; omega, rfl⟩
      · have hmin : min (s.size : Int) 20001 = 20001 := by omega
        have hgt : decide ((20000 : Int) < (q : Int) + 20001) = true := decide_eq_true (by omega)
        have h1' : ¬ (s.size : Int) ≤ 20001 := by omega
        clear h1 hss
        go_wp2_with fail
        go_ret
        exact ⟨k, by omega, by omega, rfl, by rw [← HQ.out]; omega, rfl⟩
    · have hdk : decide ((k : Int) < (n : Int)) = false := decide_eq_false (by omega)
      have e : k = n := by omega
      subst e
      go_wp2_with fail
      go_ret
      exact ⟨k, by omega, by omega, rfl, by rw [← HQ.out]; omega, rfl⟩
end Go.Proofs.Ytcgbfeajajcbgaa
