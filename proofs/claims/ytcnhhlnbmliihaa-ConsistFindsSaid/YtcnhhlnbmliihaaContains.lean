/- slices.IndexFunc and slices.ContainsFunc at []string, with a closure that captures one place. -/
import Derived.Test.YtcnhhlnbmliihaaTexts
import Derived.Test.YtcnhhlnbmliihaaRefMerk
import Derived.Test.YtcnhhlnbmliihaaMerk
namespace Go.Proofs.Ytcnhhlnbmliihaa
open Go.RowKit
set_option linter.unusedVariables false
set_option linter.unusedSimpArgs false

theorem any_take_succ (p : ByteArray → Bool) (l : List ByteArray) (q : Nat) (h : q < l.length) : (l.take (q + 1)).any p = ((l.take q).any p || p (l.getD q ByteArray.empty)) := by
  rw [List.take_succ_eq_append_getElem h, List.any_append, List.getD_eq_getElem?_getD, List.getElem?_eq_getElem h]; simp
theorem any_of_take {p : ByteArray → Bool} {l : List ByteArray} {q : Nat} (h : q < l.length) (hp : p (l.getD q ByteArray.empty) = true) : l.any p = true := by
  rw [List.any_eq_true]
  refine ⟨_, ?_, hp⟩
  rw [List.getD_eq_getElem?_getD, List.getElem?_eq_getElem h]
  exact List.getElem_mem h
set_option maxRecDepth 100000 in
theorem cIndexFunc40 (b : Addr) (p : ByteArray → Bool) (A : Option Addr) (n c : Nat) (l : List ByteArray) (W : World) (hn : l.length = n) (hs : Strs W A l) (hnc : n ≤ c) (hn6 : n ≤ 140737488355328)
    (hp : ∀ s, Calls Try.prog 52 #[.string s, .pointer (some b)] W fun e w' => e = .returned (.bool (p s)) ∧ W = w') :
    Calls Try.prog 61 #[.slice A n c, .func (.func 52) #[] #[.pointer (some b)]] W fun e w' => ∃ i : Int, e = .returned (.int .i64 i) ∧ decide (0 ≤ i) = l.any p ∧ W = w' := by
  have hnI : (n : Int) ≤ 140737488355328 := by omega
  have hncI : (n : Int) ≤ (c : Int) := by omega
  have HN := Lib.hid hn
  have HS := Lib.hid hs
  have HP := Lib.hid hp
  clear hn hs hp
  go_enter Try.func61, Try.ntmps61
  go_wp2_with fail
  go_loopw [5, 8] (fun _ v wr => ∃ q : Nat, q ≤ n ∧ v = .int .i64 q ∧ (l.take q).any p = false ∧ W = wr) (fun _ v _ => n - (intOf v).toNat)
  case atStart => exact ⟨0, by omega, rfl, by simp, rfl⟩
  case round =>
    obtain ⟨q, hq, rfl, hA, rfl⟩ := hrel
    have HA := Lib.hid hA
    clear hA
    by_cases hlt : q < n
    · have hqI : (q : Int) < (n : Int) := by omega
      obtain ⟨g, o, rfl, c1⟩ := HS.out.cell_ q (by rw [HN.out]; exact hlt)
      have hst := any_take_succ p l q (by rw [HN.out]; exact hlt)
      have hot := fun h => any_of_take (p := p) (l := l) (q := q) (by rw [HN.out]; exact hlt) h
      obtain ⟨s, HSS⟩ : ∃ s, Hid (l.getD q ByteArray.empty = s) := ⟨_, Lib.hid rfl⟩
      rw [HSS.out] at c1 hst hot
      have h1 := HP.out s
      cases hps : p s with
      | true =>
        rw [hps] at h1
        have H1 := Lib.hid h1
        have HOT := Lib.hid (hot hps)
        clear h1 hst hot hps
        go_wp2_with fail
        (with_reducible refine H1.out.mono ?_); rintro e w1 ⟨rfl, rfl⟩
        go_wp2_with fail
        go_ret
        exact ⟨_, rfl, by rw [HOT.out]; exact decide_eq_true (by omega), rfl⟩
      | false =>
        rw [hps] at h1 hst
        rw [HA.out, Bool.or_false] at hst
        have H1 := Lib.hid h1
        have HST := Lib.hid hst
        clear h1 hst hot hps
        go_wp2_with fail
        (with_reducible refine H1.out.mono ?_); rintro e w1 ⟨rfl, rfl⟩
        go_wp2_with fail
        go_roundw
        case rel => exact ⟨q + 1, by omega, by go_num, HST.out, trivial⟩
        case measure => simp [intOf]; omega
    · have e : q = n := by omega
      subst e
      have hall := HA.out
      rw [List.take_of_length_le (by rw [HN.out]; omega)] at hall
      go_wp2_with fail
      go_ret
      exact ⟨-1, rfl, by rw [hall]; rfl, rfl⟩
theorem cContainsFunc40 (b : Addr) (p : ByteArray → Bool) (A : Option Addr) (n c : Nat) (l : List ByteArray) (W : World) (hn : l.length = n) (hs : Strs W A l) (hnc : n ≤ c) (hn6 : n ≤ 140737488355328)
    (hp : ∀ s, Calls Try.prog 52 #[.string s, .pointer (some b)] W fun e w' => e = .returned (.bool (p s)) ∧ W = w') :
    Calls Try.prog 39 #[.slice A n c, .func (.func 52) #[] #[.pointer (some b)]] W fun e w' => e = .returned (.bool (l.any p)) ∧ W = w' := by
  have H := Lib.hid (cIndexFunc40 b p A n c l W hn hs hnc hn6 hp)
  clear hn hs hp
  obtain ⟨t, HT⟩ : ∃ t, Hid (l.any p = t) := ⟨_, Lib.hid rfl⟩
  rw [HT.out]
  go_enter Try.func39, Try.ntmps39
  go_wp2_with fail
  (with_reducible refine H.out.mono ?_); rintro e w1 ⟨i, rfl, hi, rfl⟩
  rw [HT.out] at hi
  go_wp2_with fail
  go_ret
  exact ⟨rfl, rfl⟩
set_option maxRecDepth 100000 in
theorem cIndexFunc41 (b : Addr) (p : ByteArray → Bool) (A : Option Addr) (n c : Nat) (l : List ByteArray) (W : World) (hn : l.length = n) (hs : Strs W A l) (hnc : n ≤ c) (hn6 : n ≤ 140737488355328)
    (hp : ∀ s, Calls Try.prog 37 #[.string s, .pointer (some b)] W fun e w' => e = .returned (.bool (p s)) ∧ W = w') :
    Calls Try.prog 61 #[.slice A n c, .func (.func 37) #[] #[.pointer (some b)]] W fun e w' => ∃ i : Int, e = .returned (.int .i64 i) ∧ decide (0 ≤ i) = l.any p ∧ W = w' := by
  have hnI : (n : Int) ≤ 140737488355328 := by omega
  have hncI : (n : Int) ≤ (c : Int) := by omega
  have HN := Lib.hid hn
  have HS := Lib.hid hs
  have HP := Lib.hid hp
  clear hn hs hp
  go_enter Try.func61, Try.ntmps61
  go_wp2_with fail
  go_loopw [5, 8] (fun _ v wr => ∃ q : Nat, q ≤ n ∧ v = .int .i64 q ∧ (l.take q).any p = false ∧ W = wr) (fun _ v _ => n - (intOf v).toNat)
  case atStart => exact ⟨0, by omega, rfl, by simp, rfl⟩
  case round =>
    obtain ⟨q, hq, rfl, hA, rfl⟩ := hrel
    have HA := Lib.hid hA
    clear hA
    by_cases hlt : q < n
    · have hqI : (q : Int) < (n : Int) := by omega
      obtain ⟨g, o, rfl, c1⟩ := HS.out.cell_ q (by rw [HN.out]; exact hlt)
      have hst := any_take_succ p l q (by rw [HN.out]; exact hlt)
      have hot := fun h => any_of_take (p := p) (l := l) (q := q) (by rw [HN.out]; exact hlt) h
      obtain ⟨s, HSS⟩ : ∃ s, Hid (l.getD q ByteArray.empty = s) := ⟨_, Lib.hid rfl⟩
      rw [HSS.out] at c1 hst hot
      have h1 := HP.out s
      cases hps : p s with
      | true =>
        rw [hps] at h1
        have H1 := Lib.hid h1
        have HOT := Lib.hid (hot hps)
        clear h1 hst hot hps
        go_wp2_with fail
        (with_reducible refine H1.out.mono ?_); rintro e w1 ⟨rfl, rfl⟩
        go_wp2_with fail
        go_ret
        exact ⟨_, rfl, by rw [HOT.out]; exact decide_eq_true (by omega), rfl⟩
      | false =>
        rw [hps] at h1 hst
        rw [HA.out, Bool.or_false] at hst
        have H1 := Lib.hid h1
        have HST := Lib.hid hst
        clear h1 hst hot hps
        go_wp2_with fail
        (with_reducible refine H1.out.mono ?_); rintro e w1 ⟨rfl, rfl⟩
        go_wp2_with fail
        go_roundw
        case rel => exact ⟨q + 1, by omega, by go_num, HST.out, trivial⟩
        case measure => simp [intOf]; omega
    · have e : q = n := by omega
      subst e
      have hall := HA.out
      rw [List.take_of_length_le (by rw [HN.out]; omega)] at hall
      go_wp2_with fail
      go_ret
      exact ⟨-1, rfl, by rw [hall]; rfl, rfl⟩
theorem cContainsFunc41 (b : Addr) (p : ByteArray → Bool) (A : Option Addr) (n c : Nat) (l : List ByteArray) (W : World) (hn : l.length = n) (hs : Strs W A l) (hnc : n ≤ c) (hn6 : n ≤ 140737488355328)
    (hp : ∀ s, Calls Try.prog 37 #[.string s, .pointer (some b)] W fun e w' => e = .returned (.bool (p s)) ∧ W = w') :
    Calls Try.prog 39 #[.slice A n c, .func (.func 37) #[] #[.pointer (some b)]] W fun e w' => e = .returned (.bool (l.any p)) ∧ W = w' := by
  have H := Lib.hid (cIndexFunc41 b p A n c l W hn hs hnc hn6 hp)
  clear hn hs hp
  obtain ⟨t, HT⟩ : ∃ t, Hid (l.any p = t) := ⟨_, Lib.hid rfl⟩
  rw [HT.out]
  go_enter Try.func39, Try.ntmps39
  go_wp2_with fail
  (with_reducible refine H.out.mono ?_); rintro e w1 ⟨i, rfl, hi, rfl⟩
  rw [HT.out] at hi
  go_wp2_with fail
  go_ret
  exact ⟨rfl, rfl⟩
theorem cShort40 (w : Int) (b : Nat) (W : World) (hb : W.cell? ⟨b, 0, none⟩ = some (.int .i64 w)) (s : ByteArray) :
    Calls Try.prog 52 #[.string s, .pointer (some ⟨b, 0, none⟩)] W fun e w' => e = .returned (.bool (!(s.size == wd w))) ∧ W = w' := by
  have h3 := fun W => cWidth w W
  obtain ⟨d, HD⟩ : ∃ d, Hid (wd w = d) := ⟨_, Lib.hid rfl⟩
  simp only [HD.out] at h3 ⊢
  have H3 := Lib.hid h3
  clear h3
  by_cases h : s.size = d
  · have hI : ((s.size : Int) != (d : Int)) = false := by simp; omega
    have hK : (s.size == d) = true := by simp; omega
    rw [hK]
    clear hK h
    go_enter Try.func52, Try.ntmps52
    go_wp2_with fail
    (with_reducible refine (H3.out _).mono ?_); rintro e w1 ⟨rfl, rfl⟩
    go_wp2_with fail
    go_ret
    exact ⟨rfl, rfl⟩
  · have hI : ((s.size : Int) != (d : Int)) = true := by simp; omega
    have hK : (s.size == d) = false := by simp; omega
    rw [hK]
    clear hK h
    go_enter Try.func52, Try.ntmps52
    go_wp2_with fail
    (with_reducible refine (H3.out _).mono ?_); rintro e w1 ⟨rfl, rfl⟩
    go_wp2_with fail
    go_ret
    exact ⟨rfl, rfl⟩
theorem cShort41 (w : Int) (b : Nat) (W : World) (hb : W.cell? ⟨b, 0, none⟩ = some (.int .i64 w)) (s : ByteArray) :
    Calls Try.prog 37 #[.string s, .pointer (some ⟨b, 0, none⟩)] W fun e w' => e = .returned (.bool (!(s.size == wd w))) ∧ W = w' := by
  have h3 := fun W => cWidth w W
  obtain ⟨d, HD⟩ : ∃ d, Hid (wd w = d) := ⟨_, Lib.hid rfl⟩
  simp only [HD.out] at h3 ⊢
  have H3 := Lib.hid h3
  clear h3
  by_cases h : s.size = d
  · have hI : ((s.size : Int) != (d : Int)) = false := by simp; omega
    have hK : (s.size == d) = true := by simp; omega
    rw [hK]
    clear hK h
    go_enter Try.func37, Try.ntmps37
    go_wp2_with fail
    (with_reducible refine (H3.out _).mono ?_); rintro e w1 ⟨rfl, rfl⟩
    go_wp2_with fail
    go_ret
    exact ⟨rfl, rfl⟩
  · have hI : ((s.size : Int) != (d : Int)) = true := by simp; omega
    have hK : (s.size == d) = false := by simp; omega
    rw [hK]
    clear hK h
    go_enter Try.func37, Try.ntmps37
    go_wp2_with fail
    (with_reducible refine (H3.out _).mono ?_); rintro e w1 ⟨rfl, rfl⟩
    go_wp2_with fail
    go_ret
    exact ⟨rfl, rfl⟩
end Go.Proofs.Ytcnhhlnbmliihaa

