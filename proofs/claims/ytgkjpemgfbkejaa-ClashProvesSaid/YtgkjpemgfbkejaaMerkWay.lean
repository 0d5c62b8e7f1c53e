/- The ways, of the program and of the reference. -/
import Derived.Test.YtgkjpemgfbkejaaMerkRoot
namespace Go.Proofs.Ytgkjpemgfbkejaa
open Go.RowKit
set_option linter.unusedVariables false
set_option linter.unusedSimpArgs false

theorem bool_elem : ElemI Try.prog 68 4 (.bool false) 1 := elemI Try.underlying68 (by kernel_rfl) rfl

theorem cWay_no (i n : Int) (W : World) (h : n ≤ 1 ∨ i < 0 ∨ n ≤ i) : Calls Try.prog 57 #[.int .i64 i, .int .i64 n] W fun e W' => e = .returned (.slice none 0 0) ∧ W = W' := by
  have H := Lib.hid h
  clear h
  rcases Int.lt_or_le 1 n with h1 | h1
  · rcases Int.lt_or_le i 0 with h2 | h2
    · go_enter Try.func57, Try.ntmps57
      go_wp2_with fail
      go_ret
      exact ⟨rfl, rfl⟩
    · have h3 : n ≤ i := by have := H.out; omega
      go_enter Try.func57, Try.ntmps57
      go_wp2_with fail
      go_ret
      exact ⟨rfl, rfl⟩
  · have h2 : n < 2 := by omega
    go_enter Try.func57, Try.ntmps57
    go_wp2_with fail
    go_ret
    exact ⟨rfl, rfl⟩
set_option maxRecDepth 100000 in
theorem cWay : ∀ (n i : Nat) (W : World), n ≤ 2305843009213693952 → i < n →
    Calls Try.prog 57 #[.int .i64 i, .int .i64 n] W fun e W' => ∃ v, e = .returned v ∧ SL W' W.heap.size 4 v ((way i n).map Value.bool) ∧ Below W.heap.size W W' := by
  intro n
  induction n using Nat.strongRecOn with
  | _ n ih =>
    intro i W hn hi
    rcases Nat.lt_or_ge n 2 with h2 | h2
    · rw [way_one i n h2]
      refine (cWay_no i n W (.inl (by omega))).mono ?_
      rintro e w' ⟨rfl, rfl⟩
      exact ⟨_, rfl, SL.nil _ _ _, Below.refl _ _⟩
    · have hcl := cut_lt n h2
      have hcp := cut_pos n
      have h3 := fun W => cCut n W (by omega)
      have hwl := way_left i n h2
      have hwr := way_right i n h2
      have i1 := fun W h => ih (cut n) hcl i W (by omega) h
      have i2 := fun W h => ih (n - cut n) (by omega) (i - cut n) W (by omega) h
      have l1 := way_bits 61 i (cut n) (by omega)
      have l2 := way_bits 61 (i - cut n) (n - cut n) (by omega)
      obtain ⟨k, HK⟩ : ∃ k, Hid (cut n = k) := ⟨_, Lib.hid rfl⟩
      simp only [HK.out] at h3 i1 i2 l1 l2 hwl hwr hcl hcp
      have H3 := Lib.hid h3
      have I1 := Lib.hid i1
      have I2 := Lib.hid i2
      have HWL := Lib.hid hwl
      have HWR := Lib.hid hwr
      have hnI : (n : Int) ≤ 2305843009213693952 := by omega
      have h2I : (2 : Int) ≤ (n : Int) := by omega
      have hiI : (i : Int) < (n : Int) := by omega
      have hkI : (k : Int) < (n : Int) := by omega
      clear h3 i1 i2 hwl hwr ih
      by_cases hik : i < k
      · have hd := HWL.out hik
        have HD := Lib.hid hd
        have hikI : decide ((i : Int) < (k : Int)) = true := decide_eq_true (by omega)
        have hikJ : (i : Int) < (k : Int) := by omega
        clear hd
        go_enter Try.func57, Try.ntmps57
        go_wp2_with fail
        (with_reducible refine (H3.out _).mono ?_); rintro e w1 ⟨rfl, rfl⟩
        go_wp2_with fail
        (with_reducible refine (I1.out _ hik).mono ?_); rintro e w1 ⟨v, rfl, hS, hb⟩
        obtain ⟨A, c, rfl, hc⟩ := hS.open_
        obtain ⟨m, HM⟩ : ∃ m, Hid ((way i k).length = m) := ⟨_, Lib.hid rfl⟩
        rw [HM.out] at hS hc l1
        rw [HM.out]
        have HS := Lib.hid hS
        have hbs := hb.size
        have HB := Lib.hid hb
        clear hS hb
        go_wp2_with (refine wpList_app1 Value.bool (fun _ => rfl) bool_elem rfl (.tmp 24) (.tmp 25) rfl W.heap.size A m c _ false _ HM.out rfl HS.out rfl _ rfl rfl (by omega) (by decide) hbs ?_; intro A3 c3 w3 hS3 hc3 hb3; dsimp only [Act.put])
        go_ret
        exact ⟨_, rfl, by rw [HD.out]; exact hS3, HB.out.trans hb3⟩
      · have hd := HWR.out (by omega)
        have HD := Lib.hid hd
        have hikI : decide ((i : Int) < (k : Int)) = false := decide_eq_false (by omega)
        have hikJ : ¬ (i : Int) < (k : Int) := by omega
        have i2 := fun W => I2.out W (by omega)
        have e1 : ((i - k : Nat) : Int) = (i : Int) - (k : Int) := by omega
        have e2 : ((n - k : Nat) : Int) = (n : Int) - (k : Int) := by omega
        simp only [e1, e2] at i2
        have I3 := Lib.hid i2
        clear hd i2 e1 e2
        go_enter Try.func57, Try.ntmps57
        go_wp2_with fail
        (with_reducible refine (H3.out _).mono ?_); rintro e w1 ⟨rfl, rfl⟩
        go_wp2_with fail
        (with_reducible refine (I3.out _).mono ?_); rintro e w1 ⟨v, rfl, hS, hb⟩
        obtain ⟨A, c, rfl, hc⟩ := hS.open_
        obtain ⟨m, HM⟩ : ∃ m, Hid ((way (i - k) (n - k)).length = m) := ⟨_, Lib.hid rfl⟩
        rw [HM.out] at hS hc l2
        rw [HM.out]
        have HS := Lib.hid hS
        have hbs := hb.size
        have HB := Lib.hid hb
        clear hS hb
        go_wp2_with (refine wpList_app1 Value.bool (fun _ => rfl) bool_elem rfl (.tmp 33) (.tmp 34) rfl W.heap.size A m c _ true _ HM.out rfl HS.out rfl _ rfl rfl (by omega) (by decide) hbs ?_; intro A3 c3 w3 hS3 hc3 hb3; dsimp only [Act.put])
        go_ret
        exact ⟨_, rfl, by rw [HD.out]; exact hS3, HB.out.trans hb3⟩
end Go.Proofs.Ytgkjpemgfbkejaa
