/- Growing trees: From; the reference's Peaks. -/
import Derived.Test.YtgkjpemgfbkejaaGrow4
import Derived.Test.YtgkjpemgfbkejaaRefMerk
namespace Go.Proofs.Ytgkjpemgfbkejaa
open Go.RowKit
set_option linter.unusedVariables false
set_option linter.unusedSimpArgs false

theorem cFrom_neg (w n : Int) (A : Option Addr) (m c : Nat) (W : World) (hn : n < 0) : Calls Try.prog 35 #[.int .i64 w, .int .i64 n, .slice A m c] W fun e W' => e = .returned (.tuple #[.pointer none, .int .i64 1]) ∧ W = W' := by
  go_enter Try.func35, Try.ntmps35
  go_wp2_with fail
  go_ret2
  exact ⟨rfl, rfl⟩
theorem cFrom_arg (w : Int) (n : Nat) (A : Option Addr) (m c : Nat) (W : World) (hn : n < 9223372036854775808) (hm : ¬ ones n = m) : Calls Try.prog 35 #[.int .i64 w, .int .i64 (n : Int), .slice A m c] W fun e W' => e = .returned (.tuple #[.pointer none, .int .i64 1]) ∧ W = W' := by
  have h := fun W => cOnes n W (by omega)
  have hle := ones_le 63 n (by omega)
  obtain ⟨r, HR⟩ : ∃ x, Hid (ones n = x) := ⟨_, Lib.hid rfl⟩
  simp only [HR.out] at h hm hle
  have H := Lib.hid h
  have hI : ((r : Int) != (m : Int)) = true := by simp; omega
  have hnI : ¬ (n : Int) < 0 := by omega
  have hnJ : (n : Int) < 9223372036854775808 := by omega
  clear h
  go_enter Try.func35, Try.ntmps35
  go_wp2_with fail
  (with_reducible refine (H.out _).mono ?_); rintro e w1 ⟨rfl, rfl⟩
  go_wp2_with fail
  go_ret2
  exact ⟨rfl, rfl⟩
set_option maxRecDepth 100000 in
set_option maxHeartbeats 4000000 in
theorem cFrom (w : Int) (n : Nat) (A : Option Addr) (m c : Nat) (ps : List ByteArray) (W : World) (hn : n < 9223372036854775808) (hl : ps.length = m) (hm : ones n = m) (hs : Strs W A ps) (hmc : m ≤ c) :
    Calls Try.prog 35 #[.int .i64 w, .int .i64 (n : Int), .slice A m c] W fun e W' => ((∀ s ∈ ps, s.size = wd w) → ∃ g, e = .returned (.tuple #[.pointer (some ⟨g, 0, none⟩), .int .i64 0]) ∧ W.heap.size ≤ g ∧ TR W' g (wd w) n ps) ∧
      (¬ (∀ s ∈ ps, s.size = wd w) → e = .returned (.tuple #[.pointer none, .int .i64 2])) ∧ Below W.heap.size W W' := by
  have h := fun W => cOnes n W (by omega)
  have hle := ones_le 63 n (by omega)
  have h2 := fun W => cWidth w W
  have hwd := wd_hi w
  obtain ⟨d, HD⟩ : ∃ X, Hid (wd w = X) := ⟨_, Lib.hid rfl⟩
  simp only [HD.out] at h2 hwd
  rw [HD.out]
  rw [hm] at hle
  simp only [hm] at h
  have H := Lib.hid h
  have H2 := Lib.hid h2
  have HS := Lib.hid hs
  have HL := Lib.hid hl
  have hI : ((m : Int) != (m : Int)) = false := by simp
  have hnI : ¬ (n : Int) < 0 := by omega
  have hnJ : (n : Int) < 9223372036854775808 := by omega
  clear h h2 hs hl hm
  go_enter Try.func35, Try.ntmps35
  go_wp2_with fail
  (with_reducible refine (H.out _).mono ?_); rintro e w1 ⟨rfl, rfl⟩
  go_wp2_with fail
  (with_reducible refine (H2.out _).mono ?_); rintro e w1 ⟨rfl, rfl⟩
  go_wp2_with fail
  have hB1 : Below W.heap.size W (W.alloc (.cells #[.int .i64 (d : Int), .int .i64 (n : Int), .slice none 0 0] 62)) := (Below.refl _ _).alloc (Nat.le_refl _) _
  have hK1 := Blk.new W 62 #[.int .i64 (d : Int), .int .i64 (n : Int), .slice none 0 0]
  go_loopw [28] (fun i wr => ∃ (k : Nat) (A5 : Option Addr) (c5 : Nat), i = .int .i64 k ∧ k ≤ m ∧ k ≤ c5 ∧ Blk wr W.heap.size 62 #[.int .i64 (d : Int), .int .i64 (n : Int), .slice A5 k c5] ∧
    SL wr (W.heap.size + 1) 9 (.slice A5 k c5) ((ps.take k).map Value.string) ∧ (∀ j, j < k → (ps.getD j ByteArray.empty).size = d) ∧ Below W.heap.size W wr) (fun i _ => m - (intOf i).toNat)
  case atStart => exact ⟨0, none, 0, rfl, by omega, by omega, hK1, SL.nil _ _ _, fun j hj => absurd hj (by omega), hB1⟩
  case round =>
    clear hB1 hK1
    obtain ⟨k, A5, c5, rfl, hk, hkc, hK, hSL, hall, hB⟩ := hrel
    have b0 : wr.cell? ⟨W.heap.size, 0, none⟩ = some (.int .i64 (d : Int)) := (hK.cell 0).trans rfl
    have b2 : wr.cell? ⟨W.heap.size, 2, none⟩ = some (.slice A5 k c5) := (hK.cell 2).trans rfl
    have hlt0 := hK.lt
    have HK := Lib.hid hK
    have HSL := Lib.hid hSL
    have HALL := Lib.hid hall
    have HB := Lib.hid hB
    clear hK hSL hall hB
    by_cases hkm : k < m
    · have hdk : decide ((k : Int) < (m : Int)) = true := decide_eq_true (by omega)
      have hkI : (k : Int) < (m : Int) := by omega
      obtain ⟨g1, o1, rfl, c1⟩ := (HS.out.fresh HB.out).cell_ k (by rw [HL.out]; exact hkm)
      have htl : ((ps.take k).length) = k := by rw [List.length_take, HL.out]; omega
      have hts : ps.take (k + 1) = ps.take k ++ [ps.getD k ByteArray.empty] := by
        rw [List.take_succ_eq_append_getElem (by rw [HL.out]; exact hkm), List.getD_eq_getElem?_getD, List.getElem?_eq_getElem (by rw [HL.out]; exact hkm)]; rfl
      have hmem : ps.getD k ByteArray.empty ∈ ps := getD_mem (by rw [HL.out]; exact hkm)
      have hal2 : (ps.getD k ByteArray.empty).size = d → ∀ j, j < k + 1 → (ps.getD j ByteArray.empty).size = d := fun h j hj => by
        rcases Nat.lt_or_ge j k with h5 | h5
        · exact HALL.out j h5
        · have : j = k := by omega
          subst this; exact h
      obtain ⟨s, HSS⟩ : ∃ s, Hid (ps.getD k ByteArray.empty = s) := ⟨_, Lib.hid rfl⟩
      rw [HSS.out] at c1 hts hmem hal2
      have HTS := Lib.hid hts
      have HM := Lib.hid hmem
      have HAL := Lib.hid hal2
      clear hts hmem hal2
      by_cases hsz : s.size = d
      · have hszI : ((s.size : Int) != (d : Int)) = false := by simp; omega
        go_wp2_with (refine wpList_app1 Value.string (fun _ => rfl) str_elem rfl (.tmp 43) (.tmp 45) rfl (W.heap.size + 1) A5 k c5 (ps.take k) s _ htl rfl HSL.out rfl _ rfl rfl (by omega) (by decide) (by omega) ?_; intro A6 c6 w6 hS6 hc6 hb6; dsimp only [Act.put]; have hBK6 := HK.out.below hb6 (Nat.lt_succ_self _); have b2 : w6.cell? ⟨W.heap.size, 2, none⟩ = some (.slice A5 k c5) := (hBK6.cell 2).trans rfl; have f2 : w6.frozen? ⟨W.heap.size, 2, none⟩ = false := hBK6.frozen 2)
        go_roundw
        case rel =>
          refine ⟨k + 1, A6, c6, by go_num, by omega, hc6, hBK6.set_ 2 _, ?_, HAL.out hsz, (HB.out.trans (hb6.mono (by omega))).setCell (Nat.le_refl _) _⟩
          rw [HTS.out]
          exact hS6.set_far (p := ⟨W.heap.size, 2, none⟩) (Nat.lt_succ_self _) _
        case measure => simp [intOf]; omega
      · have hszI : ((s.size : Int) != (d : Int)) = true := by simp; omega
        go_wp2_with fail
        go_ret2
        exact ⟨fun h => absurd (h s HM.out) hsz, fun _ => rfl, HB.out⟩
    · have hdk : decide ((k : Int) < (m : Int)) = false := decide_eq_false (by omega)
      have e : k = m := by omega
      subst e
      have hall : ∀ s ∈ ps, s.size = d := fun s hs => by
        obtain ⟨j, hj, rfl⟩ := List.getElem_of_mem hs
        have := HALL.out j (by rw [HL.out] at hj; exact hj)
        rw [List.getD_eq_getElem?_getD, List.getElem?_eq_getElem hj] at this
        exact this
      have hHALL := Lib.hid hall
      have hfull : ps.take k = ps := List.take_of_length_le (by rw [HL.out]; omega)
      have hsl := HSL.out
      rw [hfull] at hsl
      have HSL2 := Lib.hid hsl
      clear hall hfull hsl
      go_wp2_with fail
      go_ret2
      exact ⟨fun _ => ⟨W.heap.size, rfl, Nat.le_refl _, A5, c5, by rw [HL.out]; exact HK.out, by rw [HL.out]; exact hkc, Strs.of_sl HSL2.out⟩, fun h => absurd hHALL.out h, HB.out⟩
end Go.Proofs.Ytgkjpemgfbkejaa
