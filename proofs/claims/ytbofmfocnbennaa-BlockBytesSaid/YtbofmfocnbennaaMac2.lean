/- mac.pad, mac.Tag. -/
import Derived.Test.YtbofmfocnbennaaMac
namespace Go.Proofs.Ytbofmfocnbennaa
open Go.RowKit
set_option linter.unusedVariables false
set_option linter.unusedSimpArgs false

theorem bytes64_info : (Try.prog.info? 5).map (·.size) = some 1 := by kernel_rfl
theorem key64_eq (k : List UInt8) (h : k.length ≤ 64) : k ++ (List.replicate 64 (0 : UInt8)).drop k.length = key64 k := by
  unfold key64; rw [keyL_short k h, List.drop_replicate]
theorem key64_long (k : List UInt8) (h : 64 < k.length) : key64 (sha k) = key64 k := by
  unfold key64; rw [keyL_long k h, keyL_short (sha k) (by rw [sha_length]; omega)]

/-- The pad of a key. -/
theorem cpad (s : ByteArray) (m : UInt8) (w : World) (hs9 : s.size ≤ 1000000000) :
    Calls Try.prog 57 #[.string s, .int .u8 ((m.toNat : Nat) : Int)] w fun e w' => e = .returned (.string (str (padK s.data.toList m))) ∧ Below w.heap.size w w' := by
  have hkl := key64_length s.data.toList
  have hp : padK s.data.toList m = xorF (key64 s.data.toList) m 64 := by rw [xorF_all _ _ _ (by omega)]; unfold padK; rfl
  have hE : ∀ x : ByteArray, x.size ≤ 64 → key64 x.data.toList = key64 s.data.toList → x.data.toList ++ (List.replicate 64 (0 : UInt8)).drop x.size = key64 s.data.toList := by
    intro x hx he
    have := key64_eq x.data.toList (by rw [data_length]; exact hx)
    rw [data_length, he] at this
    exact this
  have hlong : 64 < s.size → key64 (str (sha s.data.toList)).data.toList = key64 s.data.toList := fun h => by rw [bytes_str]; exact key64_long _ (by rw [data_length]; exact h)
  have hsum := fun W => cSum1 s W hs9
  have hz : (str (sha s.data.toList)).size = 32 := by rw [str_size, sha_length]
  obtain ⟨K, HK⟩ : ∃ x, Hid (key64 s.data.toList = x) := ⟨_, Lib.hid rfl⟩
  rw [HK.out] at hkl hp hlong
  simp only [HK.out] at hE
  obtain ⟨y, HY⟩ : ∃ x, Hid (str (sha s.data.toList) = x) := ⟨_, Lib.hid rfl⟩
  rw [HY.out] at hlong hz
  simp only [HY.out] at hsum
  have HP := Lib.hid hp
  have HKL := Lib.hid hkl
  have HE := Lib.hid hE
  have HSUM := Lib.hid hsum
  have HLONG := Lib.hid hlong
  have HZ := Lib.hid hz
  have hb0 := Blk.new w 84 (bcells (List.replicate 64 0))
  have hB0 : Below w.heap.size w (w.alloc (.cells (bcells (List.replicate 64 0)) 84)) := (Below.refl _ _).alloc (Nat.le_refl _) _
  clear hE hkl hp hsum hlong hz
  by_cases hs : s.size ≤ 64
  · have hI : (s.size : Int) ≤ 64 := by omega
    have HKE := Lib.hid (HE.out s hs HK.out)
    go_enter Try.func57, Try.ntmps57
    go_wp2_with ((refine wpList_copy_text rfl (.tmp 13) (.tmp 14) 43 9 rfl 5 Try.underlying43 bytes64_info w.heap.size 64 64 s rfl rfl 84 (List.replicate 64 0) hb0 hs (by simp) ?_); rw [HKE.out]; dsimp only [Act.put])
    have j1 : Blk ((w.alloc (.cells (bcells (List.replicate 64 0)) 84)).setRow w.heap.size (bcells K)) w.heap.size 84 (bcells (xorF K m 0)) := by rw [xorF_zero]; exact hb0.row _
    have j2 : Below w.heap.size w ((w.alloc (.cells (bcells (List.replicate 64 0)) 84)).setRow w.heap.size (bcells K)) := below_row hB0 (Nat.le_refl _) _
    go_loopw [16] (fun i wr => ∃ k : Nat, k ≤ 64 ∧ i = .int .i64 k ∧ Blk wr w.heap.size 84 (bcells (xorF K m k)) ∧ Below w.heap.size w wr)
      (fun i _ => 64 - (intOf i).toNat)
    case atStart => exact ⟨0, by omega, rfl, j1, j2⟩
    case round =>
      clear j1 j2
      obtain ⟨k, hk, rfl, q1, q2⟩ := hrel
      by_cases hlk : k < 64
      · have hdk : decide ((k : Int) < 64) = true := decide_eq_true (by omega)
        have c0 := (q1.cell k).trans (bcells_get _ k (by rw [xorF_length, HKL.out]; omega))
        rw [xorF_get _ _ _ (by rw [HKL.out]; omega)] at c0
        have hs2 := xorF_succ K m k (by rw [HKL.out]; omega)
        obtain ⟨x, HX⟩ : ∃ x, Hid (K.getD k 0 = x) := ⟨_, Lib.hid rfl⟩
        rw [HX.out] at c0 hs2
        have HS2 := Lib.hid hs2
        have f0 := q1.frozen k
        have Q1 := Lib.hid q1
        have Q2 := Lib.hid q2
        clear hs2 q1 q2
        go_wp2_with fail
        go_roundw
        case rel =>
          have hx := Q1.out.set_ k (.int .u8 (((x ^^^ m).toNat : Nat) : Int))
          rw [bcells_set, HS2.out] at hx
          exact ⟨k + 1, by omega, by go_num, hx, Q2.out.setCell (p := ⟨w.heap.size, k, none⟩) (Nat.le_refl _) _⟩
        case measure => simp [intOf]; omega
      · have hdk : decide ((k : Int) < 64) = false := decide_eq_false (by omega)
        have ek : k = 64 := by omega
        rw [ek, ← HP.out] at q1
        have hpl := padK_length s.data.toList m
        have hcv := conv_bytes (P := Try.prog) Try.underlying43 Try.underlying5 Try.underlying9 wr ⟨w.heap.size, 0, none⟩ 64 64 (padK s.data.toList m) hpl (fun j hj => blk_bytes q1 j (by rw [hpl]; exact hj))
        have Q2 := Lib.hid q2
        clear q1 q2 hpl ek
        go_wp2_with fail
        go_ret
        exact ⟨rfl, Q2.out⟩
  · have hI : (64 : Int) < (s.size : Int) := by omega
    have hS2 := HSUM.out (w.alloc (.cells (bcells (List.replicate 64 0)) 84))
    have hsz1 : (w.alloc (.cells (bcells (List.replicate 64 0)) 84)).heap.size = w.heap.size + 1 := by simp
    rw [hsz1] at hS2
    have HS2 := Lib.hid hS2
    clear hS2 hsz1
    go_enter Try.func57, Try.ntmps57
    go_wp2_with fail
    refine HS2.out.mono ?_; rintro e w1 ⟨rfl, hb1⟩
    have hb2 := hb0.below hb1 (by omega)
    have hB1 := hB0.trans (hb1.mono (by omega))
    have hy64 : y.size ≤ 64 := by rw [HZ.out]; omega
    have HKE := Lib.hid (HE.out y hy64 (HLONG.out (by omega)))
    clear hb1 hb0 hB0
    go_wp2_with ((refine wpList_copy_text rfl (.tmp 13) (.tmp 14) 43 9 rfl 5 Try.underlying43 bytes64_info w.heap.size 64 64 y rfl rfl 84 (List.replicate 64 0) hb2 hy64 (by simp) ?_); rw [HKE.out]; dsimp only [Act.put])
    have j1 : Blk (w1.setRow w.heap.size (bcells K)) w.heap.size 84 (bcells (xorF K m 0)) := by rw [xorF_zero]; exact hb2.row _
    have j2 : Below w.heap.size w (w1.setRow w.heap.size (bcells K)) := below_row hB1 (Nat.le_refl _) _
    go_loopw [16] (fun i wr => ∃ k : Nat, k ≤ 64 ∧ i = .int .i64 k ∧ Blk wr w.heap.size 84 (bcells (xorF K m k)) ∧ Below w.heap.size w wr)
      (fun i _ => 64 - (intOf i).toNat)
    case atStart => exact ⟨0, by omega, rfl, j1, j2⟩
    case round =>
      clear j1 j2
      obtain ⟨k, hk, rfl, q1, q2⟩ := hrel
      by_cases hlk : k < 64
      · have hdk : decide ((k : Int) < 64) = true := decide_eq_true (by omega)
        have c0 := (q1.cell k).trans (bcells_get _ k (by rw [xorF_length, HKL.out]; omega))
        rw [xorF_get _ _ _ (by rw [HKL.out]; omega)] at c0
        have hs2 := xorF_succ K m k (by rw [HKL.out]; omega)
        obtain ⟨x, HX⟩ : ∃ x, Hid (K.getD k 0 = x) := ⟨_, Lib.hid rfl⟩
        rw [HX.out] at c0 hs2
        have HS2 := Lib.hid hs2
        have f0 := q1.frozen k
        have Q1 := Lib.hid q1
        have Q2 := Lib.hid q2
        clear hs2 q1 q2
        go_wp2_with fail
        go_roundw
        case rel =>
          have hx := Q1.out.set_ k (.int .u8 (((x ^^^ m).toNat : Nat) : Int))
          rw [bcells_set, HS2.out] at hx
          exact ⟨k + 1, by omega, by go_num, hx, Q2.out.setCell (p := ⟨w.heap.size, k, none⟩) (Nat.le_refl _) _⟩
        case measure => simp [intOf]; omega
      · have hdk : decide ((k : Int) < 64) = false := decide_eq_false (by omega)
        have ek : k = 64 := by omega
        rw [ek, ← HP.out] at q1
        have hpl := padK_length s.data.toList m
        have hcv := conv_bytes (P := Try.prog) Try.underlying43 Try.underlying5 Try.underlying9 wr ⟨w.heap.size, 0, none⟩ 64 64 (padK s.data.toList m) hpl (fun j hj => blk_bytes q1 j (by rw [hpl]; exact hj))
        have Q2 := Lib.hid q2
        clear q1 q2 hpl ek
        go_wp2_with fail
        go_ret
        exact ⟨rfl, Q2.out⟩
end Go.Proofs.Ytbofmfocnbennaa
