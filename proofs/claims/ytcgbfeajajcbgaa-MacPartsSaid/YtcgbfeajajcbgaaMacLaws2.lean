/- The laws MacParts, MacSteps, walked. -/
import Derived.Test.YtcgbfeajajcbgaaMacLaws
import Derived.Test.YtcgbfeajajcbgaaApp1
namespace Go.Proofs.Ytcgbfeajajcbgaa
open Go.RowKit
set_option linter.unusedVariables false
set_option linter.unusedSimpArgs false

theorem joinL_le (b : Nat) : ∀ ss : List ByteArray, (∀ s ∈ ss, s.size ≤ b) → (joinL ss).length ≤ b * ss.length
  | [], _ => by unfold joinL; simp
  | s :: ss, h => by
    have h1 := h s (by simp)
    have h2 := joinL_le b ss (fun x hx => h x (by simp [hx]))
    unfold joinL at h2 ⊢
    rw [List.flatMap_cons, List.length_append, data_length, List.length_cons, Nat.mul_add, Nat.mul_one]
    omega
/-- The first texts, each cut. -/
def cutL (m : Nat) (ss : List ByteArray) (k : Nat) : List ByteArray := (ss.take k).map (cutB · m)
theorem cutL_zero (m : Nat) (ss : List ByteArray) : cutL m ss 0 = [] := by unfold cutL; simp
theorem cutL_succ (m : Nat) (ss : List ByteArray) (k : Nat) (h : k < ss.length) : cutL m ss (k + 1) = cutL m ss k ++ [cutB (ss.getD k ByteArray.empty) m] := by
  unfold cutL
  rw [List.take_succ_eq_append_getElem h, List.map_append]
  simp [List.getD_eq_getElem?_getD, h]
theorem cutL_length (m : Nat) (ss : List ByteArray) (k : Nat) (h : k ≤ ss.length) : (cutL m ss k).length = k := by unfold cutL; simp; omega
theorem cutL_join (m : Nat) (ss : List ByteArray) (k : Nat) (h : k ≤ ss.length) : (joinL (cutL m ss k)).length ≤ m * k := by
  have := joinL_le m (cutL m ss k) (fun s hs => by
    unfold cutL at hs
    obtain ⟨x, _, rfl⟩ := List.mem_map.1 hs
    exact cutB_size x m)
  rw [cutL_length m ss k h] at this
  exact this
attribute [irreducible] cutL

set_option maxRecDepth 100000 in
set_option maxHeartbeats 1000000 in
theorem macParts_walk {w : World} (key : ByteArray) (hk : key.size ≤ reachBytes) (v : Value) (ss : List ByteArray) (hv : StrsIn w v ss) : Calls Try.prog 10 #[.string key, v] w fun e w' => e = .returned (.bool true) ∧ Below w.heap.size w w' := by
  obtain ⟨⟨A, c, rfl, hc, hs⟩, hl, hsm⟩ := hv
  have h1 := fun W => ccut03 key 500 500 rfl W (reach_le hk) (by omega)
  have hkz := cutB_size key 500
  obtain ⟨k0, HK⟩ : ∃ x, Hid (cutB key 500 = x) := ⟨_, Lib.hid rfl⟩
  simp only [HK.out] at h1 hkz
  have H1 := Lib.hid h1
  obtain ⟨n, HN⟩ : ∃ x, Hid (ss.length = x) := ⟨_, Lib.hid rfl⟩
  rw [HN.out] at hc hl
  have HS0 := Lib.hid hs
  have HSM := Lib.hid hsm
  have hn3 : (n : Int) ≤ 140737488355328 := by omega
  have hB0 := Below.refl w.heap.size w
  rw [HN.out]
  clear h1 hs hsm
  go_enter Try.func10, Try.ntmps10
  go_wp2_with fail
  (with_reducible refine (H1.out _).mono ?_); rintro e w1 ⟨rfl, rfl⟩
  go_wp2_with fail
  go_loopw [5, 6] (fun u i wr => ∃ (k : Nat), k ≤ n ∧ k ≤ 20 ∧ i = .int .i64 k ∧ SL wr w.heap.size 9 u ((cutL 500 ss k).map Value.string) ∧ Below w.heap.size w wr)
    (fun _ i _ => 20 - (intOf i).toNat)
  case atStart => exact ⟨0, by omega, by omega, rfl, by rw [cutL_zero]; exact SL.nil _ _ _, hB0⟩
  case round =>
    clear hB0
    obtain ⟨k, hk, hk8, rfl, hS, hb⟩ := hrel
    have hbs := hb.size
    have hll := cutL_length 500 ss k (by rw [HN.out]; omega)
    obtain ⟨A2, c2, rfl, hc2, hst⟩ := hS.sview
    rw [hll] at hS hc2
    rw [hll]
    by_cases hlk : k < n ∧ k < 20
    · obtain ⟨hlk, hl8⟩ := hlk
      have hdk : decide ((k : Int) < (n : Int)) = true := decide_eq_true (by omega)
      have hd8 : decide ((k : Int) < 20) = true := decide_eq_true (by omega)
      obtain ⟨g, o, ha, hg, hcl⟩ := (HS0.out.fresh hb) (by rw [HN.out]; omega)
      subst ha
      have hck := hcl k (by rw [HN.out]; exact hlk)
      have hsz := HSM.out (ss.getD k ByteArray.empty) (by rw [List.getD_eq_getElem?_getD, List.getElem?_eq_getElem (by rw [HN.out]; exact hlk)]; exact List.getElem_mem _)
      have hcs := cutL_succ 500 ss k (by rw [HN.out]; exact hlk)
      obtain ⟨s, HS⟩ : ∃ s, Hid (ss.getD k ByteArray.empty = s) := ⟨_, Lib.hid rfl⟩
      simp only [HS.out] at hck hsz hcs
      have h2 := fun W => ccut03 s 500 500 rfl W hsz (by omega)
      obtain ⟨y, HY⟩ : ∃ y, Hid (cutB s 500 = y) := ⟨_, Lib.hid rfl⟩
      simp only [HY.out] at h2 hcs
      have H2 := Lib.hid h2
      have HCS := Lib.hid hcs
      have HLL := Lib.hid hll
      have HSL := Lib.hid hS
      have HB := Lib.hid hb
      clear h2 hcs hcl hll hS hb hst
      go_wp2_with fail
      (with_reducible refine (H2.out _).mono ?_); rintro e w1 ⟨rfl, rfl⟩
      go_wp2_with (refine wpList_app1 Value.string (fun _ => rfl) str_elem rfl (.tmp 19) (.tmp 25) rfl w.heap.size A2 k c2 _ y _ HLL.out rfl HSL.out rfl _ rfl rfl (by omega) (by decide) hbs ?_; intro A3 c3 w3 hS3 hc3 hb3; dsimp only [Act.put])
      go_roundw
      case rel => exact ⟨k + 1, by omega, by omega, by go_num, by rw [HCS.out]; exact hS3, HB.out.trans hb3⟩
      case measure => simp [intOf]; omega
    · have hds : k = n ∨ k = 20 := by omega
      have hj := cutL_join 500 ss k (by rw [HN.out]; omega)
      have h3 := fun W (h : Strs W A2 (cutL 500 ss k)) => cTagL k0 A2 k c2 _ W hll h (by omega) (by omega) (by omega)
      have h4 := fun W (h : Strs W A2 (cutL 500 ss k)) => crJoin A2 k c2 _ W hll h (by omega) (by omega)
      have h5 := fun W => crTag k0 (str (joinL (cutL 500 ss k))) W (by omega) (by rw [str_size]; omega)
      rw [bytes_str] at h5
      obtain ⟨X, HX⟩ : ∃ X, Hid (str (tagL k0.data.toList (joinL (cutL 500 ss k))) = X) := ⟨_, Lib.hid rfl⟩
      obtain ⟨Y, HY⟩ : ∃ X, Hid (str (joinL (cutL 500 ss k)) = X) := ⟨_, Lib.hid rfl⟩
      simp only [HX.out, HY.out] at h3 h4 h5
      have H3 := Lib.hid h3
      have H4 := Lib.hid h4
      have H5 := Lib.hid h5
      have HB := Lib.hid hb
      have HST := Lib.hid hst
      clear h3 h4 h5 hll hj hS hb hst hlk
      rcases hds with hds | hds
      · have hdk : decide ((k : Int) < (n : Int)) = false := decide_eq_false (by omega)
        have hdI : (n : Int) ≤ (k : Int) := by omega
        clear hds
        go_wp2_with fail
        (with_reducible refine (H3.out _ HST.out).mono ?_); rintro e w1 ⟨rfl, hb1⟩
        go_wp2_with fail
        (with_reducible refine (H4.out _ (HST.out.fresh hb1)).mono ?_); rintro e w2 ⟨rfl, rfl⟩
        go_wp2_with fail
        (with_reducible refine (H5.out _).mono ?_); rintro e w2 ⟨rfl, hb2⟩
        go_wp2_with fail
        (with_reducible refine (cAwake03 _).mono ?_); rintro e w3 ⟨rfl, hb3⟩
        go_wp2_with fail
        go_ret
        have q1 := HB.out.trans (hb1.mono hbs)
        have q2 := q1.trans (hb2.mono q1.size)
        exact ⟨rfl, q2.trans (hb3.mono q2.size)⟩
      · have hd8 : decide ((k : Int) < 20) = false := decide_eq_false (by omega)
        have hd9 : (20 : Int) ≤ (k : Int) := by omega
        by_cases hkn : k < n
        · have hdk : decide ((k : Int) < (n : Int)) = true := decide_eq_true (by omega)
          clear hds
          go_wp2_with fail
          (with_reducible refine (H3.out _ HST.out).mono ?_); rintro e w1 ⟨rfl, hb1⟩
          go_wp2_with fail
          (with_reducible refine (H4.out _ (HST.out.fresh hb1)).mono ?_); rintro e w2 ⟨rfl, rfl⟩
          go_wp2_with fail
          (with_reducible refine (H5.out _).mono ?_); rintro e w2 ⟨rfl, hb2⟩
          go_wp2_with fail
          (with_reducible refine (cAwake03 _).mono ?_); rintro e w3 ⟨rfl, hb3⟩
          go_wp2_with fail
          go_ret
          have q1 := HB.out.trans (hb1.mono hbs)
          have q2 := q1.trans (hb2.mono q1.size)
          exact ⟨rfl, q2.trans (hb3.mono q2.size)⟩
        · have hdk : decide ((k : Int) < (n : Int)) = false := decide_eq_false (by omega)
          clear hds
          go_wp2_with fail
          (with_reducible refine (H3.out _ HST.out).mono ?_); rintro e w1 ⟨rfl, hb1⟩
          go_wp2_with fail
          (with_reducible refine (H4.out _ (HST.out.fresh hb1)).mono ?_); rintro e w2 ⟨rfl, rfl⟩
          go_wp2_with fail
          (with_reducible refine (H5.out _).mono ?_); rintro e w2 ⟨rfl, hb2⟩
          go_wp2_with fail
          (with_reducible refine (cAwake03 _).mono ?_); rintro e w3 ⟨rfl, hb3⟩
          go_wp2_with fail
          go_ret
          have q1 := HB.out.trans (hb1.mono hbs)
          have q2 := q1.trans (hb2.mono q1.size)
          exact ⟨rfl, q2.trans (hb3.mono q2.size)⟩

/-- A byte out of a number's lowest bits. -/
theorem b_and3 (n : Int) : bits .and .i64 n 3 = n % 4 := by
  have h1 := Int.emod_nonneg n (show (4 : Int) ≠ 0 by decide)
  have h2 := Int.emod_lt_of_pos n (show (0 : Int) < 4 by decide)
  have e : (BitVec.ofInt 64 n &&& BitVec.ofInt 64 3).toNat = (n % 4).toNat := by
    rw [BitVec.toNat_and, BitVec.toNat_ofInt]
    have e2 : (BitVec.ofInt 64 3).toNat = 2 ^ 2 - 1 := rfl
    rw [e2, Nat.and_two_pow_sub_one_eq_mod]
    omega
  rw [bits_and64, e]
  have e3 : (((n % 4).toNat : Nat) : Int) = n % 4 := by omega
  rw [e3]
  generalize n % 4 = m at *
  unfold wrap64
  omega
theorem xor_some (c : UInt8) (m : Int) (h0 : 0 ≤ m) (h1 : m < 256) : ∃ z : UInt8, bits .xor .u8 ((c.toNat : Nat) : Int) m = ((z.toNat : Nat) : Int) := by
  refine ⟨c ^^^ UInt8.ofNat m.toNat, ?_⟩
  rw [← b_xor8]
  congr 1
  simp
  omega

set_option maxRecDepth 100000 in
set_option maxHeartbeats 1000000 in
theorem macSteps_walk {w : World} (a : ByteArray) (ha : a.size ≤ reachBytes) (b : ByteArray) (hb : b.size ≤ reachBytes) (ci : Int) (hcw : (Lit.int .u8 ci).wf = true) : Calls Try.prog 13 #[.string a, .string b, .int .u8 ci] w fun e w' => e = .returned (.bool true) ∧ Below w.heap.size w w' := by
  have hci := wf_byte hcw
  obtain ⟨c, rfl⟩ : ∃ c : UInt8, ci = ((c.toNat : Nat) : Int) := ⟨UInt8.ofNat ci.toNat, by simp; omega⟩
  clear hci hcw
  have h1 := fun W => ccut03 a 5000 5000 rfl W (reach_le ha) (by omega)
  have h2 := fun W => ccut03 b 5000 5000 rfl W (reach_le hb) (by omega)
  have haz := cutB_size a 5000
  have hbz := cutB_size b 5000
  obtain ⟨x, HA⟩ : ∃ x, Hid (cutB a 5000 = x) := ⟨_, Lib.hid rfl⟩
  obtain ⟨y, HBB⟩ : ∃ x, Hid (cutB b 5000 = x) := ⟨_, Lib.hid rfl⟩
  simp only [HA.out] at h1 haz
  simp only [HBB.out] at h2 hbz
  have h3 := fun W => cEqual x y W (by omega) (by omega)
  have H1 := Lib.hid h1
  have H2 := Lib.hid h2
  have H3 := Lib.hid h3
  have hB0 := Below.refl w.heap.size w
  clear h1 h2 h3
  have hxI : (x.size : Int) ≤ 5000 := by omega
  have hyI : (y.size : Int) ≤ 5000 := by omega
  go_enter Try.func13, Try.ntmps13
  go_wp2_with fail
  (with_reducible refine (H1.out _).mono ?_); rintro e w1 ⟨rfl, rfl⟩
  go_wp2_with fail
  (with_reducible refine (H2.out _).mono ?_); rintro e w1 ⟨rfl, rfl⟩
  go_wp2_with fail
  go_loopw [7, 9] (fun u i wr => ∃ l : List UInt8, l.length ≤ x.size ∧ i = .int .i64 l.length ∧ SL wr w.heap.size 5 u (l.map bv) ∧ Below w.heap.size w wr)
    (fun _ i _ => x.size - (intOf i).toNat)
  case atStart => exact ⟨[], by simp, rfl, SL.nil _ _ _, hB0⟩
  case round =>
    clear hB0
    obtain ⟨l, hl, rfl, hS, hB⟩ := hrel
    have hbs := hB.size
    obtain ⟨k, HK⟩ : ∃ k, Hid (l.length = k) := ⟨_, Lib.hid rfl⟩
    obtain ⟨A2, c2, rfl, hc2⟩ := hS.open_
    rw [HK.out] at hS hc2 hl
    rw [HK.out]
    have HS := Lib.hid hS
    have HB := Lib.hid hB
    clear hS hB
    by_cases hlk : k < x.size
    · have hdk : decide ((k : Int) < (x.size : Int)) = true := decide_eq_true (by omega)
      go_wp2_with (refine wpList_app1 bv (fun _ => rfl) u8_elem rfl (.tmp 26) (.tmp 28) rfl w.heap.size A2 k c2 _ c _ HK.out rfl HS.out rfl _ rfl rfl (by omega) (by decide) hbs ?_; intro A3 c3 w3 hS3 hc3 hb3; dsimp only [Act.put])
      go_roundw
      case rel => exact ⟨l ++ [c], by rw [List.length_append, HK.out]; simp; omega, by rw [List.length_append, HK.out]; go_num, hS3, HB.out.trans hb3⟩
      case measure => simp [intOf]; omega
    · have hdk : decide ((k : Int) < (x.size : Int)) = false := decide_eq_false (by omega)
      have HKX : Hid (k = x.size) := Lib.hid (by omega)
      go_wp2_with fail
      have j1 := HS.out
      have j2 := HB.out
      obtain ⟨wo, rfl⟩ : ∃ wo : World, wo = wr := ⟨_, rfl⟩
      go_loopw [8, 10] (fun u i wr => ∃ m : List UInt8, m.length ≤ y.size ∧ i = .int .i64 m.length ∧ SL wr wo.heap.size 5 u (m.map bv) ∧ Below wo.heap.size wo wr)
        (fun _ i _ => y.size - (intOf i).toNat)
      case atStart => exact ⟨[], by simp, rfl, SL.nil _ _ _, Below.refl _ _⟩
      case round =>
        obtain ⟨q, hq, rfl, hS2, hB⟩ := hrel
        have hbs2 := hB.size
        obtain ⟨k2, HK2⟩ : ∃ k, Hid (q.length = k) := ⟨_, Lib.hid rfl⟩
        obtain ⟨A4, c4, rfl, hc4⟩ := hS2.open_
        rw [HK2.out] at hS2 hc4 hq
        rw [HK2.out]
        have HS2 := Lib.hid hS2
        have HB2 := Lib.hid hB
        clear hS2 hB
        by_cases hlk2 : k2 < y.size
        · have hdk2 : decide ((k2 : Int) < (y.size : Int)) = true := decide_eq_true (by omega)
          have hand : bits .and .i64 (k2 : Int) 3 = (k2 : Int) % 4 := b_and3 _
          obtain ⟨z, hz⟩ := xor_some c ((k2 : Int) % 4) (by omega) (by omega)
          clear j1 j2
          go_wp2_with (refine wpList_app1 bv (fun _ => rfl) u8_elem rfl (.tmp 36) (.tmp 42) rfl wo.heap.size A4 k2 c4 _ z _ HK2.out rfl HS2.out rfl _ rfl rfl (by omega) (by decide) hbs2 ?_; intro A3 c3 w3 hS3 hc3 hb3; dsimp only [Act.put])
          go_roundw
          case rel => exact ⟨q ++ [z], by rw [List.length_append, HK2.out]; simp; omega, by rw [List.length_append, HK2.out]; go_num, hS3, HB2.out.trans hb3⟩
          case measure => simp [intOf]; omega
        · have hdk2 : decide ((k2 : Int) < (y.size : Int)) = false := decide_eq_false (by omega)
          have hdI2 : (y.size : Int) ≤ (k2 : Int) := by omega
          have hcv1 := conv_sl (P := Try.prog) Try.underlying35 Try.underlying5 Try.underlying9 (HS.out.below HB2.out (Nat.le_refl _)) k (Nat.le_refl _)
          have hcv2 := conv_sl (P := Try.prog) Try.underlying35 Try.underlying5 Try.underlying9 HS2.out k2 (Nat.le_refl _)
          rw [List.take_of_length_le (by rw [HK.out]; omega)] at hcv1
          rw [List.take_of_length_le (by rw [HK2.out]; omega)] at hcv2
          have hz1 : (str l).size = x.size := by rw [str_size, HK.out, HKX.out]
          have hz2 : (str q).size = y.size := by rw [str_size, HK2.out]; omega
          obtain ⟨X, HX⟩ : ∃ X, Hid (str l = X) := ⟨_, Lib.hid rfl⟩
          obtain ⟨Y, HY⟩ : ∃ X, Hid (str q = X) := ⟨_, Lib.hid rfl⟩
          rw [HX.out] at hcv1 hz1
          rw [HY.out] at hcv2 hz2
          have h4 := fun W => cEqual X Y W (by omega) (by omega)
          rw [hz1, hz2] at h4
          obtain ⟨b1, HB1⟩ : ∃ b, Hid (decide (x = y) = b) := ⟨_, Lib.hid rfl⟩
          obtain ⟨b2, HB3⟩ : ∃ b, Hid (decide (X = Y) = b) := ⟨_, Lib.hid rfl⟩
          have h3 := H3.out
          simp only [HB1.out] at h3
          simp only [HB3.out] at h4
          have hq := j2.trans (HB2.out.mono hbs)
          clear j1 j2 hz1 hz2
          rcases Nat.lt_or_ge x.size y.size with hc | hc
          · have e1 : max x.size y.size = y.size := by omega
            have hcI : (x.size : Int) < (y.size : Int) := by omega
            simp only [e1] at h3 h4
            have H3' := Lib.hid h3
            have H4 := Lib.hid h4
            clear h3 h4 e1 hc
            go_wp2_with fail
            (with_reducible refine (H3'.out _).mono ?_); rintro e w1 ⟨rfl, rfl⟩
            go_wp2_with fail
            (with_reducible refine (H4.out _).mono ?_); rintro e w1 ⟨rfl, rfl⟩
            go_wp2_with fail
            (with_reducible refine (cAwake03 _).mono ?_); rintro e w3 ⟨rfl, hb3⟩
            go_wp2_with fail
            go_ret
            exact ⟨rfl, hq.trans (hb3.mono hq.size)⟩
          · have e1 : max x.size y.size = x.size := by omega
            have hcI : ¬ (x.size : Int) < (y.size : Int) := by omega
            simp only [e1] at h3 h4
            have H3' := Lib.hid h3
            have H4 := Lib.hid h4
            clear h3 h4 e1 hc
            go_wp2_with fail
            (with_reducible refine (H3'.out _).mono ?_); rintro e w1 ⟨rfl, rfl⟩
            go_wp2_with fail
            (with_reducible refine (H4.out _).mono ?_); rintro e w1 ⟨rfl, rfl⟩
            go_wp2_with fail
            (with_reducible refine (cAwake03 _).mono ?_); rintro e w3 ⟨rfl, hb3⟩
            go_wp2_with fail
            go_ret
            exact ⟨rfl, hq.trans (hb3.mono hq.size)⟩
end Go.Proofs.Ytcgbfeajajcbgaa
