/- The laws KdfExpands, KdfExtracts, KdfBegins, KdfMost, walked. -/
import Derived.Test.YtobelkpfncgmkaaKdfRef
import Derived.Test.YtobelkpfncgmkaaCut05
namespace Go.Proofs.Ytobelkpfncgmkaa
open Go.RowKit
set_option linter.unusedVariables false
set_option linter.unusedSimpArgs false

set_option maxRecDepth 100000 in
theorem cAwake05 (w : World) : Calls Try.prog 13 #[] w fun e w' => e = .returned (.bool true) ∧ Below w.heap.size w w' := by
  have h1 : ∀ W, Calls Try.prog 11 #[.string ⟨#[107]⟩, .string ⟨#[]⟩, .int .i64 0] W fun e w' => e = .returned (.tuple #[.string ⟨#[]⟩, .int .i64 0]) ∧ Below W.heap.size W w' := fun W => by
    refine (cExpand ⟨#[107]⟩ ⟨#[]⟩ 0 W (by decide) (by decide) (by omega)).mono ?_
    rintro e w' ⟨rfl, hb⟩
    exact ⟨by rw [expL_zero]; rfl, hb⟩
  have h2 : ∀ W, Calls Try.prog 11 #[.string ⟨#[107]⟩, .string ⟨#[120]⟩, .int .i64 40] W fun e w' => e = .returned (.tuple #[.string (str (expL [107] [120] 40)), .int .i64 0]) ∧ Below W.heap.size W w' := fun W => cExpand ⟨#[107]⟩ ⟨#[120]⟩ 40 W (by decide) (by decide) (by omega)
  have h3 : ∀ W, Calls Try.prog 11 #[.string ⟨#[107]⟩, .string ⟨#[120]⟩, .int .i64 32] W fun e w' => e = .returned (.tuple #[.string (str (expL [107] [120] 32)), .int .i64 0]) ∧ Below W.heap.size W w' := fun W => cExpand ⟨#[107]⟩ ⟨#[120]⟩ 32 W (by decide) (by decide) (by omega)
  have hx : (str (expL [107] [120] 40)).extract 0 32 = str (expL [107] [120] 32) := by
    apply ba_ext
    rw [← expL_take [107] [120] 32 40 (by omega), bytes_str]
    simp [str]
  have hz : (str (expL [107] [120] 40)).size = 40 := by rw [str_size, expL_length]
  obtain ⟨A, HA⟩ : ∃ X, Hid (str (expL [107] [120] 40) = X) := ⟨_, Lib.hid rfl⟩
  obtain ⟨B, HB⟩ : ∃ X, Hid (str (expL [107] [120] 32) = X) := ⟨_, Lib.hid rfl⟩
  simp only [HA.out, HB.out] at h2 h3 hx hz
  have hz1 : ((A.size : Int) == 40) = true := by simp; omega
  have hz2 : (32 : Int) ≤ (A.size : Int) := by omega
  have H1 := Lib.hid h1
  have H2 := Lib.hid h2
  have H3 := Lib.hid h3
  clear h1 h2 h3 hz
  go_enter Try.func13, Try.ntmps13
  go_wp2_with fail
  (with_reducible refine (H1.out _).mono ?_); rintro e w1 ⟨rfl, hb1⟩
  go_wp2_with fail
  (with_reducible refine (H2.out _).mono ?_); rintro e w2 ⟨rfl, hb2⟩
  go_wp2_with fail
  (with_reducible refine (H3.out _).mono ?_); rintro e w3 ⟨rfl, hb3⟩
  go_wp2_with fail
  go_ret
  have q2 := hb1.trans (hb2.mono hb1.size)
  exact ⟨rfl, q2.trans (hb3.mono q2.size)⟩

theorem kdfExtracts_walk (salt : ByteArray) (hs : salt.size ≤ reachBytes) (sec : ByteArray) (hc : sec.size ≤ reachBytes) {w : World} : Calls Try.prog 6 #[.string salt, .string sec] w fun e w' => e = .returned (.bool true) ∧ Below w.heap.size w w' := by
  have h1 := fun W => ccut05 salt 2000 2000 rfl W (reach_le hs) (by omega)
  have h2 := fun W => ccut05 sec 2000 2000 rfl W (reach_le hc) (by omega)
  have hz1 := cutB_size salt 2000
  have hz2 := cutB_size sec 2000
  obtain ⟨x, HX⟩ : ∃ x, Hid (cutB salt 2000 = x) := ⟨_, Lib.hid rfl⟩
  obtain ⟨y, HY⟩ : ∃ x, Hid (cutB sec 2000 = x) := ⟨_, Lib.hid rfl⟩
  simp only [HX.out, HY.out] at h1 h2 hz1 hz2
  have h3 := fun W => cExtract x y W (by omega) (by omega)
  have h4 := fun W => crTag x y W (by omega) (by omega)
  obtain ⟨T, HT⟩ : ∃ X, Hid (str (tagL x.data.toList y.data.toList) = X) := ⟨_, Lib.hid rfl⟩
  simp only [HT.out] at h3 h4
  have H1 := Lib.hid h1
  have H2 := Lib.hid h2
  have H3 := Lib.hid h3
  have H4 := Lib.hid h4
  clear h1 h2 h3 h4
  go_enter Try.func6, Try.ntmps6
  go_wp2_with fail
  (with_reducible refine (H1.out _).mono ?_); rintro e w1 ⟨rfl, rfl⟩
  go_wp2_with fail
  (with_reducible refine (H2.out _).mono ?_); rintro e w1 ⟨rfl, rfl⟩
  go_wp2_with fail
  (with_reducible refine (H3.out _).mono ?_); rintro e w1 ⟨rfl, hb1⟩
  go_wp2_with fail
  (with_reducible refine (H4.out _).mono ?_); rintro e w2 ⟨rfl, hb2⟩
  go_wp2_with fail
  (with_reducible refine (cAwake05 _).mono ?_); rintro e w3 ⟨rfl, hb3⟩
  go_wp2_with fail
  go_ret
  have q2 := hb1.trans (hb2.mono hb1.size)
  exact ⟨rfl, q2.trans (hb3.mono q2.size)⟩

theorem b_andP (n : Int) (p : Nat) (hp : p ≤ 62) (q : Int) (hq : q = 2 ^ p - 1) : bits .and .i64 n q = n % 2 ^ p := by
  have hpos : (0 : Int) < 2 ^ p := Int.pow_pos (by decide)
  have hpN : (2 : Nat) ^ p ≤ 2 ^ 62 := Nat.pow_le_pow_right (by decide) hp
  have hcast : ((2 ^ p : Nat) : Int) = 2 ^ p := by push_cast; rfl
  have h1 := Int.emod_nonneg n (show (2 : Int) ^ p ≠ 0 by omega)
  have h2 := Int.emod_lt_of_pos n hpos
  have hNpos : 1 ≤ (2 : Nat) ^ p := Nat.one_le_two_pow
  have e : (BitVec.ofInt 64 n &&& BitVec.ofInt 64 q).toNat = (n % 2 ^ p).toNat := by
    have e2 : (BitVec.ofInt 64 q).toNat = 2 ^ p - 1 := by
      rw [BitVec.toNat_ofInt, hq]
      have e5 : ((2 : Int) ^ p - 1) % ((2 ^ 64 : Nat) : Int) = 2 ^ p - 1 := Int.emod_eq_of_lt (by omega) (by rw [← hcast]; omega)
      rw [e5, ← hcast]; omega
    rw [BitVec.toNat_and, e2, Nat.and_two_pow_sub_one_eq_mod, BitVec.toNat_ofInt]
    have e3 : ((n % ((2 ^ 64 : Nat) : Int)).toNat % 2 ^ p : Nat) = (n % 2 ^ p).toNat := by
      have hd : ((2 : Int) ^ p) ∣ ((2 ^ 64 : Nat) : Int) := by
        rw [← hcast]; exact Int.ofNat_dvd.2 (Nat.pow_dvd_pow 2 (by omega))
      have h5 := Int.emod_nonneg n (show ((2 ^ 64 : Nat) : Int) ≠ 0 by decide)
      have e4 : (((n % ((2 ^ 64 : Nat) : Int)).toNat % 2 ^ p : Nat) : Int) = n % 2 ^ p := by
        rw [Int.natCast_emod, Int.toNat_of_nonneg h5, hcast, Int.emod_emod_of_dvd n hd]
      omega
    exact e3
  rw [bits_and64, e]
  have e3 : (((n % 2 ^ p).toNat : Nat) : Int) = n % 2 ^ p := by omega
  rw [e3]
  have h62 : (2 : Int) ^ p ≤ 4611686018427387904 := by rw [← hcast]; omega
  generalize n % 2 ^ p = m at *
  unfold wrap64
  omega

/-- Expand of both, for what a law asks. -/
theorem kdf_both (k i : ByteArray) (hk : k.size ≤ 1000) (hi : i.size ≤ 1000) (n : Int) : ∃ (X : ByteArray) (e : Int), (∀ W, Calls Try.prog 11 #[.string k, .string i, .int .i64 n] W fun e' w' => e' = .returned (.tuple #[.string X, .int .i64 e]) ∧ Below W.heap.size W w') ∧
    (∀ W, Calls Try.prog 12 #[.string k, .string i, .int .i64 n] W fun e' w' => e' = .returned (.tuple #[.string X, .int .i64 e]) ∧ Below W.heap.size W w') := by
  by_cases h : n < 0 ∨ 8160 < n
  · exact ⟨_, _, fun W => cExpand_no k i n W h, fun W => crExpand_no k i n W h⟩
  · obtain ⟨m, rfl⟩ : ∃ m : Nat, n = m := ⟨n.toNat, by omega⟩
    exact ⟨_, _, fun W => cExpand k i m W (by omega) (by omega) (by omega), fun W => crExpand k i m W (by omega) (by omega) (by omega)⟩
theorem kdfExpands_walk (key : ByteArray) (hk : key.size ≤ reachBytes) (info : ByteArray) (hi : info.size ≤ reachBytes) (n : Int) (hn : (Lit.int .i64 n).wf = true) {w : World} : Calls Try.prog 3 #[.string key, .string info, .int .i64 n] w fun e w' => e = .returned (.bool true) ∧ Below w.heap.size w w' := by
  have h1 := fun W => ccut05 key 1000 1000 rfl W (reach_le hk) (by omega)
  have h2 := fun W => ccut05 info 1000 1000 rfl W (reach_le hi) (by omega)
  have hz1 := cutB_size key 1000
  have hz2 := cutB_size info 1000
  obtain ⟨x, HX⟩ : ∃ x, Hid (cutB key 1000 = x) := ⟨_, Lib.hid rfl⟩
  obtain ⟨y, HY⟩ : ∃ x, Hid (cutB info 1000 = x) := ⟨_, Lib.hid rfl⟩
  simp only [HX.out, HY.out] at h1 h2 hz1 hz2
  have H1 := Lib.hid h1
  have H2 := Lib.hid h2
  clear h1 h2
  by_cases hm : 1000 < n ∧ n ≤ 8160
  · obtain ⟨hm1, hm2⟩ := hm
    have hand : bits .and .i64 n 1023 = n % 1024 := b_andP n 10 (by omega) 1023 (by decide)
    obtain ⟨T, e0, h3, h4⟩ := kdf_both x y hz1 hz2 (n % 1024)
    have H3 := Lib.hid h3
    have H4 := Lib.hid h4
    clear h3 h4
    go_enter Try.func3, Try.ntmps3
    go_wp2_with fail
    (with_reducible refine (H1.out _).mono ?_); rintro e w1 ⟨rfl, rfl⟩
    go_wp2_with fail
    (with_reducible refine (H2.out _).mono ?_); rintro e w1 ⟨rfl, rfl⟩
    go_wp2_with fail
    (with_reducible refine (H3.out _).mono ?_); rintro e w1 ⟨rfl, hb1⟩
    go_wp2_with fail
    (with_reducible refine (H4.out _).mono ?_); rintro e w2 ⟨rfl, hb2⟩
    go_wp2_with fail
    (with_reducible refine (cAwake05 _).mono ?_); rintro e w3 ⟨rfl, hb3⟩
    go_wp2_with fail
    go_ret
    have q2 := hb1.trans (hb2.mono hb1.size)
    exact ⟨rfl, q2.trans (hb3.mono q2.size)⟩
  · obtain ⟨T, e0, h3, h4⟩ := kdf_both x y hz1 hz2 n
    have H3 := Lib.hid h3
    have H4 := Lib.hid h4
    clear h3 h4
    rcases Int.lt_or_le 1000 n with hm1 | hm1
    · have hm2 : 8160 < n := by omega
      have hm3 : ¬ n ≤ 8160 := by omega
      clear hm
      go_enter Try.func3, Try.ntmps3
      go_wp2_with fail
      (with_reducible refine (H1.out _).mono ?_); rintro e w1 ⟨rfl, rfl⟩
      go_wp2_with fail
      (with_reducible refine (H2.out _).mono ?_); rintro e w1 ⟨rfl, rfl⟩
      go_wp2_with fail
      (with_reducible refine (H3.out _).mono ?_); rintro e w1 ⟨rfl, hb1⟩
      go_wp2_with fail
      (with_reducible refine (H4.out _).mono ?_); rintro e w2 ⟨rfl, hb2⟩
      go_wp2_with fail
      (with_reducible refine (cAwake05 _).mono ?_); rintro e w3 ⟨rfl, hb3⟩
      go_wp2_with fail
      go_ret
      have q2 := hb1.trans (hb2.mono hb1.size)
      exact ⟨rfl, q2.trans (hb3.mono q2.size)⟩
    · have hm2 : ¬ 1000 < n := by omega
      clear hm
      go_enter Try.func3, Try.ntmps3
      go_wp2_with fail
      (with_reducible refine (H1.out _).mono ?_); rintro e w1 ⟨rfl, rfl⟩
      go_wp2_with fail
      (with_reducible refine (H2.out _).mono ?_); rintro e w1 ⟨rfl, rfl⟩
      go_wp2_with fail
      (with_reducible refine (H3.out _).mono ?_); rintro e w1 ⟨rfl, hb1⟩
      go_wp2_with fail
      (with_reducible refine (H4.out _).mono ?_); rintro e w2 ⟨rfl, hb2⟩
      go_wp2_with fail
      (with_reducible refine (cAwake05 _).mono ?_); rintro e w3 ⟨rfl, hb3⟩
      go_wp2_with fail
      go_ret
      have q2 := hb1.trans (hb2.mono hb1.size)
      exact ⟨rfl, q2.trans (hb3.mono q2.size)⟩

theorem kdfBegins_walk (key : ByteArray) (hk : key.size ≤ reachBytes) (info : ByteArray) (hi : info.size ≤ reachBytes) (n : Int) (hn : (Lit.int .i64 n).wf = true) (m : Int) (hm : (Lit.int .i64 m).wf = true) {w : World} : Calls Try.prog 4 #[.string key, .string info, .int .i64 n, .int .i64 m] w fun e w' => e = .returned (.bool true) ∧ Below w.heap.size w w' := by
  have h1 := fun W => ccut05 key 500 500 rfl W (reach_le hk) (by omega)
  have h2 := fun W => ccut05 info 500 500 rfl W (reach_le hi) (by omega)
  have hz1 := cutB_size key 500
  have hz2 := cutB_size info 500
  obtain ⟨x, HX⟩ : ∃ x, Hid (cutB key 500 = x) := ⟨_, Lib.hid rfl⟩
  obtain ⟨y, HY⟩ : ∃ x, Hid (cutB info 500 = x) := ⟨_, Lib.hid rfl⟩
  simp only [HX.out, HY.out] at h1 h2 hz1 hz2
  have handn : bits .and .i64 n 511 = n % 512 := b_andP n 9 (by omega) 511 (by decide)
  have handm : bits .and .i64 m 511 = m % 512 := b_andP m 9 (by omega) 511 (by decide)
  obtain ⟨i, hi2⟩ : ∃ i : Nat, n % 512 = i := ⟨(n % 512).toNat, by omega⟩
  obtain ⟨j, hj2⟩ : ∃ i : Nat, m % 512 = i := ⟨(m % 512).toNat, by omega⟩
  have hi3 : i ≤ 511 := by omega
  have hj3 : j ≤ 511 := by omega
  rw [hi2] at handn
  rw [hj2] at handm
  have h3 := fun W => cExpand x y i W (by omega) (by omega) (by omega)
  have h4 := fun W => cExpand x y (i + j) W (by omega) (by omega) (by omega)
  have hx : (str (expL x.data.toList y.data.toList (i + j))).extract 0 i = str (expL x.data.toList y.data.toList i) := by
    apply ba_ext
    rw [← expL_take x.data.toList y.data.toList i (i + j) (by omega), bytes_str]
    simp [str]
  have ha : (str (expL x.data.toList y.data.toList i)).size = i := by rw [str_size, expL_length]
  have hb : (str (expL x.data.toList y.data.toList (i + j))).size = i + j := by rw [str_size, expL_length]
  obtain ⟨A, HA⟩ : ∃ X, Hid (str (expL x.data.toList y.data.toList i) = X) := ⟨_, Lib.hid rfl⟩
  obtain ⟨B, HB⟩ : ∃ X, Hid (str (expL x.data.toList y.data.toList (i + j)) = X) := ⟨_, Lib.hid rfl⟩
  simp only [HA.out, HB.out] at h3 h4 hx ha hb
  have hij : (((i + j : Nat) : Nat) : Int) = (i : Int) + (j : Int) := by omega
  simp only [hij] at h4
  have ea : ((A.size : Int) == (i : Int)) = true := by simp; omega
  have eb : ((B.size : Int) == (i : Int) + (j : Int)) = true := by simp; omega
  have hle : (i : Int) ≤ (B.size : Int) := by omega
  have H1 := Lib.hid h1
  have H2 := Lib.hid h2
  have H3 := Lib.hid h3
  have H4 := Lib.hid h4
  clear h1 h2 h3 h4 hi2 hj2 ha hb hij
  go_enter Try.func4, Try.ntmps4
  go_wp2_with fail
  (with_reducible refine (H1.out _).mono ?_); rintro e w1 ⟨rfl, rfl⟩
  go_wp2_with fail
  (with_reducible refine (H2.out _).mono ?_); rintro e w1 ⟨rfl, rfl⟩
  go_wp2_with fail
  (with_reducible refine (H3.out _).mono ?_); rintro e w1 ⟨rfl, hb1⟩
  go_wp2_with fail
  (with_reducible refine (H4.out _).mono ?_); rintro e w2 ⟨rfl, hb2⟩
  go_wp2_with fail
  (with_reducible refine (cAwake05 _).mono ?_); rintro e w3 ⟨rfl, hb3⟩
  go_wp2_with fail
  go_ret
  have q2 := hb1.trans (hb2.mono hb1.size)
  exact ⟨rfl, q2.trans (hb3.mono q2.size)⟩

set_option maxRecDepth 100000 in
theorem kdfMost_walk (key : ByteArray) (hk : key.size ≤ reachBytes) (info : ByteArray) (hi : info.size ≤ reachBytes) {w : World} : Calls Try.prog 5 #[.string key, .string info] w fun e w' => e = .returned (.bool true) ∧ Below w.heap.size w w' := by
  have h1 := fun W => ccut05 key 100 100 rfl W (reach_le hk) (by omega)
  have h2 := fun W => ccut05 info 20 20 rfl W (reach_le hi) (by omega)
  have hz1 := cutB_size key 100
  have hz2 := cutB_size info 20
  obtain ⟨x, HX⟩ : ∃ x, Hid (cutB key 100 = x) := ⟨_, Lib.hid rfl⟩
  obtain ⟨y, HY⟩ : ∃ x, Hid (cutB info 20 = x) := ⟨_, Lib.hid rfl⟩
  simp only [HX.out, HY.out] at h1 h2 hz1 hz2
  have h3 : ∀ W, Calls Try.prog 11 #[.string x, .string y, .int .i64 8160] W fun e w' => e = .returned (.tuple #[.string (str (expL x.data.toList y.data.toList 8160)), .int .i64 0]) ∧ Below W.heap.size W w' := fun W => cExpand x y 8160 W (by omega) (by omega) (by omega)
  have h4 := fun W => cExpand_no x y 8161 W (.inr (by omega))
  have h5 := fun W => cExpand_no x y (-1) W (.inl (by omega))
  have ha : (str (expL x.data.toList y.data.toList 8160)).size = 8160 := by rw [str_size, expL_length]
  have hp1 := expL_part x.data.toList y.data.toList 253 8160 (by omega)
  have hp2 := expL_part x.data.toList y.data.toList 254 8160 (by omega)
  have e1 : (str (expL x.data.toList y.data.toList 8160)).extract 8096 8128 = str (tK x.data.toList y.data.toList 254) := by
    apply ba_ext
    rw [bytes_str, ← hp1]
    simp [str, List.take_drop]
  have e2 : (str (expL x.data.toList y.data.toList 8160)).extract 8128 8160 = str (tK x.data.toList y.data.toList 255) := by
    apply ba_ext
    rw [bytes_str, ← hp2]
    simp [str, List.take_drop]
  have hz3 := tK_le x.data.toList y.data.toList 254
  have h6 := fun W => crTag x (str (tK x.data.toList y.data.toList 254) ++ y ++ ⟨#[255]⟩) W (by omega) (by rw [ByteArray.size_append, ByteArray.size_append, str_size]; have : (⟨#[255]⟩ : ByteArray).size = 1 := rfl; omega)
  have e3 : (str (tK x.data.toList y.data.toList 254) ++ y ++ ⟨#[255]⟩).data.toList = tK x.data.toList y.data.toList 254 ++ y.data.toList ++ be ((254 + 1 : Nat) : Int) 1 := by
    rw [ByteArray.data_append, ByteArray.data_append, Array.toList_append, Array.toList_append, bytes_str, be_succ, be_zero]
    have : nb ((254 + 1 : Nat) : Int) 0 = 255 := by
      apply UInt8.toNat_inj.1
      have := nb_val ((254 + 1 : Nat) : Int) 0
      have e : (((254 + 1 : Nat) : Int) / 256 ^ 0 % 256) = 255 := by decide
      rw [e] at this
      have e9 : (255 : UInt8).toNat = 255 := rfl
      omega
    rw [this]
  rw [e3, ← tK_succ] at h6
  obtain ⟨A, HA⟩ : ∃ X, Hid (str (expL x.data.toList y.data.toList 8160) = X) := ⟨_, Lib.hid rfl⟩
  obtain ⟨T, HT⟩ : ∃ X, Hid (str (tK x.data.toList y.data.toList 254) = X) := ⟨_, Lib.hid rfl⟩
  obtain ⟨L, HL⟩ : ∃ X, Hid (str (tK x.data.toList y.data.toList 255) = X) := ⟨_, Lib.hid rfl⟩
  have hzT : (T.size : Int) ≤ 32 := by rw [← HT.out, str_size]; omega
  have hyI : (y.size : Int) ≤ 20 := by omega
  simp only [HA.out] at h3 ha e1 e2
  simp only [HT.out] at e1 h6
  simp only [HL.out] at e2 h6
  have ea : ((A.size : Int) != 8160) = false := by simp; omega
  have hge1 : (8160 : Int) ≤ (A.size : Int) := by omega
  have hge3 : (8128 : Int) ≤ (A.size : Int) := by omega
  have hge2 : (A.size : Int) ≤ 8160 := by omega
  rw [← ha] at e2
  have H1 := Lib.hid h1
  have H2 := Lib.hid h2
  have H3 := Lib.hid h3
  have H4 := Lib.hid h4
  have H5 := Lib.hid h5
  have H6 := Lib.hid h6
  clear h1 h2 h3 h4 h5 h6 ha e3 hp1 hp2
  go_enter Try.func5, Try.ntmps5
  go_wp2_with fail
  (with_reducible refine (H1.out _).mono ?_); rintro e w1 ⟨rfl, rfl⟩
  go_wp2_with fail
  (with_reducible refine (H2.out _).mono ?_); rintro e w1 ⟨rfl, rfl⟩
  go_wp2_with fail
  (with_reducible refine (H3.out _).mono ?_); rintro e w1 ⟨rfl, hb1⟩
  go_wp2_with fail
  (with_reducible refine (H4.out _).mono ?_); rintro e w2 ⟨rfl, hb2⟩
  go_wp2_with fail
  (with_reducible refine (H5.out _).mono ?_); rintro e w3 ⟨rfl, hb3⟩
  go_wp2_with fail
  (with_reducible refine (H6.out _).mono ?_); rintro e w4 ⟨rfl, hb4⟩
  go_wp2_with fail
  (with_reducible refine (cAwake05 _).mono ?_); rintro e w5 ⟨rfl, hb5⟩
  go_wp2_with fail
  go_ret
  have q2 := hb1.trans (hb2.mono hb1.size)
  have q3 := q2.trans (hb3.mono q2.size)
  have q4 := q3.trans (hb4.mono q3.size)
  exact ⟨rfl, q4.trans (hb5.mono q4.size)⟩
end Go.Proofs.Ytobelkpfncgmkaa
