/- The laws MerkleSums, MerkleRoots, MerkleProofs, MerkleWays, walked. -/
import Derived.Test.YtkggpimminnniaaMerkAwake
import Derived.Test.YtkggpimminnniaaRefProof
import Derived.Test.YtkggpimminnniaaRefWay
import Derived.Test.YtkggpimminnniaaRefUp
namespace Go.Proofs.Ytkggpimminnniaa
open Go.RowKit
set_option linter.unusedVariables false
set_option linter.unusedSimpArgs false

theorem bits_and_mask (k : Nat) (hk : k < 63) (n M : Int) (hM : M = ((2 ^ k - 1 : Nat) : Int)) : bits .and .i64 n M = n % ((2 ^ k : Nat) : Int) := by
  subst hM
  have hp := Nat.one_le_two_pow (n := k)
  have hp63 : 2 ^ k ≤ 2 ^ 62 := Nat.pow_le_pow_right (by decide) (by omega)
  have h62 : (2 : Nat) ^ 62 = 4611686018427387904 := by decide
  obtain ⟨q, hq⟩ : ∃ q, 2 ^ k = q := ⟨_, rfl⟩
  have h1 := Int.emod_nonneg n (show ((q : Nat) : Int) ≠ 0 by omega)
  have h2 := Int.emod_lt_of_pos n (show (0 : Int) < ((q : Nat) : Int) by omega)
  have e : (BitVec.ofInt 64 n &&& BitVec.ofInt 64 ((2 ^ k - 1 : Nat) : Int)).toNat = (n % ((2 ^ k : Nat) : Int)).toNat := by
    rw [BitVec.toNat_and, BitVec.toNat_ofInt]
    have e2 : (BitVec.ofInt 64 ((2 ^ k - 1 : Nat) : Int)).toNat = 2 ^ k - 1 := by
      rw [BitVec.toNat_ofInt]; omega
    rw [e2, Nat.and_two_pow_sub_one_eq_mod]
    have hd : ((2 ^ k : Nat) : Int) ∣ ((2 ^ 64 : Nat) : Int) := by
      rw [Int.natCast_dvd_natCast]; exact Nat.pow_dvd_pow 2 (by omega)
    have e3 : (((n % ((2 ^ 64 : Nat) : Int)).toNat : Nat) : Int) = n % ((2 ^ 64 : Nat) : Int) := Int.toNat_of_nonneg (Int.emod_nonneg _ (by decide))
    have e4 : (((n % ((2 ^ 64 : Nat) : Int)).toNat % 2 ^ k : Nat) : Int) = n % ((2 ^ k : Nat) : Int) := by
      rw [Int.natCast_emod, e3, Int.emod_emod_of_dvd _ hd]
    omega
  rw [bits_and64, e]
  rw [hq]
  rw [hq] at hp63
  have e3 : (((n % ((q : Nat) : Int)).toNat : Nat) : Int) = n % ((q : Nat) : Int) := by omega
  rw [e3]
  generalize n % ((q : Nat) : Int) = m at *
  unfold wrap64
  omega
theorem and_1023 (n : Int) : bits .and .i64 n 1023 = n % 1024 := bits_and_mask 10 (by decide) n 1023 (by decide)
theorem and_4095 (n : Int) : bits .and .i64 n 4095 = n % 4096 := bits_and_mask 12 (by decide) n 4095 (by decide)
theorem and_40 (n : Int) : bits .and .i64 n 1099511627775 = n % 1099511627776 := bits_and_mask 40 (by decide) n 1099511627775 (by decide)

theorem merkleRoots_walk {w : World} (k : Int) (hk : (Lit.int .i64 k).wf = true) (v : Value) (ss : List ByteArray) (hv : StrsIn w v ss) (n : Int) (hn : (Lit.int .i64 n).wf = true) :
    Calls Try.prog 4 #[.int .i64 k, v, .int .i64 n] w fun e w' => e = .returned (.bool true) ∧ Below w.heap.size w w' := by
  have h0 := cFewV hv
  have ha := and_1023 n
  have hm1 := Int.emod_nonneg n (show (1024 : Int) ≠ 0 by decide)
  have hm2 := Int.emod_lt_of_pos n (show (0 : Int) < 1024 by decide)
  obtain ⟨m, hm⟩ : ∃ m : Nat, n % 1024 = (m : Int) := ⟨(n % 1024).toNat, by omega⟩
  rw [hm] at ha hm1 hm2
  have h1 := fun W => cCut m W (by omega)
  have h2 := fun W => crCut m W (by omega)
  have H0 := Lib.hid h0
  have H1 := Lib.hid h1
  have H2 := Lib.hid h2
  clear h0 h1 h2 hv hm
  go_enter Try.func4, Try.ntmps4
  go_wp2_with fail
  (with_reducible refine H0.out.mono ?_); rintro e w1 ⟨A, q, c, l, rfl, hl, hs, hqc, hq, hz, rfl⟩
  have h3 := fun W h => cRoot k q A c l W hl h hqc (by omega) (fun s hs => by have := hz s hs; omega)
  have h4 := fun W h => crRoot k q A c l W hl h hqc (by omega) (fun s hs => by have := hz s hs; omega)
  obtain ⟨X, HX⟩ : ∃ x, Hid (root (wd k) l = x) := ⟨_, Lib.hid rfl⟩
  simp only [HX.out] at h3 h4
  have H3 := Lib.hid h3
  have H4 := Lib.hid h4
  have HS := Lib.hid hs
  have hxx : (X.toList == X.toList) = true := beq_self_eq_true _
  clear h3 h4 hs hz
  go_wp2_with fail
  (with_reducible refine (H3.out _ HS.out).mono ?_); rintro e w1 ⟨rfl, hb1⟩
  go_wp2_with fail
  (with_reducible refine (H4.out _ (HS.out.fresh hb1)).mono ?_); rintro e w2 ⟨rfl, hb2⟩
  have hB2 := hb1.trans (hb2.mono hb1.size)
  clear hb1 hb2
  go_wp2_with fail
  (with_reducible refine (H1.out _).mono ?_); rintro e w3 ⟨rfl, rfl⟩
  go_wp2_with fail
  (with_reducible refine (H2.out _).mono ?_); rintro e w3 ⟨rfl, rfl⟩
  go_wp2_with fail
  (with_reducible refine (cAwake15 _).mono ?_); rintro e w4 ⟨rfl, hb4⟩
  go_wp2_with fail
  go_ret
  exact ⟨rfl, hB2.trans (hb4.mono hB2.size)⟩

theorem merkleProofs_walk {w : World} (k : Int) (hk : (Lit.int .i64 k).wf = true) (i : Int) (hi : (Lit.int .i64 i).wf = true) (v : Value) (ss : List ByteArray) (hv : StrsIn w v ss) :
    Calls Try.prog 5 #[.int .i64 k, .int .i64 i, v] w fun e w' => e = .returned (.bool true) ∧ Below w.heap.size w w' := by
  have h0 := cFewV hv
  have H0 := Lib.hid h0
  clear h0 hv
  go_enter Try.func5, Try.ntmps5
  go_wp2_with fail
  (with_reducible refine H0.out.mono ?_); rintro e w1 ⟨A, q, c, l, rfl, hl, hs, hqc, hq, hz, rfl⟩
  by_cases hin : i < 0 ∨ (q : Int) ≤ i
  · have h3 := fun W => cProof_no k i A q c W hin (by omega)
    have H3 := Lib.hid h3
    have HS := Lib.hid hs
    have hinB : (decide (i < 0) = true ∨ (decide (i < 0) = false ∧ decide ((q : Int) ≤ i) = true)) := by
      by_cases h : i < 0
      · exact .inl (decide_eq_true h)
      · exact .inr ⟨decide_eq_false h, decide_eq_true (by omega)⟩
    clear h3 hs hz
    go_wp2_with fail
    (with_reducible refine (H3.out _).mono ?_); rintro e w1 ⟨rfl, hb1⟩
    rcases hinB with hd | ⟨hd, hd2⟩
    · go_wp2_with fail
      (with_reducible refine (cAwake15 _).mono ?_); rintro e w4 ⟨rfl, hb4⟩
      go_wp2_with fail
      go_ret
      exact ⟨rfl, hb1.trans (hb4.mono hb1.size)⟩
    · go_wp2_with fail
      (with_reducible refine (cAwake15 _).mono ?_); rintro e w4 ⟨rfl, hb4⟩
      go_wp2_with fail
      go_ret
      exact ⟨rfl, hb1.trans (hb4.mono hb1.size)⟩
  · obtain ⟨j, rfl⟩ : ∃ j : Nat, i = (j : Int) := ⟨i.toNat, by omega⟩
    have hj : j < q := by omega
    have h3 := fun W h => cProof k A q c j l W hl h hqc (by omega) (fun s hs => by have := hz s hs; omega) hj
    have h4 := fun W h => crProof k q j A c l W hl h hqc (by omega) (fun s hs => by have := hz s hs; omega) hj
    have hlen : (proof (wd k) j l).length ≤ 61 := (way_proof (wd k) q j l hl hj).1 ▸ way_bits 61 j q (by omega)
    obtain ⟨P, HP⟩ : ∃ x, Hid (proof (wd k) j l = x) := ⟨_, Lib.hid rfl⟩
    simp only [HP.out] at h3 h4 hlen
    have H3 := Lib.hid h3
    have H4 := Lib.hid h4
    have HS := Lib.hid hs
    have g1 : ¬ (j : Int) < 0 := by omega
    have g2 : ¬ (q : Int) ≤ (j : Int) := by omega
    clear h3 h4 hs hz hin hi
    go_wp2_with fail
    (with_reducible refine (H3.out _ HS.out).mono ?_); rintro e w1 ⟨A1, c1, rfl, hc1, hs1, hb1⟩
    go_wp2_with fail
    (with_reducible refine (H4.out _ (HS.out.fresh hb1)).mono ?_); rintro e w2 ⟨A2, c2, rfl, hc2, hs2, hb2⟩
    have h5 := cSame A1 A2 P.length P.length c1 c2 P P w2 rfl rfl (hs1.fresh hb2) (Strs.of_sl hs2) (by omega) (by omega)
    rw [decide_eq_true rfl] at h5
    have H5 := Lib.hid h5
    have hB2 := hb1.trans (hb2.mono hb1.size)
    clear h5 hb1 hb2 hs1 hs2
    go_wp2_with fail
    (with_reducible refine H5.out.mono ?_); rintro e w3 ⟨rfl, hb3⟩
    have hB3 := hB2.trans (hb3.mono hB2.size)
    clear hB2 hb3
    go_wp2_with fail
    (with_reducible refine (cAwake15 _).mono ?_); rintro e w4 ⟨rfl, hb4⟩
    go_wp2_with fail
    go_ret
    exact ⟨rfl, hB3.trans (hb4.mono hB3.size)⟩

theorem merkleSums_walk {w : World} (k : Int) (hk : (Lit.int .i64 k).wf = true) (a : ByteArray) (ha : a.size ≤ reachBytes) (b : ByteArray) (hb : b.size ≤ reachBytes) :
    Calls Try.prog 3 #[.int .i64 k, .string a, .string b] w fun e w' => e = .returned (.bool true) ∧ Below w.heap.size w w' := by
  have hra : a.size ≤ 140737488355328 := by unfold reachBytes at ha; omega
  have hrb : b.size ≤ 140737488355328 := by unfold reachBytes at hb; omega
  clear ha hb
  by_cases h1 : a.size ≤ 5000
  · by_cases h2 : b.size ≤ 5000
    · have c1 := fun W => cWidth k W
      have c2 := fun W => crWidth k W
      have c3 := fun W => cMSum2 k a b W (by omega)
      have c4 := fun W => crMSum k (a ++ b) W (by rw [ByteArray.size_append]; omega)
      have c5 := fun W => cLeaf k a W (by omega)
      have c6 := fun W => crLeaf k a W (by omega)
      have c7 := fun W => cNode k a b W (by omega) (by omega)
      have c8 := fun W => crNode k a b W (by omega) (by omega)
      obtain ⟨x, HX⟩ : ∃ x, Hid (msum (wd k) (a ++ b) = x) := ⟨_, Lib.hid rfl⟩
      obtain ⟨y, HY⟩ : ∃ x, Hid (mleaf (wd k) a = x) := ⟨_, Lib.hid rfl⟩
      obtain ⟨z, HZ⟩ : ∃ x, Hid (mnode (wd k) a b = x) := ⟨_, Lib.hid rfl⟩
      obtain ⟨d, HD⟩ : ∃ x, Hid (wd k = x) := ⟨_, Lib.hid rfl⟩
      simp only [HX.out] at c3 c4
      simp only [HY.out] at c5 c6
      simp only [HZ.out] at c7 c8
      simp only [HD.out] at c1 c2
      have C1 := Lib.hid c1
      have C2 := Lib.hid c2
      have C3 := Lib.hid c3
      have C4 := Lib.hid c4
      have C5 := Lib.hid c5
      have C6 := Lib.hid c6
      have C7 := Lib.hid c7
      have C8 := Lib.hid c8
      have hx : (x.toList == x.toList) = true := beq_self_eq_true _
      have hy : (y.toList == y.toList) = true := beq_self_eq_true _
      have hz : (z.toList == z.toList) = true := beq_self_eq_true _
      have hI1 : (a.size : Int) ≤ 5000 := by omega
      have hI2 : (b.size : Int) ≤ 5000 := by omega
      clear c1 c2 c3 c4 c5 c6 c7 c8
      go_enter Try.func3, Try.ntmps3
      go_wp2_with fail
      (with_reducible refine (C1.out _).mono ?_); rintro e w1 ⟨rfl, rfl⟩
      go_wp2_with fail
      (with_reducible refine (C2.out _).mono ?_); rintro e w1 ⟨rfl, rfl⟩
      go_wp2_with fail
      (with_reducible refine (C3.out _).mono ?_); rintro e w1 ⟨rfl, hb1⟩
      go_wp2_with fail
      (with_reducible refine (C4.out _).mono ?_); rintro e w2 ⟨rfl, hb2⟩
      replace hb1 := hb1.trans (hb2.mono hb1.size); clear hb2
      go_wp2_with fail
      (with_reducible refine (C5.out _).mono ?_); rintro e w3 ⟨rfl, hb2⟩
      replace hb1 := hb1.trans (hb2.mono hb1.size); clear hb2
      go_wp2_with fail
      (with_reducible refine (C6.out _).mono ?_); rintro e w4 ⟨rfl, hb2⟩
      replace hb1 := hb1.trans (hb2.mono hb1.size); clear hb2
      go_wp2_with fail
      (with_reducible refine (C7.out _).mono ?_); rintro e w5 ⟨rfl, hb2⟩
      replace hb1 := hb1.trans (hb2.mono hb1.size); clear hb2
      go_wp2_with fail
      (with_reducible refine (C8.out _).mono ?_); rintro e w6 ⟨rfl, hb2⟩
      replace hb1 := hb1.trans (hb2.mono hb1.size); clear hb2
      go_wp2_with fail
      (with_reducible refine (cAwake15 _).mono ?_); rintro e w7 ⟨rfl, hb2⟩
      replace hb1 := hb1.trans (hb2.mono hb1.size); clear hb2
      go_wp2_with fail
      go_ret
      exact ⟨rfl, hb1⟩
    · have hI1 : ¬ (5000 : Int) < (a.size : Int) := by omega
      have hI2 : (5000 : Int) < (b.size : Int) := by omega
      go_enter Try.func3, Try.ntmps3
      go_wp2_with fail
      (with_reducible refine (cAwake15 _).mono ?_); rintro e w7 ⟨rfl, hb2⟩
      go_wp2_with fail
      go_ret
      exact ⟨rfl, hb2⟩
  · have hI1 : (5000 : Int) < (a.size : Int) := by omega
    go_enter Try.func3, Try.ntmps3
    go_wp2_with fail
    (with_reducible refine (cAwake15 _).mono ?_); rintro e w7 ⟨rfl, hb2⟩
    go_wp2_with fail
    go_ret
    exact ⟨rfl, hb2⟩

/-- Two ways, whatever the numbers are. -/
def wayI (i n : Int) : List Bool := if n ≤ 1 ∨ i < 0 ∨ n ≤ i then [] else way i.toNat n.toNat
theorem cWayI (i n : Int) (W : World) (hn : n ≤ 2305843009213693952) : Calls Try.prog 31 #[.int .i64 i, .int .i64 n] W fun e W' => ∃ A c, e = .returned (.slice A (wayI i n).length c) ∧ Reads W' W'.heap.size 1 A (wayI i n).length ((wayI i n).map Value.bool) ∧ Below W.heap.size W W' := by
  unfold wayI
  by_cases h : n ≤ 1 ∨ i < 0 ∨ n ≤ i
  · rw [if_pos h]
    refine (cWay_no i n W h).mono ?_
    rintro e w' ⟨rfl, rfl⟩
    exact ⟨none, 0, rfl, Reads.none_, Below.refl _ _⟩
  · rw [if_neg h]
    obtain ⟨j, rfl⟩ : ∃ j : Nat, i = (j : Int) := ⟨i.toNat, by omega⟩
    obtain ⟨m, rfl⟩ : ∃ m : Nat, n = (m : Int) := ⟨n.toNat, by omega⟩
    rw [Int.toNat_natCast, Int.toNat_natCast]
    refine (cWay m j W (by omega) (by omega)).mono ?_
    rintro e w' ⟨v, rfl, hS, hb⟩
    obtain ⟨A, c, rfl, hc⟩ := hS.open_
    have := hS.reads
    rw [List.length_map] at this
    exact ⟨A, c, rfl, this, hb⟩
theorem crWayI (i n : Int) (W : World) (hn : n ≤ 2305843009213693952) : Calls Try.prog 32 #[.int .i64 i, .int .i64 n] W fun e W' => ∃ A c, e = .returned (.slice A (wayI i n).length c) ∧ Reads W' W'.heap.size 1 A (wayI i n).length ((wayI i n).map Value.bool) ∧ Below W.heap.size W W' := by
  unfold wayI
  by_cases h : n ≤ 1 ∨ i < 0 ∨ n ≤ i
  · rw [if_pos h]
    refine (crWay_no i n W h).mono ?_
    rintro e w' ⟨rfl, rfl⟩
    exact ⟨none, 0, rfl, Reads.none_, Below.refl _ _⟩
  · rw [if_neg h]
    obtain ⟨j, rfl⟩ : ∃ j : Nat, i = (j : Int) := ⟨i.toNat, by omega⟩
    obtain ⟨m, rfl⟩ : ∃ m : Nat, n = (m : Int) := ⟨n.toNat, by omega⟩
    rw [Int.toNat_natCast, Int.toNat_natCast]
    refine (crWay m j W (by omega) (by omega)).mono ?_
    rintro e w' ⟨v, rfl, hS, hb⟩
    obtain ⟨A, c, rfl, hc⟩ := hS.open_
    have := hS.reads
    rw [List.length_map] at this
    exact ⟨A, c, rfl, this, hb⟩
theorem wayI_le (i n : Int) (hn : n ≤ 2305843009213693952) : (wayI i n).length ≤ 61 := by
  unfold wayI
  split
  · simp
  · exact way_bits 61 _ _ (by omega)
attribute [irreducible] wayI

set_option maxRecDepth 100000 in
theorem merkleWays_walk {w : World} (i : Int) (hi : (Lit.int .i64 i).wf = true) (n : Int) (hn : (Lit.int .i64 n).wf = true) :
    Calls Try.prog 7 #[.int .i64 i, .int .i64 n] w fun e w' => e = .returned (.bool true) ∧ Below w.heap.size w w' := by
  have ha := and_40 n
  have hm1 := Int.emod_nonneg n (show (1099511627776 : Int) ≠ 0 by decide)
  have hm2 := Int.emod_lt_of_pos n (show (0 : Int) < 1099511627776 by decide)
  obtain ⟨m, hm⟩ : ∃ m : Int, n % 1099511627776 = m := ⟨_, rfl⟩
  rw [hm] at ha hm1 hm2
  obtain ⟨N, hN, hNn⟩ : ∃ N : Int, N ≤ 1099511627776 ∧ N = (if 1099511627776 < n then m else n) := ⟨_, by split <;> omega, rfl⟩
  have h1 := fun W => cWayI i N W (by omega)
  have h2 := fun W => crWayI i N W (by omega)
  have hle := wayI_le i N (by omega)
  obtain ⟨bs, HBS⟩ : ∃ x, Hid (wayI i N = x) := ⟨_, Lib.hid rfl⟩
  simp only [HBS.out] at h1 h2 hle
  obtain ⟨L, HL⟩ : ∃ x, Hid (bs.length = x) := ⟨_, Lib.hid rfl⟩
  simp only [HL.out] at h1 h2 hle
  have H1 := Lib.hid h1
  have H2 := Lib.hid h2
  have hle2 : (L : Int) ≤ 61 := by omega
  clear h1 h2 hm
  by_cases hbig : 1099511627776 < n
  · rw [if_pos hbig] at hNn
    subst hNn
    go_enter Try.func7, Try.ntmps7
    go_wp2_with fail
    (with_reducible refine (H1.out _).mono ?_); rintro e w1 ⟨A, c, rfl, hR, hb1⟩
    have HR1 := Lib.hid hR
    clear hR
    go_wp2_with fail
    (with_reducible refine (H2.out _).mono ?_); rintro e w2 ⟨A2, c2, rfl, hR2, hb2⟩
    have HR2 := Lib.hid hR2
    have HR3 := Lib.hid ((HR1.out.below hb2).more hb2.size)
    have HB := Lib.hid (hb1.trans (hb2.mono hb1.size))
    clear hR2 hb1 hb2
    go_wp2_with fail
    have hb0 := Below.refl w2.heap.size w2
    go_loopw [7] (fun u wr => ∃ j : Nat, j ≤ L ∧ u = .int .i64 j ∧ Below w2.heap.size w2 wr) (fun u _ => L - (intOf u).toNat)
    case atStart => exact ⟨0, by omega, rfl, hb0⟩
    case round =>
      clear hb0
      obtain ⟨j, hj, rfl, hb⟩ := hrel
      have HBW := Lib.hid (HB.out.trans (hb.mono HB.out.size))
      by_cases hlt : j < L
      · have hdk : decide ((j : Int) < (L : Int)) = true := decide_eq_true (by omega)
        have hjI : (j : Int) < (L : Int) := by omega
        obtain ⟨a1, rfl, d1⟩ := (HR3.out.below hb).bool_ j (by rw [HL.out]; exact hlt)
        obtain ⟨a2, rfl, d2⟩ := (HR2.out.below hb).bool_ j (by rw [HL.out]; exact hlt)
        obtain ⟨b, HBB⟩ : ∃ s, Hid (bs.getD j false = s) := ⟨_, Lib.hid rfl⟩
        rw [HBB.out] at d1 d2
        have d3 : wr.drew.cell? (a1.add j) = some (.bool b) := d1
        have d4 : wr.drew.cell? (a2.add j) = some (.bool b) := d2
        have HBD := Lib.hid hb.drew
        clear hb
        go_wp2_with fail
        refine wp_region_lexX [] (by kernel_rfl) (by kernel_rfl) ?_
        repeat (first
          | (refine wpX_pure rfl rfl rfl ?_; intro K hK; go_big_quiet_op; refine hK _ ?_; clear hK K)
          | (refine wpX_load rfl rfl rfl ?_; intro K hK; go_big_quiet_op; refine hK _ ?_; clear hK K))
        refine wpX_nil ?_
        cases b <;>
        · go_wp2_with fail
          go_roundw
          case rel => exact ⟨j + 1, by omega, by go_num, HBD.out⟩
          case measure => simp [intOf]; omega
      · have hdk : decide ((j : Int) < (L : Int)) = false := decide_eq_false (by omega)
        go_wp2_with fail
        (with_reducible refine (cAwake15 _).mono ?_); rintro e w7 ⟨rfl, hb2⟩
        go_wp2_with fail
        go_ret
        exact ⟨rfl, HBW.out.trans (hb2.mono HBW.out.size)⟩
  · rw [if_neg hbig] at hNn
    subst hNn
    go_enter Try.func7, Try.ntmps7
    go_wp2_with fail
    (with_reducible refine (H1.out _).mono ?_); rintro e w1 ⟨A, c, rfl, hR, hb1⟩
    have HR1 := Lib.hid hR
    clear hR
    go_wp2_with fail
    (with_reducible refine (H2.out _).mono ?_); rintro e w2 ⟨A2, c2, rfl, hR2, hb2⟩
    have HR2 := Lib.hid hR2
    have HR3 := Lib.hid ((HR1.out.below hb2).more hb2.size)
    have HB := Lib.hid (hb1.trans (hb2.mono hb1.size))
    clear hR2 hb1 hb2
    go_wp2_with fail
    have hb0 := Below.refl w2.heap.size w2
    go_loopw [7] (fun u wr => ∃ j : Nat, j ≤ L ∧ u = .int .i64 j ∧ Below w2.heap.size w2 wr) (fun u _ => L - (intOf u).toNat)
    case atStart => exact ⟨0, by omega, rfl, hb0⟩
    case round =>
      clear hb0
      obtain ⟨j, hj, rfl, hb⟩ := hrel
      have HBW := Lib.hid (HB.out.trans (hb.mono HB.out.size))
      by_cases hlt : j < L
      · have hdk : decide ((j : Int) < (L : Int)) = true := decide_eq_true (by omega)
        have hjI : (j : Int) < (L : Int) := by omega
        obtain ⟨a1, rfl, d1⟩ := (HR3.out.below hb).bool_ j (by rw [HL.out]; exact hlt)
        obtain ⟨a2, rfl, d2⟩ := (HR2.out.below hb).bool_ j (by rw [HL.out]; exact hlt)
        obtain ⟨b, HBB⟩ : ∃ s, Hid (bs.getD j false = s) := ⟨_, Lib.hid rfl⟩
        rw [HBB.out] at d1 d2
        have d3 : wr.drew.cell? (a1.add j) = some (.bool b) := d1
        have d4 : wr.drew.cell? (a2.add j) = some (.bool b) := d2
        have HBD := Lib.hid hb.drew
        clear hb
        go_wp2_with fail
        refine wp_region_lexX [] (by kernel_rfl) (by kernel_rfl) ?_
        repeat (first
          | (refine wpX_pure rfl rfl rfl ?_; intro K hK; go_big_quiet_op; refine hK _ ?_; clear hK K)
          | (refine wpX_load rfl rfl rfl ?_; intro K hK; go_big_quiet_op; refine hK _ ?_; clear hK K))
        refine wpX_nil ?_
        cases b <;>
        · go_wp2_with fail
          go_roundw
          case rel => exact ⟨j + 1, by omega, by go_num, HBD.out⟩
          case measure => simp [intOf]; omega
      · have hdk : decide ((j : Int) < (L : Int)) = false := decide_eq_false (by omega)
        go_wp2_with fail
        (with_reducible refine (cAwake15 _).mono ?_); rintro e w7 ⟨rfl, hb2⟩
        go_wp2_with fail
        go_ret
        exact ⟨rfl, HBW.out.trans (hb2.mono HBW.out.size)⟩
end Go.Proofs.Ytkggpimminnniaa
