/- The laws MultiProves and MultiBack, walked. -/
import Derived.Test.YtcnhhlnbmliihaaMultiD
import Derived.Test.YtcnhhlnbmliihaaOpenInts
namespace Go.Proofs.Ytcnhhlnbmliihaa
open Go.RowKit
set_option linter.unusedVariables false
set_option linter.unusedSimpArgs false

theorem wdz3 {k : Int} {l : List ByteArray} (h : ∀ s ∈ l, s.size = wd k) : ∀ s ∈ l, s.size ≤ 300000000 := fun s hs => by have := h s hs; have := wd_hi k; omega
/-- Wanted leaves that may not be. -/
theorem crWanted_no (n : Int) (A : Option Addr) (m c : Nat) (want : List Int) (W : World) (hn1 : -9223372036854775808 ≤ n) (hn6 : n ≤ 1000000) (hm : want.length = m) (hs : Ints W A want) (hmc : m ≤ c) (hm6 : m ≤ 1000000) (h : ¬ riseP want n) :
    Calls Try.prog 34 #[.slice A m c, .int .i64 n] W fun e W' => (∃ A' m' c', e = .returned (.tuple #[.slice A' m' c', .bool false])) ∧ Below W.heap.size W W' := by
  refine (crWanted n n.toNat A m c want W rfl hn1 hn6 hm hs hmc hm6).mono ?_
  rintro e W' ⟨⟨A', m', c', b, rfl, hb, _⟩, hB⟩
  cases b with
  | false => exact ⟨⟨A', m', c', rfl⟩, hB⟩
  | true => exact absurd (hb.1 rfl) h
/-- .. and such that may be. -/
theorem crWanted_yes (a : List Bool) (n : Nat) (A : Option Addr) (m c : Nat) (W : World) (ha : a.length = n) (hna : noneB a = false) (hn6 : n ≤ 1000000) (hm : (idxI a).length = m) (hs : Ints W A (idxI a)) (hmc : m ≤ c) :
    Calls Try.prog 34 #[.slice A m c, .int .i64 n] W fun e W' => (∃ A' c', e = .returned (.tuple #[.slice A' n c', .bool true]) ∧ n ≤ c' ∧ Bools W' A' a) ∧ Below W.heap.size W W' := by
  have hle := idx_length_le a
  rw [← idxI_length] at hle
  have hri := rise_of a hna
  rw [ha] at hri
  refine (crWanted (n : Int) n A m c (idxI a) W (by omega) (by omega) (by omega) hm hs hmc (by omega)).mono ?_
  rintro e W' ⟨⟨A', m', c', b, rfl, hb, hx⟩, hB⟩
  cases b with
  | false => exact absurd (hb.2 hri) (by decide)
  | true =>
    obtain ⟨a', e1, rfl, e2, hc', hbo⟩ := hx rfl
    obtain rfl := idxI_inj a' a (by omega) e2
    exact ⟨⟨A', c', rfl, hc', hbo⟩, hB⟩
set_option maxRecDepth 100000 in
set_option maxHeartbeats 8000000 in
theorem multiProves_walk {w : World} (k : Int) (hk : (Lit.int .i64 k).wf = true) (v0 : Value) (zs : List Int) (hv0 : IntsIn w v0 zs) (v : Value) (ss : List ByteArray) (hv : StrsIn w v ss) :
    Calls Try.prog 10 #[.int .i64 k, v0, v] w fun e w' => e = .returned (.bool true) ∧ Below w.heap.size w w' := by
  have h0 := cSums41 k hv
  have H0 := Lib.hid h0
  obtain ⟨⟨A0, c0, rfl, hc0, hs0⟩, hl0⟩ := hv0
  have HS0 := Lib.hid hs0
  obtain ⟨q, hq⟩ : ∃ x, zs.length = x := ⟨_, rfl⟩
  rw [hq] at hc0 hl0 ⊢
  have HQ := Lib.hid hq
  clear h0 hv hk hs0 hq
  go_enter Try.func10, Try.ntmps10
  go_wp2_with fail
  (with_reducible refine H0.out.mono ?_); rintro e w1 ⟨A, n, c, l, rfl, hl, hnc, hn, hz, hs, hb1⟩
  clear H0
  by_cases hbig : 100 < q
  · have hbI : decide ((100 : Int) < (q : Int)) = true := decide_eq_true (by omega)
    obtain ⟨Z, HZ⟩ : ∃ x, Hid (zs.take 100 = x) := ⟨_, Lib.hid rfl⟩
    have hm : Z.length = 100 := by rw [← HZ.out, List.length_take, HQ.out]; omega
    have hZ0 : Ints w A0 Z := by rw [← HZ.out]; exact HS0.out.take 100
    have hmc : 100 ≤ c0 := by omega
    have hcI : (100 : Int) ≤ (c0 : Int) := by omega
    have hqc : (q : Int) ≤ (c0 : Int) := by omega
    clear HS0 HZ HQ
    have hmI : (100 : Int) ≤ (c0 : Int) := by omega
    by_cases hr : riseP Z (n : Int)
    · obtain ⟨a, ha, hia, _, hna⟩ := rise_some Z n hr
      subst hia
      have ha' : a.length = n := by omega
      have h1n : 1 ≤ n := by rw [← ha']; exact rise_len a hna
      have p1 := fun W h h' => cProveM_yes k a l A0 100 c0 A n c W ha' hl hm h hmc h' hnc (by omega) hna (wdz3 hz)
      have w1 := fun W h => crWanted_yes a n A0 100 c0 W ha' hna (by omega) hm h hmc
      have p2 := fun A' c' W h hc h' => crProveM k n a l A' c' A c W ha' hl h hc h' hnc (by omega) h1n (wdz3 hz)
      have g1 := fun W h => cCountM n a A0 100 c0 W ha' hm h hmc (by omega) h1n
      have hcn := cn_le n a ha' h1n
      have hpl := pv_length (wd k) n a l hl ha' h1n
      obtain ⟨P, HP⟩ : ∃ x, Hid (pv (wd k) a l = x) := ⟨_, Lib.hid rfl⟩
      simp only [HP.out] at p1 p2
      rw [HP.out] at hpl
      rw [← hpl] at hcn
      simp only [← hpl] at g1
      have sm := fun A B c d W h1 h2 => cSame A B P.length P.length c d P P W rfl rfl h1 h2 (by omega) (by omega)
      have edd : decide (P = P) = true := decide_eq_true rfl
      simp only [edd] at sm
      have P1 := Lib.hid p1
      have W1 := Lib.hid w1
      have P2 := Lib.hid p2
      have G1 := Lib.hid g1
      have SM := Lib.hid sm
      have HS := Lib.hid hs
      have HZ0 := Lib.hid hZ0
      have hIS := hZ0.fresh hb1
      have HIS := Lib.hid hIS
      clear p1 w1 p2 g1 sm hs hl hz hr edd hm hZ0 hIS ha ha' hna hpl
      go_wp2_with fail
      (with_reducible refine (P1.out _ HIS.out HS.out).mono ?_); rintro e w2 ⟨A2, c2, rfl, hc2, hS2, hb2⟩
      have HS2 := Lib.hid (Strs.of_sl hS2)
      have HB2 := Lib.hid (hb1.trans (hb2.mono hb1.size))
      have HSS := Lib.hid (HS.out.fresh hb2)
      have HII := Lib.hid (HIS.out.fresh hb2)
      clear hS2 hb1 hb2 HS HIS
      go_wp2_with fail
      (with_reducible refine (W1.out _ HII.out).mono ?_); rintro e w3 ⟨⟨A3, c3, rfl, hc3, hbo⟩, hb3⟩
      have HBO := Lib.hid hbo
      have HB3 := Lib.hid (HB2.out.trans (hb3.mono HB2.out.size))
      have HS3 := Lib.hid (HSS.out.fresh hb3)
      have HI3 := Lib.hid (HII.out.fresh hb3)
      have HS23 := Lib.hid (HS2.out.fresh hb3)
      clear hbo hb3 HSS HII HS2 HB2
      go_wp2_with fail
      (with_reducible refine (P2.out _ _ _ HBO.out hc3 HS3.out).mono ?_); rintro e w4 ⟨A4, c4, rfl, hc4, hS4, hb4⟩
      have HS4 := Lib.hid (Strs.of_sl hS4)
      have HB4 := Lib.hid (HB3.out.trans (hb4.mono HB3.out.size))
      have HI4 := Lib.hid (HI3.out.fresh hb4)
      have HS24 := Lib.hid (HS23.out.fresh hb4)
      clear hS4 hb4 HB3 HI3 HS23 HS3 HBO
      go_wp2_with fail
      (with_reducible refine (SM.out _ _ _ _ _ HS24.out HS4.out).mono ?_); rintro e w5 ⟨rfl, hb5⟩
      have HB5 := Lib.hid (HB4.out.trans (hb5.mono HB4.out.size))
      have HI5 := Lib.hid (HI4.out.fresh hb5)
      clear hb5 HB4 HI4 HS24 HS4
      go_wp2_with fail
      (with_reducible refine (G1.out _ HI5.out).mono ?_); rintro e w6 ⟨rfl, hb6⟩
      have HB6 := Lib.hid (HB5.out.trans (hb6.mono HB5.out.size))
      clear hb6 HB5 HI5
      go_wp2_with fail
      (with_reducible refine (cAwake41 _).mono ?_); rintro e w7 ⟨rfl, hb7⟩
      go_wp2_with fail
      go_ret
      exact ⟨rfl, HB6.out.trans (hb7.mono HB6.out.size)⟩
    · have p1 := fun W h => cProveM_no k A0 100 c0 Z A n c W hm h hmc (by omega) (by omega) hr
      have w1 := fun W h => crWanted_no (n : Int) A0 100 c0 Z W (by omega) (by omega) hm h hmc (by omega) hr
      have P1 := Lib.hid p1
      have W1 := Lib.hid w1
      have hIS := hZ0.fresh hb1
      have HIS := Lib.hid hIS
      clear p1 w1 hs hl hz hr hm hZ0 hIS
      go_wp2_with fail
      (with_reducible refine (P1.out _ HIS.out).mono ?_); rintro e w2 ⟨rfl, rfl⟩
      go_wp2_with fail
      (with_reducible refine (W1.out _ HIS.out).mono ?_); rintro e w3 ⟨⟨A3, m3, c3, rfl⟩, hb3⟩
      have HB3 := Lib.hid (hb1.trans (hb3.mono hb1.size))
      clear hb1 hb3 HIS
      go_wp2_with fail
      (with_reducible refine (cAwake41 _).mono ?_); rintro e w7 ⟨rfl, hb7⟩
      go_wp2_with fail
      go_ret
      exact ⟨rfl, HB3.out.trans (hb7.mono HB3.out.size)⟩
  · have hbI : decide ((100 : Int) < (q : Int)) = false := decide_eq_false (by omega)
    have hm := HQ.out
    have hZ0 := HS0.out
    have hmc := hc0
    obtain ⟨Z, HZ⟩ : ∃ x, zs = x := ⟨_, rfl⟩
    subst HZ
    clear HS0 HQ
    have hmI : (q : Int) ≤ (c0 : Int) := by omega
    by_cases hr : riseP zs (n : Int)
    · obtain ⟨a, ha, hia, _, hna⟩ := rise_some zs n hr
      subst hia
      have ha' : a.length = n := by omega
      have h1n : 1 ≤ n := by rw [← ha']; exact rise_len a hna
      have p1 := fun W h h' => cProveM_yes k a l A0 q c0 A n c W ha' hl hm h hmc h' hnc (by omega) hna (wdz3 hz)
      have w1 := fun W h => crWanted_yes a n A0 q c0 W ha' hna (by omega) hm h hmc
      have p2 := fun A' c' W h hc h' => crProveM k n a l A' c' A c W ha' hl h hc h' hnc (by omega) h1n (wdz3 hz)
      have g1 := fun W h => cCountM n a A0 q c0 W ha' hm h hmc (by omega) h1n
      have hcn := cn_le n a ha' h1n
      have hpl := pv_length (wd k) n a l hl ha' h1n
      obtain ⟨P, HP⟩ : ∃ x, Hid (pv (wd k) a l = x) := ⟨_, Lib.hid rfl⟩
      simp only [HP.out] at p1 p2
      rw [HP.out] at hpl
      rw [← hpl] at hcn
      simp only [← hpl] at g1
      have sm := fun A B c d W h1 h2 => cSame A B P.length P.length c d P P W rfl rfl h1 h2 (by omega) (by omega)
      have edd : decide (P = P) = true := decide_eq_true rfl
      simp only [edd] at sm
      have P1 := Lib.hid p1
      have W1 := Lib.hid w1
      have P2 := Lib.hid p2
      have G1 := Lib.hid g1
      have SM := Lib.hid sm
      have HS := Lib.hid hs
      have HZ0 := Lib.hid hZ0
      have hIS := hZ0.fresh hb1
      have HIS := Lib.hid hIS
      clear p1 w1 p2 g1 sm hs hl hz hr edd hm hZ0 hIS ha ha' hna hpl
      go_wp2_with fail
      (with_reducible refine (P1.out _ HIS.out HS.out).mono ?_); rintro e w2 ⟨A2, c2, rfl, hc2, hS2, hb2⟩
      have HS2 := Lib.hid (Strs.of_sl hS2)
      have HB2 := Lib.hid (hb1.trans (hb2.mono hb1.size))
      have HSS := Lib.hid (HS.out.fresh hb2)
      have HII := Lib.hid (HIS.out.fresh hb2)
      clear hS2 hb1 hb2 HS HIS
      go_wp2_with fail
      (with_reducible refine (W1.out _ HII.out).mono ?_); rintro e w3 ⟨⟨A3, c3, rfl, hc3, hbo⟩, hb3⟩
      have HBO := Lib.hid hbo
      have HB3 := Lib.hid (HB2.out.trans (hb3.mono HB2.out.size))
      have HS3 := Lib.hid (HSS.out.fresh hb3)
      have HI3 := Lib.hid (HII.out.fresh hb3)
      have HS23 := Lib.hid (HS2.out.fresh hb3)
      clear hbo hb3 HSS HII HS2 HB2
      go_wp2_with fail
      (with_reducible refine (P2.out _ _ _ HBO.out hc3 HS3.out).mono ?_); rintro e w4 ⟨A4, c4, rfl, hc4, hS4, hb4⟩
      have HS4 := Lib.hid (Strs.of_sl hS4)
      have HB4 := Lib.hid (HB3.out.trans (hb4.mono HB3.out.size))
      have HI4 := Lib.hid (HI3.out.fresh hb4)
      have HS24 := Lib.hid (HS23.out.fresh hb4)
      clear hS4 hb4 HB3 HI3 HS23 HS3 HBO
      go_wp2_with fail
      (with_reducible refine (SM.out _ _ _ _ _ HS24.out HS4.out).mono ?_); rintro e w5 ⟨rfl, hb5⟩
      have HB5 := Lib.hid (HB4.out.trans (hb5.mono HB4.out.size))
      have HI5 := Lib.hid (HI4.out.fresh hb5)
      clear hb5 HB4 HI4 HS24 HS4
      go_wp2_with fail
      (with_reducible refine (G1.out _ HI5.out).mono ?_); rintro e w6 ⟨rfl, hb6⟩
      have HB6 := Lib.hid (HB5.out.trans (hb6.mono HB5.out.size))
      clear hb6 HB5 HI5
      go_wp2_with fail
      (with_reducible refine (cAwake41 _).mono ?_); rintro e w7 ⟨rfl, hb7⟩
      go_wp2_with fail
      go_ret
      exact ⟨rfl, HB6.out.trans (hb7.mono HB6.out.size)⟩
    · have p1 := fun W h => cProveM_no k A0 q c0 zs A n c W hm h hmc (by omega) (by omega) hr
      have w1 := fun W h => crWanted_no (n : Int) A0 q c0 zs W (by omega) (by omega) hm h hmc (by omega) hr
      have P1 := Lib.hid p1
      have W1 := Lib.hid w1
      have hIS := hZ0.fresh hb1
      have HIS := Lib.hid hIS
      clear p1 w1 hs hl hz hr hm hZ0 hIS
      go_wp2_with fail
      (with_reducible refine (P1.out _ HIS.out).mono ?_); rintro e w2 ⟨rfl, rfl⟩
      go_wp2_with fail
      (with_reducible refine (W1.out _ HIS.out).mono ?_); rintro e w3 ⟨⟨A3, m3, c3, rfl⟩, hb3⟩
      have HB3 := Lib.hid (hb1.trans (hb3.mono hb1.size))
      clear hb1 hb3 HIS
      go_wp2_with fail
      (with_reducible refine (cAwake41 _).mono ?_); rintro e w7 ⟨rfl, hb7⟩
      go_wp2_with fail
      go_ret
      exact ⟨rfl, HB3.out.trans (hb7.mono HB3.out.size)⟩
set_option maxRecDepth 100000 in
set_option maxHeartbeats 8000000 in
theorem multiBack_walk {w : World} (k : Int) (hk : (Lit.int .i64 k).wf = true) (z : Int) (hzw : (Lit.int .i64 z).wf = true) (v : Value) (ss : List ByteArray) (hv : StrsIn w v ss) :
    Calls Try.prog 11 #[.int .i64 k, .int .i64 z, v] w fun e w' => e = .returned (.bool true) ∧ Below w.heap.size w w' := by
  have h0 := cSums41 k hv
  have H0 := Lib.hid h0
  clear h0 hv hk hzw
  go_enter Try.func11, Try.ntmps11
  go_wp2_with fail
  (with_reducible refine H0.out.mono ?_); rintro e w1 ⟨A, n, c, l, rfl, hl, hnc, hn, hz, hs, hb1⟩
  clear H0
  have q1 := fun W h => cChosen z A n c l W hl h hnc (by omega)
  have ha := chB_length z n
  obtain ⟨a, HA⟩ : ∃ x, Hid (chB z n = x) := ⟨_, Lib.hid rfl⟩
  simp only [HA.out] at q1
  rw [HA.out] at ha
  have hle := idx_length_le a
  have hnb := noneB_len a
  have hnf := noneB_false a
  rw [← idxI_length] at hle hnb hnf
  obtain ⟨m, hm⟩ : ∃ x, (idxI a).length = x := ⟨_, rfl⟩
  simp only [hm] at q1 hle hnb hnf
  have Q1 := Lib.hid q1
  have HS := Lib.hid hs
  have r1 := fun W h => crRoot k n A c l W hl h hnc (by omega) (wdz3 hz)
  obtain ⟨X, HX⟩ : ∃ x, Hid (root (wd k) l = x) := ⟨_, Lib.hid rfl⟩
  simp only [HX.out] at r1
  have R1 := Lib.hid r1
  clear q1 hs r1
  by_cases hm0 : m = 0
  · subst hm0
    clear hl hz hnb hnf hle ha hm R1
    go_wp2_with fail
    (with_reducible refine (Q1.out _ HS.out).mono ?_); rintro e w2 ⟨A1, c1, A2, c2, rfl, hc1, hc2, hs1, hs2, hb2⟩
    have hb12 := hb1.trans (hb2.mono hb1.size)
    clear hb1 hb2 hs1 hs2
    go_wp2_with fail
    (with_reducible refine (cAwake41 _).mono ?_); rintro e w7 ⟨rfl, hb7⟩
    go_wp2_with fail
    go_ret
    exact ⟨rfl, hb12.trans (hb7.mono hb12.size)⟩
  · have hmI : ((m : Int) == 0) = false := by simp; omega
    have hna : noneB a = false := by
      cases hx : noneB a with
      | false => rfl
      | true => exact absurd (hnb hx) hm0
    have h1n : 1 ≤ n := by rw [← ha]; exact rise_len a hna
    have hpl := pv_length (wd k) n a l hl ha h1n
    have p1 := fun A1 c1 W h hc h' => cProveM_yes k a l A1 m c1 A n c W ha hl hm h hc h' hnc (by omega) hna (wdz3 hz)
    have k1 := fun A1 c1 A2 c2 Ap cp W h1 h2 h3 h4 h5 h6 => cRootM_back k a l n A1 m c1 A2 c2 Ap _ cp W ha hl hna (by omega) hz hm h1 h2 h3 h4 rfl h5 h6
    have k2 := fun A1 c1 A2 c2 Ap cp W h1 h2 h3 h4 h5 h6 => cCheckM_back k a l n A1 m c1 A2 c2 Ap _ cp W ha hl hna (by omega) hz hm h1 h2 h3 h4 rfl h5 h6
    simp only [HX.out] at k1 k2
    obtain ⟨P, HP⟩ : ∃ x, Hid (pv (wd k) a l = x) := ⟨_, Lib.hid rfl⟩
    simp only [HP.out] at p1 k1 k2
    have hxx : (X.toList == X.toList) = true := beq_self_eq_true _
    have P1 := Lib.hid p1
    have K1 := Lib.hid k1
    have K2 := Lib.hid k2
    clear p1 k1 k2 hl hz hnb hnf ha hm hna hpl
    go_wp2_with fail
    (with_reducible refine (Q1.out _ HS.out).mono ?_); rintro e w2 ⟨A1, c1, A2, c2, rfl, hc1, hc2, hs1, hs2, hb2⟩
    have HI := Lib.hid hs1
    have HL := Lib.hid hs2
    have HB := Lib.hid (hb1.trans (hb2.mono hb1.size))
    have HS2 := Lib.hid (HS.out.fresh hb2)
    clear hs1 hs2 hb1 hb2 HS Q1
    go_wp2_with fail
    (with_reducible refine (P1.out _ _ _ HI.out hc1 HS2.out).mono ?_); rintro e w3 ⟨A3, c3, rfl, hc3, hS3, hb3⟩
    have HP3 := Lib.hid (Strs.of_sl hS3)
    have HI3 := Lib.hid (HI.out.fresh hb3)
    have HL3 := Lib.hid (HL.out.fresh hb3)
    have HS3 := Lib.hid (HS2.out.fresh hb3)
    have HB3 := Lib.hid (HB.out.trans (hb3.mono HB.out.size))
    clear hS3 hb3 HI HL HS2 HB
    go_wp2_with fail
    (with_reducible refine (K1.out _ _ _ _ _ _ _ HI3.out hc1 HL3.out hc2 HP3.out hc3).mono ?_); rintro e w4 ⟨rfl, hb4⟩
    have HB4 := Lib.hid (HB3.out.trans (hb4.mono HB3.out.size))
    have HS4 := Lib.hid (HS3.out.fresh hb4)
    have HI4 := Lib.hid (HI3.out.fresh hb4)
    have HL4 := Lib.hid (HL3.out.fresh hb4)
    have HP4 := Lib.hid (HP3.out.fresh hb4)
    clear hb4 HS3 HI3 HL3 HP3 HB3
    go_wp2_with fail
    (with_reducible refine (R1.out _ HS4.out).mono ?_); rintro e w5 ⟨rfl, hb5⟩
    have HB5 := Lib.hid (HB4.out.trans (hb5.mono HB4.out.size))
    have HI5 := Lib.hid (HI4.out.fresh hb5)
    have HL5 := Lib.hid (HL4.out.fresh hb5)
    have HP5 := Lib.hid (HP4.out.fresh hb5)
    clear hb5 HS4 HI4 HL4 HP4 HB4
    go_wp2_with fail
    (with_reducible refine (K2.out _ _ _ _ _ _ _ HI5.out hc1 HL5.out hc2 HP5.out hc3).mono ?_); rintro e w6 ⟨rfl, hb6⟩
    have HB6 := Lib.hid (HB5.out.trans (hb6.mono HB5.out.size))
    clear hb6 HI5 HL5 HP5 HB5
    go_wp2_with fail
    (with_reducible refine (cAwake41 _).mono ?_); rintro e w7 ⟨rfl, hb7⟩
    go_wp2_with fail
    go_ret
    exact ⟨rfl, HB6.out.trans (hb7.mono HB6.out.size)⟩
end Go.Proofs.Ytcnhhlnbmliihaa
