/- The law MultiShort, walked. -/
import Derived.Test.YtcnhhlnbmliihaaMultiD
import Derived.Test.YtcnhhlnbmliihaaRefUp
namespace Go.Proofs.Ytcnhhlnbmliihaa
open Go.RowKit
set_option linter.unusedVariables false
set_option linter.unusedSimpArgs false

theorem wdz4 {k : Int} {l : List ByteArray} (h : ∀ s ∈ l, s.size = wd k) : ∀ s ∈ l, s.size ≤ 300000000 := fun s hs => by have := h s hs; have := wd_hi k; omega
/-- One leaf wanted. -/
theorem single_ (n j : Nat) (h : j < n) : ∃ a : List Bool, a.length = n ∧ idx a = [j] ∧ idxI a = [(j : Int)] ∧ noneB a = false := by
  have e : idx ((List.replicate n false).set j true) = [j] := by
    rw [idx_set _ j (by simpa using h) (by intro x hx; rw [idx_none] at hx; cases hx), idx_none]; rfl
  refine ⟨(List.replicate n false).set j true, by simp, e, by unfold idxI; rw [e]; rfl, ?_⟩
  cases hn : noneB ((List.replicate n false).set j true) with
  | false => rfl
  | true => rw [(idx_nil_iff _).2 hn] at e; cases e
/-- All wanted. -/
theorem noneB_all (a : List Bool) (h1 : 1 ≤ a.length) (h : ∀ x ∈ a, x = true) : noneB a = false := by
  match a, h1, h with
  | b :: bs, _, h => have := h b (by simp); subst this; rfl
theorem wsum_le (n b : Nat) (h : ∀ k, (way k n).length ≤ b) : ∀ l : List Nat, wsum n l ≤ b * l.length
  | [] => by simp [wsum]
  | k :: l => by
    have ih := wsum_le n b h l
    have hk := h k
    unfold wsum at ih ⊢
    rw [List.map_cons, List.sum_cons, List.length_cons, Nat.mul_succ]
    omega
theorem wsum_next (n : Nat) (l : List Nat) (q : Nat) (h : q < l.length) : wsum n (l.take (q + 1)) = wsum n (l.take q) + (way (l.getD q 0) n).length := by
  rw [List.take_succ_eq_append_getElem h, wsum_append, List.getD_eq_getElem?_getD, List.getElem?_eq_getElem h]
  simp [wsum]
/-- How many sums a proof has. -/
theorem cProveM_len (w : Int) (a : List Bool) (l : List ByteArray) (A : Option Addr) (m c : Nat) (Al : Option Addr) (n cl : Nat) (W : World) (L : Nat) (hL : cn a = L) (ha : a.length = n) (hl : l.length = n) (hm : (idxI a).length = m) (hs : Ints W A (idxI a)) (hmc : m ≤ c) (hls : Strs W Al l) (hlc : n ≤ cl) (hn6 : n ≤ 1000000) (hna : noneB a = false) (hz : ∀ s ∈ l, s.size ≤ 300000000) :
    Calls Try.prog 18 #[.int .i64 w, .slice A m c, .slice Al n cl] W fun e W' => ∃ A' c', e = .returned (.tuple #[.slice A' L c', .int .i64 0]) ∧ L ≤ c' ∧ Below W.heap.size W W' := by
  have h1 : 1 ≤ n := by rw [← ha]; exact rise_len a hna
  have hpl := pv_length (wd w) n a l hl ha h1
  rw [hL] at hpl
  refine (cProveM_yes w a l A m c Al n cl W ha hl hm hs hmc hls hlc hn6 hna hz).mono ?_
  rintro e W' ⟨A', c', rfl, hc', _, hb⟩
  rw [hpl] at hc' ⊢
  exact ⟨A', c', rfl, hc', hb⟩
set_option maxRecDepth 100000 in
set_option maxHeartbeats 8000000 in
theorem multiShort_walk {w : World} (k : Int) (hk : (Lit.int .i64 k).wf = true) (z : Int) (hzw : (Lit.int .i64 z).wf = true) (i : Int) (hi : (Lit.int .i64 i).wf = true) (v : Value) (ss : List ByteArray) (hv : StrsIn w v ss) :
    Calls Try.prog 4 #[.int .i64 k, .int .i64 z, .int .i64 i, v] w fun e w' => e = .returned (.bool true) ∧ Below w.heap.size w w' := by
  have h0 := cSums41 k hv
  have H0 := Lib.hid h0
  have hi2 := wf_i64 hi
  clear h0 hv hk hzw hi
  go_enter Try.func4, Try.ntmps4
  go_wp2_with fail
  (with_reducible refine H0.out.mono ?_); rintro e w1 ⟨A, n, c, l, rfl, hl, hnc, hn, hz, hs, hb1⟩
  clear H0
  by_cases hn0 : n = 0
  · subst hn0
    clear hl hs hz
    go_wp2_with fail
    (with_reducible refine (cAwake41 _).mono ?_); rintro e w4 ⟨rfl, hb4⟩
    go_wp2_with fail
    go_ret
    exact ⟨rfl, hb1.trans (hb4.mono hb1.size)⟩
  · have hn0I : ((n : Int) == 0) = false := by simp; omega
    have hn0K : (n == 0) = false := by simp; omega
    have hn0J : (0 : Int) < (n : Int) := by omega
    obtain ⟨j, hj, ej⟩ := turn_mod i n (by omega) (by omega)
    obtain ⟨a1, ha1, hx1, hy1, hna1⟩ := single_ n j hj
    have hcs := cn_single n a1 j ha1 hx1
    have hway : ∀ x, (way x n).length ≤ 7 := fun x => way_bits 7 x n (by omega)
    have p1 := fun W (h : Strs W A l) => cProveM_len k a1 l (some ⟨W.heap.size, 0, none⟩) 1 1 A n c (W.alloc (.cells #[.int .i64 (j : Int)] 3)) _ hcs ha1 hl (by rw [hy1]; rfl) (by rw [hy1]; exact Ints.of_blk (zs := [(j : Int)]) (t := 3) (Blk.new W 3 _)) (by omega) (h.alloc _) hnc (by omega) hna1 (wdz4 hz)
    have g1 := fun W => crLong n j W (by omega) hj
    have hwj := hway j
    obtain ⟨L, HL⟩ : ∃ x, Hid ((way j n).length = x) := ⟨_, Lib.hid rfl⟩
    simp only [HL.out] at p1 g1
    rw [HL.out] at hwj
    have P1 := Lib.hid p1
    have G1 := Lib.hid g1
    clear p1 g1 hcs ha1 hx1 hy1 hna1
    -- all
    have q2 := fun W h => cChosen (-1) A n c l W hl h hnc (by omega)
    have ha2 := chB_length (-1) n
    have hall := chB_all n
    obtain ⟨a2, HA2⟩ : ∃ x, Hid (chB (-1) n = x) := ⟨_, Lib.hid rfl⟩
    simp only [HA2.out] at q2
    rw [HA2.out] at ha2 hall
    have hna2 := noneB_all a2 (by omega) hall
    have hc2 := cn_all n a2 ha2 (by omega) hall
    have hle2 := idx_length_le a2
    rw [← idxI_length] at hle2
    obtain ⟨m2, hm2⟩ : ∃ x, (idxI a2).length = x := ⟨_, rfl⟩
    simp only [hm2] at q2
    rw [hm2] at hle2
    have p2 := fun A1 c1 W h hc (h' : Strs W A l) => cProveM_len k a2 l A1 m2 c1 A n c W 0 hc2 ha2 hl hm2 h hc h' hnc (by omega) hna2 (wdz4 hz)
    have Q2 := Lib.hid q2
    have P2 := Lib.hid p2
    clear q2 p2 hall hna2 hc2 hm2 ha2 HA2
    -- some
    have q3 := fun W h => cChosen z A n c l W hl h hnc (by omega)
    have ha3 := chB_length z n
    obtain ⟨a3, HA3⟩ : ∃ x, Hid (chB z n = x) := ⟨_, Lib.hid rfl⟩
    simp only [HA3.out] at q3
    rw [HA3.out] at ha3
    have hle3 := idx_length_le a3
    have hil3 := idx_lt a3
    have hgd3 := idxI_getD a3
    have hnb := noneB_len a3
    have hsm := cn_sum n a3 ha3
    have hcl := cn_le n a3 ha3 (by omega)
    have hws := fun q => wsum_le n 7 hway ((idx a3).take q)
    have hwn := fun q => wsum_next n (idx a3) q
    rw [idxI_length] at hgd3
    have hil : (idxI a3).length = (idx a3).length := idxI_length a3
    obtain ⟨m3, hm3⟩ : ∃ x, (idx a3).length = x := ⟨_, rfl⟩
    simp only [hil, hm3] at q3 hgd3 hnb hwn
    rw [hm3] at hle3
    have g3 := fun A1 c1 W h hc => cCountM n a3 A1 m3 c1 W ha3 (hil.trans hm3) h hc (by omega) (by omega)
    have glong := fun x W hx => crLong n x W (by omega) hx
    have Q3 := Lib.hid q3
    have G3 := Lib.hid g3
    have GL := Lib.hid glong
    have HIL := Lib.hid hil3
    have HGD := Lib.hid hgd3
    have HWS := Lib.hid hws
    have HWN := Lib.hid hwn
    have HM3 := Lib.hid hm3
    have HA := Lib.hid ha3
    have HSM : Hid (m3 ≠ 0 → cn a3 ≤ wsum n (idx a3)) := Lib.hid (fun h => hsm (by
      cases hx : noneB a3 with
      | false => rfl
      | true => exact absurd (hnb hx) h))
    have HIL3 := Lib.hid (hil.trans hm3)
    have HWY := Lib.hid hway
    have HS := Lib.hid hs
    obtain ⟨C, HC⟩ : ∃ x, Hid (cn a3 = x) := ⟨_, Lib.hid rfl⟩
    rw [HC.out] at hcl
    simp only [HC.out] at g3
    have G3' := Lib.hid g3
    clear q3 g3 glong hil3 hgd3 hws hwn hm3 hsm hnb hil hway hs hl hz ha3 G3 HA3
    have hm3n : m3 ≤ n := by have := HA.out; omega
    clear hle3
    go_wp2_with fail
    (with_reducible refine (P1.out _ HS.out).mono ?_); rintro e w2 ⟨A2, c2, rfl, hc2, hb2⟩
    have hb2' := ((Below.refl w1.heap.size w1).alloc (Nat.le_refl _) (.cells #[.int .i64 (j : Int)] 3))
    replace hb2 := hb2'.trans (hb2.mono hb2'.size)
    have HB2 := Lib.hid (hb1.trans (hb2.mono hb1.size))
    have HS2 := Lib.hid (HS.out.fresh hb2)
    clear hb1 hb2 hb2' HS
    go_wp2_with fail
    (with_reducible refine (G1.out _).mono ?_); rintro e w3 ⟨rfl, rfl⟩
    go_wp2_with fail
    (with_reducible refine (Q2.out _ HS2.out).mono ?_); rintro e w3 ⟨A3, c3, A4, c4, rfl, hc3, hc4, hs3, hs4, hb3⟩
    have HI3 := Lib.hid hs3
    have HB3 := Lib.hid (HB2.out.trans (hb3.mono HB2.out.size))
    have HS3 := Lib.hid (HS2.out.fresh hb3)
    clear hs3 hs4 hb3 HB2 HS2
    go_wp2_with fail
    (with_reducible refine (P2.out _ _ _ HI3.out hc3 HS3.out).mono ?_); rintro e w4 ⟨A5, c5, rfl, hc5, hb4⟩
    have HB4 := Lib.hid (HB3.out.trans (hb4.mono HB3.out.size))
    have HS4 := Lib.hid (HS3.out.fresh hb4)
    clear hb4 HB3 HS3 HI3
    go_wp2_with fail
    (with_reducible refine (Q3.out _ HS4.out).mono ?_); rintro e w5 ⟨A6, c6, A7, c7, rfl, hc6, hc7, hs6, hs7, hb5⟩
    have HI6 := Lib.hid hs6
    have HB5 := Lib.hid (HB4.out.trans (hb5.mono HB4.out.size))
    clear hs6 hs7 hb5 HB4 HS4
    go_wp2_with fail
    have hm3I : (m3 : Int) ≤ 70 := by omega
    have hm3c : (m3 : Int) ≤ (c6 : Int) := by omega
    go_loopw [18, 19] (fun u v wr => ∃ (q s : Nat), q ≤ m3 ∧ v = .int .i64 q ∧ u = .int .i64 s ∧ Hid (wsum n ((idx a3).take q) = s) ∧ s ≤ 490 ∧ w5 = wr) (fun _ v _ => m3 - (intOf v).toNat)
    case atStart => exact ⟨0, 0, by omega, rfl, rfl, Lib.hid (by rw [List.take_zero]; rfl), by omega, rfl⟩
    case round =>
      obtain ⟨q, s, hq, rfl, rfl, HSUM, hs490, rfl⟩ := hrel
      by_cases hlt : q < m3
      · have hqI : (q : Int) < (m3 : Int) := by omega
        obtain ⟨g, o, rfl, c1⟩ := HI6.out.cell_ q (by rw [HIL3.out]; exact hlt)
        rw [HGD.out q hlt] at c1
        have hst := HWN.out q hlt
        rw [HSUM.out] at hst
        have hbd := HWS.out (q + 1)
        rw [List.length_take, HM3.out] at hbd
        have hxm : (idx a3).getD q 0 ∈ idx a3 := by
          rw [List.getD_eq_getElem?_getD, List.getElem?_eq_getElem (by rw [HM3.out]; exact hlt)]
          exact List.getElem_mem _
        have hxn := HIL.out _ hxm
        rw [HA.out] at hxn
        obtain ⟨x, HX⟩ : ∃ x, Hid ((idx a3).getD q 0 = x) := ⟨_, Lib.hid rfl⟩
        rw [HX.out] at c1 hst hxn
        have h1 := fun W => GL.out x W hxn
        have hy7 := HWY.out x
        obtain ⟨y, HY⟩ : ∃ y, Hid ((way x n).length = y) := ⟨_, Lib.hid rfl⟩
        simp only [HY.out] at h1
        rw [HY.out] at hst hy7
        rw [hst] at hbd
        have hsy : s + y ≤ 490 := by omega
        have HST := Lib.hid hst
        have H1 := Lib.hid h1
        clear hst hbd hxm h1
        go_wp2_with fail
        (with_reducible refine (H1.out _).mono ?_); rintro e w7 ⟨rfl, rfl⟩
        go_wp2_with fail
        go_roundw
        case rel => exact ⟨q + 1, s + y, by omega, by go_num, by go_num, HST, hsy, by first | rfl | trivial⟩
        case measure => simp [intOf]; omega
      · have e : q = m3 := by omega
        subst e
        have hsum := HSUM.out
        rw [List.take_of_length_le (by rw [HM3.out]; omega)] at hsum
        have hfin := HSM.out
        rw [hsum, HC.out] at hfin
        have HB := HB5.out
        have G3 := Lib.hid (G3'.out _ _ _ HI6.out hc6)
        clear hsum HSUM HB5 HSM
        by_cases hq0 : q = 0
        · subst hq0
          clear hfin
          go_wp2_with fail
          (with_reducible refine (cAwake41 _).mono ?_); rintro e w9 ⟨rfl, hb9⟩
          go_wp2_with fail
          go_ret
          exact ⟨rfl, HB.trans (hb9.mono HB.size)⟩
        · have hqz : ((q : Int) == 0) = false := by simp; omega
          have hCs : (C : Int) ≤ (s : Int) := by have := hfin hq0; omega
          clear hfin
          go_wp2_with fail
          (with_reducible refine G3.out.mono ?_); rintro e w8 ⟨rfl, hb8⟩
          have HB8 := HB.trans (hb8.mono HB.size)
          clear HB hb8
          go_wp2_with fail
          (with_reducible refine (cAwake41 _).mono ?_); rintro e w9 ⟨rfl, hb9⟩
          go_wp2_with fail
          go_ret
          exact ⟨rfl, HB8.trans (hb9.mono HB8.size)⟩
end Go.Proofs.Ytcnhhlnbmliihaa
