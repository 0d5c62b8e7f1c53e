/- The law MultiRoots, walked. -/
import Derived.Test.YtcnhhlnbmliihaaMultiD
import Derived.Test.YtcnhhlnbmliihaaOpenInts
namespace Go.Proofs.Ytcnhhlnbmliihaa
open Go.RowKit
set_option linter.unusedVariables false
set_option linter.unusedSimpArgs false

theorem few3 {l : List ByteArray} (h : ∀ s ∈ l, s.size ≤ 20000) : ∀ s ∈ l, s.size ≤ 300000000 := fun s hs => by have := h s hs; omega
/-- Both roots are one, or have one error. -/
theorem rootM_both (k N : Int) (hN1 : -9223372036854775808 ≤ N) (hN6 : N ≤ 1024) (A0 : Option Addr) (m c0 : Nat) (zs : List Int) (hm : zs.length = m) (hmc : m ≤ c0) (hm1 : m ≤ 100)
    (A1 : Option Addr) (q c1 : Nat) (l1 : List ByteArray) (hl1 : l1.length = q) (hqc : q ≤ c1) (hq : q ≤ 70) (z1 : ∀ s ∈ l1, s.size ≤ 20000) (A2 : Option Addr) (r c2 : Nat) (l2 : List ByteArray) (hl2 : l2.length = r) (hrc : r ≤ c2) (hr : r ≤ 70) (z2 : ∀ s ∈ l2, s.size ≤ 20000) :
    ∃ (x : ByteArray) (e : Nat),
      (∀ W, Ints W A0 zs → Strs W A1 l1 → Strs W A2 l2 → Calls Try.prog 14 #[.int .i64 k, .int .i64 N, .slice A0 m c0, .slice A1 q c1, .slice A2 r c2] W fun o W' => o = .returned (.tuple #[.string x, .int .i64 (e : Int)]) ∧ Below W.heap.size W W') ∧
      (∀ W, Ints W A0 zs → Strs W A1 l1 → Strs W A2 l2 → Calls Try.prog 15 #[.int .i64 k, .int .i64 N, .slice A0 m c0, .slice A1 q c1, .slice A2 r c2] W fun o W' => o = .returned (.tuple #[.string x, .int .i64 (e : Int)]) ∧ Below W.heap.size W W') := by
  by_cases h : riseP zs N ∧ q = m
  · obtain ⟨h1, rfl⟩ := h
    obtain ⟨a, ha, hia, h1N, hna⟩ := rise_some zs N h1
    subst hia
    obtain ⟨n, rfl⟩ : ∃ n : Nat, N = n := ⟨N.toNat, by omega⟩
    rw [Int.toNat_natCast] at ha
    refine ⟨(rootMR (wd k) a l1 l2).1, (rootMR (wd k) a l1 l2).2, fun W g0 g1 g2 => ?_, fun W g0 g1 g2 => ?_⟩
    · refine (cRootM k a n A0 q c0 A1 c1 l1 A2 r c2 l2 W ha hna (by omega) hm g0 hmc hl1 g1 hqc hl2 g2 hrc (by omega) (few3 z1) (few3 z2)).mono ?_
      rintro o W' ⟨rfl, hb⟩
      refine ⟨?_, hb⟩
      unfold rootMR
      rw [hl2]
      split
      · rfl
      · rfl
    · exact crRootM k a n A0 q c0 A1 c1 l1 A2 r c2 l2 W ha hna (by omega) hm g0 hmc hl1 g1 hqc hl2 g2 hrc (by omega) (few3 z1) (few3 z2)
  · exact ⟨⟨#[]⟩, 1, fun W g0 g1 g2 => cRootM_arg k N A0 m c0 zs A1 q c1 A2 r c2 W hm g0 hmc (by omega) (by omega) h, fun W g0 g1 g2 => crRootM_arg k N A0 m c0 zs A1 q c1 A2 r c2 W hm g0 hmc (by omega) (by omega) (by omega) h⟩
theorem checkM_ok (x : ByteArray) : checkM x 0 x = 0 := if_neg (fun h => h.2 rfl)
theorem checkM_bad {x root : ByteArray} (h : ¬ x = root) : checkM x 0 root = 11 := if_pos ⟨rfl, h⟩
theorem checkM_err {x root : ByteArray} {e : Nat} (h : ¬ e = 0) : checkM x e root = e := if_neg (fun g => h g.1)
set_option maxRecDepth 100000 in
set_option maxHeartbeats 8000000 in
theorem multiRoots_walk {w : World} (k : Int) (hk : (Lit.int .i64 k).wf = true) (n : Int) (hn : (Lit.int .i64 n).wf = true) (v0 : Value) (zs : List Int) (hv0 : IntsIn w v0 zs) (v1 : Value) (s1 : List ByteArray) (hv1 : StrsIn w v1 s1) (v2 : Value) (s2 : List ByteArray) (hv2 : StrsIn w v2 s2) (rt : ByteArray) (hrt : rt.size ≤ reachBytes) :
    Calls Try.prog 3 #[.int .i64 k, .int .i64 n, v0, v1, v2, .string rt] w fun e w' => e = .returned (.bool true) ∧ Below w.heap.size w w' := by
  have h1 := cFewV hv1
  have h2 := cFewV hv2
  have H1 := Lib.hid h1
  have H2 := Lib.hid h2
  obtain ⟨⟨A0, c0, rfl, hc0, hs0⟩, hl0⟩ := hv0
  have HI := Lib.hid hs0
  obtain ⟨m, hm⟩ : ∃ x, zs.length = x := ⟨_, rfl⟩
  rw [hm] at hc0 hl0 ⊢
  have HM := Lib.hid hm
  have hrt2 : rt.size ≤ 140737488355328 := Nat.le_trans hrt (by decide)
  have hn2 := wf_i64 hn
  have hmcI : (m : Int) ≤ (c0 : Int) := by omega
  clear h1 h2 hv1 hv2 hk hn hrt hs0 hm
  go_enter Try.func3, Try.ntmps3
  go_wp2_with fail
  (with_reducible refine H1.out.mono ?_); rintro e w1 ⟨A1, q, c1, l1, rfl, hl1, hs1, hqc, hq, hz1, rfl⟩
  go_wp2_with fail
  (with_reducible refine H2.out.mono ?_); rintro e w1 ⟨A2, r, c2, l2, rfl, hl2, hs2, hrc, hr, hz2, rfl⟩
  clear H1 H2
  have HS1 := Lib.hid hs1
  have HS2 := Lib.hid hs2
  clear hs1 hs2
  by_cases hn3 : 1024 < n
  · have d3 : decide ((1024 : Int) < n) = true := decide_eq_true hn3
    have had := and_1023 n
    have hm1 := Int.emod_nonneg n (show (1024 : Int) ≠ 0 by decide)
    have hm2 := Int.emod_lt_of_pos n (show (0 : Int) < 1024 by decide)
    obtain ⟨N, HN⟩ : ∃ x, n % 1024 = x := ⟨_, rfl⟩
    rw [HN] at had hm1 hm2
    clear HN
    by_cases hbig : 100 < m
    · have d1 : decide ((100 : Int) < (m : Int)) = true := decide_eq_true (by omega)
      clear hl1 hl2 hz1 hz2
      go_wp2_with fail
      (with_reducible refine (cAwake41 _).mono ?_); rintro e w9 ⟨rfl, hb9⟩
      go_wp2_with fail
      go_ret
      exact ⟨rfl, hb9⟩
    · have d1 : decide ((100 : Int) < (m : Int)) = false := decide_eq_false (by omega)
      by_cases hrb : 100 < rt.size
      · have d2 : decide ((100 : Int) < (rt.size : Int)) = true := decide_eq_true (by omega)
        clear hl1 hl2 hz1 hz2
        go_wp2_with fail
        (with_reducible refine (cAwake41 _).mono ?_); rintro e w9 ⟨rfl, hb9⟩
        go_wp2_with fail
        go_ret
        exact ⟨rfl, hb9⟩
      · have d2 : decide ((100 : Int) < (rt.size : Int)) = false := decide_eq_false (by omega)
        obtain ⟨x, e, q1, q2⟩ := rootM_both k N (by omega) (by omega) A0 m c0 zs HM.out hc0 (by omega) A1 q c1 l1 hl1 hqc hq hz1 A2 r c2 l2 hl2 hrc hr hz2
        have q3 := fun W g0 g1 g2 => cCheckM k N (.slice A0 m c0) (.slice A1 q c1) (.slice A2 r c2) rt x e W (q1 W g0 g1 g2)
        have hxx : (x.toList == x.toList) = true := beq_self_eq_true _
        have Q1 := Lib.hid q1
        have Q2 := Lib.hid q2
        clear q1 q2 hl1 hl2 hz1 hz2
        by_cases he : e = 0
        · subst he
          by_cases hx : x = rt
          · have hxr : (x.toList == rt.toList) = true := by rw [hx]; exact beq_self_eq_true _
            have hck : checkM x 0 rt = 0 := by rw [hx]; exact checkM_ok _
            simp only [hck] at q3
            have Q3 := Lib.hid q3
            clear q3 hx hck
            go_wp2_with fail
            (with_reducible refine (Q1.out _ HI.out HS1.out HS2.out).mono ?_); rintro e w2 ⟨rfl, hb2⟩
            have HI2 := Lib.hid (HI.out.fresh hb2)
            have HS12 := Lib.hid (HS1.out.fresh hb2)
            have HS22 := Lib.hid (HS2.out.fresh hb2)
            go_wp2_with fail
            (with_reducible refine (Q2.out _ HI2.out HS12.out HS22.out).mono ?_); rintro e w3 ⟨rfl, hb3⟩
            have hb23 := hb2.trans (hb3.mono hb2.size)
            have HI3 := Lib.hid (HI.out.fresh hb23)
            have HS13 := Lib.hid (HS1.out.fresh hb23)
            have HS23 := Lib.hid (HS2.out.fresh hb23)
            clear hb2 hb3
            go_wp2_with fail
            (with_reducible refine (Q3.out _ HI3.out HS13.out HS23.out).mono ?_); rintro e w4 ⟨rfl, hb4⟩
            have hb24 := hb23.trans (hb4.mono hb23.size)
            clear hb23 hb4
            go_wp2_with fail
            (with_reducible refine (cAwake41 _).mono ?_); rintro e w9 ⟨rfl, hb9⟩
            go_wp2_with fail
            go_ret
            exact ⟨rfl, hb24.trans (hb9.mono hb24.size)⟩
          · have hxr := beq_text_ne hx
            have hck := checkM_bad hx
            simp only [hck] at q3
            have Q3 := Lib.hid q3
            clear q3 hx hck
            go_wp2_with fail
            (with_reducible refine (Q1.out _ HI.out HS1.out HS2.out).mono ?_); rintro e w2 ⟨rfl, hb2⟩
            have HI2 := Lib.hid (HI.out.fresh hb2)
            have HS12 := Lib.hid (HS1.out.fresh hb2)
            have HS22 := Lib.hid (HS2.out.fresh hb2)
            go_wp2_with fail
            (with_reducible refine (Q2.out _ HI2.out HS12.out HS22.out).mono ?_); rintro e w3 ⟨rfl, hb3⟩
            have hb23 := hb2.trans (hb3.mono hb2.size)
            have HI3 := Lib.hid (HI.out.fresh hb23)
            have HS13 := Lib.hid (HS1.out.fresh hb23)
            have HS23 := Lib.hid (HS2.out.fresh hb23)
            clear hb2 hb3
            go_wp2_with fail
            (with_reducible refine (Q3.out _ HI3.out HS13.out HS23.out).mono ?_); rintro e w4 ⟨rfl, hb4⟩
            have hb24 := hb23.trans (hb4.mono hb23.size)
            clear hb23 hb4
            go_wp2_with fail
            (with_reducible refine (cAwake41 _).mono ?_); rintro e w9 ⟨rfl, hb9⟩
            go_wp2_with fail
            go_ret
            exact ⟨rfl, hb24.trans (hb9.mono hb24.size)⟩
        · have heI : ((e : Int) != 0) = true := by simp; omega
          have hee : ((e : Int) == (e : Int)) = true := by simp
          have hck := checkM_err (x := x) (root := rt) he
          simp only [hck] at q3
          have Q3 := Lib.hid q3
          clear q3 hck
          go_wp2_with fail
          (with_reducible refine (Q1.out _ HI.out HS1.out HS2.out).mono ?_); rintro e w2 ⟨rfl, hb2⟩
          have HI2 := Lib.hid (HI.out.fresh hb2)
          have HS12 := Lib.hid (HS1.out.fresh hb2)
          have HS22 := Lib.hid (HS2.out.fresh hb2)
          go_wp2_with fail
          (with_reducible refine (Q2.out _ HI2.out HS12.out HS22.out).mono ?_); rintro e w3 ⟨rfl, hb3⟩
          have hb23 := hb2.trans (hb3.mono hb2.size)
          have HI3 := Lib.hid (HI.out.fresh hb23)
          have HS13 := Lib.hid (HS1.out.fresh hb23)
          have HS23 := Lib.hid (HS2.out.fresh hb23)
          clear hb2 hb3
          go_wp2_with fail
          (with_reducible refine (Q3.out _ HI3.out HS13.out HS23.out).mono ?_); rintro e w4 ⟨rfl, hb4⟩
          have hb24 := hb23.trans (hb4.mono hb23.size)
          clear hb23 hb4
          go_wp2_with fail
          (with_reducible refine (cAwake41 _).mono ?_); rintro e w9 ⟨rfl, hb9⟩
          go_wp2_with fail
          go_ret
          exact ⟨rfl, hb24.trans (hb9.mono hb24.size)⟩
  · have d3 : decide ((1024 : Int) < n) = false := decide_eq_false hn3
    by_cases hbig : 100 < m
    · have d1 : decide ((100 : Int) < (m : Int)) = true := decide_eq_true (by omega)
      clear hl1 hl2 hz1 hz2
      go_wp2_with fail
      (with_reducible refine (cAwake41 _).mono ?_); rintro e w9 ⟨rfl, hb9⟩
      go_wp2_with fail
      go_ret
      exact ⟨rfl, hb9⟩
    · have d1 : decide ((100 : Int) < (m : Int)) = false := decide_eq_false (by omega)
      by_cases hrb : 100 < rt.size
      · have d2 : decide ((100 : Int) < (rt.size : Int)) = true := decide_eq_true (by omega)
        clear hl1 hl2 hz1 hz2
        go_wp2_with fail
        (with_reducible refine (cAwake41 _).mono ?_); rintro e w9 ⟨rfl, hb9⟩
        go_wp2_with fail
        go_ret
        exact ⟨rfl, hb9⟩
      · have d2 : decide ((100 : Int) < (rt.size : Int)) = false := decide_eq_false (by omega)
        obtain ⟨x, e, q1, q2⟩ := rootM_both k n (by omega) (by omega) A0 m c0 zs HM.out hc0 (by omega) A1 q c1 l1 hl1 hqc hq hz1 A2 r c2 l2 hl2 hrc hr hz2
        have q3 := fun W g0 g1 g2 => cCheckM k n (.slice A0 m c0) (.slice A1 q c1) (.slice A2 r c2) rt x e W (q1 W g0 g1 g2)
        have hxx : (x.toList == x.toList) = true := beq_self_eq_true _
        have Q1 := Lib.hid q1
        have Q2 := Lib.hid q2
        clear q1 q2 hl1 hl2 hz1 hz2
        by_cases he : e = 0
        · subst he
          by_cases hx : x = rt
          · have hxr : (x.toList == rt.toList) = true := by rw [hx]; exact beq_self_eq_true _
            have hck : checkM x 0 rt = 0 := by rw [hx]; exact checkM_ok _
            simp only [hck] at q3
            have Q3 := Lib.hid q3
            clear q3 hx hck
            go_wp2_with fail
            (with_reducible refine (Q1.out _ HI.out HS1.out HS2.out).mono ?_); rintro e w2 ⟨rfl, hb2⟩
            have HI2 := Lib.hid (HI.out.fresh hb2)
            have HS12 := Lib.hid (HS1.out.fresh hb2)
            have HS22 := Lib.hid (HS2.out.fresh hb2)
            go_wp2_with fail
            (with_reducible refine (Q2.out _ HI2.out HS12.out HS22.out).mono ?_); rintro e w3 ⟨rfl, hb3⟩
            have hb23 := hb2.trans (hb3.mono hb2.size)
            have HI3 := Lib.hid (HI.out.fresh hb23)
            have HS13 := Lib.hid (HS1.out.fresh hb23)
            have HS23 := Lib.hid (HS2.out.fresh hb23)
            clear hb2 hb3
            go_wp2_with fail
            (with_reducible refine (Q3.out _ HI3.out HS13.out HS23.out).mono ?_); rintro e w4 ⟨rfl, hb4⟩
            have hb24 := hb23.trans (hb4.mono hb23.size)
            clear hb23 hb4
            go_wp2_with fail
            (with_reducible refine (cAwake41 _).mono ?_); rintro e w9 ⟨rfl, hb9⟩
            go_wp2_with fail
            go_ret
            exact ⟨rfl, hb24.trans (hb9.mono hb24.size)⟩
          · have hxr := beq_text_ne hx
            have hck := checkM_bad hx
            simp only [hck] at q3
            have Q3 := Lib.hid q3
            clear q3 hx hck
            go_wp2_with fail
            (with_reducible refine (Q1.out _ HI.out HS1.out HS2.out).mono ?_); rintro e w2 ⟨rfl, hb2⟩
            have HI2 := Lib.hid (HI.out.fresh hb2)
            have HS12 := Lib.hid (HS1.out.fresh hb2)
            have HS22 := Lib.hid (HS2.out.fresh hb2)
            go_wp2_with fail
            (with_reducible refine (Q2.out _ HI2.out HS12.out HS22.out).mono ?_); rintro e w3 ⟨rfl, hb3⟩
            have hb23 := hb2.trans (hb3.mono hb2.size)
            have HI3 := Lib.hid (HI.out.fresh hb23)
            have HS13 := Lib.hid (HS1.out.fresh hb23)
            have HS23 := Lib.hid (HS2.out.fresh hb23)
            clear hb2 hb3
            go_wp2_with fail
            (with_reducible refine (Q3.out _ HI3.out HS13.out HS23.out).mono ?_); rintro e w4 ⟨rfl, hb4⟩
            have hb24 := hb23.trans (hb4.mono hb23.size)
            clear hb23 hb4
            go_wp2_with fail
            (with_reducible refine (cAwake41 _).mono ?_); rintro e w9 ⟨rfl, hb9⟩
            go_wp2_with fail
            go_ret
            exact ⟨rfl, hb24.trans (hb9.mono hb24.size)⟩
        · have heI : ((e : Int) != 0) = true := by simp; omega
          have hee : ((e : Int) == (e : Int)) = true := by simp
          have hck := checkM_err (x := x) (root := rt) he
          simp only [hck] at q3
          have Q3 := Lib.hid q3
          clear q3 hck
          go_wp2_with fail
          (with_reducible refine (Q1.out _ HI.out HS1.out HS2.out).mono ?_); rintro e w2 ⟨rfl, hb2⟩
          have HI2 := Lib.hid (HI.out.fresh hb2)
          have HS12 := Lib.hid (HS1.out.fresh hb2)
          have HS22 := Lib.hid (HS2.out.fresh hb2)
          go_wp2_with fail
          (with_reducible refine (Q2.out _ HI2.out HS12.out HS22.out).mono ?_); rintro e w3 ⟨rfl, hb3⟩
          have hb23 := hb2.trans (hb3.mono hb2.size)
          have HI3 := Lib.hid (HI.out.fresh hb23)
          have HS13 := Lib.hid (HS1.out.fresh hb23)
          have HS23 := Lib.hid (HS2.out.fresh hb23)
          clear hb2 hb3
          go_wp2_with fail
          (with_reducible refine (Q3.out _ HI3.out HS13.out HS23.out).mono ?_); rintro e w4 ⟨rfl, hb4⟩
          have hb24 := hb23.trans (hb4.mono hb23.size)
          clear hb23 hb4
          go_wp2_with fail
          (with_reducible refine (cAwake41 _).mono ?_); rintro e w9 ⟨rfl, hb9⟩
          go_wp2_with fail
          go_ret
          exact ⟨rfl, hb24.trans (hb9.mono hb24.size)⟩
end Go.Proofs.Ytcnhhlnbmliihaa
