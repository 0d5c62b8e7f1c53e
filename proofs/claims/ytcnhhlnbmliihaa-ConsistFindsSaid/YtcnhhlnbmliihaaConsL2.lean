/- The laws ConsistRoots, ConsistClash, ConsistFinds, walked. -/
import Derived.Test.YtcnhhlnbmliihaaConsL
import Derived.Test.YtcnhhlnbmliihaaClash1
namespace Go.Proofs.Ytcnhhlnbmliihaa
open Go.RowKit
set_option linter.unusedVariables false
set_option linter.unusedSimpArgs false

theorem few_le {l : List ByteArray} (h : ∀ s ∈ l, s.size ≤ 20000) : ∀ s ∈ l, s.size ≤ 200000 := fun s hs => by have := h s hs; omega
theorem checkC_bad {a b f g : ByteArray} (h : ¬ (a = f ∧ b = g)) : checkC (a, b, 0) f g = 11 := if_pos ⟨rfl, h⟩
theorem checkC_err {a b f g : ByteArray} {e : Nat} (h : ¬ e = 0) : checkC (a, b, e) f g = e := if_neg (fun g => h g.1)

set_option maxRecDepth 100000 in
set_option maxHeartbeats 8000000 in
theorem consistRoots_walk {w : World} (k : Int) (hk : (Lit.int .i64 k).wf = true) (m : Int) (hm : (Lit.int .i64 m).wf = true) (n : Int) (hn : (Lit.int .i64 n).wf = true) (kn : ByteArray) (hkn : kn.size ≤ reachBytes) (all : ByteArray) (hall : all.size ≤ reachBytes) (v : Value) (ss : List ByteArray) (hv : StrsIn w v ss) :
    Calls Try.prog 7 #[.int .i64 k, .int .i64 m, .int .i64 n, .string kn, .string all, v] w fun e w' => e = .returned (.bool true) ∧ Below w.heap.size w w' := by
  have h0 := cFewV hv
  have H0 := Lib.hid h0
  have hkn2 : kn.size ≤ 140737488355328 := Nat.le_trans hkn (by decide)
  have hal2 : all.size ≤ 140737488355328 := Nat.le_trans hall (by decide)
  have hn2 := wf_i64 hn
  clear h0 hv hk hm hn hkn hall
  go_enter Try.func7, Try.ntmps7
  go_wp2_with fail
  (with_reducible refine H0.out.mono ?_); rintro e w1 ⟨A, q, c, p, rfl, hl, hs, hqc, hq, hz, rfl⟩
  clear H0
  by_cases h1 : kn.size ≤ 100
  · have d1 : decide ((100 : Int) < (kn.size : Int)) = false := decide_eq_false (by omega)
    by_cases h2 : all.size ≤ 100
    · have d2 : decide ((100 : Int) < (all.size : Int)) = false := decide_eq_false (by omega)
      by_cases hn3 : 4096 < n
      · have d3 : decide ((4096 : Int) < n) = true := decide_eq_true hn3
        have had := and_4095 n
        have hm1 := Int.emod_nonneg n (show (4096 : Int) ≠ 0 by decide)
        have hm2 := Int.emod_lt_of_pos n (show (0 : Int) < 4096 by decide)
        obtain ⟨N, HN⟩ : ∃ x, n % 4096 = x := ⟨_, rfl⟩
        rw [HN] at had hm1 hm2
        clear HN
        have q1 := fun W h => cRootsC k m N kn A q c p W (by omega) (by omega) hl h hqc (by omega) (zle (few_le hz))
        have q2 := fun W h => crRootsC k m N kn A q c p W (by omega) (by omega) hl h hqc (by omega) (zle (few_le hz))
        have q3 := fun W h => cCheckC k m N kn all A q c p W (by omega) (by omega) hl h hqc (by omega) (zle (few_le hz))
        have e2 := rootsC_two (wd k) kn m N p
        obtain ⟨R, HR⟩ : ∃ x, Hid (rootsC (wd k) kn m N p = x) := ⟨_, Lib.hid rfl⟩
        simp only [HR.out] at q1 q2 q3
        rw [HR.out] at e2
        obtain ⟨a, b, e⟩ := R
        dsimp only [rT] at q1 q2 e2
        have Q1 := Lib.hid q1
        have Q2 := Lib.hid q2
        have haa : (a.toList == a.toList) = true := beq_self_eq_true _
        have hbb : (b.toList == b.toList) = true := beq_self_eq_true _
        have HS := Lib.hid hs
        clear q1 q2 hs hl hz
        by_cases he : e = 0
        · subst he
          by_cases hab : a = kn ∧ b = all
          · obtain ⟨h1, h2⟩ := hab
            have ha2 : (a.toList == kn.toList) = true := by rw [h1]; exact beq_self_eq_true _
            have hb2' : (b.toList == all.toList) = true := by rw [h2]; exact beq_self_eq_true _
            have hcz : checkC (a, b, 0) kn all = 0 := by rw [h1, h2]; exact checkC_ok _ _
            simp only [hcz] at q3
            have Q3 := Lib.hid q3
            clear q3 h1 h2 hcz
            go_wp2_with fail
            (with_reducible refine (Q1.out _ HS.out).mono ?_); rintro e w2 ⟨rfl, hb2⟩
            go_wp2_with fail
            (with_reducible refine (Q2.out _ (HS.out.fresh hb2)).mono ?_); rintro e w3 ⟨rfl, hb3⟩
            have hb23 := hb2.trans (hb3.mono hb2.size)
            clear hb2 hb3
            go_wp2_with fail
            (with_reducible refine (Q3.out _ (HS.out.fresh hb23)).mono ?_); rintro e w4 ⟨rfl, hb4⟩
            have hb24 := hb23.trans (hb4.mono hb23.size)
            clear hb23 hb4
            go_wp2_with fail
            (with_reducible refine (cAwake40 _).mono ?_); rintro e w9 ⟨rfl, hb9⟩
            go_wp2_with fail
            go_ret
            exact ⟨rfl, hb24.trans (hb9.mono hb24.size)⟩
          · have hcz := checkC_bad hab
            simp only [hcz] at q3
            have Q3 := Lib.hid q3
            by_cases h1 : a = kn
            · have ha2 : (a.toList == kn.toList) = true := by rw [h1]; exact beq_self_eq_true _
              have hb2' := beq_text_ne (fun h => hab ⟨h1, h⟩)
              clear q3 h1 hab hcz
              go_wp2_with fail
              (with_reducible refine (Q1.out _ HS.out).mono ?_); rintro e w2 ⟨rfl, hb2⟩
              go_wp2_with fail
              (with_reducible refine (Q2.out _ (HS.out.fresh hb2)).mono ?_); rintro e w3 ⟨rfl, hb3⟩
              have hb23 := hb2.trans (hb3.mono hb2.size)
              clear hb2 hb3
              go_wp2_with fail
              (with_reducible refine (Q3.out _ (HS.out.fresh hb23)).mono ?_); rintro e w4 ⟨rfl, hb4⟩
              have hb24 := hb23.trans (hb4.mono hb23.size)
              clear hb23 hb4
              go_wp2_with fail
              (with_reducible refine (cAwake40 _).mono ?_); rintro e w9 ⟨rfl, hb9⟩
              go_wp2_with fail
              go_ret
              exact ⟨rfl, hb24.trans (hb9.mono hb24.size)⟩
            · have ha2 := beq_text_ne h1
              clear q3 h1 hab hcz
              go_wp2_with fail
              (with_reducible refine (Q1.out _ HS.out).mono ?_); rintro e w2 ⟨rfl, hb2⟩
              go_wp2_with fail
              (with_reducible refine (Q2.out _ (HS.out.fresh hb2)).mono ?_); rintro e w3 ⟨rfl, hb3⟩
              have hb23 := hb2.trans (hb3.mono hb2.size)
              clear hb2 hb3
              go_wp2_with fail
              (with_reducible refine (Q3.out _ (HS.out.fresh hb23)).mono ?_); rintro e w4 ⟨rfl, hb4⟩
              have hb24 := hb23.trans (hb4.mono hb23.size)
              clear hb23 hb4
              go_wp2_with fail
              (with_reducible refine (cAwake40 _).mono ?_); rintro e w9 ⟨rfl, hb9⟩
              go_wp2_with fail
              go_ret
              exact ⟨rfl, hb24.trans (hb9.mono hb24.size)⟩
        · have heI : ((e : Int) != 0) = true := by simp; omega
          have hee : ((e : Int) == (e : Int)) = true := by simp
          have hcz := checkC_err (a := a) (b := b) (f := kn) (g := all) he
          simp only [hcz] at q3
          have Q3 := Lib.hid q3
          clear q3 hcz
          go_wp2_with fail
          (with_reducible refine (Q1.out _ HS.out).mono ?_); rintro e w2 ⟨rfl, hb2⟩
          go_wp2_with fail
          (with_reducible refine (Q2.out _ (HS.out.fresh hb2)).mono ?_); rintro e w3 ⟨rfl, hb3⟩
          have hb23 := hb2.trans (hb3.mono hb2.size)
          clear hb2 hb3
          go_wp2_with fail
          (with_reducible refine (Q3.out _ (HS.out.fresh hb23)).mono ?_); rintro e w4 ⟨rfl, hb4⟩
          have hb24 := hb23.trans (hb4.mono hb23.size)
          clear hb23 hb4
          go_wp2_with fail
          (with_reducible refine (cAwake40 _).mono ?_); rintro e w9 ⟨rfl, hb9⟩
          go_wp2_with fail
          go_ret
          exact ⟨rfl, hb24.trans (hb9.mono hb24.size)⟩
      · have d3 : decide ((4096 : Int) < n) = false := decide_eq_false hn3
        have q1 := fun W h => cRootsC k m n kn A q c p W (by omega) (by omega) hl h hqc (by omega) (zle (few_le hz))
        have q2 := fun W h => crRootsC k m n kn A q c p W (by omega) (by omega) hl h hqc (by omega) (zle (few_le hz))
        have q3 := fun W h => cCheckC k m n kn all A q c p W (by omega) (by omega) hl h hqc (by omega) (zle (few_le hz))
        have e2 := rootsC_two (wd k) kn m n p
        obtain ⟨R, HR⟩ : ∃ x, Hid (rootsC (wd k) kn m n p = x) := ⟨_, Lib.hid rfl⟩
        simp only [HR.out] at q1 q2 q3
        rw [HR.out] at e2
        obtain ⟨a, b, e⟩ := R
        dsimp only [rT] at q1 q2 e2
        have Q1 := Lib.hid q1
        have Q2 := Lib.hid q2
        have haa : (a.toList == a.toList) = true := beq_self_eq_true _
        have hbb : (b.toList == b.toList) = true := beq_self_eq_true _
        have HS := Lib.hid hs
        clear q1 q2 hs hl hz
        by_cases he : e = 0
        · subst he
          by_cases hab : a = kn ∧ b = all
          · obtain ⟨h1, h2⟩ := hab
            have ha2 : (a.toList == kn.toList) = true := by rw [h1]; exact beq_self_eq_true _
            have hb2' : (b.toList == all.toList) = true := by rw [h2]; exact beq_self_eq_true _
            have hcz : checkC (a, b, 0) kn all = 0 := by rw [h1, h2]; exact checkC_ok _ _
            simp only [hcz] at q3
            have Q3 := Lib.hid q3
            clear q3 h1 h2 hcz
            go_wp2_with fail
            (with_reducible refine (Q1.out _ HS.out).mono ?_); rintro e w2 ⟨rfl, hb2⟩
            go_wp2_with fail
            (with_reducible refine (Q2.out _ (HS.out.fresh hb2)).mono ?_); rintro e w3 ⟨rfl, hb3⟩
            have hb23 := hb2.trans (hb3.mono hb2.size)
            clear hb2 hb3
            go_wp2_with fail
            (with_reducible refine (Q3.out _ (HS.out.fresh hb23)).mono ?_); rintro e w4 ⟨rfl, hb4⟩
            have hb24 := hb23.trans (hb4.mono hb23.size)
            clear hb23 hb4
            go_wp2_with fail
            (with_reducible refine (cAwake40 _).mono ?_); rintro e w9 ⟨rfl, hb9⟩
            go_wp2_with fail
            go_ret
            exact ⟨rfl, hb24.trans (hb9.mono hb24.size)⟩
          · have hcz := checkC_bad hab
            simp only [hcz] at q3
            have Q3 := Lib.hid q3
            by_cases h1 : a = kn
            · have ha2 : (a.toList == kn.toList) = true := by rw [h1]; exact beq_self_eq_true _
              have hb2' := beq_text_ne (fun h => hab ⟨h1, h⟩)
              clear q3 h1 hab hcz
              go_wp2_with fail
              (with_reducible refine (Q1.out _ HS.out).mono ?_); rintro e w2 ⟨rfl, hb2⟩
              go_wp2_with fail
              (with_reducible refine (Q2.out _ (HS.out.fresh hb2)).mono ?_); rintro e w3 ⟨rfl, hb3⟩
              have hb23 := hb2.trans (hb3.mono hb2.size)
              clear hb2 hb3
              go_wp2_with fail
              (with_reducible refine (Q3.out _ (HS.out.fresh hb23)).mono ?_); rintro e w4 ⟨rfl, hb4⟩
              have hb24 := hb23.trans (hb4.mono hb23.size)
              clear hb23 hb4
              go_wp2_with fail
              (with_reducible refine (cAwake40 _).mono ?_); rintro e w9 ⟨rfl, hb9⟩
              go_wp2_with fail
              go_ret
              exact ⟨rfl, hb24.trans (hb9.mono hb24.size)⟩
            · have ha2 := beq_text_ne h1
              clear q3 h1 hab hcz
              go_wp2_with fail
              (with_reducible refine (Q1.out _ HS.out).mono ?_); rintro e w2 ⟨rfl, hb2⟩
              go_wp2_with fail
              (with_reducible refine (Q2.out _ (HS.out.fresh hb2)).mono ?_); rintro e w3 ⟨rfl, hb3⟩
              have hb23 := hb2.trans (hb3.mono hb2.size)
              clear hb2 hb3
              go_wp2_with fail
              (with_reducible refine (Q3.out _ (HS.out.fresh hb23)).mono ?_); rintro e w4 ⟨rfl, hb4⟩
              have hb24 := hb23.trans (hb4.mono hb23.size)
              clear hb23 hb4
              go_wp2_with fail
              (with_reducible refine (cAwake40 _).mono ?_); rintro e w9 ⟨rfl, hb9⟩
              go_wp2_with fail
              go_ret
              exact ⟨rfl, hb24.trans (hb9.mono hb24.size)⟩
        · have heI : ((e : Int) != 0) = true := by simp; omega
          have hee : ((e : Int) == (e : Int)) = true := by simp
          have hcz := checkC_err (a := a) (b := b) (f := kn) (g := all) he
          simp only [hcz] at q3
          have Q3 := Lib.hid q3
          clear q3 hcz
          go_wp2_with fail
          (with_reducible refine (Q1.out _ HS.out).mono ?_); rintro e w2 ⟨rfl, hb2⟩
          go_wp2_with fail
          (with_reducible refine (Q2.out _ (HS.out.fresh hb2)).mono ?_); rintro e w3 ⟨rfl, hb3⟩
          have hb23 := hb2.trans (hb3.mono hb2.size)
          clear hb2 hb3
          go_wp2_with fail
          (with_reducible refine (Q3.out _ (HS.out.fresh hb23)).mono ?_); rintro e w4 ⟨rfl, hb4⟩
          have hb24 := hb23.trans (hb4.mono hb23.size)
          clear hb23 hb4
          go_wp2_with fail
          (with_reducible refine (cAwake40 _).mono ?_); rintro e w9 ⟨rfl, hb9⟩
          go_wp2_with fail
          go_ret
          exact ⟨rfl, hb24.trans (hb9.mono hb24.size)⟩
    · have d2 : decide ((100 : Int) < (all.size : Int)) = true := decide_eq_true (by omega)
      clear hl hs hz
      by_cases hn3 : 4096 < n
      · have d3 : decide ((4096 : Int) < n) = true := decide_eq_true hn3
        go_wp2_with fail
        (with_reducible refine (cAwake40 _).mono ?_); rintro e w9 ⟨rfl, hb9⟩
        go_wp2_with fail
        go_ret
        exact ⟨rfl, hb9⟩
      · have d3 : decide ((4096 : Int) < n) = false := decide_eq_false hn3
        go_wp2_with fail
        (with_reducible refine (cAwake40 _).mono ?_); rintro e w9 ⟨rfl, hb9⟩
        go_wp2_with fail
        go_ret
        exact ⟨rfl, hb9⟩
  · have d1 : decide ((100 : Int) < (kn.size : Int)) = true := decide_eq_true (by omega)
    clear hl hs hz
    by_cases hn3 : 4096 < n
    · have d3 : decide ((4096 : Int) < n) = true := decide_eq_true hn3
      go_wp2_with fail
      (with_reducible refine (cAwake40 _).mono ?_); rintro e w9 ⟨rfl, hb9⟩
      go_wp2_with fail
      go_ret
      exact ⟨rfl, hb9⟩
    · have d3 : decide ((4096 : Int) < n) = false := decide_eq_false hn3
      go_wp2_with fail
      (with_reducible refine (cAwake40 _).mono ?_); rintro e w9 ⟨rfl, hb9⟩
      go_wp2_with fail
      go_ret
      exact ⟨rfl, hb9⟩
set_option maxRecDepth 100000 in
set_option maxHeartbeats 4000000 in
theorem consistClash_walk {w : World} (k : Int) (hk : (Lit.int .i64 k).wf = true) (m : Int) (hm : (Lit.int .i64 m).wf = true) (kn : ByteArray) (hkn : kn.size ≤ reachBytes) (v1 : Value) (s1 : List ByteArray) (hv1 : StrsIn w v1 s1) (v2 : Value) (s2 : List ByteArray) (hv2 : StrsIn w v2 s2) :
    Calls Try.prog 8 #[.int .i64 k, .int .i64 m, .string kn, v1, v2] w fun e w' => e = .returned (.bool true) ∧ Below w.heap.size w w' := by
  have h0 := cFewV hv1
  have h1 := cSums40 k hv2
  have H0 := Lib.hid h0
  have H1 := Lib.hid h1
  have hkn2 : kn.size ≤ 140737488355328 := Nat.le_trans hkn (by decide)
  clear h0 h1 hv1 hv2 hk hm hkn
  go_enter Try.func8, Try.ntmps8
  go_wp2_with fail
  (with_reducible refine H0.out.mono ?_); rintro e w1 ⟨A, q, c, p, rfl, hl, hs, hqc, hq, hz, rfl⟩
  go_wp2_with fail
  (with_reducible refine H1.out.mono ?_); rintro e w2 ⟨B, n, d, l, rfl, hll, hnd, hn, hlz, hls, hb2⟩
  clear H0 H1
  by_cases h1 : kn.size ≤ 100
  · have d1 : decide ((100 : Int) < (kn.size : Int)) = false := decide_eq_false (by omega)
    have q1 := fun W g1 g2 => cClashC k m kn A q c p B n d l W (by omega) hl g1 hqc (by omega) (few_le hz) hll g2 hnd (by omega) (wdz hlz)
    have q2 := fun W g1 g2 => crClashC k m kn A q c p B n d l W (by omega) hl g1 hqc (by omega) (few_le hz) hll g2 hnd (by omega) (wdz hlz)
    obtain ⟨V, HV⟩ : ∃ x, Hid (clashC (wd k) kn m p l = x) := ⟨_, Lib.hid rfl⟩
    simp only [HV.out] at q1 q2
    obtain ⟨x, y, b, hf⟩ := oC_form V
    simp only [hf] at q1 q2
    have Q1 := Lib.hid q1
    have Q2 := Lib.hid q2
    have hxx : (x.toList == x.toList) = true := beq_self_eq_true _
    have hyy : (y.toList == y.toList) = true := beq_self_eq_true _
    have hbb : (b == b) = true := by simp
    have HS := Lib.hid (hs.fresh hb2)
    have HLS := Lib.hid hls
    clear q1 q2 hl hs hz hll hls hlz hf
    go_wp2_with fail
    (with_reducible refine (Q1.out _ HS.out HLS.out).mono ?_); rintro e w3 ⟨rfl, hb3⟩
    go_wp2_with fail
    (with_reducible refine (Q2.out _ (HS.out.fresh hb3) (HLS.out.fresh hb3)).mono ?_); rintro e w4 ⟨rfl, hb4⟩
    have hb34 := hb3.trans (hb4.mono hb3.size)
    have hbf := hb2.trans (hb34.mono hb2.size)
    clear hb2 hb3 hb4 hb34
    go_wp2_with fail
    (with_reducible refine (cAwake40 _).mono ?_); rintro e w9 ⟨rfl, hb9⟩
    go_wp2_with fail
    go_ret
    exact ⟨rfl, hbf.trans (hb9.mono hbf.size)⟩
  · have d1 : decide ((100 : Int) < (kn.size : Int)) = true := decide_eq_true (by omega)
    clear hl hs hz hll hls hlz
    go_wp2_with fail
    (with_reducible refine (cAwake40 _).mono ?_); rintro e w9 ⟨rfl, hb9⟩
    go_wp2_with fail
    go_ret
    exact ⟨rfl, hb2.trans (hb9.mono hb2.size)⟩
end Go.Proofs.Ytcnhhlnbmliihaa
