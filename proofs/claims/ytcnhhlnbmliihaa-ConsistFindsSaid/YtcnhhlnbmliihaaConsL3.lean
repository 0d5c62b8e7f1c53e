/- The law ConsistFinds, walked. -/
import Derived.Test.YtcnhhlnbmliihaaConsL2
namespace Go.Proofs.Ytcnhhlnbmliihaa
open Go.RowKit
set_option linter.unusedVariables false
set_option linter.unusedSimpArgs false

/-- The two nodes that are found are no longer than what they are made of. -/
theorem consW_le (w : Nat) (hw : w ≤ 32) (b : Nat) (hb : 32 ≤ b) (kn : ByteArray) (hk : kn.size ≤ b) : ∀ (n m : Nat) (p l : List ByteArray) (wh : Bool) (r : ByteArray × ByteArray), l.length = n → 1 ≤ m → m ≤ n → p.length = long m n wh → (∀ s ∈ p, s.size ≤ b) → (∀ s ∈ l, s.size ≤ b) →
    consW w kn m p l wh = some r → r.1.size ≤ 2 * b ∧ r.2.size ≤ 2 * b := by
  intro n
  induction n using Nat.strongRecOn with
  | _ n ih =>
    intro m p l wh r hl h1 hm hpl hpz hlz h
    by_cases e : m = n
    · rw [consW_end w kn m p l wh (by omega)] at h; cases h
    · have hc := cut_lt n (by omega)
      have hp := cut_pos n
      have ht : (l.take (cut n)).length = cut n := by rw [List.length_take]; omega
      have hd : (l.drop (cut n)).length = n - cut n := by rw [List.length_drop, hl]
      have hl1 := long_pos m n wh h1 (by omega)
      have hlast : (p.getD (p.length - 1) ByteArray.empty).size ≤ b := hpz _ (by rw [List.getD_eq_getElem?_getD, List.getElem?_eq_getElem (by omega)]; exact List.getElem_mem _)
      have hpz' : ∀ s ∈ p.take (p.length - 1), s.size ≤ b := fun s hs => hpz s (List.mem_of_mem_take hs)
      have hpt := take_len_pred p (by omega)
      by_cases hne : claimedC w kn m p l wh = realC w l
      · by_cases hmc : m ≤ cut n
        · have hcw := consW_left w kn m p l wh h1 (by omega) hne (by rw [hl]; exact hmc)
          rw [hl] at hcw
          rw [hcw] at h
          exact ih (cut n) hc m _ _ wh r ht h1 hmc (by rw [hpt, hpl, long_left m n wh h1 (by omega) hmc]; omega) hpz' (fun s hs => hlz s (List.mem_of_mem_take hs)) h
        · have hcw := consW_right w kn m p l wh h1 (by omega) hne (by rw [hl]; omega)
          rw [hl] at hcw
          rw [hcw] at h
          exact ih (n - cut n) (by omega) (m - cut n) _ _ false r hd (by omega) (by omega) (by rw [hpt, hpl, long_right m n wh (by omega) (by omega)]; omega) hpz' (fun s hs => hlz s (List.mem_of_mem_drop hs)) h
      · rw [consW_ne w kn m p l wh h1 (by omega) hne] at h
        injection h with h
        subst h
        dsimp only
        constructor
        · by_cases hmc : m ≤ cut n
          · have hcl := claimedC_left w kn m p l wh (by rw [hl]; exact hmc)
            rw [hl] at hcl
            have := (both_le w hw b hb kn hk (cut n) m (p.take (p.length - 1)) wh h1 hmc (by rw [hpt, hpl, long_left m n wh h1 (by omega) hmc]; omega) hpz').2
            rw [hcl, ByteArray.size_append]; omega
          · have hcl := claimedC_right w kn m p l wh (by rw [hl]; omega)
            rw [hl] at hcl
            have := (both_le w hw b hb kn hk (n - cut n) (m - cut n) (p.take (p.length - 1)) false (by omega) (by omega) (by rw [hpt, hpl, long_right m n wh (by omega) (by omega)]; omega) hpz').2
            rw [hcl, ByteArray.size_append]; omega
        · have a1 := root_le w hw b hb (l.take (cut n)) (fun s hs => hlz s (List.mem_of_mem_take hs))
          have a2 := root_le w hw b hb (l.drop (cut n)) (fun s hs => hlz s (List.mem_of_mem_drop hs))
          rw [realC, hl, ByteArray.size_append]; omega
/-- What a law is told of a clash: found and valid, or none. -/
theorem clash_found (w : Nat) (hw : w ≤ 32) (kn : ByteArray) (hk : kn.size ≤ 200000) (m : Int) (p l : List ByteArray) (hpz : ∀ s ∈ p, s.size ≤ 200000) (hlz : ∀ s ∈ l, s.size = w)
    (h : (rootsC w kn m l.length p).2.2 = 0 ∧ (rootsC w kn m l.length p).1 = kn ∧ (rootsC w kn m l.length p).2.1 = root w l ∧ kn ≠ root w (l.take m.toNat)) :
    ∃ x y, oC (clashC w kn m p l) = .tuple #[.string x, .string y, .bool true] ∧ validC w x y = true ∧ x.size ≤ 500000 ∧ y.size ≤ 500000 := by
  obtain ⟨⟨x, y⟩, h1, h2, h3⟩ := clashC_some w hw kn m p l hlz h
  obtain ⟨g1, g2, g3, g4, g5, g6⟩ := rootsC_yes h.1
  have hcw := clashC_yes h
  rw [h1] at hcw
  rw [Int.toNat_natCast] at g3
  have k1 : 1 ≤ m.toNat := by omega
  have k2 : m.toNat ≤ l.length := by omega
  have k3 : ∀ s ∈ l, s.size ≤ 200000 := fun s hs => by have := hlz s hs; omega
  clear g6 h
  have hz := consW_le w hw 200000 (by decide) kn hk l.length m.toNat p l true (x, y) rfl k1 k2 g3 hpz k3 hcw.symm
  obtain ⟨z1, z2⟩ := hz
  have e1 : (⟨#[1]⟩ : ByteArray).size = 1 := rfl
  have z3 : x.size ≤ 2 * 200000 := z1
  have z4 : y.size ≤ 2 * 200000 := z2
  have hne : ¬ (⟨#[1]⟩ ++ x : ByteArray) = ⟨#[1]⟩ ++ y := fun e => h2 (app_inj (a := ⟨#[1]⟩) (c := ⟨#[1]⟩) e rfl).2
  have s1 : (⟨#[1]⟩ ++ x : ByteArray).size ≤ 500000 := by rw [ByteArray.size_append]; omega
  have s2 : (⟨#[1]⟩ ++ y : ByteArray).size ≤ 500000 := by rw [ByteArray.size_append]; omega
  have ho : oC (clashC w kn m p l) = .tuple #[.string (⟨#[1]⟩ ++ x), .string (⟨#[1]⟩ ++ y), .bool true] := by rw [h1]; exact oC_some x y
  dsimp only at h3
  obtain ⟨X, HX⟩ : ∃ z, Hid ((⟨#[1]⟩ ++ x : ByteArray) = z) := ⟨_, Lib.hid rfl⟩
  obtain ⟨Y, HY⟩ : ∃ z, Hid ((⟨#[1]⟩ ++ y : ByteArray) = z) := ⟨_, Lib.hid rfl⟩
  rw [HX.out, HY.out] at h3 hne ho
  rw [HX.out] at s1
  rw [HY.out] at s2
  exact ⟨X, Y, ho, validC_yes w X Y hne h3, s1, s2⟩
set_option maxRecDepth 100000 in
set_option maxHeartbeats 8000000 in
theorem consistFinds_walk {w : World} (k : Int) (hk : (Lit.int .i64 k).wf = true) (m : Int) (hm : (Lit.int .i64 m).wf = true) (kn : ByteArray) (hkn : kn.size ≤ reachBytes) (v1 : Value) (s1 : List ByteArray) (hv1 : StrsIn w v1 s1) (v2 : Value) (s2 : List ByteArray) (hv2 : StrsIn w v2 s2) :
    Calls Try.prog 9 #[.int .i64 k, .int .i64 m, .string kn, v1, v2] w fun e w' => e = .returned (.bool true) ∧ Below w.heap.size w w' := by
  have h0 := cFewV hv1
  have h1 := cSums40 k hv2
  have H0 := Lib.hid h0
  have H1 := Lib.hid h1
  have hkn2 : kn.size ≤ 140737488355328 := Nat.le_trans hkn (by decide)
  clear h0 h1 hv1 hv2 hk hm hkn
  go_enter Try.func9, Try.ntmps9
  go_wp2_with fail
  (with_reducible refine H0.out.mono ?_); rintro e w1 ⟨A, q, c, p, rfl, hl, hs, hqc, hq, hz, rfl⟩
  go_wp2_with fail
  (with_reducible refine H1.out.mono ?_); rintro e w2 ⟨B, n, d, l, rfl, hll, hnd, hn, hlz, hls, hb2⟩
  clear H0 H1
  by_cases h1 : kn.size ≤ 100
  · have d1 : decide ((100 : Int) < (kn.size : Int)) = false := decide_eq_false (by omega)
    rcases Int.lt_or_le m 1 with hm1 | hm1
    · have d2 : decide (m < 1) = true := decide_eq_true hm1
      clear hl hs hz hll hls hlz
      go_wp2_with fail
      (with_reducible refine (cAwake40 _).mono ?_); rintro e w9 ⟨rfl, hb9⟩
      go_wp2_with fail
      go_ret
      exact ⟨rfl, hb2.trans (hb9.mono hb2.size)⟩
    · have d2 : decide (m < 1) = false := decide_eq_false (by omega)
      rcases Int.lt_or_le (n : Int) m with hmn | hmn
      · have d3 : decide ((n : Int) < m) = true := decide_eq_true hmn
        clear hl hs hz hll hls hlz
        go_wp2_with fail
        (with_reducible refine (cAwake40 _).mono ?_); rintro e w9 ⟨rfl, hb9⟩
        go_wp2_with fail
        go_ret
        exact ⟨rfl, hb2.trans (hb9.mono hb2.size)⟩
      · have d3 : decide ((n : Int) < m) = false := decide_eq_false (by omega)
        obtain ⟨M, rfl⟩ : ∃ x : Nat, m = x := ⟨m.toNat, by omega⟩
        have e1 : ((M : Int)).toNat = M := Int.toNat_natCast M
        have htl : (l.take M).length = M := by rw [List.length_take]; omega
        obtain ⟨g, o, rfl, hg, _⟩ := hls (by omega)
        have q1 := fun W g1 g2 => cClashC k M kn A q c p (some ⟨g, o, none⟩) n d l W (by omega) hl g1 hqc (by omega) (few_le hz) hll g2 hnd (by omega) (wdz hlz)
        have q2 := fun W g1 => crRootsC k M n kn A q c p W (by omega) (by omega) hl g1 hqc (by omega) (zle (few_le hz))
        have r1 := fun W g2 => crRoot k n (some ⟨g, o, none⟩) d l W hll g2 hnd (by omega) (zle (wdz hlz))
        have r2 := fun W g2 => crRoot k M (some ⟨g, o, none⟩) d (l.take M) W htl g2 (by omega) (by omega) (mem_take_le (zle (wdz hlz)))
        have vl := fun X Y W h1 h2 => crValid k X Y W h1 h2
        have hno := fun h => clashC_no (w := wd k) (kn := kn) (m := (M : Int)) (p := p) (l := l) h
        have hyes := fun h => clash_found (wd k) (wd_hi k) kn (by omega) (M : Int) p l (few_le hz) hlz h
        rw [hll, e1] at hno hyes
        have hst := hls.take M
        obtain ⟨RR, HR⟩ : ∃ x, Hid (rootsC (wd k) kn (M : Int) (n : Int) p = x) := ⟨_, Lib.hid rfl⟩
        rw [HR.out] at hno hyes
        simp only [HR.out] at q2
        obtain ⟨ra, rb, re⟩ := RR
        dsimp only [rT] at q2 hno hyes
        obtain ⟨V, HV⟩ : ∃ x, Hid (clashC (wd k) kn (M : Int) p l = x) := ⟨_, Lib.hid rfl⟩
        simp only [HV.out] at q1
        rw [HV.out] at hno hyes
        obtain ⟨X, HX⟩ : ∃ x, Hid (root (wd k) l = x) := ⟨_, Lib.hid rfl⟩
        obtain ⟨Y, HY⟩ : ∃ x, Hid (root (wd k) (l.take M) = x) := ⟨_, Lib.hid rfl⟩
        simp only [HX.out] at r1
        simp only [HY.out] at r2
        rw [HX.out, HY.out] at hno hyes
        have Q2 := Lib.hid q2
        have R1 := Lib.hid r1
        have R2 := Lib.hid r2
        have VL := Lib.hid vl
        have HNO := Lib.hid hno
        have HYES := Lib.hid hyes
        have HS := Lib.hid (hs.fresh hb2)
        have HLS := Lib.hid hls
        have HLT := Lib.hid hst
        have hMI : (M : Int) ≤ (d : Int) := by omega
        have hnI : (n : Int) ≤ (d : Int) := by omega
        clear q2 r1 r2 vl hno hyes hl hs hz hll hls hlz hst htl hg e1
        by_cases he : re = 0
        · have heI : ((re : Int) != 0) = false := by simp; omega
          by_cases hka : ra = kn
          · have hae : (ra.toList == kn.toList) = true := by rw [hka]; exact beq_self_eq_true _
            by_cases hra : rb = X
            · have hre : (rb.toList == X.toList) = true := by rw [hra]; exact beq_self_eq_true _
              by_cases hkb : kn = Y
              · have hbe : (kn.toList == Y.toList) = true := by rw [hkb]; exact beq_self_eq_true _
                have hnv := HNO.out (fun h => h.2.2.2 hkb)
                rw [hnv, oC_none] at q1
                have Q1 := Lib.hid q1
                clear q1 hnv
                clear hkb hka hra he
                go_wp2_with fail
                (with_reducible refine (Q1.out _ HS.out HLS.out).mono ?_); rintro e w3 ⟨rfl, hb3⟩
                go_wp2_with fail
                (with_reducible refine (Q2.out _ (HS.out.fresh hb3)).mono ?_); rintro e w4 ⟨rfl, hb4⟩
                have hb34 := hb3.trans (hb4.mono hb3.size)
                clear hb3 hb4
                go_wp2_with fail
                (with_reducible refine (R1.out _ (HLS.out.fresh hb34)).mono ?_); rintro e w5 ⟨rfl, hb5⟩
                have hb35 := hb34.trans (hb5.mono hb34.size)
                clear hb5
                go_wp2_with fail
                (with_reducible refine (R2.out _ (HLT.out.fresh hb35)).mono ?_); rintro e w6 ⟨rfl, hb6⟩
                have hb36 := hb35.trans (hb6.mono hb35.size)
                clear hb6
                have hbf := hb2.trans (hb36.mono hb2.size)
                clear hb2 hb34 hb35 hb36
                go_wp2_with fail
                (with_reducible refine (cAwake40 _).mono ?_); rintro e w9 ⟨rfl, hb9⟩
                go_wp2_with fail
                go_ret
                exact ⟨rfl, hbf.trans (hb9.mono hbf.size)⟩
              · have hbe := beq_text_ne hkb
                obtain ⟨x, y, hf, hval, hxs, hys⟩ := HYES.out ⟨he, hka, hra, hkb⟩
                simp only [hf] at q1
                have Q1 := Lib.hid q1
                have vl := fun W => VL.out x y W (by omega) (by omega)
                simp only [hval] at vl
                have VL2 := Lib.hid vl
                clear q1 hf vl hval hkb hka hra he
                go_wp2_with fail
                (with_reducible refine (Q1.out _ HS.out HLS.out).mono ?_); rintro e w3 ⟨rfl, hb3⟩
                go_wp2_with fail
                (with_reducible refine (Q2.out _ (HS.out.fresh hb3)).mono ?_); rintro e w4 ⟨rfl, hb4⟩
                have hb34 := hb3.trans (hb4.mono hb3.size)
                clear hb3 hb4
                go_wp2_with fail
                (with_reducible refine (R1.out _ (HLS.out.fresh hb34)).mono ?_); rintro e w5 ⟨rfl, hb5⟩
                have hb35 := hb34.trans (hb5.mono hb34.size)
                clear hb5
                go_wp2_with fail
                (with_reducible refine (R2.out _ (HLT.out.fresh hb35)).mono ?_); rintro e w6 ⟨rfl, hb6⟩
                have hb36 := hb35.trans (hb6.mono hb35.size)
                clear hb6
                go_wp2_with fail
                (with_reducible refine (VL2.out _).mono ?_); rintro e w7 ⟨rfl, hb7⟩
                have hb37 := hb36.trans (hb7.mono hb36.size)
                have hbf := hb2.trans (hb37.mono hb2.size)
                clear hb2 hb34 hb35 hb36 hb37 hb7
                go_wp2_with fail
                (with_reducible refine (cAwake40 _).mono ?_); rintro e w9 ⟨rfl, hb9⟩
                go_wp2_with fail
                go_ret
                exact ⟨rfl, hbf.trans (hb9.mono hbf.size)⟩
            · have hre := beq_text_ne hra
              have hnv := HNO.out (fun h => hra h.2.2.1)
              rw [hnv, oC_none] at q1
              have Q1 := Lib.hid q1
              clear q1 hnv
              clear hka hra he
              go_wp2_with fail
              (with_reducible refine (Q1.out _ HS.out HLS.out).mono ?_); rintro e w3 ⟨rfl, hb3⟩
              go_wp2_with fail
              (with_reducible refine (Q2.out _ (HS.out.fresh hb3)).mono ?_); rintro e w4 ⟨rfl, hb4⟩
              have hb34 := hb3.trans (hb4.mono hb3.size)
              clear hb3 hb4
              go_wp2_with fail
              (with_reducible refine (R1.out _ (HLS.out.fresh hb34)).mono ?_); rintro e w5 ⟨rfl, hb5⟩
              have hb35 := hb34.trans (hb5.mono hb34.size)
              clear hb5
              have hbf := hb2.trans (hb35.mono hb2.size)
              clear hb2 hb34 hb35
              go_wp2_with fail
              (with_reducible refine (cAwake40 _).mono ?_); rintro e w9 ⟨rfl, hb9⟩
              go_wp2_with fail
              go_ret
              exact ⟨rfl, hbf.trans (hb9.mono hbf.size)⟩
          · have hae := beq_text_ne hka
            have hnv := HNO.out (fun h => hka h.2.1)
            rw [hnv, oC_none] at q1
            have Q1 := Lib.hid q1
            clear q1 hnv
            clear hka he
            go_wp2_with fail
            (with_reducible refine (Q1.out _ HS.out HLS.out).mono ?_); rintro e w3 ⟨rfl, hb3⟩
            go_wp2_with fail
            (with_reducible refine (Q2.out _ (HS.out.fresh hb3)).mono ?_); rintro e w4 ⟨rfl, hb4⟩
            have hb34 := hb3.trans (hb4.mono hb3.size)
            clear hb3 hb4
            have hbf := hb2.trans (hb34.mono hb2.size)
            clear hb2 hb34
            go_wp2_with fail
            (with_reducible refine (cAwake40 _).mono ?_); rintro e w9 ⟨rfl, hb9⟩
            go_wp2_with fail
            go_ret
            exact ⟨rfl, hbf.trans (hb9.mono hbf.size)⟩
        · have heI : ((re : Int) != 0) = true := by simp; omega
          have hnv := HNO.out (fun h => he h.1)
          rw [hnv, oC_none] at q1
          have Q1 := Lib.hid q1
          clear q1 hnv
          clear he
          go_wp2_with fail
          (with_reducible refine (Q1.out _ HS.out HLS.out).mono ?_); rintro e w3 ⟨rfl, hb3⟩
          go_wp2_with fail
          (with_reducible refine (Q2.out _ (HS.out.fresh hb3)).mono ?_); rintro e w4 ⟨rfl, hb4⟩
          have hb34 := hb3.trans (hb4.mono hb3.size)
          clear hb3 hb4
          have hbf := hb2.trans (hb34.mono hb2.size)
          clear hb2 hb34
          go_wp2_with fail
          (with_reducible refine (cAwake40 _).mono ?_); rintro e w9 ⟨rfl, hb9⟩
          go_wp2_with fail
          go_ret
          exact ⟨rfl, hbf.trans (hb9.mono hbf.size)⟩
  · have d1 : decide ((100 : Int) < (kn.size : Int)) = true := decide_eq_true (by omega)
    clear hl hs hz hll hls hlz
    go_wp2_with fail
    (with_reducible refine (cAwake40 _).mono ?_); rintro e w9 ⟨rfl, hb9⟩
    go_wp2_with fail
    go_ret
    exact ⟨rfl, hb2.trans (hb9.mono hb2.size)⟩
end Go.Proofs.Ytcnhhlnbmliihaa
