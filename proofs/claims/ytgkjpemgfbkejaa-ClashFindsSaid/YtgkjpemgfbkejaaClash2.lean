/- Clashes: the reference's Leaves. -/
import Derived.Test.YtgkjpemgfbkejaaClash1
namespace Go.Proofs.Ytgkjpemgfbkejaa
open Go.RowKit
set_option linter.unusedVariables false
set_option linter.unusedSimpArgs false

/-- Two texts, or none, as three results. -/
def oT (o : Option (ByteArray × ByteArray)) : Value := match o with
  | some r => .tuple #[.string r.1, .string r.2, .bool true]
  | none => .tuple #[.string ⟨#[]⟩, .string ⟨#[]⟩, .bool false]
theorem oT_none : oT none = .tuple #[.string ⟨#[]⟩, .string ⟨#[]⟩, .bool false] := rfl
theorem oT_some (x y : ByteArray) : oT (some (x, y)) = .tuple #[.string x, .string y, .bool true] := rfl
theorem leavesC_no (d : Nat) (a b : List ByteArray) (h : ¬ msum d (top d a) = msum d (top d b)) : leavesC d a b = none := by unfold leavesC; rw [if_neg h]
theorem leavesC_yes (d : Nat) (a b : List ByteArray) (h : msum d (top d a) = msum d (top d b)) : leavesC d a b = apart d a b := by unfold leavesC; rw [if_pos h]
theorem top_two (d : Nat) (a b : List ByteArray) (h : top d a = top d b) (h2 : 2 ≤ a.length) : 2 ≤ b.length := by
  obtain ⟨k0, k1⟩ := top_kind d a b h
  by_cases b0 : b.length = 0
  · have := k0.2 b0; omega
  · by_cases b1 : b.length = 1
    · have := k1.2 b1; omega
    · omega
set_option maxRecDepth 100000 in
set_option maxHeartbeats 4000000 in
theorem crLeaves17 (w : Int) : ∀ (n : Nat) (A B : Option Addr) (c m e : Nat) (a b : List ByteArray) (W : World), a.length = n → Strs W A a → n ≤ c → n ≤ 1000000 → (∀ s ∈ a, s.size ≤ 200000) → b.length = m → Strs W B b → m ≤ e → m ≤ 1000000 → (∀ s ∈ b, s.size ≤ 200000) →
    Calls Try.prog 17 #[.int .i64 w, .slice A n c, .slice B m e] W fun e W' => e = .returned (oT (leavesC (wd w) a b)) ∧ Below W.heap.size W W' := by
  intro n
  induction n using Nat.strongRecOn with
  | _ n ih =>
    intro A B c m e a b W ha hsa hac ha6 hza hb hsb hbe hb6 hzb
    have t1 := crTop w n A c a W ha hsa hac ha6 hza
    have t2 := fun W h => crTop w m B e b W hb h hbe hb6 hzb
    have hwd := wd_hi w
    have z1 := top_le (wd w) hwd a hza
    have z2 := top_le (wd w) hwd b hzb
    have m1 := fun W => crMSum w (top (wd w) a) W (by omega)
    have m2 := fun W => crMSum w (top (wd w) b) W (by omega)
    have q1 := leavesC_no (wd w) a b
    have q2 := leavesC_yes (wd w) a b
    have q3 := apart_ne (wd w) a b
    have q4 := apart_small (wd w) a b
    have q5 := apart_left (wd w) a b
    have q6 := apart_right (wd w) a b
    have q7 := top_parts (wd w) hwd a b
    have q8 := top_two (wd w) a b
    have q9 := leavesC_yes (wd w) (a.take (cut n)) (b.take (cut m))
    have q10 := leavesC_yes (wd w) (a.drop (cut n)) (b.drop (cut m))
    rw [ha, hb] at q5 q6 q7
    rw [ha] at q4 q8
    rw [hb] at q8
    obtain ⟨X, HX⟩ : ∃ X, Hid (top (wd w) a = X) := ⟨_, Lib.hid rfl⟩
    obtain ⟨Y, HY⟩ : ∃ X, Hid (top (wd w) b = X) := ⟨_, Lib.hid rfl⟩
    rw [HX.out, HY.out] at q1 q2 q3 q4 q5 q6 q7 q8
    simp only [HX.out] at t1 m1
    simp only [HY.out] at t2 m2
    obtain ⟨P, HP⟩ : ∃ V, Hid (msum (wd w) X = V) := ⟨_, Lib.hid rfl⟩
    obtain ⟨Q, HQ⟩ : ∃ V, Hid (msum (wd w) Y = V) := ⟨_, Lib.hid rfl⟩
    rw [HP.out, HQ.out] at q1 q2
    simp only [HP.out] at m1
    simp only [HQ.out] at m2
    have T1 := Lib.hid t1
    have T2 := Lib.hid t2
    have M1 := Lib.hid m1
    have M2 := Lib.hid m2
    have Q1 := Lib.hid q1
    have Q2 := Lib.hid q2
    have Q3 := Lib.hid q3
    have Q4 := Lib.hid q4
    have Q5 := Lib.hid q5
    have Q6 := Lib.hid q6
    have Q7 := Lib.hid q7
    have Q8 := Lib.hid q8
    have Q9 := Lib.hid q9
    have Q10 := Lib.hid q10
    have HSA := Lib.hid hsa
    have HSB := Lib.hid hsb
    have HZA := Lib.hid hza
    have HZB := Lib.hid hzb
    have HA := Lib.hid ha
    have HB := Lib.hid hb
    have IH := Lib.hid ih
    clear t1 t2 m1 m2 q1 q2 q3 q4 q5 q6 q7 q8 q9 q10 hsa hsb hza hzb ih ha hb z1 z2
    by_cases hPQ : P = Q
    · have hpe : (P.toList == Q.toList) = true := by rw [hPQ]; exact beq_same _
      have hlc := Q2.out hPQ
      have HPQ := Lib.hid hPQ
      clear hPQ
      by_cases hXY : X = Y
      · have hxe : (X.toList == Y.toList) = true := by rw [hXY]; exact beq_same _
        rcases Nat.lt_or_ge n 2 with h2 | h2
        · have hap := Q4.out hXY h2
          rw [hlc, hap, oT_none]
          have HXY := Lib.hid hXY
          have h2I : (n : Int) < 2 := by omega
          clear hXY hlc hap
          go_enter Try.func17, Try.ntmps17
          go_wp2_with fail
          (with_reducible refine T1.out.mono ?_); rintro e w1 ⟨rfl, hb1⟩
          go_wp2_with fail
          (with_reducible refine (T2.out _ (HSB.out.fresh hb1)).mono ?_); rintro e w2 ⟨rfl, hb2⟩
          have hB2 := hb1.trans (hb2.mono hb1.size)
          clear hb1 hb2
          go_wp2_with fail
          (with_reducible refine (M1.out _).mono ?_); rintro e w3 ⟨rfl, hb3⟩
          have hB3 := hB2.trans (hb3.mono hB2.size)
          clear hB2 hb3
          go_wp2_with fail
          (with_reducible refine (M2.out _).mono ?_); rintro e w4 ⟨rfl, hb4⟩
          have hB4 := hB3.trans (hb4.mono hB3.size)
          clear hB3 hb4
          go_wp2_with fail
          go_ret3
          exact ⟨rfl, hB4⟩
        · have hm2 := Q8.out hXY h2
          obtain ⟨p1, p2⟩ := Q7.out h2 hm2 hXY
          have e1 := Q9.out p1
          have e2 := Q10.out p2
          have l1 := Q5.out hXY h2
          have l2 := Q6.out hXY h2
          rw [hlc]
          have hcl := cut_lt n h2
          have hcp := cut_pos n
          have hcl2 := cut_lt m hm2
          have hcp2 := cut_pos m
          have c1 := fun W => crCut n W (by omega)
          have c2 := fun W => crCut m W (by omega)
          obtain ⟨g, o, rfl, _, _⟩ := HSA.out (by rw [HA.out]; omega)
          obtain ⟨g2, o2, rfl, _, _⟩ := HSB.out (by rw [HB.out]; omega)
          have i1 := fun W h h' => IH.out (cut n) hcl (some ⟨g, o, none⟩) (some ⟨g2, o2, none⟩) c (cut m) e (a.take (cut n)) (b.take (cut m)) W (by rw [List.length_take, HA.out]; omega) h (by omega) (by omega) (mem_take_s HZA.out) (by rw [List.length_take, HB.out]; omega) h' (by omega) (by omega) (mem_take_s HZB.out)
          have i2 := fun W h h' => IH.out (n - cut n) (by omega) (some ⟨g, o + cut n, none⟩) (some ⟨g2, o2 + cut m, none⟩) (c - cut n) (m - cut m) (e - cut m) (a.drop (cut n)) (b.drop (cut m)) W (by rw [List.length_drop, HA.out]) h (by omega) (by omega) (mem_drop_s HZA.out) (by rw [List.length_drop, HB.out]) h' (by omega) (by omega) (mem_drop_s HZB.out)
          have s1 := HSA.out.take (cut n)
          have s2 := HSB.out.take (cut m)
          have s3 := HSA.out.from_ (cut n) (by rw [HA.out]; omega) (c := c) (by rw [HA.out]; omega)
          have s4 := HSB.out.from_ (cut m) (by rw [HB.out]; omega) (c := e) (by rw [HB.out]; omega)
          simp only [e1] at i1
          simp only [e2] at i2
          obtain ⟨k, HK⟩ : ∃ k, Hid (cut n = k) := ⟨_, Lib.hid rfl⟩
          obtain ⟨j, HJ⟩ : ∃ k, Hid (cut m = k) := ⟨_, Lib.hid rfl⟩
          simp only [HK.out, HJ.out] at c1 c2 i1 i2 s1 s2 s3 s4 hcl hcp hcl2 hcp2 l1 l2
          have C1 := Lib.hid c1
          have C2 := Lib.hid c2
          have S1 := Lib.hid s1
          have S2 := Lib.hid s2
          have S3 := Lib.hid s3
          have S4 := Lib.hid s4
          have HXY := Lib.hid hXY
          have f1 : (k : Int) ≤ (n : Int) := by omega
          have f2 : (k : Int) ≤ (c : Int) := by omega
          have f3 : (n : Int) ≤ (c : Int) := by omega
          have f4 : ¬ c = k := by omega
          have f5 : (j : Int) ≤ (m : Int) := by omega
          have f6 : (j : Int) ≤ (e : Int) := by omega
          have f7 : (m : Int) ≤ (e : Int) := by omega
          have f8 : ¬ e = j := by omega
          have f9 : ¬ (n : Int) < 2 := by omega
          cases hr : apart (wd w) (a.take k) (b.take j) with
          | some r =>
            rw [l1 r hr]
            rw [hr] at i1
            obtain ⟨x, y⟩ := r
            rw [oT_some]
            simp only [oT_some] at i1
            have I1 := Lib.hid i1
            clear c1 c2 i1 i2 s1 s2 s3 s4 hXY hlc e1 e2 l1 l2 hr p1 p2 hwd
            go_enter Try.func17, Try.ntmps17
            go_wp2_with fail
            (with_reducible refine T1.out.mono ?_); rintro e w1 ⟨rfl, hb1⟩
            go_wp2_with fail
            (with_reducible refine (T2.out _ (HSB.out.fresh hb1)).mono ?_); rintro e w2 ⟨rfl, hb2⟩
            have hB2 := hb1.trans (hb2.mono hb1.size)
            clear hb1 hb2
            go_wp2_with fail
            (with_reducible refine (M1.out _).mono ?_); rintro e w3 ⟨rfl, hb3⟩
            have hB3 := hB2.trans (hb3.mono hB2.size)
            clear hB2 hb3
            go_wp2_with fail
            (with_reducible refine (M2.out _).mono ?_); rintro e w4 ⟨rfl, hb4⟩
            have hB4 := hB3.trans (hb4.mono hB3.size)
            clear hB3 hb4
            go_wp2_with fail
            (with_reducible refine (C1.out _).mono ?_); rintro e w5 ⟨rfl, rfl⟩
            go_wp2_with fail
            (with_reducible refine (C2.out _).mono ?_); rintro e w5 ⟨rfl, rfl⟩
            go_wp2_with fail
            have hBd := hB4.drew
            refine wp_region_lexX [] (by kernel_rfl) (by kernel_rfl) ?_
            repeat (first | (refine wpX_pure rfl rfl rfl ?_; intro K hK; go_big_quiet_op; refine hK _ ?_; clear hK K) | (refine wpX_eff rfl rfl ?_; intro K hK; go_wp2_with fail; refine hK _ _ trivial ?_; clear hK K))
            refine wpX_eff rfl rfl ?_; intro K hK; go_wp2_with fail
            (with_reducible refine (I1.out _ (S1.out.fresh hBd) (S2.out.fresh hBd)).mono ?_); rintro e w6 ⟨rfl, hb6⟩
            go_wp2_with fail
            refine hK _ _ trivial ?_; clear hK K
            have hB6 := hBd.trans (hb6.mono hBd.size)
            clear hb6 hBd hB4
            repeat (first | (refine wpX_pure rfl rfl rfl ?_; intro K hK; go_big_quiet_op; refine hK _ ?_; clear hK K) | (refine wpX_eff rfl rfl ?_; intro K hK; go_wp2_with fail; refine hK _ _ trivial ?_; clear hK K))
            refine wpX_nil ?_
            go_wp2_with fail
            go_ret3
            exact ⟨rfl, hB6⟩
          | none =>
            rw [l2 hr]
            rw [hr, oT_none] at i1
            obtain ⟨V, HV⟩ : ∃ V, Hid (apart (wd w) (a.drop k) (b.drop j) = V) := ⟨_, Lib.hid rfl⟩
            simp only [HV.out] at i2
            rw [HV.out]
            have I1 := Lib.hid i1
            have hv : (∃ x y, oT V = .tuple #[.string x, .string y, .bool true]) ∨ oT V = .tuple #[.string ⟨#[]⟩, .string ⟨#[]⟩, .bool false] := by
              rcases V with _ | ⟨x, y⟩
              · exact .inr rfl
              · exact .inl ⟨x, y, rfl⟩
            have hv : ∃ x y b, oT V = .tuple #[.string x, .string y, .bool b] := by
              rcases hv with ⟨x, y, h⟩ | h
              · exact ⟨x, y, true, h⟩
              · exact ⟨_, _, false, h⟩
            obtain ⟨x, y, bb, hv⟩ := hv
            rw [hv]
            simp only [hv] at i2
            have I2 := Lib.hid i2
            clear c1 c2 i1 i2 s1 s2 s3 s4 hXY hlc e1 e2 l1 l2 hr p1 p2 hwd hv
            go_enter Try.func17, Try.ntmps17
            go_wp2_with fail
            (with_reducible refine T1.out.mono ?_); rintro e w1 ⟨rfl, hb1⟩
            go_wp2_with fail
            (with_reducible refine (T2.out _ (HSB.out.fresh hb1)).mono ?_); rintro e w2 ⟨rfl, hb2⟩
            have hB2 := hb1.trans (hb2.mono hb1.size)
            clear hb1 hb2
            go_wp2_with fail
            (with_reducible refine (M1.out _).mono ?_); rintro e w3 ⟨rfl, hb3⟩
            have hB3 := hB2.trans (hb3.mono hB2.size)
            clear hB2 hb3
            go_wp2_with fail
            (with_reducible refine (M2.out _).mono ?_); rintro e w4 ⟨rfl, hb4⟩
            have hB4 := hB3.trans (hb4.mono hB3.size)
            clear hB3 hb4
            go_wp2_with fail
            (with_reducible refine (C1.out _).mono ?_); rintro e w5 ⟨rfl, rfl⟩
            go_wp2_with fail
            (with_reducible refine (C2.out _).mono ?_); rintro e w5 ⟨rfl, rfl⟩
            go_wp2_with fail
            have hBd := hB4.drew
            refine wp_region_lexX [] (by kernel_rfl) (by kernel_rfl) ?_
            repeat (first | (refine wpX_pure rfl rfl rfl ?_; intro K hK; go_big_quiet_op; refine hK _ ?_; clear hK K) | (refine wpX_eff rfl rfl ?_; intro K hK; go_wp2_with fail; refine hK _ _ trivial ?_; clear hK K))
            refine wpX_eff rfl rfl ?_; intro K hK; go_wp2_with fail
            (with_reducible refine (I1.out _ (S1.out.fresh hBd) (S2.out.fresh hBd)).mono ?_); rintro e w6 ⟨rfl, hb6⟩
            go_wp2_with fail
            refine hK _ _ trivial ?_; clear hK K
            have hB6 := (hBd.trans (hb6.mono hBd.size)).drew
            clear hb6 hBd hB4
            repeat (first | (refine wpX_pure rfl rfl rfl ?_; intro K hK; go_big_quiet_op; refine hK _ ?_; clear hK K) | (refine wpX_eff rfl rfl ?_; intro K hK; go_wp2_with fail; refine hK _ _ trivial ?_; clear hK K))
            refine wpX_nil ?_
            go_wp2_with fail
            refine wp_region_lexX [] (by kernel_rfl) (by kernel_rfl) ?_
            repeat (first | (refine wpX_pure rfl rfl rfl ?_; intro K hK; go_big_quiet_op; refine hK _ ?_; clear hK K) | (refine wpX_eff rfl rfl ?_; intro K hK; go_wp2_with fail; refine hK _ _ trivial ?_; clear hK K))
            refine wpX_eff rfl rfl ?_; intro K hK; go_wp2_with fail
            (with_reducible refine (I2.out _ (S3.out.fresh hB6) (S4.out.fresh hB6)).mono ?_); rintro e w7 ⟨rfl, hb7⟩
            go_wp2_with fail
            refine hK _ _ trivial ?_; clear hK K
            have hB7 := hB6.trans (hb7.mono hB6.size)
            clear hb7 hB6
            repeat (first | (refine wpX_pure rfl rfl rfl ?_; intro K hK; go_big_quiet_op; refine hK _ ?_; clear hK K) | (refine wpX_eff rfl rfl ?_; intro K hK; go_wp2_with fail; refine hK _ _ trivial ?_; clear hK K))
            refine wpX_nil ?_
            go_wp2_with fail
            go_ret3
            exact ⟨rfl, hB7⟩
      · have hxe := beq_text_ne hXY
        have hap := Q3.out hXY
        rw [hlc, hap, oT_some]
        clear hXY hlc hap
        go_enter Try.func17, Try.ntmps17
        go_wp2_with fail
        (with_reducible refine T1.out.mono ?_); rintro e w1 ⟨rfl, hb1⟩
        go_wp2_with fail
        (with_reducible refine (T2.out _ (HSB.out.fresh hb1)).mono ?_); rintro e w2 ⟨rfl, hb2⟩
        have hB2 := hb1.trans (hb2.mono hb1.size)
        clear hb1 hb2
        go_wp2_with fail
        (with_reducible refine (M1.out _).mono ?_); rintro e w3 ⟨rfl, hb3⟩
        have hB3 := hB2.trans (hb3.mono hB2.size)
        clear hB2 hb3
        go_wp2_with fail
        (with_reducible refine (M2.out _).mono ?_); rintro e w4 ⟨rfl, hb4⟩
        have hB4 := hB3.trans (hb4.mono hB3.size)
        clear hB3 hb4
        go_wp2_with fail
        go_ret3
        exact ⟨rfl, hB4⟩
    · have hpe := beq_text_ne hPQ
      have hlc := Q1.out hPQ
      rw [hlc, oT_none]
      clear hPQ hlc
      go_enter Try.func17, Try.ntmps17
      go_wp2_with fail
      (with_reducible refine T1.out.mono ?_); rintro e w1 ⟨rfl, hb1⟩
      go_wp2_with fail
      (with_reducible refine (T2.out _ (HSB.out.fresh hb1)).mono ?_); rintro e w2 ⟨rfl, hb2⟩
      have hB2 := hb1.trans (hb2.mono hb1.size)
      clear hb1 hb2
      go_wp2_with fail
      (with_reducible refine (M1.out _).mono ?_); rintro e w3 ⟨rfl, hb3⟩
      have hB3 := hB2.trans (hb3.mono hB2.size)
      clear hB2 hb3
      go_wp2_with fail
      (with_reducible refine (M2.out _).mono ?_); rintro e w4 ⟨rfl, hb4⟩
      have hB4 := hB3.trans (hb4.mono hB3.size)
      clear hB3 hb4
      go_wp2_with fail
      go_ret3
      exact ⟨rfl, hB4⟩
end Go.Proofs.Ytgkjpemgfbkejaa
