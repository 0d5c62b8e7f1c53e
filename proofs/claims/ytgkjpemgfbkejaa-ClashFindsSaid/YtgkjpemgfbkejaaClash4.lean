/- Clashes: apart, Leaves. -/
import Derived.Test.YtgkjpemgfbkejaaClash3
namespace Go.Proofs.Ytgkjpemgfbkejaa
open Go.RowKit
set_option linter.unusedVariables false
set_option linter.unusedSimpArgs false

theorem oT_form (V : Option (ByteArray × ByteArray)) : ∃ x y b, oT V = .tuple #[.string x, .string y, .bool b] := by
  rcases V with _ | ⟨x, y⟩
  · exact ⟨_, _, _, rfl⟩
  · exact ⟨_, _, _, rfl⟩
set_option maxRecDepth 100000 in
set_option maxHeartbeats 4000000 in
theorem cApart (d : Nat) (hd32 : d ≤ 32) : ∀ (n : Nat) (a b : List ByteArray) (ga gb B1 B2 : Nat) (W : World), a.length = n → GT d W B1 ga a → GT d W B2 gb b →
    Calls Try.prog 40 #[.pointer (some ⟨ga, 0, none⟩), .pointer (some ⟨gb, 0, none⟩)] W fun e W' => e = .returned (oT (apart d a b)) ∧ Below W.heap.size W W' := by
  intro n
  induction n using Nat.strongRecOn with
  | _ n ih =>
    intro a b ga gb B1 B2 W ha hga hgb
    have q3 := apart_ne d a b
    have q4 := apart_small d a b
    have q5 := apart_left d a b
    have q6 := apart_right d a b
    have q8 := top_two d a b
    have i1 := hga.inn
    have i2 := hgb.inn
    rw [ha] at q4 q5 q6 q8
    obtain ⟨X, HX⟩ : ∃ X, Hid (top d a = X) := ⟨_, Lib.hid rfl⟩
    obtain ⟨Y, HY⟩ : ∃ X, Hid (top d b = X) := ⟨_, Lib.hid rfl⟩
    rw [HX.out, HY.out] at q3 q4 q5 q6 q8
    rw [HX.out] at i1
    rw [HY.out] at i2
    have Q3 := Lib.hid q3
    have Q4 := Lib.hid q4
    have Q5 := Lib.hid q5
    have Q6 := Lib.hid q6
    have Q8 := Lib.hid q8
    have HGA := Lib.hid hga
    have HGB := Lib.hid hgb
    have HA := Lib.hid ha
    have IH := Lib.hid ih
    have c1 : W.drew.cell? ⟨ga, 0, none⟩ = some (.string X) := i1
    have c2 : W.drew.cell? ⟨gb, 0, none⟩ = some (.string Y) := i2
    clear q3 q4 q5 q6 q8 hga hgb ha ih i1 i2
    by_cases hXY : X = Y
    · have hxe : (X.toList == Y.toList) = true := by rw [hXY]; exact beq_same _
      rcases Nat.lt_or_ge n 2 with h2 | h2
      · have hap := Q4.out hXY h2
        have c3 : W.drew.cell? ⟨ga, 2, none⟩ = some (.pointer none) := HGA.out.small (by rw [HA.out]; exact h2)
        have hB := (Below.refl W.heap.size W).drew
        rw [hap, oT_none]
        have HXY := Lib.hid hXY
        clear hXY hap
        go_enter Try.func40, Try.ntmps40
        go_wp2_with fail
        refine wp_region_lexX [] (by kernel_rfl) (by kernel_rfl) ?_
        repeat (first
          | (refine wpX_pure rfl rfl rfl ?_; intro K hK; go_big_quiet_op; refine hK _ ?_; clear hK K)
          | (refine wpX_load rfl rfl rfl ?_; intro K hK; go_big_quiet_op; refine hK _ ?_; clear hK K))
        refine wpX_nil ?_
        go_wp2_with fail
        go_ret3
        exact ⟨rfl, hB⟩
      · have hm2 := Q8.out hXY h2
        have l1 := Q5.out hXY h2
        have l2 := Q6.out hXY h2
        obtain ⟨g1, g2, p1, p2, t1, t2⟩ := HGA.out.parts (by rw [HA.out]; exact h2)
        obtain ⟨g3, g4, p3, p4, t3, t4⟩ := HGB.out.parts hm2
        have hcl := cut_lt n h2
        have hcp := cut_pos n
        rw [HA.out] at t1 t2
        have i1 := fun W h h' => IH.out (cut n) hcl (a.take (cut n)) (b.take (cut b.length)) g1 g3 B1 B2 W (by rw [List.length_take, HA.out]; omega) h h'
        have i2 := fun W h h' => IH.out (n - cut n) (by omega) (a.drop (cut n)) (b.drop (cut b.length)) g2 g4 B1 B2 W (by rw [List.length_drop, HA.out]) h h'
        have T1 := Lib.hid t1
        have T2 := Lib.hid t2
        have T3 := Lib.hid t3
        have T4 := Lib.hid t4
        have HXY := Lib.hid hXY
        have lga := HGA.out.lt
        have lgb := HGB.out.lt
        have c3 : W.drew.cell? ⟨ga, 2, none⟩ = some (.pointer (some ⟨g1, 0, none⟩)) := p1
        have p1 : W.drew.drew.cell? ⟨ga, 2, none⟩ = some (.pointer (some ⟨g1, 0, none⟩)) := p1
        have p3 : W.drew.drew.cell? ⟨gb, 2, none⟩ = some (.pointer (some ⟨g3, 0, none⟩)) := p3
        have hBd : Below W.heap.size W W.drew.drew := (Below.refl W.heap.size W).drew.drew
        clear t1 t2 t3 t4 hXY
        cases hr : apart d (a.take (cut n)) (b.take (cut b.length)) with
        | some r =>
          rw [l1 r hr]
          rw [hr] at i1
          obtain ⟨x, y⟩ := r
          rw [oT_some]
          simp only [oT_some] at i1
          have I1 := Lib.hid i1
          clear i1 i2 l1 l2 hr
          go_enter Try.func40, Try.ntmps40
          go_wp2_with fail
          refine wp_region_lexX [] (by kernel_rfl) (by kernel_rfl) ?_
          repeat (first
            | (refine wpX_pure rfl rfl rfl ?_; intro K hK; go_big_quiet_op; refine hK _ ?_; clear hK K)
            | (refine wpX_load rfl rfl rfl ?_; intro K hK; go_big_quiet_op; refine hK _ ?_; clear hK K))
          refine wpX_nil ?_
          go_wp2_with fail
          refine wp_region_lexX [] (by kernel_rfl) (by kernel_rfl) ?_
          repeat (first
            | (refine wpX_pure rfl rfl rfl ?_; intro K hK; go_big_quiet_op; refine hK _ ?_; clear hK K)
            | (refine wpX_load rfl rfl rfl ?_; intro K hK; go_big_quiet_op; refine hK _ ?_; clear hK K))
          refine wpX_eff rfl rfl ?_; intro K hK; go_wp2_with fail
          (with_reducible refine (I1.out _ T1.out.drew.drew T3.out.drew.drew).mono ?_); rintro e w6 ⟨rfl, hb6⟩
          go_wp2_with fail
          refine hK _ _ trivial ?_; clear hK K
          repeat (first | (refine wpX_pure rfl rfl rfl ?_; intro K hK; go_big_quiet_op; refine hK _ ?_; clear hK K) | (refine wpX_eff rfl rfl ?_; intro K hK; go_wp2_with fail; refine hK _ _ trivial ?_; clear hK K))
          refine wpX_nil ?_
          go_wp2_with fail
          go_ret3
          exact ⟨rfl, hBd.trans (hb6.mono hBd.size)⟩
        | none =>
          rw [l2 hr]
          rw [hr, oT_none] at i1
          obtain ⟨V, HV⟩ : ∃ V, Hid (apart d (a.drop (cut n)) (b.drop (cut b.length)) = V) := ⟨_, Lib.hid rfl⟩
          simp only [HV.out] at i2
          rw [HV.out]
          have I1 := Lib.hid i1
          obtain ⟨x, y, bb, hv⟩ := oT_form V
          rw [hv]
          simp only [hv] at i2
          have I2 := Lib.hid i2
          clear i1 i2 l1 l2 hr hv
          go_enter Try.func40, Try.ntmps40
          go_wp2_with fail
          refine wp_region_lexX [] (by kernel_rfl) (by kernel_rfl) ?_
          repeat (first
            | (refine wpX_pure rfl rfl rfl ?_; intro K hK; go_big_quiet_op; refine hK _ ?_; clear hK K)
            | (refine wpX_load rfl rfl rfl ?_; intro K hK; go_big_quiet_op; refine hK _ ?_; clear hK K))
          refine wpX_nil ?_
          go_wp2_with fail
          refine wp_region_lexX [] (by kernel_rfl) (by kernel_rfl) ?_
          repeat (first
            | (refine wpX_pure rfl rfl rfl ?_; intro K hK; go_big_quiet_op; refine hK _ ?_; clear hK K)
            | (refine wpX_load rfl rfl rfl ?_; intro K hK; go_big_quiet_op; refine hK _ ?_; clear hK K))
          refine wpX_eff rfl rfl ?_; intro K hK; go_wp2_with fail
          (with_reducible refine (I1.out _ T1.out.drew.drew T3.out.drew.drew).mono ?_); rintro e w6 ⟨rfl, hb6⟩
          go_wp2_with fail
          refine hK _ _ trivial ?_; clear hK K
          repeat (first | (refine wpX_pure rfl rfl rfl ?_; intro K hK; go_big_quiet_op; refine hK _ ?_; clear hK K) | (refine wpX_eff rfl rfl ?_; intro K hK; go_wp2_with fail; refine hK _ _ trivial ?_; clear hK K))
          refine wpX_nil ?_
          have q2 : w6.drew.cell? ⟨ga, 3, none⟩ = some (.pointer (some ⟨g2, 0, none⟩)) := (hb6.cell (p := ⟨ga, 3, none⟩) lga).trans p2
          have q4 : w6.drew.cell? ⟨gb, 3, none⟩ = some (.pointer (some ⟨g4, 0, none⟩)) := (hb6.cell (p := ⟨gb, 3, none⟩) lgb).trans p4
          have T2' := Lib.hid (T2.out.drew.drew.fresh hb6).drew
          have T4' := Lib.hid (T4.out.drew.drew.fresh hb6).drew
          have hB6 := (hBd.trans (hb6.mono hBd.size)).drew
          clear hb6 hBd c1 c2 c3 p1 p3 p2 p4
          go_wp2_with fail
          refine wp_region_lexX [] (by kernel_rfl) (by kernel_rfl) ?_
          repeat (first
            | (refine wpX_pure rfl rfl rfl ?_; intro K hK; go_big_quiet_op; refine hK _ ?_; clear hK K)
            | (refine wpX_load rfl rfl rfl ?_; intro K hK; go_big_quiet_op; refine hK _ ?_; clear hK K))
          refine wpX_eff rfl rfl ?_; intro K hK; go_wp2_with fail
          (with_reducible refine (I2.out _ T2'.out T4'.out).mono ?_); rintro e w7 ⟨rfl, hb7⟩
          go_wp2_with fail
          refine hK _ _ trivial ?_; clear hK K
          repeat (first | (refine wpX_pure rfl rfl rfl ?_; intro K hK; go_big_quiet_op; refine hK _ ?_; clear hK K) | (refine wpX_eff rfl rfl ?_; intro K hK; go_wp2_with fail; refine hK _ _ trivial ?_; clear hK K))
          refine wpX_nil ?_
          go_wp2_with fail
          go_ret3
          exact ⟨rfl, hB6.trans (hb7.mono hB6.size)⟩
    · have hxe := beq_text_ne hXY
      have hap := Q3.out hXY
      rw [hap, oT_some]
      have c1 : W.drew.drew.cell? ⟨ga, 0, none⟩ = some (.string X) := c1
      have c2 : W.drew.drew.cell? ⟨gb, 0, none⟩ = some (.string Y) := c2
      have c3 : W.drew.cell? ⟨ga, 0, none⟩ = some (.string X) := c1
      have c4 : W.drew.cell? ⟨gb, 0, none⟩ = some (.string Y) := c2
      have hB := (Below.refl W.heap.size W).drew.drew
      clear hXY hap
      go_enter Try.func40, Try.ntmps40
      go_wp2_with fail
      refine wp_region_lexX [] (by kernel_rfl) (by kernel_rfl) ?_
      repeat (first
        | (refine wpX_pure rfl rfl rfl ?_; intro K hK; go_big_quiet_op; refine hK _ ?_; clear hK K)
        | (refine wpX_load rfl rfl rfl ?_; intro K hK; go_big_quiet_op; refine hK _ ?_; clear hK K))
      refine wpX_nil ?_
      go_wp2_with fail
      refine wp_region_lexX [] (by kernel_rfl) (by kernel_rfl) ?_
      repeat (first
        | (refine wpX_pure rfl rfl rfl ?_; intro K hK; go_big_quiet_op; refine hK _ ?_; clear hK K)
        | (refine wpX_load rfl rfl rfl ?_; intro K hK; go_big_quiet_op; refine hK _ ?_; clear hK K))
      refine wpX_nil ?_
      go_wp2_with fail
      go_ret3
      exact ⟨rfl, hB⟩
set_option maxRecDepth 100000 in
set_option maxHeartbeats 1000000 in
theorem cLeaves (w : Int) (A B : Option Addr) (n c m e : Nat) (a b : List ByteArray) (W : World) (ha : a.length = n) (hsa : Strs W A a) (hac : n ≤ c) (ha6 : n ≤ 1000000) (hza : ∀ s ∈ a, s.size ≤ 200000) (hb : b.length = m) (hsb : Strs W B b) (hbe : m ≤ e) (hb6 : m ≤ 1000000) (hzb : ∀ s ∈ b, s.size ≤ 200000) :
    Calls Try.prog 16 #[.int .i64 w, .slice A n c, .slice B m e] W fun e W' => e = .returned (oT (leavesC (wd w) a b)) ∧ Below W.heap.size W W' := by
  have h1 := cGrown w n A c a W ha hsa hac ha6 hza
  have h2 := fun W h => cGrown w m B e b W hb h hbe hb6 hzb
  have q1 := leavesC_no (wd w) a b
  have q2 := leavesC_yes (wd w) a b
  have ap := fun ga gb B1 B2 W h h' => cApart (wd w) (wd_hi w) n a b ga gb B1 B2 W ha h h'
  have su1 := fun W B g (h : GT (wd w) W B g a) => h.sum
  have su2 := fun W B g (h : GT (wd w) W B g b) => h.sum
  obtain ⟨P, HP⟩ : ∃ V, Hid (msum (wd w) (top (wd w) a) = V) := ⟨_, Lib.hid rfl⟩
  obtain ⟨Q, HQ⟩ : ∃ V, Hid (msum (wd w) (top (wd w) b) = V) := ⟨_, Lib.hid rfl⟩
  rw [HP.out, HQ.out] at q1 q2
  simp only [HP.out] at su1
  simp only [HQ.out] at su2
  have H1 := Lib.hid h1
  have H2 := Lib.hid h2
  have SU1 := Lib.hid su1
  have SU2 := Lib.hid su2
  have HSB := Lib.hid hsb
  clear h1 h2 su1 su2 hsa hsb ha hb hza hzb
  by_cases hPQ : P = Q
  · have hpe : (P.toList == Q.toList) = true := by rw [hPQ]; exact beq_same _
    rw [q2 hPQ]
    obtain ⟨V, HV⟩ : ∃ V, Hid (apart (wd w) a b = V) := ⟨_, Lib.hid rfl⟩
    simp only [HV.out] at ap
    rw [HV.out]
    obtain ⟨x, y, bb, hv⟩ := oT_form V
    simp only [hv] at ap
    rw [hv]
    have AP := Lib.hid ap
    have HPQ := Lib.hid hPQ
    clear ap hv hPQ q1 q2
    go_enter Try.func16, Try.ntmps16
    go_wp2_with fail
    (with_reducible refine H1.out.mono ?_); rintro e w1 ⟨g1, rfl, hg1, hb1⟩
    go_wp2_with fail
    (with_reducible refine (H2.out _ (HSB.out.fresh hb1)).mono ?_); rintro e w2 ⟨g2, rfl, hg2, hb2⟩
    have HG1 := Lib.hid (hg1.fresh hb2)
    have HG2 := Lib.hid hg2
    have hB2 := hb1.trans (hb2.mono hb1.size)
    clear hb1 hb2 hg1 hg2
    have c1 : w2.drew.cell? ⟨g1, 1, none⟩ = some (.string P) := SU1.out _ _ _ HG1.out.drew
    have c2 : w2.drew.cell? ⟨g2, 1, none⟩ = some (.string Q) := SU2.out _ _ _ HG2.out.drew
    go_wp2_with fail
    refine wp_region_lexX [] (by kernel_rfl) (by kernel_rfl) ?_
    repeat (first
      | (refine wpX_pure rfl rfl rfl ?_; intro K hK; go_big_quiet_op; refine hK _ ?_; clear hK K)
      | (refine wpX_load rfl rfl rfl ?_; intro K hK; go_big_quiet_op; refine hK _ ?_; clear hK K))
    refine wpX_nil ?_
    go_wp2_with fail
    (with_reducible refine (AP.out _ _ _ _ _ HG1.out.drew HG2.out.drew).mono ?_); rintro e w3 ⟨rfl, hb3⟩
    have hBd := hB2.drew
    go_wp2_with fail
    go_ret3
    exact ⟨rfl, hBd.trans (hb3.mono hBd.size)⟩
  · have hpe := beq_text_ne hPQ
    rw [q1 hPQ, oT_none]
    clear hPQ ap q1 q2
    go_enter Try.func16, Try.ntmps16
    go_wp2_with fail
    (with_reducible refine H1.out.mono ?_); rintro e w1 ⟨g1, rfl, hg1, hb1⟩
    go_wp2_with fail
    (with_reducible refine (H2.out _ (HSB.out.fresh hb1)).mono ?_); rintro e w2 ⟨g2, rfl, hg2, hb2⟩
    have HG1 := Lib.hid (hg1.fresh hb2)
    have HG2 := Lib.hid hg2
    have hB2 := hb1.trans (hb2.mono hb1.size)
    clear hb1 hb2 hg1 hg2
    have c1 : w2.drew.cell? ⟨g1, 1, none⟩ = some (.string P) := SU1.out _ _ _ HG1.out.drew
    have c2 : w2.drew.cell? ⟨g2, 1, none⟩ = some (.string Q) := SU2.out _ _ _ HG2.out.drew
    go_wp2_with fail
    refine wp_region_lexX [] (by kernel_rfl) (by kernel_rfl) ?_
    repeat (first
      | (refine wpX_pure rfl rfl rfl ?_; intro K hK; go_big_quiet_op; refine hK _ ?_; clear hK K)
      | (refine wpX_load rfl rfl rfl ?_; intro K hK; go_big_quiet_op; refine hK _ ?_; clear hK K))
    refine wpX_nil ?_
    go_wp2_with fail
    go_ret3
    exact ⟨rfl, hB2.drew⟩
end Go.Proofs.Ytgkjpemgfbkejaa
