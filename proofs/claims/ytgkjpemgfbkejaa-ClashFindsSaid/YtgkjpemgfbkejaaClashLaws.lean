/- The laws ClashValid, ClashLists, ClashFinds, walked. -/
import Derived.Test.YtgkjpemgfbkejaaClash4
import Derived.Test.YtgkjpemgfbkejaaMerkAwake
namespace Go.Proofs.Ytgkjpemgfbkejaa
open Go.RowKit
set_option linter.unusedVariables false
set_option linter.unusedSimpArgs false

abbrev tq : ByteArray := ⟨#[113]⟩
abbrev tax : ByteArray := ⟨#[97, 120]⟩
abbrev tbh : ByteArray := ⟨#[98, 104]⟩
abbrev oax : ByteArray := ⟨#[0, 97, 120]⟩
abbrev obh : ByteArray := ⟨#[0, 98, 104]⟩
theorem clash_one : msum 1 oax = msum 1 obh := by decide +kernel
theorem wd_1 : wd 1 = 1 := by decide
theorem top_pair (a b : ByteArray) : top 1 [a, b] = ⟨#[1]⟩ ++ msum 1 (⟨#[0]⟩ ++ a) ++ msum 1 (⟨#[0]⟩ ++ b) := by
  rw [top_cut 1 [a, b] (by simp)]
  have e : cut [a, b].length = 1 := cut_two
  rw [e]
  show ⟨#[1]⟩ ++ msum 1 (top 1 [a]) ++ msum 1 (top 1 [b]) = _
  rw [top_one 1 [a] rfl, top_one 1 [b] rfl]; rfl
theorem top_awake : top 1 [tq, tax] = top 1 [tq, tbh] := by
  rw [top_pair, top_pair]
  have e1 : (⟨#[0]⟩ : ByteArray) ++ tax = oax := by decide
  have e2 : (⟨#[0]⟩ : ByteArray) ++ tbh = obh := by decide
  rw [e1, e2, clash_one]
theorem leaves_awake : leavesC 1 [tq, tax] [tq, tbh] = some (oax, obh) := by
  rw [leavesC_yes 1 _ _ (by rw [top_awake])]
  have e : cut [tq, tax].length = 1 := cut_two
  have e' : cut [tq, tbh].length = 1 := cut_two
  have h1 : apart 1 ([tq, tax].take (cut [tq, tax].length)) ([tq, tbh].take (cut [tq, tbh].length)) = none := by
    rw [e, e']
    exact apart_same 1 1 [tq] (by simp)
  rw [apart_right 1 _ _ top_awake (by simp) h1, e, e']
  show apart 1 [tax] [tbh] = _
  have t1 : top 1 [tax] = oax := by rw [top_one 1 [tax] rfl]; decide
  have t2 : top 1 [tbh] = obh := by rw [top_one 1 [tbh] rfl]; decide
  rw [apart_ne 1 [tax] [tbh] (by rw [t1, t2]; decide), t1, t2]
theorem valid_awake : validC 1 oax obh = true := validC_yes 1 _ _ (by decide) clash_one
set_option maxRecDepth 100000 in
theorem cAwake17 (w : World) : Calls Try.prog 12 #[] w fun e w' => e = .returned (.bool true) ∧ Below w.heap.size w w' := by
  have h1 : Calls Try.prog 16 #[.int .i64 1, .slice (some ⟨w.heap.size, 0, none⟩) 2 2, .slice (some ⟨w.heap.size + 1, 0, none⟩) 2 2] ((w.alloc (.cells #[.string tq, .string tax] 9)).alloc (.cells #[.string tq, .string tbh] 9)) fun e w' => e = .returned (.tuple #[.string oax, .string obh, .bool true]) ∧ Below w.heap.size w w' := by
    have hs2 := Strs.two (w.alloc (.cells #[.string tq, .string tax] 9)) 9 tq tbh
    have hsz : (w.alloc (.cells #[.string tq, .string tax] 9)).heap.size = w.heap.size + 1 := by simp
    rw [hsz] at hs2
    have := cLeaves 1 (some ⟨w.heap.size, 0, none⟩) (some ⟨w.heap.size + 1, 0, none⟩) 2 2 2 2 [tq, tax] [tq, tbh] ((w.alloc (.cells #[.string tq, .string tax] 9)).alloc (.cells #[.string tq, .string tbh] 9)) rfl ((Strs.two w 9 tq tax).alloc _) (by omega) (by omega) (by decide) rfl hs2 (by omega) (by omega) (by decide)
    rw [wd_1, leaves_awake, oT_some] at this
    refine this.mono ?_
    rintro e w' ⟨rfl, hb⟩
    have hb2 : Below w.heap.size w ((w.alloc (.cells #[.string tq, .string tax] 9)).alloc (.cells #[.string tq, .string tbh] 9)) := ((Below.refl _ _).alloc (Nat.le_refl _) _).alloc (by simp) _
    exact ⟨rfl, hb2.trans (hb.mono hb2.size)⟩
  have h2 : ∀ W, Calls Try.prog 13 #[.int .i64 1, .string oax, .string obh] W fun e w' => e = .returned (.bool true) ∧ Below W.heap.size W w' := fun W => by
    have := cValid 1 oax obh W (by decide) (by decide)
    rw [wd_1, valid_awake] at this
    exact this
  have H1 := Lib.hid h1
  have H2 := Lib.hid h2
  clear h1 h2
  go_enter Try.func12, Try.ntmps12
  go_wp2_with fail
  (with_reducible refine H1.out.mono ?_); rintro e w1 ⟨rfl, hb1⟩
  go_wp2_with fail
  (with_reducible refine (H2.out _).mono ?_); rintro e w2 ⟨rfl, hb2⟩
  go_wp2_with fail
  go_ret
  exact ⟨rfl, hb1.trans (hb2.mono hb1.size)⟩
set_option maxRecDepth 100000 in
theorem clashValid_walk {w : World} (k : Int) (hk : (Lit.int .i64 k).wf = true) (a : ByteArray) (ha : a.size ≤ reachBytes) (b : ByteArray) (hb : b.size ≤ reachBytes) :
    Calls Try.prog 3 #[.int .i64 k, .string a, .string b] w fun e w' => e = .returned (.bool true) ∧ Below w.heap.size w w' := by
  have ha2 : a.size ≤ 140737488355328 := Nat.le_trans ha (by decide)
  have hb2 : b.size ≤ 140737488355328 := Nat.le_trans hb (by decide)
  clear ha hb hk
  by_cases h1 : a.size ≤ 2000
  · have d1 : decide ((2000 : Int) < (a.size : Int)) = false := decide_eq_false (by omega)
    by_cases h2 : b.size ≤ 2000
    · have d2 : decide ((2000 : Int) < (b.size : Int)) = false := decide_eq_false (by omega)
      have v1 := fun W => cValid k a b W (by omega) (by omega)
      have v2 := fun W => crValid k a b W (by omega) (by omega)
      have v3 := fun W => cValid k a a W (by omega) (by omega)
      rw [validC_same (wd k) a a rfl] at v3
      obtain ⟨V, HV⟩ : ∃ x, Hid (validC (wd k) a b = x) := ⟨_, Lib.hid rfl⟩
      simp only [HV.out] at v1 v2
      have V1 := Lib.hid v1
      have V2 := Lib.hid v2
      have V3 := Lib.hid v3
      have hvv : (V == V) = true := by simp
      clear v1 v2 v3
      go_enter Try.func3, Try.ntmps3
      go_wp2_with fail
      (with_reducible refine (V1.out _).mono ?_); rintro e w1 ⟨rfl, hb1⟩
      go_wp2_with fail
      (with_reducible refine (V2.out _).mono ?_); rintro e w2 ⟨rfl, hb2⟩
      have q2 := hb1.trans (hb2.mono hb1.size)
      clear hb1 hb2
      go_wp2_with fail
      (with_reducible refine (V3.out _).mono ?_); rintro e w3 ⟨rfl, hb3⟩
      have q3 := q2.trans (hb3.mono q2.size)
      clear hb3 q2
      go_wp2_with fail
      (with_reducible refine (cAwake17 _).mono ?_); rintro e w4 ⟨rfl, hb4⟩
      go_wp2_with fail
      go_ret
      exact ⟨rfl, q3.trans (hb4.mono q3.size)⟩
    · have d2 : decide ((2000 : Int) < (b.size : Int)) = true := decide_eq_true (by omega)
      go_enter Try.func3, Try.ntmps3
      go_wp2_with fail
      (with_reducible refine (cAwake17 _).mono ?_); rintro e w4 ⟨rfl, hb4⟩
      go_wp2_with fail
      go_ret
      exact ⟨rfl, hb4⟩
  · have d1 : decide ((2000 : Int) < (a.size : Int)) = true := decide_eq_true (by omega)
    go_enter Try.func3, Try.ntmps3
    go_wp2_with fail
    (with_reducible refine (cAwake17 _).mono ?_); rintro e w4 ⟨rfl, hb4⟩
    go_wp2_with fail
    go_ret
    exact ⟨rfl, hb4⟩
set_option maxRecDepth 100000 in
theorem clashLists_walk {w : World} (k : Int) (hk : (Lit.int .i64 k).wf = true) (v1 : Value) (s1 : List ByteArray) (hv1 : StrsIn w v1 s1) (v2 : Value) (s2 : List ByteArray) (hv2 : StrsIn w v2 s2) :
    Calls Try.prog 4 #[.int .i64 k, v1, v2] w fun e w' => e = .returned (.bool true) ∧ Below w.heap.size w w' := by
  have h0 := cFewV hv1
  have h1 := cFewV hv2
  have H0 := Lib.hid h0
  have H1 := Lib.hid h1
  clear h0 h1 hv1 hv2 hk
  go_enter Try.func4, Try.ntmps4
  go_wp2_with fail
  (with_reducible refine H0.out.mono ?_); rintro e w1 ⟨A, n, c, a, rfl, ha, hsa, hac, hn, hza, rfl⟩
  go_wp2_with fail
  (with_reducible refine H1.out.mono ?_); rintro e w1 ⟨B, m, d, b, rfl, hb, hsb, hbd, hm, hzb, rfl⟩
  have l1 := cLeaves k A B n c m d a b w ha hsa hac (by omega) (fun s hs => by have := hza s hs; omega) hb hsb hbd (by omega) (fun s hs => by have := hzb s hs; omega)
  have l2 := fun W h h' => crLeaves17 k n A B c m d a b W ha h hac (by omega) (fun s hs => by have := hza s hs; omega) hb h' hbd (by omega) (fun s hs => by have := hzb s hs; omega)
  obtain ⟨V, HV⟩ : ∃ x, Hid (leavesC (wd k) a b = x) := ⟨_, Lib.hid rfl⟩
  simp only [HV.out] at l1 l2
  obtain ⟨x, y, bb, hv⟩ := oT_form V
  simp only [hv] at l1 l2
  have L1 := Lib.hid l1
  have L2 := Lib.hid l2
  have HSA := Lib.hid hsa
  have HSB := Lib.hid hsb
  have hxx := beq_same x
  have hyy := beq_same y
  have hbb : (bb == bb) = true := by simp
  clear l1 l2 hsa hsb hza hzb ha hb hv H0 H1
  go_wp2_with fail
  (with_reducible refine L1.out.mono ?_); rintro e w1 ⟨rfl, hb1⟩
  go_wp2_with fail
  (with_reducible refine (L2.out _ (HSA.out.fresh hb1) (HSB.out.fresh hb1)).mono ?_); rintro e w2 ⟨rfl, hb2⟩
  have q2 := hb1.trans (hb2.mono hb1.size)
  clear hb1 hb2
  go_wp2_with fail
  (with_reducible refine (cAwake17 _).mono ?_); rintro e w4 ⟨rfl, hb4⟩
  go_wp2_with fail
  go_ret
  exact ⟨rfl, q2.trans (hb4.mono q2.size)⟩
theorem clash_size (d : Nat) (hd : d ≤ 32) : ∀ (n : Nat) (a b : List ByteArray), a.length ≤ n → (∀ s ∈ a, s.size ≤ 200000) → (∀ s ∈ b, s.size ≤ 200000) → ∀ r, apart d a b = some r → r.1.size ≤ 200001 ∧ r.2.size ≤ 200001 := by
  intro n
  induction n using Nat.strongRecOn with
  | _ n ih =>
    intro a b hn hza hzb r hr
    by_cases h : top d a = top d b
    · by_cases h2 : a.length < 2
      · rw [apart_small d a b h h2] at hr; cases hr
      · have hc := cut_lt a.length (by omega)
        have hp := cut_pos a.length
        cases hl : apart d (a.take (cut a.length)) (b.take (cut b.length)) with
        | some r' =>
          rw [apart_left d a b h (by omega) r' hl] at hr
          injection hr with e
          subst e
          exact ih (cut a.length) (by omega) _ _ (by rw [List.length_take]; omega) (mem_take_s hza) (mem_take_s hzb) _ hl
        | none =>
          rw [apart_right d a b h (by omega) hl] at hr
          exact ih (a.length - cut a.length) (by omega) _ _ (by rw [List.length_drop]; omega) (mem_drop_s hza) (mem_drop_s hzb) _ hr
    · rw [apart_ne d a b h] at hr
      injection hr with e
      subst e
      exact ⟨top_le d hd a hza, top_le d hd b hzb⟩
set_option maxRecDepth 100000 in
set_option maxHeartbeats 1000000 in
theorem clashFinds_walk {w : World} (k : Int) (hk : (Lit.int .i64 k).wf = true) (v1 : Value) (s1 : List ByteArray) (hv1 : StrsIn w v1 s1) (v2 : Value) (s2 : List ByteArray) (hv2 : StrsIn w v2 s2) :
    Calls Try.prog 5 #[.int .i64 k, v1, v2] w fun e w' => e = .returned (.bool true) ∧ Below w.heap.size w w' := by
  have h0 := cFewV hv1
  have h1 := cFewV hv2
  have H0 := Lib.hid h0
  have H1 := Lib.hid h1
  clear h0 h1 hv1 hv2 hk
  go_enter Try.func5, Try.ntmps5
  go_wp2_with fail
  (with_reducible refine H0.out.mono ?_); rintro e w1 ⟨A, n, c, a, rfl, ha, hsa, hac, hn, hza, rfl⟩
  go_wp2_with fail
  (with_reducible refine H1.out.mono ?_); rintro e w1 ⟨B, m, d, b, rfl, hb, hsb, hbd, hm, hzb, rfl⟩
  have hza2 : ∀ s ∈ a, s.size ≤ 200000 := fun s hs => by have := hza s hs; omega
  have hzb2 : ∀ s ∈ b, s.size ≤ 200000 := fun s hs => by have := hzb s hs; omega
  have l1 := cLeaves k A B n c m d a b w ha hsa hac (by omega) hza2 hb hsb hbd (by omega) hzb2
  have r1 := fun W h => crRoot17 k A n c a W ha h hac (by omega) hza2
  have r2 := fun W h => crRoot17 k B m d b W hb h hbd (by omega) hzb2
  have q1 := leavesC_no (wd k) a b
  have q2 := leavesC_yes (wd k) a b
  have q3 := apart_clash (wd k) (wd_hi k) a.length a b (Nat.le_refl _)
  have q4 := apart_same (wd k) a.length a (Nat.le_refl _)
  have q5 := clash_size (wd k) (wd_hi k) a.length a b (Nat.le_refl _) hza2 hzb2
  obtain ⟨P, HP⟩ : ∃ x, Hid (msum (wd k) (top (wd k) a) = x) := ⟨_, Lib.hid rfl⟩
  obtain ⟨Q, HQ⟩ : ∃ x, Hid (msum (wd k) (top (wd k) b) = x) := ⟨_, Lib.hid rfl⟩
  rw [HP.out, HQ.out] at q1 q2 q3
  simp only [HP.out] at r1
  simp only [HQ.out] at r2
  have HSA := Lib.hid hsa
  have HSB := Lib.hid hsb
  have R1 := Lib.hid r1
  have R2 := Lib.hid r2
  have HA := Lib.hid ha
  have HB := Lib.hid hb
  have hee := beq_same (⟨#[]⟩ : ByteArray)
  clear r1 r2 hsa hsb hza hzb ha hb H0 H1 hza2 hzb2
  by_cases hPQ : P = Q
  · have hpe : (P.toList == Q.toList) = true := by rw [hPQ]; exact beq_same _
    rw [q2 hPQ] at l1
    by_cases hab : a = b
    · subst hab
      rw [q4, oT_none] at l1
      have s1 := fun W h h' => cSame A B n m c d a a W HA.out HB.out h h' (by omega) (by omega)
      rw [decide_eq_true rfl] at s1
      have S1 := Lib.hid s1
      have L1 := Lib.hid l1
      have HPQ := Lib.hid hPQ
      clear l1 s1 q1 q2 q3 q4 q5 hPQ
      go_wp2_with fail
      (with_reducible refine L1.out.mono ?_); rintro e w1 ⟨rfl, hb1⟩
      go_wp2_with fail
      (with_reducible refine (R1.out _ (HSA.out.fresh hb1)).mono ?_); rintro e w2 ⟨rfl, hb2⟩
      have g2 := hb1.trans (hb2.mono hb1.size)
      clear hb1 hb2
      go_wp2_with fail
      (with_reducible refine (R2.out _ (HSB.out.fresh g2)).mono ?_); rintro e w3 ⟨rfl, hb3⟩
      have g3 := g2.trans (hb3.mono g2.size)
      clear g2 hb3
      go_wp2_with fail
      (with_reducible refine (S1.out _ (HSA.out.fresh g3) (HSB.out.fresh g3)).mono ?_); rintro e w4 ⟨rfl, hb4⟩
      have g4 := g3.trans (hb4.mono g3.size)
      clear g3 hb4
      go_wp2_with fail
      (with_reducible refine (cAwake17 _).mono ?_); rintro e w5 ⟨rfl, hb5⟩
      go_wp2_with fail
      go_ret
      exact ⟨rfl, g4.trans (hb5.mono g4.size)⟩
    · obtain ⟨q6, q7⟩ := q3 hPQ
      cases hr : apart (wd k) a b with
      | none => exact absurd (q7 hr) hab
      | some r =>
        obtain ⟨x, y⟩ := r
        obtain ⟨z1, z2⟩ := q6 _ hr
        obtain ⟨z3, z4⟩ := q5 _ hr
        rw [hr, oT_some] at l1
        have s1 := fun W h h' => cSame A B n m c d a b W HA.out HB.out h h' (by omega) (by omega)
        rw [decide_eq_false hab] at s1
        have v1 := fun W => crValid k x y W (by dsimp only at z3; omega) (by dsimp only at z4; omega)
        rw [validC_yes (wd k) x y z1 z2] at v1
        have S1 := Lib.hid s1
        have L1 := Lib.hid l1
        have V1 := Lib.hid v1
        have HPQ := Lib.hid hPQ
        clear l1 s1 v1 q1 q2 q3 q4 q5 q6 q7 z1 z2 z3 z4 hr hab hPQ
        go_wp2_with fail
        (with_reducible refine L1.out.mono ?_); rintro e w1 ⟨rfl, hb1⟩
        go_wp2_with fail
        (with_reducible refine (R1.out _ (HSA.out.fresh hb1)).mono ?_); rintro e w2 ⟨rfl, hb2⟩
        have g2 := hb1.trans (hb2.mono hb1.size)
        clear hb1 hb2
        go_wp2_with fail
        (with_reducible refine (R2.out _ (HSB.out.fresh g2)).mono ?_); rintro e w3 ⟨rfl, hb3⟩
        have g3 := g2.trans (hb3.mono g2.size)
        clear g2 hb3
        go_wp2_with fail
        (with_reducible refine (S1.out _ (HSA.out.fresh g3) (HSB.out.fresh g3)).mono ?_); rintro e w4 ⟨rfl, hb4⟩
        have g4 := g3.trans (hb4.mono g3.size)
        clear g3 hb4
        go_wp2_with fail
        (with_reducible refine (V1.out _).mono ?_); rintro e w5 ⟨rfl, hb5⟩
        have g5 := g4.trans (hb5.mono g4.size)
        clear g4 hb5
        go_wp2_with fail
        (with_reducible refine (cAwake17 _).mono ?_); rintro e w6 ⟨rfl, hb6⟩
        go_wp2_with fail
        go_ret
        exact ⟨rfl, g5.trans (hb6.mono g5.size)⟩
  · have hpe := beq_text_ne hPQ
    rw [q1 hPQ, oT_none] at l1
    have L1 := Lib.hid l1
    clear l1 q1 q2 q3 q4 q5 hPQ
    go_wp2_with fail
    (with_reducible refine L1.out.mono ?_); rintro e w1 ⟨rfl, hb1⟩
    go_wp2_with fail
    (with_reducible refine (R1.out _ (HSA.out.fresh hb1)).mono ?_); rintro e w2 ⟨rfl, hb2⟩
    have g2 := hb1.trans (hb2.mono hb1.size)
    clear hb1 hb2
    go_wp2_with fail
    (with_reducible refine (R2.out _ (HSB.out.fresh g2)).mono ?_); rintro e w3 ⟨rfl, hb3⟩
    have g3 := g2.trans (hb3.mono g2.size)
    clear g2 hb3
    go_wp2_with fail
    (with_reducible refine (cAwake17 _).mono ?_); rintro e w5 ⟨rfl, hb5⟩
    go_wp2_with fail
    go_ret
    exact ⟨rfl, g3.trans (hb5.mono g3.size)⟩
end Go.Proofs.Ytgkjpemgfbkejaa
