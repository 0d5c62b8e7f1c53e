/- A region that draws its order, in which two operations, one behind the other in the text, may come in either order, and write: the walk in the order of the text up to them, then both ways. -/
import Derived.Test.YtcnhhlnbmliihaaOrd
namespace Go.Proofs.Ytcnhhlnbmliihaa
set_option linter.unusedVariables false
set_option linter.unusedSimpArgs false

section
variable {P : Program} {ops : Array Oper} {kf : Nat → Nat} {md : Region.Mode} {S : World → Prop}

theorem opX_and {o : Oper} {K K' : Act → World → Prop} {a : Act} {w : World} (hS : S w) (h : opX P ops S 0 o K a w) (h' : opX P ops S 0 o K' a w) : opX P ops S 0 o (fun a w => K a w ∧ K' a w) a w := by
  unfold opX at *
  rw [if_neg (by decide)] at *
  obtain ⟨v, hy, hK⟩ := h
  obtain ⟨v', hy', hK'⟩ := h'
  have e := hy.det hy' rfl hS
  subst e
  exact ⟨v, hy, hK, hK'⟩

/-- Either of two first. -/
theorem anyX_two {Q : Act → World → Prop} {i1 i2 : Nat} {o1 o2 : Oper} {D1 D2 : Nat → Bool} (h1 : ops[i1]? = some o1) (h2 : ops[i2]? = some o2) (hk1 : kf i1 = 2) (hk2 : kf i2 = 2)
    (hsel : ∀ (j : Nat) (o : Oper) cs b, ops[j]? = some o → o.op ≠ .select cs b)
    (hD1 : ∀ j oj, ops[j]? = some oj → D1 j = true → j ≠ i1 → ∃ e ∈ oj.after, Region.binds md e = true ∧ D1 e.on = true)
    (hD2 : ∀ j oj, ops[j]? = some oj → D2 j = true → j ≠ i2 → ∃ e ∈ oj.after, Region.binds md e = true ∧ D2 e.on = true) :
    ∀ (fuel : Nat) (listed : Array Bool) (a : Act) (w : World), S w → (∀ j, D1 j = true → listed.getD j false = false) → (∀ j, D2 j = true → listed.getD j false = false) →
      (∀ j oj, ops[j]? = some oj → j ≠ i1 → j ≠ i2 → listed.getD j true = false → D1 j = false → D2 j = false → o1.apart ops oj = true ∧ o2.apart ops oj = true ∧ kf j = 0) →
      i1 ∈ Region.ready md ops listed → i2 ∈ Region.ready md ops listed →
      opX P ops S 2 o1 (anyX P md ops S kf Q fuel (listed.setIfInBounds i1 true)) a w → opX P ops S 2 o2 (anyX P md ops S kf Q fuel (listed.setIfInBounds i2 true)) a w → anyX P md ops S kf Q (fuel + 1) listed a w := by
  intro fuel
  induction fuel with
  | zero =>
    intro listed a w hS _ _ _ hr1 hr2 H1 H2
    refine ⟨fun h => (by rw [h] at hr1; cases hr1), fun j hj o ho => ?_⟩
    by_cases hj1 : j = i1
    · subst hj1; rw [h1] at ho; injection ho with ho; subst ho; rw [hk1]; exact H1
    · obtain ⟨a', w', h0, _⟩ := opX_some hS H1
      have := ready_mono hj hj1
      rw [h0] at this
      cases this
  | succ fuel ih =>
    intro listed a w hS hun1 hun2 hfree hr1 hr2 H1 H2
    refine ⟨fun h => (by rw [h] at hr1; cases hr1), fun j hj oj hoj => ?_⟩
    by_cases hj1 : j = i1
    · subst hj1; rw [h1] at hoj; injection hoj with ho; subst ho; rw [hk1]; exact H1
    · by_cases hj2 : j = i2
      · subst hj2; rw [h2] at hoj; injection hoj with ho; subst ho; rw [hk2]; exact H2
      · obtain ⟨hjun, oj', hoj', hall⟩ := mem_ready.1 hj
        rw [hoj] at hoj'; injection hoj' with e; subst e
        have hDj1 : D1 j = false := by
          cases hd : D1 j with
          | false => rfl
          | true =>
            obtain ⟨e, he, hb, hde⟩ := hD1 j oj hoj hd hj1
            have g1 := hall e he hb
            rw [hun1 _ hde] at g1
            cases g1
        have hDj2 : D2 j = false := by
          cases hd : D2 j with
          | false => rfl
          | true =>
            obtain ⟨e, he, hb, hde⟩ := hD2 j oj hoj hd hj2
            have g1 := hall e he hb
            rw [hun2 _ hde] at g1
            cases g1
        obtain ⟨hap1, hap2, hk0⟩ := hfree j oj hoj hj1 hj2 hjun hDj1 hDj2
        have swap : ∀ (i : Nat) (oi : Oper), ops[i]? = some oi → oi.apart ops oj = true → j ≠ i → opX P ops S 2 oi (anyX P md ops S kf Q (fuel + 1) (listed.setIfInBounds i true)) a w → opX P ops S 0 oj (fun a' w' => opX P ops S 2 oi (anyX P md ops S kf Q fuel ((listed.setIfInBounds j true).setIfInBounds i true)) a' w') a w := by
          intro i oi hoi hap hji H
          have H2 : opX P ops S 2 oi (fun a' w' => opX P ops S 0 oj (anyX P md ops S kf Q fuel ((listed.setIfInBounds i true).setIfInBounds j true)) a' w') a w :=
            opX_mono hS (fun a' w' _ h' => by have := h'.2 j (ready_mono hj hji) oj hoj; rw [hk0] at this; exact this) H
          have H3 := opX_swap hap (by decide) (fun cs b => hsel i oi cs b hoi) (fun cs b => hsel j oj cs b hoj) hS H2
          rw [Array.setIfInBounds_comm _ _ (Ne.symm hji)] at H3
          exact H3
        rw [hk0]
        have g1 := swap i1 o1 h1 hap1 hj1 H1
        have g2 := swap i2 o2 h2 hap2 hj2 H2
        refine opX_mono hS (fun a' w' hS' h' => ih (listed.setIfInBounds j true) a' w' hS' ?_ ?_ ?_ (ready_mono hr1 (Ne.symm hj1)) (ready_mono hr2 (Ne.symm hj2)) h'.1 h'.2) (opX_and hS g1 g2)
        · intro k hk
          have : j ≠ k := fun e => by subst e; rw [hDj1] at hk; cases hk
          rw [getD_set_ne false this]; exact hun1 k hk
        · intro k hk
          have : j ≠ k := fun e => by subst e; rw [hDj2] at hk; cases hk
          rw [getD_set_ne false this]; exact hun2 k hk
        · intro k ok hk hk1' hk2' hun' hd1 hd2
          refine hfree k ok hk hk1' hk2' ?_ hd1 hd2
          by_cases hjk : j = k
          · subst hjk; exact hjun
          · rw [getD_set_ne true hjk] at hun'; exact hun'

def condP (md : Region.Mode) (ops : Array Oper) (kf : Nat → Nat) (k p : Nat) (ok : Oper) (D : Nat) : Bool :=
  (List.range ops.size).all (fun j => if D.testBit j then Nat.ble k j && (j == k || match ops[j]? with
      | some o => o.after.any (fun e => Region.binds md e && D.testBit e.on)
      | none => true)
    else (Nat.ble j k || (k == p && j == p + 1)) || match ops[j]? with
      | some oj => ok.apart ops oj && mayX (kf k) (kf j)
      | none => true)
/-- As lexX, but numbers p and p + 1 may come in either order. -/
def lexP (md : Region.Mode) (ops : Array Oper) (kf : Nat → Nat) (p : Nat) : Bool :=
  (List.range ops.size).all fun k => match ops[k]? with
    | none => false
    | some ok => (ok.after.all (fun e => !Region.binds md e || (Nat.blt e.on k && (!(k == p + 1) || Nat.blt e.on p))) && condP md ops kf k p ok (depX md ops k)) && (!(k == p) || !(depX md ops p).testBit (p + 1))

theorem lexP_spec {p : Nat} (h : lexP md ops kf p = true) {k : Nat} {ok : Oper} (hk : ops[k]? = some ok) : ∃ D : Nat → Bool,
    (∀ e ∈ ok.after, Region.binds md e = true → e.on < k ∧ (k = p + 1 → e.on < p)) ∧ (∀ j, j < ops.size → D j = true → k ≤ j) ∧
    (∀ j oj, ops[j]? = some oj → D j = true → j ≠ k → ∃ e ∈ oj.after, Region.binds md e = true ∧ D e.on = true) ∧
    (∀ j oj, ops[j]? = some oj → k < j → (k = p → j ≠ p + 1) → D j = false → ok.apart ops oj = true ∧ mayX (kf k) (kf j) = true) ∧ (k = p → D (p + 1) = false) := by
  have hlt : k < ops.size := (Array.getElem?_eq_some_iff.1 hk).1
  unfold lexP at h
  have h1 := List.all_eq_true.1 h k (List.mem_range.2 hlt)
  simp only [hk, Bool.and_eq_true] at h1
  obtain ⟨⟨hb, hc⟩, hp⟩ := h1
  unfold condP at hc
  refine ⟨fun j => (depX md ops k).testBit j, ?_, ?_, ?_, ?_, ?_⟩
  · intro e he hbe
    have := Array.all_eq_true_iff_forall_mem.1 hb e he
    simp only [hbe, Bool.not_true, Bool.false_or, Bool.and_eq_true, Bool.or_eq_true, Bool.not_eq_true', Nat.blt_eq, beq_eq_false_iff_ne] at this
    exact ⟨this.1, fun e2 => this.2.resolve_left (fun hn => hn e2)⟩
  · intro j hj hD
    have := List.all_eq_true.1 hc j (List.mem_range.2 hj)
    rw [if_pos hD] at this
    simp only [Bool.and_eq_true] at this
    simpa using this.1
  · intro j oj hj hD hne
    have := List.all_eq_true.1 hc j (List.mem_range.2 (Array.getElem?_eq_some_iff.1 hj).1)
    rw [if_pos hD] at this
    simp only [Bool.and_eq_true, Bool.or_eq_true, beq_iff_eq, hne, false_or, hj] at this
    obtain ⟨e, he, hx⟩ := Array.any_eq_true'.1 this.2
    simp only [Bool.and_eq_true] at hx
    exact ⟨e, he, hx.1, hx.2⟩
  · intro j oj hj hkj hkp hD
    have := List.all_eq_true.1 hc j (List.mem_range.2 (Array.getElem?_eq_some_iff.1 hj).1)
    have hD' : (depX md ops k).testBit j = false := hD
    rw [if_neg (by rw [hD']; decide)] at this
    have hn : Nat.ble j k = false := by rw [Bool.eq_false_iff]; intro e; have := Nat.le_of_ble_eq_true e; omega
    have hn2 : (k == p && j == p + 1) = false := by
      rw [Bool.eq_false_iff]
      intro e
      simp only [Bool.and_eq_true, beq_iff_eq] at e
      exact hkp e.1 e.2
    simp only [hn, hn2, Bool.false_or, hj, Bool.and_eq_true] at this
    exact this
  · intro e
    subst e
    simpa using hp

theorem anyX_lexP {Q : Act → World → Prop} {p : Nat} (hs : Region.noSelect ops = true) (hB : lexP md ops kf p = true) : ∀ (l : List Oper) (k : Nat) (listed : Array Bool) (a : Act) (w : World), p + 1 < k → (∀ j, l[j]? = ops[k + j]?) → k + l.length = ops.size →
    listed.size = ops.size → (∀ j, j < ops.size → listed.getD j false = decide (j < k)) → S w → wpX P ops S kf Q k l a w → anyX P md ops S kf Q l.length listed a w
  | [], k, listed, _, _, _, _, hk, hsz, hl, _, h => by
    refine ⟨?_, h⟩
    rcases hr : Region.ready md ops listed with _ | ⟨j, r⟩
    · rfl
    · obtain ⟨h0, o, ho, _⟩ := mem_ready.1 (by rw [hr]; exact List.mem_cons_self : j ∈ Region.ready md ops listed)
      have hj : j < ops.size := (Array.getElem?_eq_some_iff.1 ho).1
      have h1 := hl j hj
      have e : listed.getD j true = listed.getD j false := by simp [hsz, hj]
      rw [e, h1] at h0
      simp at h0 hk
      omega
  | o :: l, k, listed, a, w, hpk, hops, hk, hsz, hl, hS, h => by
    have h0 : ops[k]? = some o := by simpa using (hops 0).symm
    have hkn : k < ops.size := (Array.getElem?_eq_some_iff.1 h0).1
    have same : ∀ j, j < ops.size → listed.getD j true = listed.getD j false := fun j hj => by simp [hsz, hj]
    obtain ⟨D, d1, d2, d3, d4, _⟩ := lexP_spec hB h0
    have hr : k ∈ Region.ready md ops listed := by
      refine mem_ready.2 ⟨by rw [same k hkn, hl k hkn]; simp, o, h0, fun e he hb => ?_⟩
      have := (d1 e he hb).1
      rw [hl _ (by omega)]
      simpa using this
    refine anyX_first (D := D) h0 (Region.noSelect_spec hs) d3 l.length listed a w hS ?_ ?_ hr ?_
    · intro j hD
      rcases Nat.lt_or_ge j ops.size with hj | hj
      · rw [hl j hj]; have := d2 j hj hD; simp; omega
      · simp [hsz, Nat.not_lt.2 hj]
    · intro j oj hj hne hun hD
      have hjn : j < ops.size := (Array.getElem?_eq_some_iff.1 hj).1
      refine d4 j oj hj ?_ (fun e => by omega) hD
      rw [same j hjn, hl j hjn] at hun
      simp at hun
      omega
    · refine opX_mono hS (fun a' w' hS' h' => anyX_lexP hs hB l (k + 1) _ a' w' (by omega) (fun j => by have := hops (j + 1); simpa [Nat.add_assoc, Nat.add_comm 1 j] using this) (by simp at hk; omega) (by simp [hsz]) ?_ hS' h') h
      intro j hj
      by_cases hjk : k = j
      · subst hjk
        simp [hsz, hj]
      · rw [getD_set_ne false hjk, hl j hj]
        congr 1
        apply propext
        omega

/-- The pair itself. -/
theorem anyX_pair {Q : Act → World → Prop} {p : Nat} {o1 o2 : Oper} {l : List Oper} (hs : Region.noSelect ops = true) (hB : lexP md ops kf p = true) (hk1 : kf p = 2) (hk2 : kf (p + 1) = 2) (h1 : ops[p]? = some o1) (h2 : ops[p + 1]? = some o2)
    (hops : ∀ j, l[j]? = ops[p + 2 + j]?) (hk : p + 2 + l.length = ops.size) {listed : Array Bool} {a : Act} {w : World} (hsz : listed.size = ops.size) (hl : ∀ j, j < ops.size → listed.getD j false = decide (j < p)) (hS : S w)
    (H : wpX P ops S kf Q p (o1 :: o2 :: l) a w) (H' : wpX P ops S kf Q p (o2 :: o1 :: l) a w) : anyX P md ops S kf Q (l.length + 2) listed a w := by
  have hp1 : p < ops.size := by omega
  have hp2 : p + 1 < ops.size := by omega
  have same : ∀ j, j < ops.size → listed.getD j true = listed.getD j false := fun j hj => by simp [hsz, hj]
  obtain ⟨D1, a1, a2, a3, a4, a5⟩ := lexP_spec hB h1
  obtain ⟨D2, b1, b2, b3, b4, _⟩ := lexP_spec hB h2
  have hr1 : p ∈ Region.ready md ops listed := by
    refine mem_ready.2 ⟨by rw [same p hp1, hl p hp1]; simp, o1, h1, fun e he hb => ?_⟩
    have := (a1 e he hb).1
    rw [hl _ (by omega)]
    simpa using this
  have hr2 : p + 1 ∈ Region.ready md ops listed := by
    refine mem_ready.2 ⟨by rw [same _ hp2, hl _ hp2]; simp, o2, h2, fun e he hb => ?_⟩
    have := (b1 e he hb).2 rfl
    rw [hl _ (by omega)]
    simpa using this
  have both : ∀ i j, (i = p ∧ j = p + 1) ∨ (i = p + 1 ∧ j = p) → ∀ k, k < ops.size → ((listed.setIfInBounds i true).setIfInBounds j true).getD k false = decide (k < p + 1 + 1) := by
    intro i j hij k hkk
    by_cases hj : j = k
    · subst hj; simp [hsz, hkk]; omega
    · rw [getD_set_ne false hj]
      by_cases hi : i = k
      · subst hi; simp [hsz, hkk]; omega
      · rw [getD_set_ne false hi, hl k hkk]
        congr 1
        apply propext
        omega
  have one : ∀ (i j : Nat) (oi oj : Oper) (D : Nat → Bool), (i = p ∧ j = p + 1) ∨ (i = p + 1 ∧ j = p) → ops[i]? = some oi → ops[j]? = some oj → kf i = 2 → kf j = 2 → (∀ x, x < ops.size → D x = true → j ≤ x) → D i = false →
      (∀ x ox, ops[x]? = some ox → D x = true → x ≠ j → ∃ e ∈ ox.after, Region.binds md e = true ∧ D e.on = true) →
      (∀ x ox, ops[x]? = some ox → p + 1 < x → D x = false → oj.apart ops ox = true ∧ mayX (kf j) (kf x) = true) → j ∈ Region.ready md ops listed → i ≠ j →
      ∀ a w, S w → opX P ops S 2 oj (wpX P ops S kf Q (p + 1 + 1) l) a w → anyX P md ops S kf Q (l.length + 1) (listed.setIfInBounds i true) a w := by
    intro i j oi oj D hij hoi hoj hki hkj hD0 hDi hD hfr hrj hne a w hS H
    refine anyX_first (D := D) hoj (Region.noSelect_spec hs) hD l.length _ a w hS ?_ ?_ (ready_mono hrj (Ne.symm hne)) ?_
    · intro x hx
      have hix : i ≠ x := fun e => by subst e; rw [hDi] at hx; cases hx
      rw [getD_set_ne false hix]
      rcases Nat.lt_or_ge x ops.size with hxx | hxx
      · rw [hl x hxx]
        have := hD0 x hxx hx
        simp
        omega
      · simp [hsz, Nat.not_lt.2 hxx]
    · intro x ox hx hxj hun hDx
      have hxn : x < ops.size := (Array.getElem?_eq_some_iff.1 hx).1
      have hix : i ≠ x := fun e => by subst e; simp [hsz, hxn] at hun
      rw [getD_set_ne true hix, same x hxn, hl x hxn] at hun
      simp at hun
      exact hfr x ox hx (by omega) hDx
    · rw [hkj]
      refine opX_mono hS (fun a' w' hS' h' => ?_) H
      refine anyX_lexP hs hB l (p + 1 + 1) _ a' w' (by omega) (fun j => by have := hops j; simpa using this) (by omega) (by simp [hsz]) (both i j hij) hS' h'
  refine anyX_two (D1 := D1) (D2 := D2) h1 h2 hk1 hk2 (Region.noSelect_spec hs) a3 b3 (l.length + 1) listed a w hS ?_ ?_ ?_ hr1 hr2 ?_ ?_
  · intro j hD
    rcases Nat.lt_or_ge j ops.size with hj | hj
    · rw [hl j hj]; have := a2 j hj hD; simp; omega
    · simp [hsz, Nat.not_lt.2 hj]
  · intro j hD
    rcases Nat.lt_or_ge j ops.size with hj | hj
    · rw [hl j hj]; have := b2 j hj hD; simp; omega
    · simp [hsz, Nat.not_lt.2 hj]
  · intro j oj hj hj1 hj2 hun hd1 hd2
    have hjn : j < ops.size := (Array.getElem?_eq_some_iff.1 hj).1
    rw [same j hjn, hl j hjn] at hun
    simp at hun
    obtain ⟨g1, g2⟩ := a4 j oj hj (by omega) (fun _ => hj2) hd1
    obtain ⟨g3, _⟩ := b4 j oj hj (by omega) (fun e => by omega) hd2
    rw [hk1] at g2
    exact ⟨g1, g3, by simpa [mayX] using g2⟩
  · have H1 : opX P ops S 2 o1 (fun a w => opX P ops S 2 o2 (wpX P ops S kf Q (p + 1 + 1) l) a w) a w := by
      have := H
      unfold wpX at this
      rw [hk1] at this
      refine opX_mono hS (fun a w _ h => ?_) this
      unfold wpX at h
      rw [hk2] at h
      exact h
    refine opX_mono hS (fun a w hS' h => ?_) H1
    have hD2p : D2 p = false := by
      cases hd : D2 p with
      | false => rfl
      | true => have := b2 p hp1 hd; omega
    exact one p (p + 1) o1 o2 D2 (.inl ⟨rfl, rfl⟩) h1 h2 hk1 hk2 b2 hD2p b3 (fun x ox hx hlt hd => b4 x ox hx (by omega) (fun e => by omega) hd) hr2 (by omega) a w hS' h
  · have H1 : opX P ops S 2 o2 (fun a w => opX P ops S 2 o1 (wpX P ops S kf Q (p + 1 + 1) l) a w) a w := by
      have := H'
      unfold wpX at this
      rw [hk1] at this
      refine opX_mono hS (fun a w _ h => ?_) this
      unfold wpX at h
      rw [hk2] at h
      exact h
    refine opX_mono hS (fun a w hS' h => ?_) H1
    exact one (p + 1) p o2 o1 D1 (.inr ⟨rfl, rfl⟩) h2 h1 hk2 hk1 a2 (a5 rfl) a3 (fun x ox hx hlt hd => a4 x ox hx (by omega) (fun _ => by omega) hd) hr1 (by omega) a w hS' h

/-- Up to the pair in the order of the text. -/
theorem anyX_toP {Q : Act → World → Prop} {p : Nat} {o1 o2 : Oper} {l2 : List Oper} (hs : Region.noSelect ops = true) (hB : lexP md ops kf p = true) (hk1 : kf p = 2) (hk2 : kf (p + 1) = 2) (h1 : ops[p]? = some o1) (h2 : ops[p + 1]? = some o2)
    (hops2 : ∀ j, l2[j]? = ops[p + 2 + j]?) (hk2' : p + 2 + l2.length = ops.size) : ∀ (l : List Oper) (k : Nat) (listed : Array Bool) (a : Act) (w : World), (∀ j, j < l.length → l[j]? = ops[k + j]?) → k + l.length = p →
    listed.size = ops.size → (∀ j, j < ops.size → listed.getD j false = decide (j < k)) → S w → wpX P ops S kf (fun a w => wpX P ops S kf Q p (o1 :: o2 :: l2) a w ∧ wpX P ops S kf Q p (o2 :: o1 :: l2) a w) k l a w → anyX P md ops S kf Q (l.length + (l2.length + 2)) listed a w
  | [], k, listed, a, w, _, hk, hsz, hl, hS, h => by
    simp at hk
    subst hk
    rw [List.length_nil, Nat.zero_add]
    exact anyX_pair hs hB hk1 hk2 h1 h2 hops2 hk2' hsz hl hS h.1 h.2
  | o :: l, k, listed, a, w, hops, hk, hsz, hl, hS, h => by
    have h0 : ops[k]? = some o := by simpa using (hops 0 (by simp)).symm
    have hkn : k < ops.size := (Array.getElem?_eq_some_iff.1 h0).1
    have same : ∀ j, j < ops.size → listed.getD j true = listed.getD j false := fun j hj => by simp [hsz, hj]
    obtain ⟨D, d1, d2, d3, d4, _⟩ := lexP_spec hB h0
    have hr : k ∈ Region.ready md ops listed := by
      refine mem_ready.2 ⟨by rw [same k hkn, hl k hkn]; simp, o, h0, fun e he hb => ?_⟩
      have := (d1 e he hb).1
      rw [hl _ (by omega)]
      simpa using this
    have e : (o :: l).length + (l2.length + 2) = (l.length + (l2.length + 2)) + 1 := by rw [List.length_cons]; omega
    rw [e]
    refine anyX_first (D := D) h0 (Region.noSelect_spec hs) d3 (l.length + (l2.length + 2)) listed a w hS ?_ ?_ hr ?_
    · intro j hD
      rcases Nat.lt_or_ge j ops.size with hj | hj
      · rw [hl j hj]; have := d2 j hj hD; simp; omega
      · simp [hsz, Nat.not_lt.2 hj]
    · intro j oj hj hne hun hD
      have hjn : j < ops.size := (Array.getElem?_eq_some_iff.1 hj).1
      refine d4 j oj hj ?_ (fun e => by simp at hk; omega) hD
      rw [same j hjn, hl j hjn] at hun
      simp at hun
      omega
    · refine opX_mono hS (fun a' w' hS' h' => anyX_toP hs hB hk1 hk2 h1 h2 hops2 hk2' l (k + 1) _ a' w' (fun j hj => by have := hops (j + 1) (by simp; omega); simpa [Nat.add_assoc, Nat.add_comm 1 j] using this) (by simp at hk; omega) (by simp [hsz]) ?_ hS' h') h
      intro j hj
      by_cases hjk : k = j
      · subst hjk
        simp [hsz, hj]
      · rw [getD_set_ne false hjk, hl j hj]
        congr 1
        apply propext
        omega

/-- Numbers p and p + 1 of the region in either order. -/
theorem wp_region_lexP {id : Nat} {Q : Exit → Act → World → Prop} {a : Act} {w : World} {l : List Oper} (p : Nat) {o1 o2 : Oper} {l2 : List Oper} (hl : l.drop p = o1 :: o2 :: l2) (S : World → Prop) (ld : Nat) (ov : List (Nat × Nat)) (hm : P.follows .mixedOrders = true)
    (hB : (Region.noSelect l.toArray && lexP .any l.toArray (kindX l ld ov) p && (kindX l ld ov p == 2 && kindX l ld ov (p + 1) == 2)) = true) (hS : S w.drew)
    (h : wpX P l.toArray S (kindX l ld ov) (fun a w => wpX P l.toArray S (kindX l ld ov) (Q .normal) p (o1 :: o2 :: l2) a w ∧ wpX P l.toArray S (kindX l ld ov) (Q .normal) p (o2 :: o1 :: l2) a w) 0 (l.take p) a w.drew) : (Code.region id l.toArray true).wp P Q a w := by
  simp only [Bool.and_eq_true, beq_iff_eq] at hB
  obtain ⟨⟨hB1, hB2⟩, hB3, hB4⟩ := hB
  have hlen : p + 2 + l2.length = l.length := by
    have := congrArg List.length hl
    rw [List.length_drop] at this
    simp at this
    omega
  have hg : ∀ j, (o1 :: o2 :: l2)[j]? = l[p + j]? := fun j => by rw [← hl, List.getElem?_drop]
  refine wp_region_any hm (any_of_anyX (S := S) (kf := kindX l ld ov) (Q := Q .normal) (fun _ _ h => h) _ _ _ _ hS ?_)
  have := anyX_toP (md := .any) (S := S) (kf := kindX l ld ov) (Q := Q .normal) hB1 hB2 hB3 hB4 (o1 := o1) (o2 := o2) (l2 := l2) (by have := hg 0; simpa using this.symm) (by have := hg 1; simpa using this.symm) (fun j => by have := hg (j + 2); simp only [List.getElem?_cons_succ] at this; rw [this]; simp [Nat.add_assoc, Nat.add_comm 2 j]) (by simpa using hlen)
    (l.take p) 0 (Array.replicate l.length false) a w.drew (fun j hj => by simp only [List.length_take] at hj; rw [List.getElem?_take_of_lt (by omega)]; simp) (by rw [List.length_take]; omega) (by simp) (by intro j hj; rw [getD_replicate_false]; simp) hS h
  have e : (l.take p).length + (l2.length + 2) = l.length := by rw [List.length_take]; omega
  rw [e] at this
  simpa using this
end
end Go.Proofs.Ytcnhhlnbmliihaa
