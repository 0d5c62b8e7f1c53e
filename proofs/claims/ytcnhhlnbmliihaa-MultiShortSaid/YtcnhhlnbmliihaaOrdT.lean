/- A region that draws its order, whose last operation waits for all others: the walk in the order of the text, in which what the last one does need not keep the fact S. -/
import Derived.Test.YtcnhhlnbmliihaaOrd
namespace Go.Proofs.Ytcnhhlnbmliihaa
set_option linter.unusedVariables false
set_option linter.unusedSimpArgs false

section
variable {P : Program} {ops : Array Oper} {kf : Nat → Nat} {md : Region.Mode} {S : World → Prop} {L : Nat}

/-- Whatever order is picked from here on; number L is the last one. -/
def anyT (P : Program) (md : Region.Mode) (ops : Array Oper) (S : World → Prop) (kf : Nat → Nat) (L : Nat) (Q : Act → World → Prop) : Nat → Array Bool → Act → World → Prop
  | 0, listed, a, w => Region.ready md ops listed = [] ∧ Q a w
  | fuel + 1, listed, a, w => (Region.ready md ops listed = [] → Q a w) ∧
    ∀ i ∈ Region.ready md ops listed, ∀ o, ops[i]? = some o → if i = L then opX P ops (fun _ => True) 2 o Q a w else opX P ops S (kf i) o (anyT P md ops S kf L Q fuel (listed.setIfInBounds i true)) a w

theorem any_of_anyT (hL : ∀ oL, ops[L]? = some oL → ∀ j, j < ops.size → j ≠ L → ∃ e ∈ oL.after, Region.binds md e = true ∧ e.on = j) {Q : Act → World → Prop} {Q' : Exit → Act → World → Prop} (hQ : ∀ a w, Q a w → Q' .normal a w) : ∀ (fuel : Nat) (listed : Array Bool) (a : Act) (w : World), listed.size = ops.size → S w →
    anyT P md ops S kf L Q fuel listed a w → wpAny P md ops Q' fuel listed a w
  | 0, _, _, _, _, _, h => ⟨h.1, hQ _ _ h.2⟩
  | fuel + 1, listed, _, _, hsz, hS, h => ⟨fun h0 => hQ _ _ (h.1 h0), fun i hi => by
      obtain ⟨hun, o, ho, hall⟩ := mem_ready.1 hi
      have h2 := h.2 i hi o ho
      by_cases hiL : i = L
      · subst hiL
        rw [if_pos rfl] at h2
        refine wp_of_opX (S := fun _ => True) ho trivial (fun a' w' _ hK => ?_) h2
        have hnone : Region.ready md ops (listed.setIfInBounds i true) = [] := by
          rcases hr : Region.ready md ops (listed.setIfInBounds i true) with _ | ⟨j, r⟩
          · rfl
          · obtain ⟨h0, oj, hoj, _⟩ := mem_ready.1 (by rw [hr]; exact List.mem_cons_self : j ∈ Region.ready md ops (listed.setIfInBounds i true))
            have hj : j < ops.size := (Array.getElem?_eq_some_iff.1 hoj).1
            by_cases hji : i = j
            · subst hji; simp [hsz, hj] at h0
            · obtain ⟨e, he, hb, heq⟩ := hL o ho j hj (Ne.symm hji)
              have g1 := hall e he hb
              rw [heq] at g1
              rw [getD_set_ne true hji] at h0
              have g2 : listed.getD j true = listed.getD j false := by simp [hsz, hj]
              rw [g2, g1] at h0
              cases h0
        cases fuel with
        | zero => exact ⟨hnone, hQ _ _ hK⟩
        | succ f => exact ⟨fun _ => hQ _ _ hK, fun j hj => by rw [hnone] at hj; cases hj⟩
      · rw [if_neg hiL] at h2
        exact wp_of_opX ho hS (fun a' w' hS' => any_of_anyT hL hQ fuel _ a' w' (by simp [hsz]) hS') h2⟩

theorem anyT_first (hL : ∀ oL, ops[L]? = some oL → ∀ j, j < ops.size → j ≠ L → ∃ e ∈ oL.after, Region.binds md e = true ∧ e.on = j) {Q : Act → World → Prop} {i : Nat} {oi : Oper} {D : Nat → Bool} (hiL : i ≠ L) (hi : ops[i]? = some oi) (hsel : ∀ (j : Nat) (o : Oper) cs b, ops[j]? = some o → o.op ≠ .select cs b)
    (hD : ∀ j oj, ops[j]? = some oj → D j = true → j ≠ i → ∃ e ∈ oj.after, Region.binds md e = true ∧ D e.on = true) :
    ∀ (fuel : Nat) (listed : Array Bool) (a : Act) (w : World), listed.size = ops.size → S w → (∀ j, D j = true → listed.getD j false = false) →
      (∀ j oj, ops[j]? = some oj → j ≠ i → listed.getD j true = false → D j = false → oi.apart ops oj = true ∧ mayX (kf i) (kf j) = true) →
      i ∈ Region.ready md ops listed → opX P ops S (kf i) oi (anyT P md ops S kf L Q fuel (listed.setIfInBounds i true)) a w → anyT P md ops S kf L Q (fuel + 1) listed a w := by
  intro fuel
  have notL : ∀ (listed : Array Bool), listed.size = ops.size → i ∈ Region.ready md ops listed → L ∉ Region.ready md ops listed := by
    intro listed hsz hr hrL
    obtain ⟨hun, oi', hoi', _⟩ := mem_ready.1 hr
    obtain ⟨_, oL, hoL, hall⟩ := mem_ready.1 hrL
    have hisz : i < ops.size := (Array.getElem?_eq_some_iff.1 hoi').1
    obtain ⟨e, he, hb, heq⟩ := hL oL hoL i hisz hiL
    have g1 := hall e he hb
    rw [heq] at g1
    have g2 : listed.getD i true = listed.getD i false := by simp [hsz, hisz]
    rw [g2, g1] at hun
    cases hun
  induction fuel with
  | zero =>
    intro listed a w hsz hS _ _ hr H
    refine ⟨fun h => (by rw [h] at hr; cases hr), fun j hj o ho => ?_⟩
    by_cases hji : j = i
    · subst hji; rw [hi] at ho; injection ho with ho; subst ho; rw [if_neg hiL]; exact H
    · obtain ⟨a', w', h0, _⟩ := opX_some hS H
      have := ready_mono hj hji
      rw [h0] at this
      cases this
  | succ fuel ih =>
    intro listed a w hsz hS hun hfree hr H
    refine ⟨fun h => (by rw [h] at hr; cases hr), fun j hj oj hoj => ?_⟩
    by_cases hji : j = i
    · subst hji; rw [hi] at hoj; injection hoj with ho; subst ho; rw [if_neg hiL]; exact H
    · have hjL : j ≠ L := fun e => notL listed hsz hr (e ▸ hj)
      rw [if_neg hjL]
      obtain ⟨hjun, oj', hoj', hall⟩ := mem_ready.1 hj
      rw [hoj] at hoj'; injection hoj' with e; subst e
      have hDj : D j = false := by
        cases hd : D j with
        | false => rfl
        | true =>
          obtain ⟨e, he, hb, hde⟩ := hD j oj hoj hd hji
          have g1 := hall e he hb
          rw [hun _ hde] at g1
          cases g1
      obtain ⟨hap, hmay⟩ := hfree j oj hoj hji hjun hDj
      have H2 : opX P ops S (kf i) oi (fun a' w' => opX P ops S (kf j) oj (anyT P md ops S kf L Q fuel ((listed.setIfInBounds i true).setIfInBounds j true)) a' w') a w :=
        opX_mono hS (fun a' w' _ h' => by have := h'.2 j (ready_mono hj hji) oj hoj; rw [if_neg hjL] at this; exact this) H
      have H3 := opX_swap hap hmay (fun cs b => hsel i oi cs b hi) (fun cs b => hsel j oj cs b hoj) hS H2
      refine opX_mono hS (fun a' w' hS' h' => ih (listed.setIfInBounds j true) a' w' (by simp [hsz]) hS' ?_ ?_ (ready_mono hr (Ne.symm hji)) ?_) H3
      · intro k hk
        have : j ≠ k := fun e => by subst e; rw [hDj] at hk; cases hk
        rw [getD_set_ne false this]; exact hun k hk
      · intro k ok hk hki hun' hDk
        refine hfree k ok hk hki ?_ hDk
        by_cases hjk : j = k
        · subst hjk; exact hjun
        · rw [getD_set_ne true hjk] at hun'; exact hun'
      · rw [Array.setIfInBounds_comm _ _ hji]
        exact h'

theorem anyT_lex (hL : ∀ oL, ops[L]? = some oL → ∀ j, j < ops.size → j ≠ L → ∃ e ∈ oL.after, Region.binds md e = true ∧ e.on = j) {oL : Oper} (hoL : ops[L]? = some oL) {Q : Act → World → Prop} (hs : Region.noSelect ops = true) (hB : lexX md ops kf = true) : ∀ (l : List Oper) (k : Nat) (listed : Array Bool) (a : Act) (w : World), (∀ j, j < l.length → l[j]? = ops[k + j]?) → k + l.length = L → L + 1 = ops.size →
    listed.size = ops.size → (∀ j, j < ops.size → listed.getD j false = decide (j < k)) → S w → wpX P ops S kf (fun a w => opX P ops (fun _ => True) 2 oL Q a w) k l a w → anyT P md ops S kf L Q (l.length + 1) listed a w
  | [], k, listed, a, w, _, hk, hn, hsz, hl, hS, h => by
    have same : ∀ j, j < ops.size → listed.getD j true = listed.getD j false := fun j hj => by simp [hsz, hj]
    have hLr : ∀ j ∈ Region.ready md ops listed, j = L := fun j hj => by
      obtain ⟨h0, oj, hoj, _⟩ := mem_ready.1 hj
      have hjn : j < ops.size := (Array.getElem?_eq_some_iff.1 hoj).1
      rw [same j hjn, hl j hjn] at h0
      simp at h0 hk
      omega
    have hin : L ∈ Region.ready md ops listed := by
      have hLn : L < ops.size := by omega
      refine mem_ready.2 ⟨by rw [same L hLn, hl L hLn]; simp at hk ⊢; omega, oL, hoL, fun e he hb => ?_⟩
      obtain ⟨D, d1, _⟩ := lexX_spec hB hoL
      have := d1 e he hb
      rw [hl _ (by omega)]
      simp at hk ⊢; omega
    refine ⟨fun h0 => (by rw [h0] at hin; cases hin), fun j hj o ho => ?_⟩
    have e := hLr j hj
    subst e
    rw [hoL] at ho; injection ho with ho; subst ho
    rw [if_pos rfl]
    exact h
  | o :: l, k, listed, a, w, hops, hk, hn, hsz, hl, hS, h => by
    have h0 : ops[k]? = some o := by simpa using (hops 0 (by simp)).symm
    have hkn : k < ops.size := (Array.getElem?_eq_some_iff.1 h0).1
    have same : ∀ j, j < ops.size → listed.getD j true = listed.getD j false := fun j hj => by simp [hsz, hj]
    obtain ⟨D, d1, d2, d3, d4⟩ := lexX_spec hB h0
    have hr : k ∈ Region.ready md ops listed := by
      refine mem_ready.2 ⟨by rw [same k hkn, hl k hkn]; simp, o, h0, fun e he hb => ?_⟩
      have := d1 e he hb
      rw [hl _ (by omega)]
      simpa using this
    refine anyT_first (D := D) hL (by simp at hk; omega) h0 (Region.noSelect_spec hs) d3 (l.length + 1) listed a w hsz hS ?_ ?_ hr ?_
    · intro j hD
      rcases Nat.lt_or_ge j ops.size with hj | hj
      · rw [hl j hj]; have := d2 j hj hD; simp; omega
      · simp [hsz, Nat.not_lt.2 hj]
    · intro j oj hj hne hun hD
      have hjn : j < ops.size := (Array.getElem?_eq_some_iff.1 hj).1
      refine d4 j oj hj ?_ hD
      rw [same j hjn, hl j hjn] at hun
      simp at hun
      omega
    · refine opX_mono hS (fun a' w' hS' h' => anyT_lex hL hoL hs hB l (k + 1) _ a' w' (fun j hj => by have := hops (j + 1) (by simp; omega); simpa [Nat.add_assoc, Nat.add_comm 1 j] using this) (by simp at hk; omega) hn (by simp [hsz]) ?_ hS' h') h
      intro j hj
      by_cases hjk : k = j
      · subst hjk
        simp [hsz, hj]
      · rw [getD_set_ne false hjk, hl j hj]
        congr 1
        apply propext
        omega

/-- The last one waits for all others. -/
def lastT (md : Region.Mode) (l : List Oper) (z : Oper) : Bool := (List.range l.length).all fun j => z.after.any fun e => Region.binds md e && e.on == j

theorem wp_region_lexT {id : Nat} {Q : Exit → Act → World → Prop} {a : Act} {w : World} {l : List Oper} {z : Oper} (S : World → Prop) (ld : Nat) (ov : List (Nat × Nat)) (hm : P.follows .mixedOrders = true)
    (hB : (Region.noSelect (l ++ [z]).toArray && (lexX .any (l ++ [z]).toArray (kindX (l ++ [z]) ld ov) && lastT .any l z)) = true) (hS : S w.drew)
    (h : wpX P (l ++ [z]).toArray S (kindX (l ++ [z]) ld ov) (fun a w => opX P (l ++ [z]).toArray (fun _ => True) 2 z (Q .normal) a w) 0 l a w.drew) : (Code.region id (l ++ [z]).toArray true).wp P Q a w := by
  simp only [Bool.and_eq_true] at hB
  obtain ⟨hB1, hB2, hB3⟩ := hB
  have hz : (l ++ [z]).toArray[l.length]? = some z := by simp
  have hL : ∀ oL, (l ++ [z]).toArray[l.length]? = some oL → ∀ j, j < (l ++ [z]).toArray.size → j ≠ l.length → ∃ e ∈ oL.after, Region.binds .any e = true ∧ e.on = j := by
    intro oL hoL j hj hne
    rw [hz] at hoL; injection hoL with hoL; subst hoL
    unfold lastT at hB3
    have := List.all_eq_true.1 hB3 j (List.mem_range.2 (by simp at hj; omega))
    obtain ⟨e, he, hx⟩ := Array.any_eq_true'.1 this
    simp only [Bool.and_eq_true, beq_iff_eq] at hx
    exact ⟨e, he, hx.1, hx.2⟩
  have hsize : (l ++ [z]).toArray.size = l.length + 1 := by simp
  refine wp_region_any hm (any_of_anyT (S := S) (kf := kindX (l ++ [z]) ld ov) (L := l.length) (Q := Q .normal) hL (fun _ _ h => h) _ _ _ _ (by simp) hS ?_)
  have := anyT_lex (md := .any) (S := S) (kf := kindX (l ++ [z]) ld ov) (L := l.length) hL hz hB1 hB2 l 0 (Array.replicate (l ++ [z]).length false) a w.drew (fun j hj => by simp [List.getElem?_append_left hj]) (by simp) (by simp) (by simp) (by intro j hj; rw [getD_replicate_false]; simp) hS h
  simpa using this
theorem wp_region_lexU {id : Nat} {Q : Exit → Act → World → Prop} {a : Act} {w : World} {l : List Oper} {z : Oper} (hz : l.getLast? = some z) (S : World → Prop) (ld : Nat) (ov : List (Nat × Nat)) (hm : P.follows .mixedOrders = true)
    (hB : (Region.noSelect l.toArray && (lexX .any l.toArray (kindX l ld ov) && lastT .any l.dropLast z)) = true) (hS : S w.drew)
    (h : wpX P l.toArray S (kindX l ld ov) (fun a w => wpX P l.toArray (fun _ => True) (fun _ => 2) (Q .normal) 0 [z] a w) 0 l.dropLast a w.drew) : (Code.region id l.toArray true).wp P Q a w := by
  obtain ⟨l0, rfl⟩ := List.getLast?_eq_some_iff.1 hz
  rw [List.dropLast_concat] at hB h
  exact wp_region_lexT S ld ov hm hB hS h
end
end Go.Proofs.Ytcnhhlnbmliihaa
