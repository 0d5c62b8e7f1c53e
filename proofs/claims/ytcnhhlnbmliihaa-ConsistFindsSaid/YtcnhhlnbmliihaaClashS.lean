/- Clashes as plain functions on texts. No function of the program stands here. -/
import Derived.Test.YtcnhhlnbmliihaaMerkP
namespace Go.Proofs.Ytcnhhlnbmliihaa
open Go.RowKit
set_option linter.unusedVariables false
set_option linter.unusedSimpArgs false

theorem bs_inj {a b : ByteArray} (h : a.data.toList = b.data.toList) : a = b := by
  cases a; cases b
  simp at h
  subst h
  rfl
theorem list_append (a b : ByteArray) : (a ++ b).data.toList = a.data.toList ++ b.data.toList := by rw [ByteArray.data_append, Array.toList_append]
theorem app_inj {a b c d : ByteArray} (h : a ++ b = c ++ d) (hs : a.size = c.size) : a = c ∧ b = d := by
  have h1 := congrArg (fun x : ByteArray => x.data.toList) h
  simp only [list_append] at h1
  have h2 := List.append_inj h1 (by rw [Array.length_toList, Array.length_toList]; exact hs)
  exact ⟨bs_inj h2.1, bs_inj h2.2⟩

/-- What is summed at the top of a tree over leaves' texts. -/
def topF (w : Nat) : Nat → List ByteArray → ByteArray
  | 0, _ => ByteArray.empty
  | f + 1, l => if l.length = 0 then ByteArray.empty else if l.length = 1 then ⟨#[0]⟩ ++ l.getD 0 ByteArray.empty else ⟨#[1]⟩ ++ msum w (topF w f (l.take (cut l.length))) ++ msum w (topF w f (l.drop (cut l.length)))
def top (w : Nat) (l : List ByteArray) : ByteArray := topF w l.length l
theorem topF_succ (w f : Nat) (l : List ByteArray) : topF w (f + 1) l = if l.length = 0 then ByteArray.empty else if l.length = 1 then ⟨#[0]⟩ ++ l.getD 0 ByteArray.empty else ⟨#[1]⟩ ++ msum w (topF w f (l.take (cut l.length))) ++ msum w (topF w f (l.drop (cut l.length))) := rfl
theorem topF_more (w : Nat) : ∀ (f : Nat) (l : List ByteArray), l.length ≤ f → topF w f l = topF w l.length l := by
  intro f
  induction f using Nat.strongRecOn with
  | _ f ih =>
    intro l hl
    match f, hl with
    | 0, hl => rw [Nat.le_zero.1 hl]
    | f + 1, hl =>
      by_cases h0 : l.length = 0
      · rw [h0, topF_succ, if_pos h0]; rfl
      · obtain ⟨m, hm⟩ : ∃ m, l.length = m + 1 := ⟨l.length - 1, by omega⟩
        conv => rhs; rw [hm, topF_succ]
        rw [topF_succ, if_neg h0, if_neg h0]
        by_cases h1 : l.length = 1
        · rw [if_pos h1, if_pos h1]
        · rw [if_neg h1, if_neg h1]
          have hc := cut_lt l.length (by omega)
          have hp := cut_pos l.length
          have ht : (l.take (cut l.length)).length = cut l.length := by rw [List.length_take]; omega
          have hd : (l.drop (cut l.length)).length = l.length - cut l.length := by rw [List.length_drop]
          rw [ih f (by omega) (l.take (cut l.length)) (by omega), ih f (by omega) (l.drop (cut l.length)) (by omega), ih m (by omega) (l.take (cut l.length)) (by omega), ih m (by omega) (l.drop (cut l.length)) (by omega)]
theorem top_nil (w : Nat) (l : List ByteArray) (h : l.length = 0) : top w l = ByteArray.empty := by unfold top; rw [h]; rfl
theorem top_one (w : Nat) (l : List ByteArray) (h : l.length = 1) : top w l = ⟨#[0]⟩ ++ l.getD 0 ByteArray.empty := by
  unfold top; rw [h, topF_succ, if_neg (by omega), if_pos h]
theorem top_cut (w : Nat) (l : List ByteArray) (h : 2 ≤ l.length) : top w l = ⟨#[1]⟩ ++ msum w (top w (l.take (cut l.length))) ++ msum w (top w (l.drop (cut l.length))) := by
  have hc := cut_lt l.length h
  have hp := cut_pos l.length
  obtain ⟨m, hm⟩ : ∃ m, l.length = m + 1 := ⟨l.length - 1, by omega⟩
  have ht : (l.take (cut l.length)).length = cut l.length := by rw [List.length_take]; omega
  have hd : (l.drop (cut l.length)).length = l.length - cut l.length := by rw [List.length_drop]
  unfold top
  rw [← topF_more w m (l.take (cut l.length)) (by omega), ← topF_more w m (l.drop (cut l.length)) (by omega)]
  conv => lhs; rw [hm]
  rw [topF_succ, if_neg (by omega), if_neg (by omega)]
theorem top_size (w : Nat) (hw : w ≤ 32) (l : List ByteArray) (b : Nat) (hb : 65 ≤ b) (h : ∀ s ∈ l, s.size + 1 ≤ b) : (top w l).size ≤ b := by
  rcases Nat.lt_or_ge l.length 2 with h2 | h2
  · rcases Nat.lt_or_ge l.length 1 with h1 | h1
    · rw [top_nil w l (by omega)]; show 0 ≤ b; omega
    · rw [top_one w l (by omega), ByteArray.size_append]
      have e : (⟨#[0]⟩ : ByteArray).size = 1 := rfl
      have := h (l.getD 0 ByteArray.empty) (by rw [List.getD_eq_getElem?_getD, List.getElem?_eq_getElem (by omega)]; exact List.getElem_mem _)
      omega
  · rw [top_cut w l h2, ByteArray.size_append, ByteArray.size_append, msum_size w _ hw, msum_size w _ hw]
    have e : (⟨#[1]⟩ : ByteArray).size = 1 := rfl
    omega
/-- How a top begins. -/
def headB (s : ByteArray) : Option UInt8 := s.data.toList.head?
theorem head_nil : headB ByteArray.empty = none := rfl
theorem head_zero (s : ByteArray) : headB (⟨#[0]⟩ ++ s) = some 0 := by unfold headB; rw [list_append]; rfl
theorem head_one (s : ByteArray) : headB (⟨#[1]⟩ ++ s) = some 1 := by unfold headB; rw [list_append]; rfl
theorem top_head (w : Nat) (l : List ByteArray) : headB (top w l) = if l.length = 0 then none else if l.length = 1 then some 0 else some 1 := by
  by_cases h0 : l.length = 0
  · rw [top_nil w l h0, if_pos h0]; rfl
  · rw [if_neg h0]
    by_cases h1 : l.length = 1
    · rw [top_one w l h1, if_pos h1, head_zero]
    · rw [top_cut w l (by omega), if_neg h1, ByteArray.append_assoc, head_one]
/-- Two trees of one top are of one kind. -/
theorem top_kind (w : Nat) (a b : List ByteArray) (h : top w a = top w b) : (a.length = 0 ↔ b.length = 0) ∧ (a.length = 1 ↔ b.length = 1) := by
  have h1 := congrArg headB h
  rw [top_head, top_head] at h1
  by_cases a0 : a.length = 0 <;> by_cases b0 : b.length = 0 <;> by_cases a1 : a.length = 1 <;> by_cases b1 : b.length = 1 <;> simp [a0, b0, a1, b1] at h1 ⊢ <;> omega
theorem top_parts (w : Nat) (hw : w ≤ 32) (a b : List ByteArray) (ha : 2 ≤ a.length) (hb : 2 ≤ b.length) (h : top w a = top w b) :
    msum w (top w (a.take (cut a.length))) = msum w (top w (b.take (cut b.length))) ∧ msum w (top w (a.drop (cut a.length))) = msum w (top w (b.drop (cut b.length))) := by
  rw [top_cut w a ha, top_cut w b hb] at h
  obtain ⟨h1, h2⟩ := app_inj h (by rw [ByteArray.size_append, ByteArray.size_append, msum_size w _ hw, msum_size w _ hw])
  exact ⟨(app_inj h1 rfl).2, h2⟩

/-- Where two trees part. -/
def apartF (w : Nat) : Nat → List ByteArray → List ByteArray → Option (ByteArray × ByteArray)
  | 0, _, _ => none
  | f + 1, a, b => if top w a ≠ top w b then some (top w a, top w b) else if a.length < 2 then none else
    match apartF w f (a.take (cut a.length)) (b.take (cut b.length)) with
    | some r => some r
    | none => apartF w f (a.drop (cut a.length)) (b.drop (cut b.length))
theorem apartF_succ (w f : Nat) (a b : List ByteArray) : apartF w (f + 1) a b = if top w a ≠ top w b then some (top w a, top w b) else if a.length < 2 then none else
    match apartF w f (a.take (cut a.length)) (b.take (cut b.length)) with
    | some r => some r
    | none => apartF w f (a.drop (cut a.length)) (b.drop (cut b.length)) := rfl
theorem apartF_more (w : Nat) : ∀ (f : Nat) (a b : List ByteArray), a.length < f → apartF w f a b = apartF w (a.length + 1) a b := by
  intro f
  induction f using Nat.strongRecOn with
  | _ f ih =>
    intro a b hl
    match f, hl with
    | f + 1, hl =>
      rw [apartF_succ, apartF_succ]
      by_cases h1 : a.length < 2
      · simp only [if_pos h1]
      · simp only [if_neg h1]
        have hc := cut_lt a.length (by omega)
        have hp := cut_pos a.length
        have ht : (a.take (cut a.length)).length = cut a.length := by rw [List.length_take]; omega
        have hd : (a.drop (cut a.length)).length = a.length - cut a.length := by rw [List.length_drop]
        by_cases hf : f = a.length
        · rw [hf]
        · rw [ih f (by omega) (a.take (cut a.length)) _ (by omega), ih f (by omega) (a.drop (cut a.length)) _ (by omega), ih a.length (by omega) (a.take (cut a.length)) _ (by omega), ih a.length (by omega) (a.drop (cut a.length)) _ (by omega)]
def apart (w : Nat) (a b : List ByteArray) : Option (ByteArray × ByteArray) := apartF w (a.length + 1) a b
theorem apart_ne (w : Nat) (a b : List ByteArray) (h : top w a ≠ top w b) : apart w a b = some (top w a, top w b) := by unfold apart; rw [apartF_succ, if_pos h]
theorem apart_small (w : Nat) (a b : List ByteArray) (h : top w a = top w b) (h2 : a.length < 2) : apart w a b = none := by unfold apart; rw [apartF_succ, if_neg (by simpa using h), if_pos h2]
theorem apart_left (w : Nat) (a b : List ByteArray) (h : top w a = top w b) (h2 : 2 ≤ a.length) (r : ByteArray × ByteArray) (hr : apart w (a.take (cut a.length)) (b.take (cut b.length)) = some r) : apart w a b = some r := by
  have hc := cut_lt a.length (by omega)
  have hp := cut_pos a.length
  have ht : (a.take (cut a.length)).length = cut a.length := by rw [List.length_take]; omega
  unfold apart at hr ⊢
  rw [apartF_succ, if_neg (by simpa using h), if_neg (by omega), apartF_more w a.length (a.take (cut a.length)) _ (by omega), hr]
theorem apart_right (w : Nat) (a b : List ByteArray) (h : top w a = top w b) (h2 : 2 ≤ a.length) (hr : apart w (a.take (cut a.length)) (b.take (cut b.length)) = none) : apart w a b = apart w (a.drop (cut a.length)) (b.drop (cut b.length)) := by
  have hc := cut_lt a.length (by omega)
  have hp := cut_pos a.length
  have ht : (a.take (cut a.length)).length = cut a.length := by rw [List.length_take]; omega
  have hd : (a.drop (cut a.length)).length = a.length - cut a.length := by rw [List.length_drop]
  unfold apart at hr ⊢
  conv => lhs; rw [apartF_succ, if_neg (by simpa using h), if_neg (by omega), apartF_more w a.length (a.take (cut a.length)) _ (by omega), hr]
  rw [apartF_more w a.length (a.drop (cut a.length)) _ (by omega)]
/-- What is found is a clash. -/
theorem apart_clash (w : Nat) (hw : w ≤ 32) : ∀ (n : Nat) (a b : List ByteArray), a.length ≤ n → msum w (top w a) = msum w (top w b) → (∀ r, apart w a b = some r → r.1 ≠ r.2 ∧ msum w r.1 = msum w r.2) ∧ (apart w a b = none → a = b) := by
  intro n
  induction n using Nat.strongRecOn with
  | _ n ih =>
    intro a b hn hs
    by_cases h : top w a = top w b
    · by_cases h2 : a.length < 2
      · rw [apart_small w a b h h2]
        refine ⟨(fun r hr => by cases hr), fun _ => ?_⟩
        obtain ⟨k0, k1⟩ := top_kind w a b h
        by_cases a0 : a.length = 0
        · have b0 := k0.1 a0
          rw [List.eq_nil_of_length_eq_zero a0, List.eq_nil_of_length_eq_zero b0]
        · have a1 : a.length = 1 := by omega
          have b1 := k1.1 a1
          rw [top_one w a a1, top_one w b b1] at h
          have h3 := (app_inj h rfl).2
          match a, b, a1, b1, h3 with
          | [x], [y], _, _, h3 => simp at h3; rw [h3]
      · obtain ⟨k0, k1⟩ := top_kind w a b h
        have hb2 : 2 ≤ b.length := by
          by_cases b0 : b.length = 0
          · have := k0.2 b0; omega
          · by_cases b1 : b.length = 1
            · have := k1.2 b1; omega
            · omega
        obtain ⟨p1, p2⟩ := top_parts w hw a b (by omega) hb2 h
        have hc := cut_lt a.length (by omega)
        have hp := cut_pos a.length
        have ht : (a.take (cut a.length)).length = cut a.length := by rw [List.length_take]; omega
        have hd : (a.drop (cut a.length)).length = a.length - cut a.length := by rw [List.length_drop]
        obtain ⟨i1, i2⟩ := ih (cut a.length) (by omega) _ _ (by omega) p1
        obtain ⟨j1, j2⟩ := ih (a.length - cut a.length) (by omega) _ _ (by omega) p2
        cases hr : apart w (a.take (cut a.length)) (b.take (cut b.length)) with
        | some r =>
          rw [apart_left w a b h (by omega) r hr]
          exact ⟨(fun r' hr' => by injection hr' with e; subst e; exact i1 r hr), fun h => by cases h⟩
        | none =>
          rw [apart_right w a b h (by omega) hr]
          refine ⟨j1, fun hn => ?_⟩
          rw [← List.take_append_drop (cut a.length) a, ← List.take_append_drop (cut b.length) b, i2 hr, j2 hn]
    · rw [apart_ne w a b h]
      exact ⟨(fun r hr => by injection hr with e; subst e; exact ⟨h, hs⟩), fun h => by cases h⟩
theorem apart_same (w : Nat) : ∀ (n : Nat) (a : List ByteArray), a.length ≤ n → apart w a a = none := by
  intro n
  induction n using Nat.strongRecOn with
  | _ n ih =>
    intro a hn
    by_cases h2 : a.length < 2
    · exact apart_small w a a rfl h2
    · have hc := cut_lt a.length (by omega)
      have hp := cut_pos a.length
      have ht : (a.take (cut a.length)).length = cut a.length := by rw [List.length_take]; omega
      have hd : (a.drop (cut a.length)).length = a.length - cut a.length := by rw [List.length_drop]
      rw [apart_right w a a rfl (by omega) (ih (cut a.length) (by omega) _ (by omega))]
      exact ih (a.length - cut a.length) (by omega) _ (by omega)
/-- The two texts that two lists lead to. -/
def leavesC (w : Nat) (a b : List ByteArray) : Option (ByteArray × ByteArray) := if msum w (top w a) = msum w (top w b) then apart w a b else none
attribute [irreducible] top topF apart apartF leavesC

/-- What is summed on a way. -/
def stepsL (w : Nat) : ByteArray → List Bool → List ByteArray → List ByteArray
  | x, b :: bs, s :: ss => x :: stepsL w (if b then ⟨#[1]⟩ ++ s ++ msum w x else ⟨#[1]⟩ ++ msum w x ++ s) bs ss
  | x, _, _ => [x]
theorem stepsL_cons (w : Nat) (x : ByteArray) (b : Bool) (bs : List Bool) (s : ByteArray) (ss : List ByteArray) : stepsL w x (b :: bs) (s :: ss) = x :: stepsL w (if b then ⟨#[1]⟩ ++ s ++ msum w x else ⟨#[1]⟩ ++ msum w x ++ s) bs ss := rfl
theorem stepsL_nil (w : Nat) (x : ByteArray) (ss : List ByteArray) : stepsL w x [] ss = [x] := by cases ss <;> rfl
theorem stepsL_length (w : Nat) : ∀ (bs : List Bool) (ss : List ByteArray) (x : ByteArray), bs.length = ss.length → (stepsL w x bs ss).length = bs.length + 1
  | [], ss, x, _ => by rw [stepsL_nil]; rfl
  | b :: bs, s :: ss, x, h => by rw [stepsL_cons, List.length_cons, stepsL_length w bs ss _ (by simpa using h)]; rfl
/-- The first clash of two lists. -/
def firstC (w : Nat) : List ByteArray → List ByteArray → Option (ByteArray × ByteArray)
  | x :: xs, y :: ys => if x ≠ y ∧ msum w x = msum w y then some (x, y) else firstC w xs ys
  | _, _ => none
theorem firstC_some (w : Nat) : ∀ (xs ys : List ByteArray) (r : ByteArray × ByteArray), firstC w xs ys = some r → r.1 ≠ r.2 ∧ msum w r.1 = msum w r.2
  | x :: xs, y :: ys, r, h => by
    unfold firstC at h
    split at h
    · rename_i hc; injection h with e; subst e; exact hc
    · exact firstC_some w xs ys r h
  | [], _, r, h => by cases h
  | _ :: _, [], r, h => by cases h
/-- Two ways to one root that have no clash are of one leaf. -/
theorem firstC_none (w : Nat) (hw : w ≤ 32) : ∀ (bs : List Bool) (ps qs : List ByteArray) (x y : ByteArray), bs.length = ps.length → bs.length = qs.length → (∀ s ∈ ps, s.size = w) → (∀ s ∈ qs, s.size = w) →
    climb w (msum w x) bs ps = climb w (msum w y) bs qs → firstC w (stepsL w x bs ps) (stepsL w y bs qs) = none → x = y
  | [], ps, qs, x, y, _, _, _, _, hc, hn => by
    rw [stepsL_nil, stepsL_nil] at hn
    unfold firstC at hn
    split at hn
    · cases hn
    · rename_i h
      have e1 : climb w (msum w x) [] ps = msum w x := by cases ps <;> rfl
      have e2 : climb w (msum w y) [] qs = msum w y := by cases qs <;> rfl
      rw [e1, e2] at hc
      apply Classical.byContradiction
      intro hne
      exact h ⟨hne, hc⟩
  | b :: bs, p :: ps, q :: qs, x, y, h1, h2, hp, hq, hc, hn => by
    rw [stepsL_cons, stepsL_cons] at hn
    unfold firstC at hn
    split at hn
    · cases hn
    · rename_i hno
      have hps := hp p (by simp)
      have hqs := hq q (by simp)
      have hcc : climb w (msum w (if b then ⟨#[1]⟩ ++ p ++ msum w x else ⟨#[1]⟩ ++ msum w x ++ p)) bs ps = climb w (msum w (if b then ⟨#[1]⟩ ++ q ++ msum w y else ⟨#[1]⟩ ++ msum w y ++ q)) bs qs := by
        have e1 : climb w (msum w x) (b :: bs) (p :: ps) = climb w (if b then mnode w p (msum w x) else mnode w (msum w x) p) bs ps := rfl
        have e2 : climb w (msum w y) (b :: bs) (q :: qs) = climb w (if b then mnode w q (msum w y) else mnode w (msum w y) q) bs qs := rfl
        rw [e1, e2] at hc
        cases b <;> exact hc
      have ih := firstC_none w hw bs ps qs _ _ (by simpa using h1) (by simpa using h2) (fun s hs => hp s (by simp [hs])) (fun s hs => hq s (by simp [hs])) hcc hn
      have hm : msum w x = msum w y := by
        cases b with
        | true =>
          have := app_inj ih (by simp only [if_true, ByteArray.size_append, hps, hqs])
          exact this.2
        | false =>
          have := app_inj ih (by simp [ByteArray.size_append, msum_size w _ hw])
          exact (app_inj this.1 rfl).2
      apply Classical.byContradiction
      intro hne
      exact hno ⟨hne, hm⟩
  | _ :: _, [], _, _, _, h, _, _, _, _, _ => by simp at h
  | _ :: _, _ :: _, [], _, _, _, h, _, _, _, _ => by simp at h
end Go.Proofs.Ytcnhhlnbmliihaa
