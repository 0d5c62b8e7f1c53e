/- Several texts in one: ClashS, Clash1, ClashS2, Clash2, Clash3, Clash4, ClashLaws, Clash5, Clash6, Clash7, ClashL2. -/
import Derived.Test.YtgkjpemgfbkejaaMerkP
import Derived.Test.YtgkjpemgfbkejaaRefMerk
import Derived.Test.YtgkjpemgfbkejaaTexts
import Derived.Test.YtgkjpemgfbkejaaOrd
import Derived.Test.YtgkjpemgfbkejaaMerkUpI
import Derived.Test.YtgkjpemgfbkejaaMerkRoot
import Derived.Test.YtgkjpemgfbkejaaGrow3
import Derived.Test.YtgkjpemgfbkejaaMerkAwake
import Derived.Test.YtgkjpemgfbkejaaMerkWay
import Derived.Test.YtgkjpemgfbkejaaApp1g
import Derived.Test.YtgkjpemgfbkejaaWi
import Derived.Test.YtgkjpemgfbkejaaOnly
import Derived.Test.YtgkjpemgfbkejaaRefWay
import Derived.Test.YtgkjpemgfbkejaaRefProof
import Derived.Test.YtgkjpemgfbkejaaAnd
import Derived.Test.YtgkjpemgfbkejaaLeaves
namespace Go.Proofs.Ytgkjpemgfbkejaa
open Go.RowKit
set_option linter.unusedVariables false
set_option linter.unusedSimpArgs false

theorem bs_inj {a b : ByteArray} (h : a.data.toList = b.data.toList) : a = b := by
  cases a; cases b
  simp at h
  subst h
  rfl
theorem list_append (a b : ByteArray) : (a ++ b).data.toList = a.data.toList ++ b.data.toList := by rw [ByteArray.data_append, Array.toList_append]
theorem app_inj {a b c d : ByteArray} (h : a ++ b = c ++ d) (hs : a.size = c.size) : a = c ∧ b = d := by
  have h1 := congrArg (fun x : ByteArray => x.data.toList) h
  simp only [list_append] at h1
  have h2 := List.append_inj h1 (by rw [Array.length_toList, Array.length_toList]; exact hs)
  exact ⟨bs_inj h2.1, bs_inj h2.2⟩

/-- What is summed at the top of a tree over leaves' texts. -/
def topF (w : Nat) : Nat → List ByteArray → ByteArray
  | 0, _ => ByteArray.empty
  | f + 1, l => if l.length = 0 then ByteArray.empty else if l.length = 1 then ⟨#[0]⟩ ++ l.getD 0 ByteArray.empty else ⟨#[1]⟩ ++ msum w (topF w f (l.take (cut l.length))) ++ msum w (topF w f (l.drop (cut l.length)))
def top (w : Nat) (l : List ByteArray) : ByteArray := topF w l.length l
theorem topF_succ (w f : Nat) (l : List ByteArray) : topF w (f + 1) l = if l.length = 0 then ByteArray.empty else if l.length = 1 then ⟨#[0]⟩ ++ l.getD 0 ByteArray.empty else ⟨#[1]⟩ ++ msum w (topF w f (l.take (cut l.length))) ++ msum w (topF w f (l.drop (cut l.length))) := rfl
theorem topF_more (w : Nat) : ∀ (f : Nat) (l : List ByteArray), l.length ≤ f → topF w f l = topF w l.length l := by
  intro f
  induction f using Nat.strongRecOn with
  | _ f ih =>
    intro l hl
    match f, hl with
    | 0, hl => rw [Nat.le_zero.1 hl]
    | f + 1, hl =>
      by_cases h0 : l.length = 0
      · rw [h0, topF_succ, if_pos h0]; rfl
      · obtain ⟨m, hm⟩ : ∃ m, l.length = m + 1 := ⟨l.length - 1, by omega⟩
        conv => rhs; rw [hm, topF_succ]
        rw [topF_succ, if_neg h0, if_neg h0]
        by_cases h1 : l.length = 1
        · rw [if_pos h1, if_pos h1]
        · rw [if_neg h1, if_neg h1]
          have hc := cut_lt l.length (by omega)
          have hp := cut_pos l.length
          have ht : (l.take (cut l.length)).length = cut l.length := by rw [List.length_take]; omega
          have hd : (l.drop (cut l.length)).length = l.length - cut l.length := by rw [List.length_drop]
          rw [ih f (by omega) (l.take (cut l.length)) (by omega), ih f (by omega) (l.drop (cut l.length)) (by omega), ih m (by omega) (l.take (cut l.length)) (by omega), ih m (by omega) (l.drop (cut l.length)) (by omega)]
theorem top_nil (w : Nat) (l : List ByteArray) (h : l.length = 0) : top w l = ByteArray.empty := by unfold top; rw [h]; rfl
theorem top_one (w : Nat) (l : List ByteArray) (h : l.length = 1) : top w l = ⟨#[0]⟩ ++ l.getD 0 ByteArray.empty := by
  unfold top; rw [h, topF_succ, if_neg (by omega), if_pos h]
theorem top_cut (w : Nat) (l : List ByteArray) (h : 2 ≤ l.length) : top w l = ⟨#[1]⟩ ++ msum w (top w (l.take (cut l.length))) ++ msum w (top w (l.drop (cut l.length))) := by
  have hc := cut_lt l.length h
  have hp := cut_pos l.length
  obtain ⟨m, hm⟩ : ∃ m, l.length = m + 1 := ⟨l.length - 1, by omega⟩
  have ht : (l.take (cut l.length)).length = cut l.length := by rw [List.length_take]; omega
  have hd : (l.drop (cut l.length)).length = l.length - cut l.length := by rw [List.length_drop]
  unfold top
  rw [← topF_more w m (l.take (cut l.length)) (by omega), ← topF_more w m (l.drop (cut l.length)) (by omega)]
  conv => lhs; rw [hm]
  rw [topF_succ, if_neg (by omega), if_neg (by omega)]
theorem top_size (w : Nat) (hw : w ≤ 32) (l : List ByteArray) (b : Nat) (hb : 65 ≤ b) (h : ∀ s ∈ l, s.size + 1 ≤ b) : (top w l).size ≤ b := by
  rcases Nat.lt_or_ge l.length 2 with h2 | h2
  · rcases Nat.lt_or_ge l.length 1 with h1 | h1
    · rw [top_nil w l (by omega)]; show 0 ≤ b; omega
    · rw [top_one w l (by omega), ByteArray.size_append]
      have e : (⟨#[0]⟩ : ByteArray).size = 1 := rfl
      have := h (l.getD 0 ByteArray.empty) (by rw [List.getD_eq_getElem?_getD, List.getElem?_eq_getElem (by omega)]; exact List.getElem_mem _)
      omega
  · rw [top_cut w l h2, ByteArray.size_append, ByteArray.size_append, msum_size w _ hw, msum_size w _ hw]
    have e : (⟨#[1]⟩ : ByteArray).size = 1 := rfl
    omega
/-- How a top begins. -/
def headB (s : ByteArray) : Option UInt8 := s.data.toList.head?
theorem head_nil : headB ByteArray.empty = none := rfl
theorem head_zero (s : ByteArray) : headB (⟨#[0]⟩ ++ s) = some 0 := by unfold headB; rw [list_append]; rfl
theorem head_one (s : ByteArray) : headB (⟨#[1]⟩ ++ s) = some 1 := by unfold headB; rw [list_append]; rfl
theorem top_head (w : Nat) (l : List ByteArray) : headB (top w l) = if l.length = 0 then none else if l.length = 1 then some 0 else some 1 := by
  by_cases h0 : l.length = 0
  · rw [top_nil w l h0, if_pos h0]; rfl
  · rw [if_neg h0]
    by_cases h1 : l.length = 1
    · rw [top_one w l h1, if_pos h1, head_zero]
    · rw [top_cut w l (by omega), if_neg h1, ByteArray.append_assoc, head_one]
/-- Two trees of one top are of one kind. -/
theorem top_kind (w : Nat) (a b : List ByteArray) (h : top w a = top w b) : (a.length = 0 ↔ b.length = 0) ∧ (a.length = 1 ↔ b.length = 1) := by
  have h1 := congrArg headB h
  rw [top_head, top_head] at h1
  by_cases a0 : a.length = 0 <;> by_cases b0 : b.length = 0 <;> by_cases a1 : a.length = 1 <;> by_cases b1 : b.length = 1 <;> simp [a0, b0, a1, b1] at h1 ⊢ <;> omega
theorem top_parts (w : Nat) (hw : w ≤ 32) (a b : List ByteArray) (ha : 2 ≤ a.length) (hb : 2 ≤ b.length) (h : top w a = top w b) :
    msum w (top w (a.take (cut a.length))) = msum w (top w (b.take (cut b.length))) ∧ msum w (top w (a.drop (cut a.length))) = msum w (top w (b.drop (cut b.length))) := by
  rw [top_cut w a ha, top_cut w b hb] at h
  obtain ⟨h1, h2⟩ := app_inj h (by rw [ByteArray.size_append, ByteArray.size_append, msum_size w _ hw, msum_size w _ hw])
  exact ⟨(app_inj h1 rfl).2, h2⟩

/-- Where two trees part. -/
def apartF (w : Nat) : Nat → List ByteArray → List ByteArray → Option (ByteArray × ByteArray)
  | 0, _, _ => none
  | f + 1, a, b => if top w a ≠ top w b then some (top w a, top w b) else if a.length < 2 then none else
    match apartF w f (a.take (cut a.length)) (b.take (cut b.length)) with
    | some r => some r
    | none => apartF w f (a.drop (cut a.length)) (b.drop (cut b.length))
theorem apartF_succ (w f : Nat) (a b : List ByteArray) : apartF w (f + 1) a b = if top w a ≠ top w b then some (top w a, top w b) else if a.length < 2 then none else
    match apartF w f (a.take (cut a.length)) (b.take (cut b.length)) with
    | some r => some r
    | none => apartF w f (a.drop (cut a.length)) (b.drop (cut b.length)) := rfl
theorem apartF_more (w : Nat) : ∀ (f : Nat) (a b : List ByteArray), a.length < f → apartF w f a b = apartF w (a.length + 1) a b := by
  intro f
  induction f using Nat.strongRecOn with
  | _ f ih =>
    intro a b hl
    match f, hl with
    | f + 1, hl =>
      rw [apartF_succ, apartF_succ]
      by_cases h1 : a.length < 2
      · simp only [if_pos h1]
      · simp only [if_neg h1]
        have hc := cut_lt a.length (by omega)
        have hp := cut_pos a.length
        have ht : (a.take (cut a.length)).length = cut a.length := by rw [List.length_take]; omega
        have hd : (a.drop (cut a.length)).length = a.length - cut a.length := by rw [List.length_drop]
        by_cases hf : f = a.length
        · rw [hf]
        · rw [ih f (by omega) (a.take (cut a.length)) _ (by omega), ih f (by omega) (a.drop (cut a.length)) _ (by omega), ih a.length (by omega) (a.take (cut a.length)) _ (by omega), ih a.length (by omega) (a.drop (cut a.length)) _ (by omega)]
def apart (w : Nat) (a b : List ByteArray) : Option (ByteArray × ByteArray) := apartF w (a.length + 1) a b
theorem apart_ne (w : Nat) (a b : List ByteArray) (h : top w a ≠ top w b) : apart w a b = some (top w a, top w b) := by unfold apart; rw [apartF_succ, if_pos h]
theorem apart_small (w : Nat) (a b : List ByteArray) (h : top w a = top w b) (h2 : a.length < 2) : apart w a b = none := by unfold apart; rw [apartF_succ, if_neg (by simpa using h), if_pos h2]
theorem apart_left (w : Nat) (a b : List ByteArray) (h : top w a = top w b) (h2 : 2 ≤ a.length) (r : ByteArray × ByteArray) (hr : apart w (a.take (cut a.length)) (b.take (cut b.length)) = some r) : apart w a b = some r := by
  have hc := cut_lt a.length (by omega)
  have hp := cut_pos a.length
  have ht : (a.take (cut a.length)).length = cut a.length := by rw [List.length_take]; omega
  unfold apart at hr ⊢
  rw [apartF_succ, if_neg (by simpa using h), if_neg (by omega), apartF_more w a.length (a.take (cut a.length)) _ (by omega), hr]
theorem apart_right (w : Nat) (a b : List ByteArray) (h : top w a = top w b) (h2 : 2 ≤ a.length) (hr : apart w (a.take (cut a.length)) (b.take (cut b.length)) = none) : apart w a b = apart w (a.drop (cut a.length)) (b.drop (cut b.length)) := by
  have hc := cut_lt a.length (by omega)
  have hp := cut_pos a.length
  have ht : (a.take (cut a.length)).length = cut a.length := by rw [List.length_take]; omega
  have hd : (a.drop (cut a.length)).length = a.length - cut a.length := by rw [List.length_drop]
  unfold apart at hr ⊢
  conv => lhs; rw [apartF_succ, if_neg (by simpa using h), if_neg (by omega), apartF_more w a.length (a.take (cut a.length)) _ (by omega), hr]
  rw [apartF_more w a.length (a.drop (cut a.length)) _ (by omega)]
/-- What is found is a clash. -/
theorem apart_clash (w : Nat) (hw : w ≤ 32) : ∀ (n : Nat) (a b : List ByteArray), a.length ≤ n → msum w (top w a) = msum w (top w b) → (∀ r, apart w a b = some r → r.1 ≠ r.2 ∧ msum w r.1 = msum w r.2) ∧ (apart w a b = none → a = b) := by
  intro n
  induction n using Nat.strongRecOn with
  | _ n ih =>
    intro a b hn hs
    by_cases h : top w a = top w b
    · by_cases h2 : a.length < 2
      · rw [apart_small w a b h h2]
        refine ⟨(fun r hr => by cases hr), fun _ => ?_⟩
        obtain ⟨k0, k1⟩ := top_kind w a b h
        by_cases a0 : a.length = 0
        · have b0 := k0.1 a0
          rw [List.eq_nil_of_length_eq_zero a0, List.eq_nil_of_length_eq_zero b0]
        · have a1 : a.length = 1 := by omega
          have b1 := k1.1 a1
          rw [top_one w a a1, top_one w b b1] at h
          have h3 := (app_inj h rfl).2
          match a, b, a1, b1, h3 with
          | [x], [y], _, _, h3 => simp at h3; rw [h3]
      · obtain ⟨k0, k1⟩ := top_kind w a b h
        have hb2 : 2 ≤ b.length := by
          by_cases b0 : b.length = 0
          · have := k0.2 b0; omega
          · by_cases b1 : b.length = 1
            · have := k1.2 b1; omega
            · omega
        obtain ⟨p1, p2⟩ := top_parts w hw a b (by omega) hb2 h
        have hc := cut_lt a.length (by omega)
        have hp := cut_pos a.length
        have ht : (a.take (cut a.length)).length = cut a.length := by rw [List.length_take]; omega
        have hd : (a.drop (cut a.length)).length = a.length - cut a.length := by rw [List.length_drop]
        obtain ⟨i1, i2⟩ := ih (cut a.length) (by omega) _ _ (by omega) p1
        obtain ⟨j1, j2⟩ := ih (a.length - cut a.length) (by omega) _ _ (by omega) p2
        cases hr : apart w (a.take (cut a.length)) (b.take (cut b.length)) with
        | some r =>
          rw [apart_left w a b h (by omega) r hr]
          exact ⟨(fun r' hr' => by injection hr' with e; subst e; exact i1 r hr), fun h => by cases h⟩
        | none =>
          rw [apart_right w a b h (by omega) hr]
          refine ⟨j1, fun hn => ?_⟩
          rw [← List.take_append_drop (cut a.length) a, ← List.take_append_drop (cut b.length) b, i2 hr, j2 hn]
    · rw [apart_ne w a b h]
      exact ⟨(fun r hr => by injection hr with e; subst e; exact ⟨h, hs⟩), fun h => by cases h⟩
theorem apart_same (w : Nat) : ∀ (n : Nat) (a : List ByteArray), a.length ≤ n → apart w a a = none := by
  intro n
  induction n using Nat.strongRecOn with
  | _ n ih =>
    intro a hn
    by_cases h2 : a.length < 2
    · exact apart_small w a a rfl h2
    · have hc := cut_lt a.length (by omega)
      have hp := cut_pos a.length
      have ht : (a.take (cut a.length)).length = cut a.length := by rw [List.length_take]; omega
      have hd : (a.drop (cut a.length)).length = a.length - cut a.length := by rw [List.length_drop]
      rw [apart_right w a a rfl (by omega) (ih (cut a.length) (by omega) _ (by omega))]
      exact ih (a.length - cut a.length) (by omega) _ (by omega)
/-- The two texts that two lists lead to. -/
def leavesC (w : Nat) (a b : List ByteArray) : Option (ByteArray × ByteArray) := if msum w (top w a) = msum w (top w b) then apart w a b else none
attribute [irreducible] top topF apart apartF leavesC

/-- What is summed on a way. -/
def stepsL (w : Nat) : ByteArray → List Bool → List ByteArray → List ByteArray
  | x, b :: bs, s :: ss => x :: stepsL w (if b then ⟨#[1]⟩ ++ s ++ msum w x else ⟨#[1]⟩ ++ msum w x ++ s) bs ss
  | x, _, _ => [x]
theorem stepsL_cons (w : Nat) (x : ByteArray) (b : Bool) (bs : List Bool) (s : ByteArray) (ss : List ByteArray) : stepsL w x (b :: bs) (s :: ss) = x :: stepsL w (if b then ⟨#[1]⟩ ++ s ++ msum w x else ⟨#[1]⟩ ++ msum w x ++ s) bs ss := rfl
theorem stepsL_nil (w : Nat) (x : ByteArray) (ss : List ByteArray) : stepsL w x [] ss = [x] := by cases ss <;> rfl
theorem stepsL_length (w : Nat) : ∀ (bs : List Bool) (ss : List ByteArray) (x : ByteArray), bs.length = ss.length → (stepsL w x bs ss).length = bs.length + 1
  | [], ss, x, _ => by rw [stepsL_nil]; rfl
  | b :: bs, s :: ss, x, h => by rw [stepsL_cons, List.length_cons, stepsL_length w bs ss _ (by simpa using h)]; rfl
/-- The first clash of two lists. -/
def firstC (w : Nat) : List ByteArray → List ByteArray → Option (ByteArray × ByteArray)
  | x :: xs, y :: ys => if x ≠ y ∧ msum w x = msum w y then some (x, y) else firstC w xs ys
  | _, _ => none
theorem firstC_some (w : Nat) : ∀ (xs ys : List ByteArray) (r : ByteArray × ByteArray), firstC w xs ys = some r → r.1 ≠ r.2 ∧ msum w r.1 = msum w r.2
  | x :: xs, y :: ys, r, h => by
    unfold firstC at h
    split at h
    · rename_i hc; injection h with e; subst e; exact hc
    · exact firstC_some w xs ys r h
  | [], _, r, h => by cases h
  | _ :: _, [], r, h => by cases h
/-- Two ways to one root that have no clash are of one leaf. -/
theorem firstC_none (w : Nat) (hw : w ≤ 32) : ∀ (bs : List Bool) (ps qs : List ByteArray) (x y : ByteArray), bs.length = ps.length → bs.length = qs.length → (∀ s ∈ ps, s.size = w) → (∀ s ∈ qs, s.size = w) →
    climb w (msum w x) bs ps = climb w (msum w y) bs qs → firstC w (stepsL w x bs ps) (stepsL w y bs qs) = none → x = y
  | [], ps, qs, x, y, _, _, _, _, hc, hn => by
    rw [stepsL_nil, stepsL_nil] at hn
    unfold firstC at hn
    split at hn
    · cases hn
    · rename_i h
      have e1 : climb w (msum w x) [] ps = msum w x := by cases ps <;> rfl
      have e2 : climb w (msum w y) [] qs = msum w y := by cases qs <;> rfl
      rw [e1, e2] at hc
      apply Classical.byContradiction
      intro hne
      exact h ⟨hne, hc⟩
  | b :: bs, p :: ps, q :: qs, x, y, h1, h2, hp, hq, hc, hn => by
    rw [stepsL_cons, stepsL_cons] at hn
    unfold firstC at hn
    split at hn
    · cases hn
    · rename_i hno
      have hps := hp p (by simp)
      have hqs := hq q (by simp)
      have hcc : climb w (msum w (if b then ⟨#[1]⟩ ++ p ++ msum w x else ⟨#[1]⟩ ++ msum w x ++ p)) bs ps = climb w (msum w (if b then ⟨#[1]⟩ ++ q ++ msum w y else ⟨#[1]⟩ ++ msum w y ++ q)) bs qs := by
        have e1 : climb w (msum w x) (b :: bs) (p :: ps) = climb w (if b then mnode w p (msum w x) else mnode w (msum w x) p) bs ps := rfl
        have e2 : climb w (msum w y) (b :: bs) (q :: qs) = climb w (if b then mnode w q (msum w y) else mnode w (msum w y) q) bs qs := rfl
        rw [e1, e2] at hc
        cases b <;> exact hc
      have ih := firstC_none w hw bs ps qs _ _ (by simpa using h1) (by simpa using h2) (fun s hs => hp s (by simp [hs])) (fun s hs => hq s (by simp [hs])) hcc hn
      have hm : msum w x = msum w y := by
        cases b with
        | true =>
          have := app_inj ih (by simp only [if_true, ByteArray.size_append, hps, hqs])
          exact this.2
        | false =>
          have := app_inj ih (by simp [ByteArray.size_append, msum_size w _ hw])
          exact (app_inj this.1 rfl).2
      apply Classical.byContradiction
      intro hne
      exact hno ⟨hne, hm⟩
  | _ :: _, [], _, _, _, h, _, _, _, _, _ => by simp at h
  | _ :: _, _ :: _, [], _, _, _, h, _, _, _, _ => by simp at h
end Go.Proofs.Ytgkjpemgfbkejaa
namespace Go.Proofs.Ytgkjpemgfbkejaa
open Go.RowKit
set_option linter.unusedVariables false
set_option linter.unusedSimpArgs false

def validC (d : Nat) (a b : ByteArray) : Bool := decide (a ≠ b ∧ msum d a = msum d b)
theorem validC_same (d : Nat) (a b : ByteArray) (h : a = b) : validC d a b = false := decide_eq_false fun g => g.1 h
theorem validC_yes (d : Nat) (a b : ByteArray) (h : ¬ a = b) (h2 : msum d a = msum d b) : validC d a b = true := decide_eq_true ⟨h, h2⟩
theorem validC_no (d : Nat) (a b : ByteArray) (h2 : ¬ msum d a = msum d b) : validC d a b = false := decide_eq_false fun g => h2 g.2
theorem beq_same (x : ByteArray) : (x.toList == x.toList) = true := beq_self_eq_true _
attribute [irreducible] validC
theorem cValid (w : Int) (a b : ByteArray) (W : World) (ha : a.size ≤ 900000000) (hb : b.size ≤ 900000000) :
    Calls Try.prog 13 #[.int .i64 w, .string a, .string b] W fun e W' => e = .returned (.bool (validC (wd w) a b)) ∧ Below W.heap.size W W' := by
  have h1 := fun W => cMSum1 w a W (by omega)
  have h2 := fun W => cMSum1 w b W (by omega)
  have v1 := validC_same (wd w) a b
  have v2 := validC_yes (wd w) a b
  have v3 := validC_no (wd w) a b
  obtain ⟨X, HX⟩ : ∃ x, Hid (msum (wd w) a = x) := ⟨_, Lib.hid rfl⟩
  obtain ⟨Y, HY⟩ : ∃ x, Hid (msum (wd w) b = x) := ⟨_, Lib.hid rfl⟩
  obtain ⟨V, HV⟩ : ∃ x, Hid (validC (wd w) a b = x) := ⟨_, Lib.hid rfl⟩
  simp only [HX.out, HY.out, HV.out] at h1 h2 v1 v2 v3
  rw [HV.out]
  have H1 := Lib.hid h1
  have H2 := Lib.hid h2
  have V1 := Lib.hid v1
  have V2 := Lib.hid v2
  have V3 := Lib.hid v3
  clear h1 h2 v1 v2 v3
  by_cases hab : a = b
  · have hv := V1.out hab
    have hbe : (a.toList == b.toList) = true := by rw [hab]; exact beq_same _
    subst hv
    have HAB := Lib.hid hab
    clear hab
    go_enter Try.func13, Try.ntmps13
    go_wp2_with fail
    go_ret
    exact ⟨rfl, Below.refl _ _⟩
  · have hbe := beq_text_ne hab
    by_cases hxy : X = Y
    · have hv := V2.out hab hxy
      have hxe : (X.toList == Y.toList) = true := by rw [hxy]; exact beq_same _
      subst hv
      have HXY := Lib.hid hxy
      clear hxy hab
      go_enter Try.func13, Try.ntmps13
      go_wp2_with fail
      (with_reducible refine (H1.out _).mono ?_); rintro e w1 ⟨rfl, hb1⟩
      go_wp2_with fail
      (with_reducible refine (H2.out _).mono ?_); rintro e w2 ⟨rfl, hb2⟩
      go_wp2_with fail
      go_ret
      exact ⟨rfl, hb1.trans (hb2.mono hb1.size)⟩
    · have hv := V3.out hxy
      have hxe := beq_text_ne hxy
      subst hv
      clear hxy hab
      go_enter Try.func13, Try.ntmps13
      go_wp2_with fail
      (with_reducible refine (H1.out _).mono ?_); rintro e w1 ⟨rfl, hb1⟩
      go_wp2_with fail
      (with_reducible refine (H2.out _).mono ?_); rintro e w2 ⟨rfl, hb2⟩
      go_wp2_with fail
      go_ret
      exact ⟨rfl, hb1.trans (hb2.mono hb1.size)⟩
theorem crValid (w : Int) (a b : ByteArray) (W : World) (ha : a.size ≤ 900000000) (hb : b.size ≤ 900000000) :
    Calls Try.prog 14 #[.int .i64 w, .string a, .string b] W fun e W' => e = .returned (.bool (validC (wd w) a b)) ∧ Below W.heap.size W W' := by
  have h1 := fun W => crMSum w a W (by omega)
  have h2 := fun W => crMSum w b W (by omega)
  have v1 := validC_same (wd w) a b
  have v2 := validC_yes (wd w) a b
  have v3 := validC_no (wd w) a b
  obtain ⟨X, HX⟩ : ∃ x, Hid (msum (wd w) a = x) := ⟨_, Lib.hid rfl⟩
  obtain ⟨Y, HY⟩ : ∃ x, Hid (msum (wd w) b = x) := ⟨_, Lib.hid rfl⟩
  obtain ⟨V, HV⟩ : ∃ x, Hid (validC (wd w) a b = x) := ⟨_, Lib.hid rfl⟩
  simp only [HX.out, HY.out, HV.out] at h1 h2 v1 v2 v3
  rw [HV.out]
  have H1 := Lib.hid h1
  have H2 := Lib.hid h2
  have V1 := Lib.hid v1
  have V2 := Lib.hid v2
  have V3 := Lib.hid v3
  clear h1 h2 v1 v2 v3
  by_cases hab : a = b
  · have hv := V1.out hab
    have hbe : (a.toList == b.toList) = true := by rw [hab]; exact beq_same _
    subst hv
    have HAB := Lib.hid hab
    clear hab
    go_enter Try.func14, Try.ntmps14
    go_wp2_with fail
    go_ret
    exact ⟨rfl, Below.refl _ _⟩
  · have hbe := beq_text_ne hab
    by_cases hxy : X = Y
    · have hv := V2.out hab hxy
      have hxe : (X.toList == Y.toList) = true := by rw [hxy]; exact beq_same _
      subst hv
      have HXY := Lib.hid hxy
      clear hxy hab
      go_enter Try.func14, Try.ntmps14
      go_wp2_with fail
      (with_reducible refine (H1.out _).mono ?_); rintro e w1 ⟨rfl, hb1⟩
      go_wp2_with fail
      (with_reducible refine (H2.out _).mono ?_); rintro e w2 ⟨rfl, hb2⟩
      go_wp2_with fail
      go_ret
      exact ⟨rfl, hb1.trans (hb2.mono hb1.size)⟩
    · have hv := V3.out hxy
      have hxe := beq_text_ne hxy
      subst hv
      clear hxy hab
      go_enter Try.func14, Try.ntmps14
      go_wp2_with fail
      (with_reducible refine (H1.out _).mono ?_); rintro e w1 ⟨rfl, hb1⟩
      go_wp2_with fail
      (with_reducible refine (H2.out _).mono ?_); rintro e w2 ⟨rfl, hb2⟩
      go_wp2_with fail
      go_ret
      exact ⟨rfl, hb1.trans (hb2.mono hb1.size)⟩
theorem mem_take_s {b k : Nat} {l : List ByteArray} (h : ∀ s ∈ l, s.size ≤ b) : ∀ s ∈ l.take k, s.size ≤ b := fun s hs => h s (List.mem_of_mem_take hs)
theorem mem_drop_s {b k : Nat} {l : List ByteArray} (h : ∀ s ∈ l, s.size ≤ b) : ∀ s ∈ l.drop k, s.size ≤ b := fun s hs => h s (List.mem_of_mem_drop hs)
theorem top_le (w : Nat) (hw : w ≤ 32) (l : List ByteArray) (h : ∀ s ∈ l, s.size ≤ 200000) : (top w l).size ≤ 200001 := top_size w hw l 200001 (by omega) (fun s hs => by have := h s hs; omega)
set_option maxRecDepth 100000 in
set_option maxHeartbeats 1000000 in
theorem crTop (w : Int) : ∀ (n : Nat) (A : Option Addr) (c : Nat) (ss : List ByteArray) (W : World), ss.length = n → Strs W A ss → n ≤ c → n ≤ 1000000 → (∀ s ∈ ss, s.size ≤ 200000) →
    Calls Try.prog 41 #[.int .i64 w, .slice A n c] W fun e W' => e = .returned (.string (top (wd w) ss)) ∧ Below W.heap.size W W' := by
  intro n
  induction n using Nat.strongRecOn with
  | _ n ih =>
    intro A c ss W hn hs hnc hn6 hb
    rcases Nat.lt_or_ge n 1 with h1 | h1
    · have e0 : n = 0 := by omega
      subst e0
      rw [top_nil (wd w) ss hn]
      clear ih hs hb hn
      go_enter Try.func41, Try.ntmps41
      go_wp2_with fail
      go_ret
      exact ⟨rfl, Below.refl _ _⟩
    · obtain ⟨g, o, rfl, hg, hcell⟩ := hs (by omega)
      rcases Nat.lt_or_ge n 2 with h2 | h2
      · have e1 : n = 1 := by omega
        subst e1
        have hr := top_one (wd w) ss hn
        have c0 := hcell 0 (by omega)
        have hz := hb _ (getD_mem (by omega : 0 < ss.length))
        rw [Nat.add_zero] at c0
        rw [hr]
        obtain ⟨X, HX⟩ : ∃ X, Hid (ss.getD 0 ByteArray.empty = X) := ⟨_, Lib.hid rfl⟩
        rw [HX.out] at c0 hz
        rw [HX.out]
        have hzI : (X.size : Int) ≤ 200000 := by omega
        clear hr hcell ih hs hb hn
        go_enter Try.func41, Try.ntmps41
        go_wp2_with fail
        go_ret
        exact ⟨rfl, Below.refl _ _⟩
      · have hr := top_cut (wd w) ss (by omega)
        rw [hn] at hr
        have hcl := cut_lt n h2
        have hcp := cut_pos n
        have h3 := fun W => crCut n W (by omega)
        have ht : (ss.take (cut n)).length = cut n := by rw [List.length_take]; omega
        have hd : (ss.drop (cut n)).length = n - cut n := by rw [List.length_drop, hn]
        have hst := hs.take (cut n)
        have hsd := hs.from_ (cut n) (by omega) (c := c) (by omega)
        have i1 := fun W (h : Strs W (some ⟨g, o, none⟩) (ss.take (cut n))) => ih (cut n) hcl (some ⟨g, o, none⟩) c (ss.take (cut n)) W ht h (by omega) (by omega) (mem_take_s hb)
        have i2 := fun W (h : Strs W (some ⟨g, o + cut n, none⟩) (ss.drop (cut n))) => ih (n - cut n) (by omega) (some ⟨g, o + cut n, none⟩) (c - cut n) (ss.drop (cut n)) W hd h (by omega) (by omega) (mem_drop_s hb)
        have z1 := top_le (wd w) (wd_hi w) (ss.take (cut n)) (mem_take_s hb)
        have z2 := top_le (wd w) (wd_hi w) (ss.drop (cut n)) (mem_drop_s hb)
        have m1 := fun W => crMSum w (top (wd w) (ss.take (cut n))) W (by omega)
        have m2 := fun W => crMSum w (top (wd w) (ss.drop (cut n))) W (by omega)
        have z3 := msum_size (wd w) (top (wd w) (ss.take (cut n))) (wd_hi w)
        have z4 := msum_size (wd w) (top (wd w) (ss.drop (cut n))) (wd_hi w)
        have hwd := wd_hi w
        rw [hr]
        obtain ⟨X, HX⟩ : ∃ X, Hid (top (wd w) (ss.take (cut n)) = X) := ⟨_, Lib.hid rfl⟩
        obtain ⟨Y, HY⟩ : ∃ X, Hid (top (wd w) (ss.drop (cut n)) = X) := ⟨_, Lib.hid rfl⟩
        simp only [HX.out] at i1 m1 z3
        simp only [HY.out] at i2 m2 z4
        rw [HX.out, HY.out]
        obtain ⟨P, HP⟩ : ∃ V, Hid (msum (wd w) X = V) := ⟨_, Lib.hid rfl⟩
        obtain ⟨Q, HQ⟩ : ∃ V, Hid (msum (wd w) Y = V) := ⟨_, Lib.hid rfl⟩
        simp only [HP.out] at m1 z3
        simp only [HQ.out] at m2 z4
        rw [HP.out, HQ.out]
        obtain ⟨k, HK⟩ : ∃ k, Hid (cut n = k) := ⟨_, Lib.hid rfl⟩
        simp only [HK.out] at h3 i1 i2 hst hsd hcl hcp
        have H3 := Lib.hid h3
        have I1 := Lib.hid i1
        have I2 := Lib.hid i2
        have M1 := Lib.hid m1
        have M2 := Lib.hid m2
        have HST := Lib.hid hst
        have HSD := Lib.hid hsd
        have hB0 : Below W.heap.size W W.drew := (Below.refl W.heap.size W).drew
        have hkn : (k : Int) ≤ (n : Int) := by omega
        have hkc : (k : Int) ≤ (c : Int) := by omega
        have hnc2 : (n : Int) ≤ (c : Int) := by omega
        have hck : ¬ c = k := by omega
        have hPI : (P.size : Int) ≤ 32 := by omega
        have hQI : (Q.size : Int) ≤ 32 := by omega
        clear h3 i1 i2 m1 m2 hst hsd hr z1 z2 z3 z4 ht hd ih hb hs hcell hn hwd
        go_enter Try.func41, Try.ntmps41
        go_wp2_with fail
        (with_reducible refine (H3.out _).mono ?_); rintro e w1 ⟨rfl, rfl⟩
        go_wp2_with fail
        refine wp_region_lexX [] (by kernel_rfl) (by kernel_rfl) ?_
        repeat (first | (refine wpX_pure rfl rfl rfl ?_; intro K hK; go_big_quiet_op; refine hK _ ?_; clear hK K) | (refine wpX_eff rfl rfl ?_; intro K hK; go_wp2_with fail; refine hK _ _ trivial ?_; clear hK K))
        refine wpX_eff rfl rfl ?_; intro K hK; go_wp2_with fail
        (with_reducible refine (I1.out _ HST.out.drew).mono ?_); rintro e w1 ⟨rfl, hb1⟩
        go_wp2_with fail
        refine hK _ _ trivial ?_; clear hK K
        have hB1 := hB0.trans (hb1.mono hB0.size)
        clear hb1 hB0
        repeat (first | (refine wpX_pure rfl rfl rfl ?_; intro K hK; go_big_quiet_op; refine hK _ ?_; clear hK K) | (refine wpX_eff rfl rfl ?_; intro K hK; go_wp2_with fail; refine hK _ _ trivial ?_; clear hK K))
        refine wpX_eff rfl rfl ?_; intro K hK; go_wp2_with fail
        (with_reducible refine (M1.out _).mono ?_); rintro e w2 ⟨rfl, hb2⟩
        go_wp2_with fail
        refine hK _ _ trivial ?_; clear hK K
        have hB2 := hB1.trans (hb2.mono hB1.size)
        clear hb2 hB1
        repeat (first | (refine wpX_pure rfl rfl rfl ?_; intro K hK; go_big_quiet_op; refine hK _ ?_; clear hK K) | (refine wpX_eff rfl rfl ?_; intro K hK; go_wp2_with fail; refine hK _ _ trivial ?_; clear hK K))
        refine wpX_eff rfl rfl ?_; intro K hK; go_wp2_with fail
        (with_reducible refine (I2.out _ (HSD.out.fresh hB2)).mono ?_); rintro e w3 ⟨rfl, hb3⟩
        go_wp2_with fail
        refine hK _ _ trivial ?_; clear hK K
        have hB3 := hB2.trans (hb3.mono hB2.size)
        clear hb3 hB2
        repeat (first | (refine wpX_pure rfl rfl rfl ?_; intro K hK; go_big_quiet_op; refine hK _ ?_; clear hK K) | (refine wpX_eff rfl rfl ?_; intro K hK; go_wp2_with fail; refine hK _ _ trivial ?_; clear hK K))
        refine wpX_eff rfl rfl ?_; intro K hK; go_wp2_with fail
        (with_reducible refine (M2.out _).mono ?_); rintro e w4 ⟨rfl, hb4⟩
        go_wp2_with fail
        refine hK _ _ trivial ?_; clear hK K
        have hB4 := hB3.trans (hb4.mono hB3.size)
        clear hb4 hB3
        repeat (first | (refine wpX_pure rfl rfl rfl ?_; intro K hK; go_big_quiet_op; refine hK _ ?_; clear hK K) | (refine wpX_eff rfl rfl ?_; intro K hK; go_wp2_with fail; refine hK _ _ trivial ?_; clear hK K))
        refine wpX_nil ?_
        go_wp2_with fail
        go_ret
        exact ⟨rfl, hB4⟩
theorem crRoot17 (w : Int) (A : Option Addr) (n c : Nat) (ss : List ByteArray) (W : World) (hn : ss.length = n) (hs : Strs W A ss) (hnc : n ≤ c) (hn6 : n ≤ 1000000) (hb : ∀ s ∈ ss, s.size ≤ 200000) :
    Calls Try.prog 18 #[.int .i64 w, .slice A n c] W fun e W' => e = .returned (.string (msum (wd w) (top (wd w) ss))) ∧ Below W.heap.size W W' := by
  have h1 := crTop w n A c ss W hn hs hnc hn6 hb
  have z1 := top_le (wd w) (wd_hi w) ss hb
  have h2 := fun W => crMSum w (top (wd w) ss) W (by omega)
  obtain ⟨X, HX⟩ : ∃ X, Hid (top (wd w) ss = X) := ⟨_, Lib.hid rfl⟩
  simp only [HX.out] at h1 h2
  rw [HX.out]
  obtain ⟨Y, HY⟩ : ∃ Y, Hid (msum (wd w) X = Y) := ⟨_, Lib.hid rfl⟩
  simp only [HY.out] at h2
  rw [HY.out]
  have H1 := Lib.hid h1
  have H2 := Lib.hid h2
  clear h1 h2 z1 hs hb hn
  go_enter Try.func18, Try.ntmps18
  go_wp2_with fail
  (with_reducible refine H1.out.mono ?_); rintro e w1 ⟨rfl, hb1⟩
  go_wp2_with fail
  (with_reducible refine (H2.out _).mono ?_); rintro e w2 ⟨rfl, hb2⟩
  go_wp2_with fail
  go_ret
  exact ⟨rfl, hb1.trans (hb2.mono hb1.size)⟩
end Go.Proofs.Ytgkjpemgfbkejaa
namespace Go.Proofs.Ytgkjpemgfbkejaa
open Go.RowKit
set_option linter.unusedVariables false
set_option linter.unusedSimpArgs false

def nextX (d : Nat) (b : Bool) (s x : ByteArray) : ByteArray := if b then ⟨#[1]⟩ ++ s ++ msum d x else ⟨#[1]⟩ ++ msum d x ++ s
def lastX (d : Nat) : ByteArray → List Bool → List ByteArray → ByteArray
  | x, b :: bs, s :: ss => lastX d (nextX d b s x) bs ss
  | x, _, _ => x
theorem lastX_cons (d : Nat) (x : ByteArray) (b : Bool) (bs : List Bool) (s : ByteArray) (ss : List ByteArray) : lastX d x (b :: bs) (s :: ss) = lastX d (nextX d b s x) bs ss := rfl
theorem lastX_nil (d : Nat) (x : ByteArray) (ss : List ByteArray) : lastX d x [] ss = x := by cases ss <;> rfl
theorem stepsL_next (d : Nat) (x : ByteArray) (b : Bool) (bs : List Bool) (s : ByteArray) (ss : List ByteArray) : stepsL d x (b :: bs) (s :: ss) = x :: stepsL d (nextX d b s x) bs ss := rfl
theorem stepsL_snoc (d : Nat) (b : Bool) (s : ByteArray) : ∀ (bs : List Bool) (ss : List ByteArray) (x : ByteArray), bs.length = ss.length → stepsL d x (bs ++ [b]) (ss ++ [s]) = stepsL d x bs ss ++ [nextX d b s (lastX d x bs ss)]
  | [], [], x, _ => by rw [List.nil_append, List.nil_append, stepsL_next, stepsL_nil, stepsL_nil, lastX_nil]; rfl
  | c :: bs, t :: ss, x, h => by rw [List.cons_append, List.cons_append, stepsL_next, stepsL_next, lastX_cons, stepsL_snoc d b s bs ss _ (by simpa using h)]; rfl
  | [], _ :: _, _, h => by simp at h
  | _ :: _, [], _, h => by simp at h
theorem lastX_snoc (d : Nat) (b : Bool) (s : ByteArray) : ∀ (bs : List Bool) (ss : List ByteArray) (x : ByteArray), bs.length = ss.length → lastX d x (bs ++ [b]) (ss ++ [s]) = nextX d b s (lastX d x bs ss)
  | [], [], x, _ => rfl
  | c :: bs, t :: ss, x, h => by rw [List.cons_append, List.cons_append, lastX_cons, lastX_cons, lastX_snoc d b s bs ss _ (by simpa using h)]
  | [], _ :: _, _, h => by simp at h
  | _ :: _, [], _, h => by simp at h
theorem stepsL_getD (d : Nat) : ∀ (bs : List Bool) (ss : List ByteArray) (x : ByteArray) (k : Nat), bs.length = ss.length → k ≤ bs.length → (stepsL d x bs ss).getD k ByteArray.empty = lastX d x (bs.take k) (ss.take k)
  | bs, ss, x, 0, _, _ => by
    rw [List.take_zero, List.take_zero, lastX_nil]
    cases bs <;> cases ss <;> rfl
  | [], ss, x, k + 1, _, h => by simp at h
  | b :: bs, s :: ss, x, k + 1, h1, h2 => by
    rw [stepsL_next, List.take_succ_cons, List.take_succ_cons, lastX_cons]
    show (stepsL d (nextX d b s x) bs ss).getD k ByteArray.empty = _
    exact stepsL_getD d bs ss _ k (by simpa using h1) (by simpa using h2)
  | _ :: _, [], _, _ + 1, h, _ => by simp at h
theorem take_step (d : Nat) (x : ByteArray) (bs : List Bool) (ss : List ByteArray) (k : Nat) (h : bs.length = ss.length) (hk : k < bs.length) :
    stepsL d x (bs.take (k + 1)) (ss.take (k + 1)) = stepsL d x (bs.take k) (ss.take k) ++ [nextX d (bs.getD k false) (ss.getD k ByteArray.empty) (lastX d x (bs.take k) (ss.take k))] ∧
    lastX d x (bs.take (k + 1)) (ss.take (k + 1)) = nextX d (bs.getD k false) (ss.getD k ByteArray.empty) (lastX d x (bs.take k) (ss.take k)) := by
  have e1 : bs.take (k + 1) = bs.take k ++ [bs.getD k false] := by
    rw [List.take_succ_eq_append_getElem hk, List.getD_eq_getElem?_getD, List.getElem?_eq_getElem hk]; rfl
  have e2 : ss.take (k + 1) = ss.take k ++ [ss.getD k ByteArray.empty] := by
    rw [List.take_succ_eq_append_getElem (by omega), List.getD_eq_getElem?_getD, List.getElem?_eq_getElem (by omega)]; rfl
  rw [e1, e2]
  exact ⟨stepsL_snoc d _ _ _ _ _ (by rw [List.length_take, List.length_take]; omega), lastX_snoc d _ _ _ _ _ (by rw [List.length_take, List.length_take]; omega)⟩
theorem nextX_size (d : Nat) (hd : d ≤ 32) (b : Bool) (s x : ByteArray) (hs : s.size ≤ 32) : (nextX d b s x).size ≤ 300000 := by
  have e : (⟨#[1]⟩ : ByteArray).size = 1 := rfl
  have := msum_size d x hd
  unfold nextX
  cases b <;> simp only [if_true, if_false, ByteArray.size_append, Bool.false_eq_true] <;> omega
theorem lastX_size (d : Nat) (hd : d ≤ 32) : ∀ (bs : List Bool) (ss : List ByteArray) (x : ByteArray), x.size ≤ 300000 → (∀ s ∈ ss, s.size ≤ 32) → (lastX d x bs ss).size ≤ 300000
  | b :: bs, s :: ss, x, _, h => by rw [lastX_cons]; exact lastX_size d hd bs ss _ (nextX_size d hd b s x (h s (by simp))) (fun t ht => h t (by simp [ht]))
  | [], ss, x, h, _ => by rw [lastX_nil]; exact h
  | _ :: _, [], x, h, _ => h
theorem stepsL_size (d : Nat) (hd : d ≤ 32) : ∀ (bs : List Bool) (ss : List ByteArray) (x : ByteArray), x.size ≤ 300000 → (∀ s ∈ ss, s.size ≤ 32) → ∀ t ∈ stepsL d x bs ss, t.size ≤ 300000
  | b :: bs, s :: ss, x, hx, h, t, ht => by
    rw [stepsL_next] at ht
    rcases List.mem_cons.1 ht with rfl | ht
    · exact hx
    · exact stepsL_size d hd bs ss _ (nextX_size d hd b s x (h s (by simp))) (fun t ht => h t (by simp [ht])) t ht
  | [], ss, x, hx, h, t, ht => by
    rw [stepsL_nil] at ht
    simp only [List.mem_singleton] at ht; subst ht; exact hx
  | c :: cs, [], x, hx, h, t, ht => by
    have e : stepsL d x (c :: cs) [] = [x] := rfl
    rw [e] at ht
    simp only [List.mem_singleton] at ht; subst ht; exact hx
theorem firstC_cons (d : Nat) (x y : ByteArray) (xs ys : List ByteArray) : firstC d (x :: xs) (y :: ys) = if validC d x y = true then some (x, y) else firstC d xs ys := by
  show (if x ≠ y ∧ msum d x = msum d y then some (x, y) else firstC d xs ys) = _
  by_cases h : x ≠ y ∧ msum d x = msum d y
  · rw [if_pos h, if_pos (validC_yes d x y h.1 h.2)]
  · rw [if_neg h]
    rw [if_neg (fun h2 => h (by unfold validC at h2; exact of_decide_eq_true h2))]
theorem firstC_nil (d : Nat) (ys : List ByteArray) : firstC d [] ys = none := by cases ys <;> rfl
theorem firstC_drop (d : Nat) (xs ys : List ByteArray) (k : Nat) (h1 : k < xs.length) (h2 : k < ys.length) :
    firstC d (xs.drop k) (ys.drop k) = if validC d (xs.getD k ByteArray.empty) (ys.getD k ByteArray.empty) = true then some (xs.getD k ByteArray.empty, ys.getD k ByteArray.empty) else firstC d (xs.drop (k + 1)) (ys.drop (k + 1)) := by
  rw [List.drop_eq_getElem_cons h1, List.drop_eq_getElem_cons h2, firstC_cons]
  have e1 : xs.getD k ByteArray.empty = xs[k] := by rw [List.getD_eq_getElem?_getD, List.getElem?_eq_getElem h1]; rfl
  have e2 : ys.getD k ByteArray.empty = ys[k] := by rw [List.getD_eq_getElem?_getD, List.getElem?_eq_getElem h2]; rfl
  rw [e1, e2]
/-- The clash of two claims. -/
def claimsC (d : Nat) (i n : Int) (a b : ByteArray) (p q : List ByteArray) : Option (ByteArray × ByteArray) :=
  if (upI d i n (mleaf d a) p).2 = 0 ∧ (upI d i n (mleaf d b) q).2 = 0 ∧ (upI d i n (mleaf d a) p).1 = (upI d i n (mleaf d b) q).1 ∧ a ≠ b then
    firstC d (stepsL d (⟨#[0]⟩ ++ a) (way i.toNat n.toNat) p) (stepsL d (⟨#[0]⟩ ++ b) (way i.toNat n.toNat) q) else none
theorem claimsC_no (d : Nat) (i n : Int) (a b : ByteArray) (p q : List ByteArray) (h : ¬ ((upI d i n (mleaf d a) p).2 = 0 ∧ (upI d i n (mleaf d b) q).2 = 0 ∧ (upI d i n (mleaf d a) p).1 = (upI d i n (mleaf d b) q).1 ∧ a ≠ b)) : claimsC d i n a b p q = none := if_neg h
theorem claimsC_yes (d : Nat) (i n : Int) (a b : ByteArray) (p q : List ByteArray) (h : (upI d i n (mleaf d a) p).2 = 0 ∧ (upI d i n (mleaf d b) q).2 = 0 ∧ (upI d i n (mleaf d a) p).1 = (upI d i n (mleaf d b) q).1 ∧ a ≠ b) :
    claimsC d i n a b p q = firstC d (stepsL d (⟨#[0]⟩ ++ a) (way i.toNat n.toNat) p) (stepsL d (⟨#[0]⟩ ++ b) (way i.toNat n.toNat) q) := if_pos h
theorem upI_zero (d : Nat) (i n : Int) (leaf : ByteArray) (p : List ByteArray) (h : (upI d i n leaf p).2 = 0) : 0 ≤ i ∧ i < n ∧ (way i.toNat n.toNat).length = p.length ∧ (∀ s ∈ p, s.size = d) ∧ (upI d i n leaf p).1 = climb d leaf (way i.toNat n.toNat) p := by
  unfold upI at h ⊢
  split at h
  · cases h
  · rename_i hc
    rw [if_neg hc]
    by_cases hy : (way i.toNat n.toNat).length = p.length ∧ leaf.size = d ∧ allW d p = true
    · have hr := upR_yes hy.1 hy.2.1 hy.2.2
      rw [hr]
      refine ⟨by omega, by omega, hy.1, fun s hs => ?_, rfl⟩
      have h3 := hy.2.2
      unfold allW at h3
      rw [List.all_eq_true] at h3
      simpa using h3 s hs
    · rw [upR_no hy] at h
      cases h
theorem nextX_true (d : Nat) (s x : ByteArray) : nextX d true s x = ⟨#[1]⟩ ++ s ++ msum d x := rfl
theorem nextX_false (d : Nat) (s x : ByteArray) : nextX d false s x = ⟨#[1]⟩ ++ msum d x ++ s := rfl
attribute [irreducible] nextX
end Go.Proofs.Ytgkjpemgfbkejaa
namespace Go.Proofs.Ytgkjpemgfbkejaa
open Go.RowKit
set_option linter.unusedVariables false
set_option linter.unusedSimpArgs false

/-- Two texts, or none, as three results. -/
def oT (o : Option (ByteArray × ByteArray)) : Value := match o with
  | some r => .tuple #[.string r.1, .string r.2, .bool true]
  | none => .tuple #[.string ⟨#[]⟩, .string ⟨#[]⟩, .bool false]
theorem oT_none : oT none = .tuple #[.string ⟨#[]⟩, .string ⟨#[]⟩, .bool false] := rfl
theorem oT_some (x y : ByteArray) : oT (some (x, y)) = .tuple #[.string x, .string y, .bool true] := rfl
theorem leavesC_no (d : Nat) (a b : List ByteArray) (h : ¬ msum d (top d a) = msum d (top d b)) : leavesC d a b = none := by unfold leavesC; rw [if_neg h]
theorem leavesC_yes (d : Nat) (a b : List ByteArray) (h : msum d (top d a) = msum d (top d b)) : leavesC d a b = apart d a b := by unfold leavesC; rw [if_pos h]
theorem top_two (d : Nat) (a b : List ByteArray) (h : top d a = top d b) (h2 : 2 ≤ a.length) : 2 ≤ b.length := by
  obtain ⟨k0, k1⟩ := top_kind d a b h
  by_cases b0 : b.length = 0
  · have := k0.2 b0; omega
  · by_cases b1 : b.length = 1
    · have := k1.2 b1; omega
    · omega
set_option maxRecDepth 100000 in
set_option maxHeartbeats 4000000 in
theorem crLeaves17 (w : Int) : ∀ (n : Nat) (A B : Option Addr) (c m e : Nat) (a b : List ByteArray) (W : World), a.length = n → Strs W A a → n ≤ c → n ≤ 1000000 → (∀ s ∈ a, s.size ≤ 200000) → b.length = m → Strs W B b → m ≤ e → m ≤ 1000000 → (∀ s ∈ b, s.size ≤ 200000) →
    Calls Try.prog 17 #[.int .i64 w, .slice A n c, .slice B m e] W fun e W' => e = .returned (oT (leavesC (wd w) a b)) ∧ Below W.heap.size W W' := by
  intro n
  induction n using Nat.strongRecOn with
  | _ n ih =>
    intro A B c m e a b W ha hsa hac ha6 hza hb hsb hbe hb6 hzb
    have t1 := crTop w n A c a W ha hsa hac ha6 hza
    have t2 := fun W h => crTop w m B e b W hb h hbe hb6 hzb
    have hwd := wd_hi w
    have z1 := top_le (wd w) hwd a hza
    have z2 := top_le (wd w) hwd b hzb
    have m1 := fun W => crMSum w (top (wd w) a) W (by omega)
    have m2 := fun W => crMSum w (top (wd w) b) W (by omega)
    have q1 := leavesC_no (wd w) a b
    have q2 := leavesC_yes (wd w) a b
    have q3 := apart_ne (wd w) a b
    have q4 := apart_small (wd w) a b
    have q5 := apart_left (wd w) a b
    have q6 := apart_right (wd w) a b
    have q7 := top_parts (wd w) hwd a b
    have q8 := top_two (wd w) a b
    have q9 := leavesC_yes (wd w) (a.take (cut n)) (b.take (cut m))
    have q10 := leavesC_yes (wd w) (a.drop (cut n)) (b.drop (cut m))
    rw [ha, hb] at q5 q6 q7
    rw [ha] at q4 q8
    rw [hb] at q8
    obtain ⟨X, HX⟩ : ∃ X, Hid (top (wd w) a = X) := ⟨_, Lib.hid rfl⟩
    obtain ⟨Y, HY⟩ : ∃ X, Hid (top (wd w) b = X) := ⟨_, Lib.hid rfl⟩
    rw [HX.out, HY.out] at q1 q2 q3 q4 q5 q6 q7 q8
    simp only [HX.out] at t1 m1
    simp only [HY.out] at t2 m2
    obtain ⟨P, HP⟩ : ∃ V, Hid (msum (wd w) X = V) := ⟨_, Lib.hid rfl⟩
    obtain ⟨Q, HQ⟩ : ∃ V, Hid (msum (wd w) Y = V) := ⟨_, Lib.hid rfl⟩
    rw [HP.out, HQ.out] at q1 q2
    simp only [HP.out] at m1
    simp only [HQ.out] at m2
    have T1 := Lib.hid t1
    have T2 := Lib.hid t2
    have M1 := Lib.hid m1
    have M2 := Lib.hid m2
    have Q1 := Lib.hid q1
    have Q2 := Lib.hid q2
    have Q3 := Lib.hid q3
    have Q4 := Lib.hid q4
    have Q5 := Lib.hid q5
    have Q6 := Lib.hid q6
    have Q7 := Lib.hid q7
    have Q8 := Lib.hid q8
    have Q9 := Lib.hid q9
    have Q10 := Lib.hid q10
    have HSA := Lib.hid hsa
    have HSB := Lib.hid hsb
    have HZA := Lib.hid hza
    have HZB := Lib.hid hzb
    have HA := Lib.hid ha
    have HB := Lib.hid hb
    have IH := Lib.hid ih
    clear t1 t2 m1 m2 q1 q2 q3 q4 q5 q6 q7 q8 q9 q10 hsa hsb hza hzb ih ha hb z1 z2
    by_cases hPQ : P = Q
    · have hpe : (P.toList == Q.toList) = true := by rw [hPQ]; exact beq_same _
      have hlc := Q2.out hPQ
      have HPQ := Lib.hid hPQ
      clear hPQ
      by_cases hXY : X = Y
      · have hxe : (X.toList == Y.toList) = true := by rw [hXY]; exact beq_same _
        rcases Nat.lt_or_ge n 2 with h2 | h2
        · have hap := Q4.out hXY h2
          rw [hlc, hap, oT_none]
          have HXY := Lib.hid hXY
          have h2I : (n : Int) < 2 := by omega
          clear hXY hlc hap
          go_enter Try.func17, Try.ntmps17
          go_wp2_with fail
          (with_reducible refine T1.out.mono ?_); rintro e w1 ⟨rfl, hb1⟩
          go_wp2_with fail
          (with_reducible refine (T2.out _ (HSB.out.fresh hb1)).mono ?_); rintro e w2 ⟨rfl, hb2⟩
          have hB2 := hb1.trans (hb2.mono hb1.size)
          clear hb1 hb2
          go_wp2_with fail
          (with_reducible refine (M1.out _).mono ?_); rintro e w3 ⟨rfl, hb3⟩
          have hB3 := hB2.trans (hb3.mono hB2.size)
          clear hB2 hb3
          go_wp2_with fail
          (with_reducible refine (M2.out _).mono ?_); rintro e w4 ⟨rfl, hb4⟩
          have hB4 := hB3.trans (hb4.mono hB3.size)
          clear hB3 hb4
          go_wp2_with fail
          go_ret3
          exact ⟨rfl, hB4⟩
        · have hm2 := Q8.out hXY h2
          obtain ⟨p1, p2⟩ := Q7.out h2 hm2 hXY
          have e1 := Q9.out p1
          have e2 := Q10.out p2
          have l1 := Q5.out hXY h2
          have l2 := Q6.out hXY h2
          rw [hlc]
          have hcl := cut_lt n h2
          have hcp := cut_pos n
          have hcl2 := cut_lt m hm2
          have hcp2 := cut_pos m
          have c1 := fun W => crCut n W (by omega)
          have c2 := fun W => crCut m W (by omega)
          obtain ⟨g, o, rfl, _, _⟩ := HSA.out (by rw [HA.out]; omega)
          obtain ⟨g2, o2, rfl, _, _⟩ := HSB.out (by rw [HB.out]; omega)
          have i1 := fun W h h' => IH.out (cut n) hcl (some ⟨g, o, none⟩) (some ⟨g2, o2, none⟩) c (cut m) e (a.take (cut n)) (b.take (cut m)) W (by rw [List.length_take, HA.out]; omega) h (by omega) (by omega) (mem_take_s HZA.out) (by rw [List.length_take, HB.out]; omega) h' (by omega) (by omega) (mem_take_s HZB.out)
          have i2 := fun W h h' => IH.out (n - cut n) (by omega) (some ⟨g, o + cut n, none⟩) (some ⟨g2, o2 + cut m, none⟩) (c - cut n) (m - cut m) (e - cut m) (a.drop (cut n)) (b.drop (cut m)) W (by rw [List.length_drop, HA.out]) h (by omega) (by omega) (mem_drop_s HZA.out) (by rw [List.length_drop, HB.out]) h' (by omega) (by omega) (mem_drop_s HZB.out)
          have s1 := HSA.out.take (cut n)
          have s2 := HSB.out.take (cut m)
          have s3 := HSA.out.from_ (cut n) (by rw [HA.out]; omega) (c := c) (by rw [HA.out]; omega)
          have s4 := HSB.out.from_ (cut m) (by rw [HB.out]; omega) (c := e) (by rw [HB.out]; omega)
          simp only [e1] at i1
          simp only [e2] at i2
          obtain ⟨k, HK⟩ : ∃ k, Hid (cut n = k) := ⟨_, Lib.hid rfl⟩
          obtain ⟨j, HJ⟩ : ∃ k, Hid (cut m = k) := ⟨_, Lib.hid rfl⟩
          simp only [HK.out, HJ.out] at c1 c2 i1 i2 s1 s2 s3 s4 hcl hcp hcl2 hcp2 l1 l2
          have C1 := Lib.hid c1
          have C2 := Lib.hid c2
          have S1 := Lib.hid s1
          have S2 := Lib.hid s2
          have S3 := Lib.hid s3
          have S4 := Lib.hid s4
          have HXY := Lib.hid hXY
          have f1 : (k : Int) ≤ (n : Int) := by omega
          have f2 : (k : Int) ≤ (c : Int) := by omega
          have f3 : (n : Int) ≤ (c : Int) := by omega
          have f4 : ¬ c = k := by omega
          have f5 : (j : Int) ≤ (m : Int) := by omega
          have f6 : (j : Int) ≤ (e : Int) := by omega
          have f7 : (m : Int) ≤ (e : Int) := by omega
          have f8 : ¬ e = j := by omega
          have f9 : ¬ (n : Int) < 2 := by omega
          cases hr : apart (wd w) (a.take k) (b.take j) with
          | some r =>
            rw [l1 r hr]
            rw [hr] at i1
            obtain ⟨x, y⟩ := r
            rw [oT_some]
            simp only [oT_some] at i1
            have I1 := Lib.hid i1
            clear c1 c2 i1 i2 s1 s2 s3 s4 hXY hlc e1 e2 l1 l2 hr p1 p2 hwd
            go_enter Try.func17, Try.ntmps17
            go_wp2_with fail
            (with_reducible refine T1.out.mono ?_); rintro e w1 ⟨rfl, hb1⟩
            go_wp2_with fail
            (with_reducible refine (T2.out _ (HSB.out.fresh hb1)).mono ?_); rintro e w2 ⟨rfl, hb2⟩
            have hB2 := hb1.trans (hb2.mono hb1.size)
            clear hb1 hb2
            go_wp2_with fail
            (with_reducible refine (M1.out _).mono ?_); rintro e w3 ⟨rfl, hb3⟩
            have hB3 := hB2.trans (hb3.mono hB2.size)
            clear hB2 hb3
            go_wp2_with fail
            (with_reducible refine (M2.out _).mono ?_); rintro e w4 ⟨rfl, hb4⟩
            have hB4 := hB3.trans (hb4.mono hB3.size)
            clear hB3 hb4
            go_wp2_with fail
            (with_reducible refine (C1.out _).mono ?_); rintro e w5 ⟨rfl, rfl⟩
            go_wp2_with fail
            (with_reducible refine (C2.out _).mono ?_); rintro e w5 ⟨rfl, rfl⟩
            go_wp2_with fail
            have hBd := hB4.drew
            refine wp_region_lexX [] (by kernel_rfl) (by kernel_rfl) ?_
            repeat (first | (refine wpX_pure rfl rfl rfl ?_; intro K hK; go_big_quiet_op; refine hK _ ?_; clear hK K) | (refine wpX_eff rfl rfl ?_; intro K hK; go_wp2_with fail; refine hK _ _ trivial ?_; clear hK K))
            refine wpX_eff rfl rfl ?_; intro K hK; go_wp2_with fail
            (with_reducible refine (I1.out _ (S1.out.fresh hBd) (S2.out.fresh hBd)).mono ?_); rintro e w6 ⟨rfl, hb6⟩
            go_wp2_with fail
            refine hK _ _ trivial ?_; clear hK K
            have hB6 := hBd.trans (hb6.mono hBd.size)
            clear hb6 hBd hB4
            repeat (first | (refine wpX_pure rfl rfl rfl ?_; intro K hK; go_big_quiet_op; refine hK _ ?_; clear hK K) | (refine wpX_eff rfl rfl ?_; intro K hK; go_wp2_with fail; refine hK _ _ trivial ?_; clear hK K))
            refine wpX_nil ?_
            go_wp2_with fail
            go_ret3
            exact ⟨rfl, hB6⟩
          | none =>
            rw [l2 hr]
            rw [hr, oT_none] at i1
            obtain ⟨V, HV⟩ : ∃ V, Hid (apart (wd w) (a.drop k) (b.drop j) = V) := ⟨_, Lib.hid rfl⟩
            simp only [HV.out] at i2
            rw [HV.out]
            have I1 := Lib.hid i1
            have hv : (∃ x y, oT V = .tuple #[.string x, .string y, .bool true]) ∨ oT V = .tuple #[.string ⟨#[]⟩, .string ⟨#[]⟩, .bool false] := by
              rcases V with _ | ⟨x, y⟩
              · exact .inr rfl
              · exact .inl ⟨x, y, rfl⟩
            have hv : ∃ x y b, oT V = .tuple #[.string x, .string y, .bool b] := by
              rcases hv with ⟨x, y, h⟩ | h
              · exact ⟨x, y, true, h⟩
              · exact ⟨_, _, false, h⟩
            obtain ⟨x, y, bb, hv⟩ := hv
            rw [hv]
            simp only [hv] at i2
            have I2 := Lib.hid i2
            clear c1 c2 i1 i2 s1 s2 s3 s4 hXY hlc e1 e2 l1 l2 hr p1 p2 hwd hv
            go_enter Try.func17, Try.ntmps17
            go_wp2_with fail
            (with_reducible refine T1.out.mono ?_); rintro e w1 ⟨rfl, hb1⟩
            go_wp2_with fail
            (with_reducible refine (T2.out _ (HSB.out.fresh hb1)).mono ?_); rintro e w2 ⟨rfl, hb2⟩
            have hB2 := hb1.trans (hb2.mono hb1.size)
            clear hb1 hb2
            go_wp2_with fail
            (with_reducible refine (M1.out _).mono ?_); rintro e w3 ⟨rfl, hb3⟩
            have hB3 := hB2.trans (hb3.mono hB2.size)
            clear hB2 hb3
            go_wp2_with fail
            (with_reducible refine (M2.out _).mono ?_); rintro e w4 ⟨rfl, hb4⟩
            have hB4 := hB3.trans (hb4.mono hB3.size)
            clear hB3 hb4
            go_wp2_with fail
            (with_reducible refine (C1.out _).mono ?_); rintro e w5 ⟨rfl, rfl⟩
            go_wp2_with fail
            (with_reducible refine (C2.out _).mono ?_); rintro e w5 ⟨rfl, rfl⟩
            go_wp2_with fail
            have hBd := hB4.drew
            refine wp_region_lexX [] (by kernel_rfl) (by kernel_rfl) ?_
            repeat (first | (refine wpX_pure rfl rfl rfl ?_; intro K hK; go_big_quiet_op; refine hK _ ?_; clear hK K) | (refine wpX_eff rfl rfl ?_; intro K hK; go_wp2_with fail; refine hK _ _ trivial ?_; clear hK K))
            refine wpX_eff rfl rfl ?_; intro K hK; go_wp2_with fail
            (with_reducible refine (I1.out _ (S1.out.fresh hBd) (S2.out.fresh hBd)).mono ?_); rintro e w6 ⟨rfl, hb6⟩
            go_wp2_with fail
            refine hK _ _ trivial ?_; clear hK K
            have hB6 := (hBd.trans (hb6.mono hBd.size)).drew
            clear hb6 hBd hB4
            repeat (first | (refine wpX_pure rfl rfl rfl ?_; intro K hK; go_big_quiet_op; refine hK _ ?_; clear hK K) | (refine wpX_eff rfl rfl ?_; intro K hK; go_wp2_with fail; refine hK _ _ trivial ?_; clear hK K))
            refine wpX_nil ?_
            go_wp2_with fail
            refine wp_region_lexX [] (by kernel_rfl) (by kernel_rfl) ?_
            repeat (first | (refine wpX_pure rfl rfl rfl ?_; intro K hK; go_big_quiet_op; refine hK _ ?_; clear hK K) | (refine wpX_eff rfl rfl ?_; intro K hK; go_wp2_with fail; refine hK _ _ trivial ?_; clear hK K))
            refine wpX_eff rfl rfl ?_; intro K hK; go_wp2_with fail
            (with_reducible refine (I2.out _ (S3.out.fresh hB6) (S4.out.fresh hB6)).mono ?_); rintro e w7 ⟨rfl, hb7⟩
            go_wp2_with fail
            refine hK _ _ trivial ?_; clear hK K
            have hB7 := hB6.trans (hb7.mono hB6.size)
            clear hb7 hB6
            repeat (first | (refine wpX_pure rfl rfl rfl ?_; intro K hK; go_big_quiet_op; refine hK _ ?_; clear hK K) | (refine wpX_eff rfl rfl ?_; intro K hK; go_wp2_with fail; refine hK _ _ trivial ?_; clear hK K))
            refine wpX_nil ?_
            go_wp2_with fail
            go_ret3
            exact ⟨rfl, hB7⟩
      · have hxe := beq_text_ne hXY
        have hap := Q3.out hXY
        rw [hlc, hap, oT_some]
        clear hXY hlc hap
        go_enter Try.func17, Try.ntmps17
        go_wp2_with fail
        (with_reducible refine T1.out.mono ?_); rintro e w1 ⟨rfl, hb1⟩
        go_wp2_with fail
        (with_reducible refine (T2.out _ (HSB.out.fresh hb1)).mono ?_); rintro e w2 ⟨rfl, hb2⟩
        have hB2 := hb1.trans (hb2.mono hb1.size)
        clear hb1 hb2
        go_wp2_with fail
        (with_reducible refine (M1.out _).mono ?_); rintro e w3 ⟨rfl, hb3⟩
        have hB3 := hB2.trans (hb3.mono hB2.size)
        clear hB2 hb3
        go_wp2_with fail
        (with_reducible refine (M2.out _).mono ?_); rintro e w4 ⟨rfl, hb4⟩
        have hB4 := hB3.trans (hb4.mono hB3.size)
        clear hB3 hb4
        go_wp2_with fail
        go_ret3
        exact ⟨rfl, hB4⟩
    · have hpe := beq_text_ne hPQ
      have hlc := Q1.out hPQ
      rw [hlc, oT_none]
      clear hPQ hlc
      go_enter Try.func17, Try.ntmps17
      go_wp2_with fail
      (with_reducible refine T1.out.mono ?_); rintro e w1 ⟨rfl, hb1⟩
      go_wp2_with fail
      (with_reducible refine (T2.out _ (HSB.out.fresh hb1)).mono ?_); rintro e w2 ⟨rfl, hb2⟩
      have hB2 := hb1.trans (hb2.mono hb1.size)
      clear hb1 hb2
      go_wp2_with fail
      (with_reducible refine (M1.out _).mono ?_); rintro e w3 ⟨rfl, hb3⟩
      have hB3 := hB2.trans (hb3.mono hB2.size)
      clear hB2 hb3
      go_wp2_with fail
      (with_reducible refine (M2.out _).mono ?_); rintro e w4 ⟨rfl, hb4⟩
      have hB4 := hB3.trans (hb4.mono hB3.size)
      clear hB3 hb4
      go_wp2_with fail
      go_ret3
      exact ⟨rfl, hB4⟩
end Go.Proofs.Ytgkjpemgfbkejaa
namespace Go.Proofs.Ytgkjpemgfbkejaa
open Go.RowKit
set_option linter.unusedVariables false
set_option linter.unusedSimpArgs false

/-- Block g is a tree over leaves; all its blocks lie from B on. -/
inductive GT (d : Nat) (w : World) (B : Nat) : Nat → List ByteArray → Prop
  | leaf (g : Nat) (l : List ByteArray) (hl : l.length < 2) (hg : B ≤ g) (hb : Blk w g 59 #[.string (top d l), .string (msum d (top d l)), .pointer none, .pointer none]) : GT d w B g l
  | node (g g1 g2 : Nat) (l : List ByteArray) (hl : 2 ≤ l.length) (hg : B ≤ g) (hb : Blk w g 59 #[.string (top d l), .string (msum d (top d l)), .pointer (some ⟨g1, 0, none⟩), .pointer (some ⟨g2, 0, none⟩)])
      (h1 : GT d w B g1 (l.take (cut l.length))) (h2 : GT d w B g2 (l.drop (cut l.length))) : GT d w B g l
section
variable {d B g : Nat} {w w' : World} {l : List ByteArray}
theorem GT.lt (h : GT d w B g l) : g < w.heap.size := by
  cases h with
  | leaf _ _ _ _ hb => exact hb.lt
  | node _ _ _ _ _ _ hb _ _ => exact hb.lt
theorem GT.ge (h : GT d w B g l) : B ≤ g := by
  cases h with
  | leaf _ _ _ hg _ => exact hg
  | node _ _ _ _ _ hg _ _ _ => exact hg
theorem GT.keep (h : GT d w B g l) (hk : ∀ k, B ≤ k → k < w.heap.size → w'.heap[k]? = w.heap[k]?) : GT d w' B g l := by
  induction h with
  | leaf g l hl hg hb => exact .leaf g l hl hg ((hk g hg hb.lt).trans hb)
  | node g g1 g2 l hl hg hb _ _ i1 i2 => exact .node g g1 g2 l hl hg ((hk g hg hb.lt).trans hb) i1 i2
theorem GT.fresh (h : GT d w B g l) (hb : Below w.heap.size w w') : GT d w' B g l := h.keep fun k _ hlt => hb.block k hlt
theorem GT.drew (h : GT d w B g l) : GT d w.drew B g l := h.keep fun _ _ _ => rfl
theorem GT.far (h : GT d w B g l) {p : Addr} (hp : p.block < B) (u : Value) : GT d (w.setCell p u) B g l := h.keep fun k hk _ => Below.heap_setCell w p u k (by omega)
theorem GT.lower (h : GT d w B g l) {B' : Nat} (hB : B' ≤ B) : GT d w B' g l := by
  induction h with
  | leaf g l hl hg hb => exact .leaf g l hl (by omega) hb
  | node g g1 g2 l hl hg hb _ _ i1 i2 => exact .node g g1 g2 l hl (by omega) hb i1 i2
theorem GT.inn (h : GT d w B g l) : w.cell? ⟨g, 0, none⟩ = some (.string (top d l)) := by
  cases h with
  | leaf _ _ _ _ hb => exact (hb.cell 0).trans rfl
  | node _ _ _ _ _ _ hb _ _ => exact (hb.cell 0).trans rfl
theorem GT.sum (h : GT d w B g l) : w.cell? ⟨g, 1, none⟩ = some (.string (msum d (top d l))) := by
  cases h with
  | leaf _ _ _ _ hb => exact (hb.cell 1).trans rfl
  | node _ _ _ _ _ _ hb _ _ => exact (hb.cell 1).trans rfl
theorem GT.small (h : GT d w B g l) (hl : l.length < 2) : w.cell? ⟨g, 2, none⟩ = some (.pointer none) := by
  cases h with
  | leaf _ _ _ _ hb => exact (hb.cell 2).trans rfl
  | node _ _ _ _ hl2 _ _ _ _ => omega
theorem GT.parts (h : GT d w B g l) (hl : 2 ≤ l.length) : ∃ g1 g2, w.cell? ⟨g, 2, none⟩ = some (.pointer (some ⟨g1, 0, none⟩)) ∧ w.cell? ⟨g, 3, none⟩ = some (.pointer (some ⟨g2, 0, none⟩)) ∧
    GT d w B g1 (l.take (cut l.length)) ∧ GT d w B g2 (l.drop (cut l.length)) := by
  cases h with
  | leaf _ _ hl2 _ hb => omega
  | node _ g1 g2 _ _ _ hb h1 h2 => exact ⟨g1, g2, (hb.cell 2).trans rfl, (hb.cell 3).trans rfl, h1, h2⟩
end
set_option maxRecDepth 100000 in
set_option maxHeartbeats 4000000 in
theorem cGrown (w : Int) : ∀ (n : Nat) (A : Option Addr) (c : Nat) (ss : List ByteArray) (W : World), ss.length = n → Strs W A ss → n ≤ c → n ≤ 1000000 → (∀ s ∈ ss, s.size ≤ 200000) →
    Calls Try.prog 39 #[.int .i64 w, .slice A n c] W fun e W' => ∃ g, e = .returned (.pointer (some ⟨g, 0, none⟩)) ∧ GT (wd w) W' W.heap.size g ss ∧ Below W.heap.size W W' := by
  intro n
  induction n using Nat.strongRecOn with
  | _ n ih =>
    intro A c ss W hn hs hnc hn6 hb
    have hB1 : Below W.heap.size W (W.alloc (.cells #[.string ⟨#[]⟩, .string ⟨#[]⟩, .pointer none, .pointer none] 59)) := (Below.refl _ _).alloc (Nat.le_refl _) _
    have hK1 := Blk.new W 59 #[.string ⟨#[]⟩, .string ⟨#[]⟩, .pointer none, .pointer none]
    have hwd := wd_hi w
    have zt := top_le (wd w) hwd ss hb
    have m1 := fun W => cMSum1 w (top (wd w) ss) W (by omega)
    rcases Nat.lt_or_ge n 1 with h1 | h1
    · have e0 : n = 0 := by omega
      subst e0
      have htn : top (wd w) ss = ⟨#[]⟩ := top_nil (wd w) ss hn
      have hgt := fun W' hb => GT.leaf (d := wd w) (w := W') (B := W.heap.size) W.heap.size ss (by omega) (Nat.le_refl _) hb
      simp only [htn] at m1 hgt
      obtain ⟨P, HP⟩ : ∃ V, Hid (msum (wd w) ⟨#[]⟩ = V) := ⟨_, Lib.hid rfl⟩
      simp only [HP.out] at m1 hgt
      have M1 := Lib.hid m1
      have HGT := Lib.hid hgt
      have b0 : (W.alloc (.cells #[.string ⟨#[]⟩, .string ⟨#[]⟩, .pointer none, .pointer none] 59)).cell? ⟨W.heap.size, 0, none⟩ = some (.string ⟨#[]⟩) := (hK1.cell 0).trans rfl
      have hsz : (W.alloc (.cells #[.string ⟨#[]⟩, .string ⟨#[]⟩, .pointer none, .pointer none] 59)).heap.size = W.heap.size + 1 := by simp
      have m2 := m1 (W.alloc (.cells #[.string ⟨#[]⟩, .string ⟨#[]⟩, .pointer none, .pointer none] 59))
      rw [hsz] at m2
      have M2 := Lib.hid m2
      clear m1 m2 hgt ih hs hb hn zt htn hsz
      go_enter Try.func39, Try.ntmps39
      go_wp2_with fail
      (with_reducible refine M2.out.mono ?_); rintro e wv ⟨rfl, hb9⟩
      have hKe := hK1.below hb9 (Nat.lt_succ_self _)
      have hBe := hB1.trans (hb9.mono (by omega))
      have b1 : wv.cell? ⟨W.heap.size, 1, none⟩ = some (.string ⟨#[]⟩) := (hKe.cell 1).trans rfl
      have f1 : wv.frozen? ⟨W.heap.size, 1, none⟩ = false := hKe.frozen 1
      have hKf := hKe.set_ 1 (.string P)
      have hBf := hBe.setCell (p := ⟨W.heap.size, 1, none⟩) (Nat.le_refl _) (.string P)
      have hb8 := hb9
      clear hb9 hKe hBe
      go_wp2_with fail
      go_ret
      exact ⟨W.heap.size, rfl, HGT.out _ hKf, hBf⟩
    · obtain ⟨ga, o, rfl, hga, hcell⟩ := hs (by omega)
      rcases Nat.lt_or_ge n 2 with h2 | h2
      · have e1 : n = 1 := by omega
        subst e1
        have htn : top (wd w) ss = ⟨#[0]⟩ ++ ss.getD 0 ByteArray.empty := top_one (wd w) ss hn
        have hgt := fun W' hb => GT.leaf (d := wd w) (w := W') (B := W.heap.size) W.heap.size ss (by omega) (Nat.le_refl _) hb
        have c0 := hcell 0 (by omega)
        have hz := hb _ (getD_mem (by omega : 0 < ss.length))
        rw [Nat.add_zero] at c0
        obtain ⟨s, HS⟩ : ∃ X, Hid (ss.getD 0 ByteArray.empty = X) := ⟨_, Lib.hid rfl⟩
        rw [HS.out] at c0 hz htn
        obtain ⟨X, HX⟩ : ∃ X, Hid (top (wd w) ss = X) := ⟨_, Lib.hid rfl⟩
        rw [HX.out] at htn
        simp only [HX.out] at m1 hgt
        obtain ⟨P, HP⟩ : ∃ V, Hid (msum (wd w) X = V) := ⟨_, Lib.hid rfl⟩
        simp only [HP.out] at m1 hgt
        have hzI : (s.size : Int) ≤ 200000 := by omega
        have M1 := Lib.hid m1
        have HGT := Lib.hid hgt
        have HTN := Lib.hid htn.symm
        have c0 : (W.alloc (.cells #[.string ⟨#[]⟩, .string ⟨#[]⟩, .pointer none, .pointer none] 59)).cell? ⟨ga, o, none⟩ = some (.string s) := (World.cell?_alloc_lt W _ _ hga).trans c0
        have hB1 : Below W.heap.size W (W.alloc (.cells #[.string X, .string ⟨#[]⟩, .pointer none, .pointer none] 59)) := (Below.refl _ _).alloc (Nat.le_refl _) _
        have hK1 := Blk.new W 59 #[.string X, .string ⟨#[]⟩, .pointer none, .pointer none]
        have hsz : (W.alloc (.cells #[.string X, .string ⟨#[]⟩, .pointer none, .pointer none] 59)).heap.size = W.heap.size + 1 := by simp
        have m2 := m1 (W.alloc (.cells #[.string X, .string ⟨#[]⟩, .pointer none, .pointer none] 59))
        rw [hsz] at m2
        have M2 := Lib.hid m2
        clear m1 m2 hgt ih hs hb hn zt htn hcell hsz
        go_enter Try.func39, Try.ntmps39
        go_wp2_with fail
        rw [HTN.out]
        (with_reducible refine M2.out.mono ?_); rintro e wv ⟨rfl, hb9⟩
        have hKe := hK1.below hb9 (Nat.lt_succ_self _)
        have hBe := hB1.trans (hb9.mono (by omega))
        have b1 : wv.cell? ⟨W.heap.size, 1, none⟩ = some (.string ⟨#[]⟩) := (hKe.cell 1).trans rfl
        have f1 : wv.frozen? ⟨W.heap.size, 1, none⟩ = false := hKe.frozen 1
        have hKf := hKe.set_ 1 (.string P)
        have hBf := hBe.setCell (p := ⟨W.heap.size, 1, none⟩) (Nat.le_refl _) (.string P)
        have hb8 := hb9
        clear hb9 hKe hBe
        go_wp2_with fail
        go_ret
        exact ⟨W.heap.size, rfl, HGT.out _ hKf, hBf⟩
      · have hr := top_cut (wd w) ss (by omega)
        rw [hn] at hr
        have hgt := fun W' g1 g2 hb => GT.node (d := wd w) (w := W') (B := W.heap.size) W.heap.size g1 g2 ss (by omega) (Nat.le_refl _) hb
        simp only [hn] at hgt
        have hcl := cut_lt n h2
        have hcp := cut_pos n
        have h3 := fun W => cCut n W (by omega)
        have ht : (ss.take (cut n)).length = cut n := by rw [List.length_take]; omega
        have hd : (ss.drop (cut n)).length = n - cut n := by rw [List.length_drop, hn]
        have hst := hs.take (cut n)
        have hsd := hs.from_ (cut n) (by omega) (c := c) (by omega)
        have i1 := fun W (h : Strs W (some ⟨ga, o, none⟩) (ss.take (cut n))) => ih (cut n) hcl (some ⟨ga, o, none⟩) c (ss.take (cut n)) W ht h (by omega) (by omega) (mem_take_s hb)
        have i2 := fun W (h : Strs W (some ⟨ga, o + cut n, none⟩) (ss.drop (cut n))) => ih (n - cut n) (by omega) (some ⟨ga, o + cut n, none⟩) (c - cut n) (ss.drop (cut n)) W hd h (by omega) (by omega) (mem_drop_s hb)
        have z3 := msum_size (wd w) (top (wd w) (ss.take (cut n))) hwd
        have z4 := msum_size (wd w) (top (wd w) (ss.drop (cut n))) hwd
        obtain ⟨X, HX⟩ : ∃ X, Hid (top (wd w) ss = X) := ⟨_, Lib.hid rfl⟩
        rw [HX.out] at hr
        simp only [HX.out] at m1 hgt
        obtain ⟨P, HP⟩ : ∃ V, Hid (msum (wd w) X = V) := ⟨_, Lib.hid rfl⟩
        simp only [HP.out] at m1 hgt
        have sm1 := fun W' g1 (h : GT (wd w) W' (W.heap.size + 1) g1 (ss.take (cut n))) => h.sum
        have sm2 := fun W' g1 (h : GT (wd w) W' (W.heap.size + 1) g1 (ss.drop (cut n))) => h.sum
        obtain ⟨Y, HY⟩ : ∃ V, Hid (msum (wd w) (top (wd w) (ss.take (cut n))) = V) := ⟨_, Lib.hid rfl⟩
        obtain ⟨Z, HZ⟩ : ∃ V, Hid (msum (wd w) (top (wd w) (ss.drop (cut n))) = V) := ⟨_, Lib.hid rfl⟩
        rw [HY.out] at hr z3
        rw [HZ.out] at hr z4
        simp only [HY.out] at sm1
        simp only [HZ.out] at sm2
        obtain ⟨k, HK⟩ : ∃ k, Hid (cut n = k) := ⟨_, Lib.hid rfl⟩
        simp only [HK.out] at h3 i1 i2 hst hsd hcl hcp hgt sm1 sm2
        have H3 := Lib.hid h3
        have I1 := Lib.hid i1
        have I2 := Lib.hid i2
        have M1 := Lib.hid m1
        have HST := Lib.hid hst
        have HSD := Lib.hid hsd
        have HGT := Lib.hid hgt
        have HR := Lib.hid hr.symm
        have SM1 := Lib.hid sm1
        have SM2 := Lib.hid sm2
        have hkn : (k : Int) ≤ (n : Int) := by omega
        have hkc : (k : Int) ≤ (c : Int) := by omega
        have hnc2 : (n : Int) ≤ (c : Int) := by omega
        have hck : ¬ c = k := by omega
        have hYI : (Y.size : Int) ≤ 32 := by omega
        have hZI : (Z.size : Int) ≤ 32 := by omega
        have hn0 : ((n : Int) == 0) = false := by simp; omega
        have hn1 : ((n : Int) == 1) = false := by simp; omega
        have hB2 := hB1.drew
        have hK2 := hK1.drew
        have hsz : (W.alloc (.cells #[.string ⟨#[]⟩, .string ⟨#[]⟩, .pointer none, .pointer none] 59)).drew.heap.size = W.heap.size + 1 := by show (W.alloc (.cells #[.string ⟨#[]⟩, .string ⟨#[]⟩, .pointer none, .pointer none] 59)).heap.size = _; simp
        clear h3 i1 i2 m1 hst hsd hr z3 z4 ht hd ih hb hs hcell hn zt hwd hgt sm1 sm2 hB1 hK1
        go_enter Try.func39, Try.ntmps39
        go_wp2_with fail
        (with_reducible refine (H3.out _).mono ?_); rintro e w1 ⟨rfl, rfl⟩
        go_wp2_with fail
        refine wp_region_lexX [] (by kernel_rfl) (by kernel_rfl) ?_
        repeat (first | (refine wpX_pure rfl rfl rfl ?_; intro K hK; go_big_quiet_op; refine hK _ ?_; clear hK K) | (refine wpX_eff rfl rfl ?_; intro K hK; go_wp2_with fail; refine hK _ _ trivial ?_; clear hK K))
        refine wpX_eff rfl rfl ?_; intro K hK; go_wp2_with fail
        (with_reducible refine (I1.out _ (HST.out.fresh hB2)).mono ?_); rintro e w1 ⟨g1, rfl, hg1, hb1⟩
        go_wp2_with fail
        refine hK _ _ trivial ?_; clear hK K
        rw [hsz] at hg1
        have hlt1 : W.heap.size < (W.alloc (.cells #[.string ⟨#[]⟩, .string ⟨#[]⟩, .pointer none, .pointer none] 59)).drew.heap.size := by rw [hsz]; omega
        have hK3 := hK2.below hb1 hlt1
        have hB3 := hB2.trans (hb1.mono hB2.size)
        have hs1 : W.heap.size + 1 ≤ w1.heap.size := by rw [← hsz]; exact hb1.size
        have HG1 := Lib.hid hg1
        clear hb1 hK2 hB2 hg1
        repeat (first | (refine wpX_pure rfl rfl rfl ?_; intro K hK; go_big_quiet_op; refine hK _ ?_; clear hK K) | (refine wpX_eff rfl rfl ?_; intro K hK; go_wp2_with fail; refine hK _ _ trivial ?_; clear hK K))
        refine wpX_eff rfl rfl ?_; intro K hK; go_wp2_with fail
        (with_reducible refine (I2.out _ (HSD.out.fresh hB3)).mono ?_); rintro e w2 ⟨g2, rfl, hg2, hb2⟩
        go_wp2_with fail
        refine hK _ _ trivial ?_; clear hK K
        have HG1 := Lib.hid (HG1.out.fresh hb2)
        have HG2 := Lib.hid (hg2.lower hs1)
        have hK4 := hK3.below hb2 hK3.lt
        have hB4 := hB3.trans (hb2.mono hB3.size)
        clear hb2 hK3 hB3 hg2
        have d2 : w2.cell? ⟨W.heap.size, 2, none⟩ = some (.pointer none) := (hK4.cell 2).trans rfl
        have f2 : w2.frozen? ⟨W.heap.size, 2, none⟩ = false := hK4.frozen 2
        have hK5 := hK4.set_ 2 (.pointer (some ⟨g1, 0, none⟩))
        have hB5 := hB4.setCell (p := ⟨W.heap.size, 2, none⟩) (Nat.le_refl _) (.pointer (some ⟨g1, 0, none⟩))
        have HG1 := Lib.hid (HG1.out.far (p := ⟨W.heap.size, 2, none⟩) (Nat.lt_succ_self _) (.pointer (some ⟨g1, 0, none⟩)))
        have HG2 := Lib.hid (HG2.out.far (p := ⟨W.heap.size, 2, none⟩) (Nat.lt_succ_self _) (.pointer (some ⟨g1, 0, none⟩)))
        have d3 : (w2.setCell ⟨W.heap.size, 2, none⟩ (.pointer (some ⟨g1, 0, none⟩))).cell? ⟨W.heap.size, 3, none⟩ = some (.pointer none) := (hK5.cell 3).trans rfl
        have f3 : (w2.setCell ⟨W.heap.size, 2, none⟩ (.pointer (some ⟨g1, 0, none⟩))).frozen? ⟨W.heap.size, 3, none⟩ = false := hK5.frozen 3
        have hK6 := hK5.set_ 3 (.pointer (some ⟨g2, 0, none⟩))
        have hB6 := hB5.setCell (p := ⟨W.heap.size, 3, none⟩) (Nat.le_refl _) (.pointer (some ⟨g2, 0, none⟩))
        have HG1 := Lib.hid (HG1.out.far (p := ⟨W.heap.size, 3, none⟩) (Nat.lt_succ_self _) (.pointer (some ⟨g2, 0, none⟩)))
        have HG2 := Lib.hid (HG2.out.far (p := ⟨W.heap.size, 3, none⟩) (Nat.lt_succ_self _) (.pointer (some ⟨g2, 0, none⟩)))
        clear hK4 hB4 hK5 hB5
        repeat (first | (refine wpX_pure rfl rfl rfl ?_; intro K hK; go_big_quiet_op; refine hK _ ?_; clear hK K) | (refine wpX_eff rfl rfl ?_; intro K hK; go_wp2_with fail; refine hK _ _ trivial ?_; clear hK K))
        refine wpX_nil ?_
        obtain ⟨u, HU⟩ : ∃ u, Hid ((w2.setCell ⟨W.heap.size, 2, none⟩ (.pointer (some ⟨g1, 0, none⟩))).setCell ⟨W.heap.size, 3, none⟩ (.pointer (some ⟨g2, 0, none⟩)) = u) := ⟨_, Lib.hid rfl⟩
        rw [HU.out] at hK6 hB6 HG1 HG2
        rw [HU.out]
        have hK6 : Blk u W.heap.size 59 #[.string ⟨#[]⟩, .string ⟨#[]⟩, .pointer (some ⟨g1, 0, none⟩), .pointer (some ⟨g2, 0, none⟩)] := hK6
        clear d2 f2 d3 f3
        have c0 : u.drew.cell? ⟨W.heap.size, 0, none⟩ = some (.string ⟨#[]⟩) := (hK6.drew.cell 0).trans rfl
        have f0 : u.drew.frozen? ⟨W.heap.size, 0, none⟩ = false := hK6.drew.frozen 0
        have c2 : u.drew.cell? ⟨W.heap.size, 2, none⟩ = some (.pointer (some ⟨g1, 0, none⟩)) := (hK6.drew.cell 2).trans rfl
        have c3 : u.drew.cell? ⟨W.heap.size, 3, none⟩ = some (.pointer (some ⟨g2, 0, none⟩)) := (hK6.drew.cell 3).trans rfl
        have e1 : u.drew.cell? ⟨g1, 1, none⟩ = some (.string Y) := SM1.out _ _ HG1.out.drew
        have e2 : u.drew.cell? ⟨g2, 1, none⟩ = some (.string Z) := SM2.out _ _ HG2.out.drew
        have hK7 := (hK6.set_ 0 (.string X)).drew
        have hB7 := (hB6.setCell (p := ⟨W.heap.size, 0, none⟩) (Nat.le_refl _) (.string X)).drew
        have HG1 := Lib.hid (HG1.out.far (p := ⟨W.heap.size, 0, none⟩) (Nat.lt_succ_self _) (.string X)).drew
        have HG2 := Lib.hid (HG2.out.far (p := ⟨W.heap.size, 0, none⟩) (Nat.lt_succ_self _) (.string X)).drew
        clear hK6 hB6
        go_wp2_with fail
        refine wp_region_lexX [] (by kernel_rfl) (by kernel_rfl) ?_
        repeat (first
          | (refine wpX_pure rfl rfl rfl ?_; intro K hK; go_big_quiet_op; refine hK _ ?_; clear hK K)
          | (refine wpX_load rfl rfl rfl ?_; intro K hK; go_big_quiet_op; refine hK _ ?_; clear hK K)
          | (refine wpX_eff rfl rfl ?_; intro K hK; go_wp2_with fail; refine hK _ _ trivial ?_; clear hK K))
        refine wpX_nil ?_
        rw [HR.out]
        obtain ⟨v, HV⟩ : ∃ v, Hid ((u.setCell ⟨W.heap.size, 0, none⟩ (.string X)).drew = v) := ⟨_, Lib.hid rfl⟩
        rw [HV.out] at hK7 hB7 HG1 HG2
        rw [HV.out]
        have hK1 : Blk v W.heap.size 59 #[.string X, .string ⟨#[]⟩, .pointer (some ⟨g1, 0, none⟩), .pointer (some ⟨g2, 0, none⟩)] := hK7
        have hB1 := hB7
        clear c0 f0 c2 c3 e1 e2 hK7 hB7
        have b0 : v.cell? ⟨W.heap.size, 0, none⟩ = some (.string X) := (hK1.cell 0).trans rfl
        go_wp2_with fail
        (with_reducible refine (M1.out _).mono ?_); rintro e wv ⟨rfl, hb9⟩
        have hKe := hK1.below hb9 hK1.lt
        have hBe := hB1.trans (hb9.mono hB1.size)
        have b1 : wv.cell? ⟨W.heap.size, 1, none⟩ = some (.string ⟨#[]⟩) := (hKe.cell 1).trans rfl
        have f1 : wv.frozen? ⟨W.heap.size, 1, none⟩ = false := hKe.frozen 1
        have hKf := hKe.set_ 1 (.string P)
        have hBf := hBe.setCell (p := ⟨W.heap.size, 1, none⟩) (Nat.le_refl _) (.string P)
        have hb8 := hb9
        clear hb9 hKe hBe
        go_wp2_with fail
        go_ret
        have HG1 := (HG1.out.fresh hb8).far (p := ⟨W.heap.size, 1, none⟩) (Nat.lt_succ_self _) (.string P)
        have HG2 := (HG2.out.fresh hb8).far (p := ⟨W.heap.size, 1, none⟩) (Nat.lt_succ_self _) (.string P)
        exact ⟨W.heap.size, rfl, HGT.out _ g1 g2 hKf (HG1.lower (Nat.le_succ _)) (HG2.lower (Nat.le_succ _)), hBf⟩
end Go.Proofs.Ytgkjpemgfbkejaa
namespace Go.Proofs.Ytgkjpemgfbkejaa
open Go.RowKit
set_option linter.unusedVariables false
set_option linter.unusedSimpArgs false

theorem oT_form (V : Option (ByteArray × ByteArray)) : ∃ x y b, oT V = .tuple #[.string x, .string y, .bool b] := by
  rcases V with _ | ⟨x, y⟩
  · exact ⟨_, _, _, rfl⟩
  · exact ⟨_, _, _, rfl⟩
set_option maxRecDepth 100000 in
set_option maxHeartbeats 4000000 in
theorem cApart (d : Nat) (hd32 : d ≤ 32) : ∀ (n : Nat) (a b : List ByteArray) (ga gb B1 B2 : Nat) (W : World), a.length = n → GT d W B1 ga a → GT d W B2 gb b →
    Calls Try.prog 40 #[.pointer (some ⟨ga, 0, none⟩), .pointer (some ⟨gb, 0, none⟩)] W fun e W' => e = .returned (oT (apart d a b)) ∧ Below W.heap.size W W' := by
  intro n
  induction n using Nat.strongRecOn with
  | _ n ih =>
    intro a b ga gb B1 B2 W ha hga hgb
    have q3 := apart_ne d a b
    have q4 := apart_small d a b
    have q5 := apart_left d a b
    have q6 := apart_right d a b
    have q8 := top_two d a b
    have i1 := hga.inn
    have i2 := hgb.inn
    rw [ha] at q4 q5 q6 q8
    obtain ⟨X, HX⟩ : ∃ X, Hid (top d a = X) := ⟨_, Lib.hid rfl⟩
    obtain ⟨Y, HY⟩ : ∃ X, Hid (top d b = X) := ⟨_, Lib.hid rfl⟩
    rw [HX.out, HY.out] at q3 q4 q5 q6 q8
    rw [HX.out] at i1
    rw [HY.out] at i2
    have Q3 := Lib.hid q3
    have Q4 := Lib.hid q4
    have Q5 := Lib.hid q5
    have Q6 := Lib.hid q6
    have Q8 := Lib.hid q8
    have HGA := Lib.hid hga
    have HGB := Lib.hid hgb
    have HA := Lib.hid ha
    have IH := Lib.hid ih
    have c1 : W.drew.cell? ⟨ga, 0, none⟩ = some (.string X) := i1
    have c2 : W.drew.cell? ⟨gb, 0, none⟩ = some (.string Y) := i2
    clear q3 q4 q5 q6 q8 hga hgb ha ih i1 i2
    by_cases hXY : X = Y
    · have hxe : (X.toList == Y.toList) = true := by rw [hXY]; exact beq_same _
      rcases Nat.lt_or_ge n 2 with h2 | h2
      · have hap := Q4.out hXY h2
        have c3 : W.drew.cell? ⟨ga, 2, none⟩ = some (.pointer none) := HGA.out.small (by rw [HA.out]; exact h2)
        have hB := (Below.refl W.heap.size W).drew
        rw [hap, oT_none]
        have HXY := Lib.hid hXY
        clear hXY hap
        go_enter Try.func40, Try.ntmps40
        go_wp2_with fail
        refine wp_region_lexX [] (by kernel_rfl) (by kernel_rfl) ?_
        repeat (first
          | (refine wpX_pure rfl rfl rfl ?_; intro K hK; go_big_quiet_op; refine hK _ ?_; clear hK K)
          | (refine wpX_load rfl rfl rfl ?_; intro K hK; go_big_quiet_op; refine hK _ ?_; clear hK K))
        refine wpX_nil ?_
        go_wp2_with fail
        go_ret3
        exact ⟨rfl, hB⟩
      · have hm2 := Q8.out hXY h2
        have l1 := Q5.out hXY h2
        have l2 := Q6.out hXY h2
        obtain ⟨g1, g2, p1, p2, t1, t2⟩ := HGA.out.parts (by rw [HA.out]; exact h2)
        obtain ⟨g3, g4, p3, p4, t3, t4⟩ := HGB.out.parts hm2
        have hcl := cut_lt n h2
        have hcp := cut_pos n
        rw [HA.out] at t1 t2
        have i1 := fun W h h' => IH.out (cut n) hcl (a.take (cut n)) (b.take (cut b.length)) g1 g3 B1 B2 W (by rw [List.length_take, HA.out]; omega) h h'
        have i2 := fun W h h' => IH.out (n - cut n) (by omega) (a.drop (cut n)) (b.drop (cut b.length)) g2 g4 B1 B2 W (by rw [List.length_drop, HA.out]) h h'
        have T1 := Lib.hid t1
        have T2 := Lib.hid t2
        have T3 := Lib.hid t3
        have T4 := Lib.hid t4
        have HXY := Lib.hid hXY
        have lga := HGA.out.lt
        have lgb := HGB.out.lt
        have c3 : W.drew.cell? ⟨ga, 2, none⟩ = some (.pointer (some ⟨g1, 0, none⟩)) := p1
        have p1 : W.drew.drew.cell? ⟨ga, 2, none⟩ = some (.pointer (some ⟨g1, 0, none⟩)) := p1
        have p3 : W.drew.drew.cell? ⟨gb, 2, none⟩ = some (.pointer (some ⟨g3, 0, none⟩)) := p3
        have hBd : Below W.heap.size W W.drew.drew := (Below.refl W.heap.size W).drew.drew
        clear t1 t2 t3 t4 hXY
        cases hr : apart d (a.take (cut n)) (b.take (cut b.length)) with
        | some r =>
          rw [l1 r hr]
          rw [hr] at i1
          obtain ⟨x, y⟩ := r
          rw [oT_some]
          simp only [oT_some] at i1
          have I1 := Lib.hid i1
          clear i1 i2 l1 l2 hr
          go_enter Try.func40, Try.ntmps40
          go_wp2_with fail
          refine wp_region_lexX [] (by kernel_rfl) (by kernel_rfl) ?_
          repeat (first
            | (refine wpX_pure rfl rfl rfl ?_; intro K hK; go_big_quiet_op; refine hK _ ?_; clear hK K)
            | (refine wpX_load rfl rfl rfl ?_; intro K hK; go_big_quiet_op; refine hK _ ?_; clear hK K))
          refine wpX_nil ?_
          go_wp2_with fail
          refine wp_region_lexX [] (by kernel_rfl) (by kernel_rfl) ?_
          repeat (first
            | (refine wpX_pure rfl rfl rfl ?_; intro K hK; go_big_quiet_op; refine hK _ ?_; clear hK K)
            | (refine wpX_load rfl rfl rfl ?_; intro K hK; go_big_quiet_op; refine hK _ ?_; clear hK K))
          refine wpX_eff rfl rfl ?_; intro K hK; go_wp2_with fail
          (with_reducible refine (I1.out _ T1.out.drew.drew T3.out.drew.drew).mono ?_); rintro e w6 ⟨rfl, hb6⟩
          go_wp2_with fail
          refine hK _ _ trivial ?_; clear hK K
          repeat (first | (refine wpX_pure rfl rfl rfl ?_; intro K hK; go_big_quiet_op; refine hK _ ?_; clear hK K) | (refine wpX_eff rfl rfl ?_; intro K hK; go_wp2_with fail; refine hK _ _ trivial ?_; clear hK K))
          refine wpX_nil ?_
          go_wp2_with fail
          go_ret3
          exact ⟨rfl, hBd.trans (hb6.mono hBd.size)⟩
        | none =>
          rw [l2 hr]
          rw [hr, oT_none] at i1
          obtain ⟨V, HV⟩ : ∃ V, Hid (apart d (a.drop (cut n)) (b.drop (cut b.length)) = V) := ⟨_, Lib.hid rfl⟩
          simp only [HV.out] at i2
          rw [HV.out]
          have I1 := Lib.hid i1
          obtain ⟨x, y, bb, hv⟩ := oT_form V
          rw [hv]
          simp only [hv] at i2
          have I2 := Lib.hid i2
          clear i1 i2 l1 l2 hr hv
          go_enter Try.func40, Try.ntmps40
          go_wp2_with fail
          refine wp_region_lexX [] (by kernel_rfl) (by kernel_rfl) ?_
          repeat (first
            | (refine wpX_pure rfl rfl rfl ?_; intro K hK; go_big_quiet_op; refine hK _ ?_; clear hK K)
            | (refine wpX_load rfl rfl rfl ?_; intro K hK; go_big_quiet_op; refine hK _ ?_; clear hK K))
          refine wpX_nil ?_
          go_wp2_with fail
          refine wp_region_lexX [] (by kernel_rfl) (by kernel_rfl) ?_
          repeat (first
            | (refine wpX_pure rfl rfl rfl ?_; intro K hK; go_big_quiet_op; refine hK _ ?_; clear hK K)
            | (refine wpX_load rfl rfl rfl ?_; intro K hK; go_big_quiet_op; refine hK _ ?_; clear hK K))
          refine wpX_eff rfl rfl ?_; intro K hK; go_wp2_with fail
          (with_reducible refine (I1.out _ T1.out.drew.drew T3.out.drew.drew).mono ?_); rintro e w6 ⟨rfl, hb6⟩
          go_wp2_with fail
          refine hK _ _ trivial ?_; clear hK K
          repeat (first | (refine wpX_pure rfl rfl rfl ?_; intro K hK; go_big_quiet_op; refine hK _ ?_; clear hK K) | (refine wpX_eff rfl rfl ?_; intro K hK; go_wp2_with fail; refine hK _ _ trivial ?_; clear hK K))
          refine wpX_nil ?_
          have q2 : w6.drew.cell? ⟨ga, 3, none⟩ = some (.pointer (some ⟨g2, 0, none⟩)) := (hb6.cell (p := ⟨ga, 3, none⟩) lga).trans p2
          have q4 : w6.drew.cell? ⟨gb, 3, none⟩ = some (.pointer (some ⟨g4, 0, none⟩)) := (hb6.cell (p := ⟨gb, 3, none⟩) lgb).trans p4
          have T2' := Lib.hid (T2.out.drew.drew.fresh hb6).drew
          have T4' := Lib.hid (T4.out.drew.drew.fresh hb6).drew
          have hB6 := (hBd.trans (hb6.mono hBd.size)).drew
          clear hb6 hBd c1 c2 c3 p1 p3 p2 p4
          go_wp2_with fail
          refine wp_region_lexX [] (by kernel_rfl) (by kernel_rfl) ?_
          repeat (first
            | (refine wpX_pure rfl rfl rfl ?_; intro K hK; go_big_quiet_op; refine hK _ ?_; clear hK K)
            | (refine wpX_load rfl rfl rfl ?_; intro K hK; go_big_quiet_op; refine hK _ ?_; clear hK K))
          refine wpX_eff rfl rfl ?_; intro K hK; go_wp2_with fail
          (with_reducible refine (I2.out _ T2'.out T4'.out).mono ?_); rintro e w7 ⟨rfl, hb7⟩
          go_wp2_with fail
          refine hK _ _ trivial ?_; clear hK K
          repeat (first | (refine wpX_pure rfl rfl rfl ?_; intro K hK; go_big_quiet_op; refine hK _ ?_; clear hK K) | (refine wpX_eff rfl rfl ?_; intro K hK; go_wp2_with fail; refine hK _ _ trivial ?_; clear hK K))
          refine wpX_nil ?_
          go_wp2_with fail
          go_ret3
          exact ⟨rfl, hB6.trans (hb7.mono hB6.size)⟩
    · have hxe := beq_text_ne hXY
      have hap := Q3.out hXY
      rw [hap, oT_some]
      have c1 : W.drew.drew.cell? ⟨ga, 0, none⟩ = some (.string X) := c1
      have c2 : W.drew.drew.cell? ⟨gb, 0, none⟩ = some (.string Y) := c2
      have c3 : W.drew.cell? ⟨ga, 0, none⟩ = some (.string X) := c1
      have c4 : W.drew.cell? ⟨gb, 0, none⟩ = some (.string Y) := c2
      have hB := (Below.refl W.heap.size W).drew.drew
      clear hXY hap
      go_enter Try.func40, Try.ntmps40
      go_wp2_with fail
      refine wp_region_lexX [] (by kernel_rfl) (by kernel_rfl) ?_
      repeat (first
        | (refine wpX_pure rfl rfl rfl ?_; intro K hK; go_big_quiet_op; refine hK _ ?_; clear hK K)
        | (refine wpX_load rfl rfl rfl ?_; intro K hK; go_big_quiet_op; refine hK _ ?_; clear hK K))
      refine wpX_nil ?_
      go_wp2_with fail
      refine wp_region_lexX [] (by kernel_rfl) (by kernel_rfl) ?_
      repeat (first
        | (refine wpX_pure rfl rfl rfl ?_; intro K hK; go_big_quiet_op; refine hK _ ?_; clear hK K)
        | (refine wpX_load rfl rfl rfl ?_; intro K hK; go_big_quiet_op; refine hK _ ?_; clear hK K))
      refine wpX_nil ?_
      go_wp2_with fail
      go_ret3
      exact ⟨rfl, hB⟩
set_option maxRecDepth 100000 in
set_option maxHeartbeats 1000000 in
theorem cLeaves (w : Int) (A B : Option Addr) (n c m e : Nat) (a b : List ByteArray) (W : World) (ha : a.length = n) (hsa : Strs W A a) (hac : n ≤ c) (ha6 : n ≤ 1000000) (hza : ∀ s ∈ a, s.size ≤ 200000) (hb : b.length = m) (hsb : Strs W B b) (hbe : m ≤ e) (hb6 : m ≤ 1000000) (hzb : ∀ s ∈ b, s.size ≤ 200000) :
    Calls Try.prog 16 #[.int .i64 w, .slice A n c, .slice B m e] W fun e W' => e = .returned (oT (leavesC (wd w) a b)) ∧ Below W.heap.size W W' := by
  have h1 := cGrown w n A c a W ha hsa hac ha6 hza
  have h2 := fun W h => cGrown w m B e b W hb h hbe hb6 hzb
  have q1 := leavesC_no (wd w) a b
  have q2 := leavesC_yes (wd w) a b
  have ap := fun ga gb B1 B2 W h h' => cApart (wd w) (wd_hi w) n a b ga gb B1 B2 W ha h h'
  have su1 := fun W B g (h : GT (wd w) W B g a) => h.sum
  have su2 := fun W B g (h : GT (wd w) W B g b) => h.sum
  obtain ⟨P, HP⟩ : ∃ V, Hid (msum (wd w) (top (wd w) a) = V) := ⟨_, Lib.hid rfl⟩
  obtain ⟨Q, HQ⟩ : ∃ V, Hid (msum (wd w) (top (wd w) b) = V) := ⟨_, Lib.hid rfl⟩
  rw [HP.out, HQ.out] at q1 q2
  simp only [HP.out] at su1
  simp only [HQ.out] at su2
  have H1 := Lib.hid h1
  have H2 := Lib.hid h2
  have SU1 := Lib.hid su1
  have SU2 := Lib.hid su2
  have HSB := Lib.hid hsb
  clear h1 h2 su1 su2 hsa hsb ha hb hza hzb
  by_cases hPQ : P = Q
  · have hpe : (P.toList == Q.toList) = true := by rw [hPQ]; exact beq_same _
    rw [q2 hPQ]
    obtain ⟨V, HV⟩ : ∃ V, Hid (apart (wd w) a b = V) := ⟨_, Lib.hid rfl⟩
    simp only [HV.out] at ap
    rw [HV.out]
    obtain ⟨x, y, bb, hv⟩ := oT_form V
    simp only [hv] at ap
    rw [hv]
    have AP := Lib.hid ap
    have HPQ := Lib.hid hPQ
    clear ap hv hPQ q1 q2
    go_enter Try.func16, Try.ntmps16
    go_wp2_with fail
    (with_reducible refine H1.out.mono ?_); rintro e w1 ⟨g1, rfl, hg1, hb1⟩
    go_wp2_with fail
    (with_reducible refine (H2.out _ (HSB.out.fresh hb1)).mono ?_); rintro e w2 ⟨g2, rfl, hg2, hb2⟩
    have HG1 := Lib.hid (hg1.fresh hb2)
    have HG2 := Lib.hid hg2
    have hB2 := hb1.trans (hb2.mono hb1.size)
    clear hb1 hb2 hg1 hg2
    have c1 : w2.drew.cell? ⟨g1, 1, none⟩ = some (.string P) := SU1.out _ _ _ HG1.out.drew
    have c2 : w2.drew.cell? ⟨g2, 1, none⟩ = some (.string Q) := SU2.out _ _ _ HG2.out.drew
    go_wp2_with fail
    refine wp_region_lexX [] (by kernel_rfl) (by kernel_rfl) ?_
    repeat (first
      | (refine wpX_pure rfl rfl rfl ?_; intro K hK; go_big_quiet_op; refine hK _ ?_; clear hK K)
      | (refine wpX_load rfl rfl rfl ?_; intro K hK; go_big_quiet_op; refine hK _ ?_; clear hK K))
    refine wpX_nil ?_
    go_wp2_with fail
    (with_reducible refine (AP.out _ _ _ _ _ HG1.out.drew HG2.out.drew).mono ?_); rintro e w3 ⟨rfl, hb3⟩
    have hBd := hB2.drew
    go_wp2_with fail
    go_ret3
    exact ⟨rfl, hBd.trans (hb3.mono hBd.size)⟩
  · have hpe := beq_text_ne hPQ
    rw [q1 hPQ, oT_none]
    clear hPQ ap q1 q2
    go_enter Try.func16, Try.ntmps16
    go_wp2_with fail
    (with_reducible refine H1.out.mono ?_); rintro e w1 ⟨g1, rfl, hg1, hb1⟩
    go_wp2_with fail
    (with_reducible refine (H2.out _ (HSB.out.fresh hb1)).mono ?_); rintro e w2 ⟨g2, rfl, hg2, hb2⟩
    have HG1 := Lib.hid (hg1.fresh hb2)
    have HG2 := Lib.hid hg2
    have hB2 := hb1.trans (hb2.mono hb1.size)
    clear hb1 hb2 hg1 hg2
    have c1 : w2.drew.cell? ⟨g1, 1, none⟩ = some (.string P) := SU1.out _ _ _ HG1.out.drew
    have c2 : w2.drew.cell? ⟨g2, 1, none⟩ = some (.string Q) := SU2.out _ _ _ HG2.out.drew
    go_wp2_with fail
    refine wp_region_lexX [] (by kernel_rfl) (by kernel_rfl) ?_
    repeat (first
      | (refine wpX_pure rfl rfl rfl ?_; intro K hK; go_big_quiet_op; refine hK _ ?_; clear hK K)
      | (refine wpX_load rfl rfl rfl ?_; intro K hK; go_big_quiet_op; refine hK _ ?_; clear hK K))
    refine wpX_nil ?_
    go_wp2_with fail
    go_ret3
    exact ⟨rfl, hB2.drew⟩
end Go.Proofs.Ytgkjpemgfbkejaa
namespace Go.Proofs.Ytgkjpemgfbkejaa
open Go.RowKit
set_option linter.unusedVariables false
set_option linter.unusedSimpArgs false

abbrev tq : ByteArray := ⟨#[113]⟩
abbrev tax : ByteArray := ⟨#[97, 120]⟩
abbrev tbh : ByteArray := ⟨#[98, 104]⟩
abbrev oax : ByteArray := ⟨#[0, 97, 120]⟩
abbrev obh : ByteArray := ⟨#[0, 98, 104]⟩
theorem clash_one : msum 1 oax = msum 1 obh := by decide +kernel
theorem wd_1 : wd 1 = 1 := by decide
theorem top_pair (a b : ByteArray) : top 1 [a, b] = ⟨#[1]⟩ ++ msum 1 (⟨#[0]⟩ ++ a) ++ msum 1 (⟨#[0]⟩ ++ b) := by
  rw [top_cut 1 [a, b] (by simp)]
  have e : cut [a, b].length = 1 := cut_two
  rw [e]
  show ⟨#[1]⟩ ++ msum 1 (top 1 [a]) ++ msum 1 (top 1 [b]) = _
  rw [top_one 1 [a] rfl, top_one 1 [b] rfl]; rfl
theorem top_awake : top 1 [tq, tax] = top 1 [tq, tbh] := by
  rw [top_pair, top_pair]
  have e1 : (⟨#[0]⟩ : ByteArray) ++ tax = oax := by decide
  have e2 : (⟨#[0]⟩ : ByteArray) ++ tbh = obh := by decide
  rw [e1, e2, clash_one]
theorem leaves_awake : leavesC 1 [tq, tax] [tq, tbh] = some (oax, obh) := by
  rw [leavesC_yes 1 _ _ (by rw [top_awake])]
  have e : cut [tq, tax].length = 1 := cut_two
  have e' : cut [tq, tbh].length = 1 := cut_two
  have h1 : apart 1 ([tq, tax].take (cut [tq, tax].length)) ([tq, tbh].take (cut [tq, tbh].length)) = none := by
    rw [e, e']
    exact apart_same 1 1 [tq] (by simp)
  rw [apart_right 1 _ _ top_awake (by simp) h1, e, e']
  show apart 1 [tax] [tbh] = _
  have t1 : top 1 [tax] = oax := by rw [top_one 1 [tax] rfl]; decide
  have t2 : top 1 [tbh] = obh := by rw [top_one 1 [tbh] rfl]; decide
  rw [apart_ne 1 [tax] [tbh] (by rw [t1, t2]; decide), t1, t2]
theorem valid_awake : validC 1 oax obh = true := validC_yes 1 _ _ (by decide) clash_one
set_option maxRecDepth 100000 in
theorem cAwake17 (w : World) : Calls Try.prog 12 #[] w fun e w' => e = .returned (.bool true) ∧ Below w.heap.size w w' := by
  have h1 : Calls Try.prog 16 #[.int .i64 1, .slice (some ⟨w.heap.size, 0, none⟩) 2 2, .slice (some ⟨w.heap.size + 1, 0, none⟩) 2 2] ((w.alloc (.cells #[.string tq, .string tax] 9)).alloc (.cells #[.string tq, .string tbh] 9)) fun e w' => e = .returned (.tuple #[.string oax, .string obh, .bool true]) ∧ Below w.heap.size w w' := by
    have hs2 := Strs.two (w.alloc (.cells #[.string tq, .string tax] 9)) 9 tq tbh
    have hsz : (w.alloc (.cells #[.string tq, .string tax] 9)).heap.size = w.heap.size + 1 := by simp
    rw [hsz] at hs2
    have := cLeaves 1 (some ⟨w.heap.size, 0, none⟩) (some ⟨w.heap.size + 1, 0, none⟩) 2 2 2 2 [tq, tax] [tq, tbh] ((w.alloc (.cells #[.string tq, .string tax] 9)).alloc (.cells #[.string tq, .string tbh] 9)) rfl ((Strs.two w 9 tq tax).alloc _) (by omega) (by omega) (by decide) rfl hs2 (by omega) (by omega) (by decide)
    rw [wd_1, leaves_awake, oT_some] at this
    refine this.mono ?_
    rintro e w' ⟨rfl, hb⟩
    have hb2 : Below w.heap.size w ((w.alloc (.cells #[.string tq, .string tax] 9)).alloc (.cells #[.string tq, .string tbh] 9)) := ((Below.refl _ _).alloc (Nat.le_refl _) _).alloc (by simp) _
    exact ⟨rfl, hb2.trans (hb.mono hb2.size)⟩
  have h2 : ∀ W, Calls Try.prog 13 #[.int .i64 1, .string oax, .string obh] W fun e w' => e = .returned (.bool true) ∧ Below W.heap.size W w' := fun W => by
    have := cValid 1 oax obh W (by decide) (by decide)
    rw [wd_1, valid_awake] at this
    exact this
  have H1 := Lib.hid h1
  have H2 := Lib.hid h2
  clear h1 h2
  go_enter Try.func12, Try.ntmps12
  go_wp2_with fail
  (with_reducible refine H1.out.mono ?_); rintro e w1 ⟨rfl, hb1⟩
  go_wp2_with fail
  (with_reducible refine (H2.out _).mono ?_); rintro e w2 ⟨rfl, hb2⟩
  go_wp2_with fail
  go_ret
  exact ⟨rfl, hb1.trans (hb2.mono hb1.size)⟩
set_option maxRecDepth 100000 in
theorem clashValid_walk {w : World} (k : Int) (hk : (Lit.int .i64 k).wf = true) (a : ByteArray) (ha : a.size ≤ reachBytes) (b : ByteArray) (hb : b.size ≤ reachBytes) :
    Calls Try.prog 3 #[.int .i64 k, .string a, .string b] w fun e w' => e = .returned (.bool true) ∧ Below w.heap.size w w' := by
  have ha2 : a.size ≤ 140737488355328 := Nat.le_trans ha (by decide)
  have hb2 : b.size ≤ 140737488355328 := Nat.le_trans hb (by decide)
  clear ha hb hk
  by_cases h1 : a.size ≤ 2000
  · have d1 : decide ((2000 : Int) < (a.size : Int)) = false := decide_eq_false (by omega)
    by_cases h2 : b.size ≤ 2000
    · have d2 : decide ((2000 : Int) < (b.size : Int)) = false := decide_eq_false (by omega)
      have v1 := fun W => cValid k a b W (by omega) (by omega)
      have v2 := fun W => crValid k a b W (by omega) (by omega)
      have v3 := fun W => cValid k a a W (by omega) (by omega)
      rw [validC_same (wd k) a a rfl] at v3
      obtain ⟨V, HV⟩ : ∃ x, Hid (validC (wd k) a b = x) := ⟨_, Lib.hid rfl⟩
      simp only [HV.out] at v1 v2
      have V1 := Lib.hid v1
      have V2 := Lib.hid v2
      have V3 := Lib.hid v3
      have hvv : (V == V) = true := by simp
      clear v1 v2 v3
      go_enter Try.func3, Try.ntmps3
      go_wp2_with fail
      (with_reducible refine (V1.out _).mono ?_); rintro e w1 ⟨rfl, hb1⟩
      go_wp2_with fail
      (with_reducible refine (V2.out _).mono ?_); rintro e w2 ⟨rfl, hb2⟩
      have q2 := hb1.trans (hb2.mono hb1.size)
      clear hb1 hb2
      go_wp2_with fail
      (with_reducible refine (V3.out _).mono ?_); rintro e w3 ⟨rfl, hb3⟩
      have q3 := q2.trans (hb3.mono q2.size)
      clear hb3 q2
      go_wp2_with fail
      (with_reducible refine (cAwake17 _).mono ?_); rintro e w4 ⟨rfl, hb4⟩
      go_wp2_with fail
      go_ret
      exact ⟨rfl, q3.trans (hb4.mono q3.size)⟩
    · have d2 : decide ((2000 : Int) < (b.size : Int)) = true := decide_eq_true (by omega)
      go_enter Try.func3, Try.ntmps3
      go_wp2_with fail
      (with_reducible refine (cAwake17 _).mono ?_); rintro e w4 ⟨rfl, hb4⟩
      go_wp2_with fail
      go_ret
      exact ⟨rfl, hb4⟩
  · have d1 : decide ((2000 : Int) < (a.size : Int)) = true := decide_eq_true (by omega)
    go_enter Try.func3, Try.ntmps3
    go_wp2_with fail
    (with_reducible refine (cAwake17 _).mono ?_); rintro e w4 ⟨rfl, hb4⟩
    go_wp2_with fail
    go_ret
    exact ⟨rfl, hb4⟩
set_option maxRecDepth 100000 in
theorem clashLists_walk {w : World} (k : Int) (hk : (Lit.int .i64 k).wf = true) (v1 : Value) (s1 : List ByteArray) (hv1 : StrsIn w v1 s1) (v2 : Value) (s2 : List ByteArray) (hv2 : StrsIn w v2 s2) :
    Calls Try.prog 4 #[.int .i64 k, v1, v2] w fun e w' => e = .returned (.bool true) ∧ Below w.heap.size w w' := by
  have h0 := cFewV hv1
  have h1 := cFewV hv2
  have H0 := Lib.hid h0
  have H1 := Lib.hid h1
  clear h0 h1 hv1 hv2 hk
  go_enter Try.func4, Try.ntmps4
  go_wp2_with fail
  (with_reducible refine H0.out.mono ?_); rintro e w1 ⟨A, n, c, a, rfl, ha, hsa, hac, hn, hza, rfl⟩
  go_wp2_with fail
  (with_reducible refine H1.out.mono ?_); rintro e w1 ⟨B, m, d, b, rfl, hb, hsb, hbd, hm, hzb, rfl⟩
  have l1 := cLeaves k A B n c m d a b w ha hsa hac (by omega) (fun s hs => by have := hza s hs; omega) hb hsb hbd (by omega) (fun s hs => by have := hzb s hs; omega)
  have l2 := fun W h h' => crLeaves17 k n A B c m d a b W ha h hac (by omega) (fun s hs => by have := hza s hs; omega) hb h' hbd (by omega) (fun s hs => by have := hzb s hs; omega)
  obtain ⟨V, HV⟩ : ∃ x, Hid (leavesC (wd k) a b = x) := ⟨_, Lib.hid rfl⟩
  simp only [HV.out] at l1 l2
  obtain ⟨x, y, bb, hv⟩ := oT_form V
  simp only [hv] at l1 l2
  have L1 := Lib.hid l1
  have L2 := Lib.hid l2
  have HSA := Lib.hid hsa
  have HSB := Lib.hid hsb
  have hxx := beq_same x
  have hyy := beq_same y
  have hbb : (bb == bb) = true := by simp
  clear l1 l2 hsa hsb hza hzb ha hb hv H0 H1
  go_wp2_with fail
  (with_reducible refine L1.out.mono ?_); rintro e w1 ⟨rfl, hb1⟩
  go_wp2_with fail
  (with_reducible refine (L2.out _ (HSA.out.fresh hb1) (HSB.out.fresh hb1)).mono ?_); rintro e w2 ⟨rfl, hb2⟩
  have q2 := hb1.trans (hb2.mono hb1.size)
  clear hb1 hb2
  go_wp2_with fail
  (with_reducible refine (cAwake17 _).mono ?_); rintro e w4 ⟨rfl, hb4⟩
  go_wp2_with fail
  go_ret
  exact ⟨rfl, q2.trans (hb4.mono q2.size)⟩
theorem clash_size (d : Nat) (hd : d ≤ 32) : ∀ (n : Nat) (a b : List ByteArray), a.length ≤ n → (∀ s ∈ a, s.size ≤ 200000) → (∀ s ∈ b, s.size ≤ 200000) → ∀ r, apart d a b = some r → r.1.size ≤ 200001 ∧ r.2.size ≤ 200001 := by
  intro n
  induction n using Nat.strongRecOn with
  | _ n ih =>
    intro a b hn hza hzb r hr
    by_cases h : top d a = top d b
    · by_cases h2 : a.length < 2
      · rw [apart_small d a b h h2] at hr; cases hr
      · have hc := cut_lt a.length (by omega)
        have hp := cut_pos a.length
        cases hl : apart d (a.take (cut a.length)) (b.take (cut b.length)) with
        | some r' =>
          rw [apart_left d a b h (by omega) r' hl] at hr
          injection hr with e
          subst e
          exact ih (cut a.length) (by omega) _ _ (by rw [List.length_take]; omega) (mem_take_s hza) (mem_take_s hzb) _ hl
        | none =>
          rw [apart_right d a b h (by omega) hl] at hr
          exact ih (a.length - cut a.length) (by omega) _ _ (by rw [List.length_drop]; omega) (mem_drop_s hza) (mem_drop_s hzb) _ hr
    · rw [apart_ne d a b h] at hr
      injection hr with e
      subst e
      exact ⟨top_le d hd a hza, top_le d hd b hzb⟩
set_option maxRecDepth 100000 in
set_option maxHeartbeats 1000000 in
theorem clashFinds_walk {w : World} (k : Int) (hk : (Lit.int .i64 k).wf = true) (v1 : Value) (s1 : List ByteArray) (hv1 : StrsIn w v1 s1) (v2 : Value) (s2 : List ByteArray) (hv2 : StrsIn w v2 s2) :
    Calls Try.prog 5 #[.int .i64 k, v1, v2] w fun e w' => e = .returned (.bool true) ∧ Below w.heap.size w w' := by
  have h0 := cFewV hv1
  have h1 := cFewV hv2
  have H0 := Lib.hid h0
  have H1 := Lib.hid h1
  clear h0 h1 hv1 hv2 hk
  go_enter Try.func5, Try.ntmps5
  go_wp2_with fail
  (with_reducible refine H0.out.mono ?_); rintro e w1 ⟨A, n, c, a, rfl, ha, hsa, hac, hn, hza, rfl⟩
  go_wp2_with fail
  (with_reducible refine H1.out.mono ?_); rintro e w1 ⟨B, m, d, b, rfl, hb, hsb, hbd, hm, hzb, rfl⟩
  have hza2 : ∀ s ∈ a, s.size ≤ 200000 := fun s hs => by have := hza s hs; omega
  have hzb2 : ∀ s ∈ b, s.size ≤ 200000 := fun s hs => by have := hzb s hs; omega
  have l1 := cLeaves k A B n c m d a b w ha hsa hac (by omega) hza2 hb hsb hbd (by omega) hzb2
  have r1 := fun W h => crRoot17 k A n c a W ha h hac (by omega) hza2
  have r2 := fun W h => crRoot17 k B m d b W hb h hbd (by omega) hzb2
  have q1 := leavesC_no (wd k) a b
  have q2 := leavesC_yes (wd k) a b
  have q3 := apart_clash (wd k) (wd_hi k) a.length a b (Nat.le_refl _)
  have q4 := apart_same (wd k) a.length a (Nat.le_refl _)
  have q5 := clash_size (wd k) (wd_hi k) a.length a b (Nat.le_refl _) hza2 hzb2
  obtain ⟨P, HP⟩ : ∃ x, Hid (msum (wd k) (top (wd k) a) = x) := ⟨_, Lib.hid rfl⟩
  obtain ⟨Q, HQ⟩ : ∃ x, Hid (msum (wd k) (top (wd k) b) = x) := ⟨_, Lib.hid rfl⟩
  rw [HP.out, HQ.out] at q1 q2 q3
  simp only [HP.out] at r1
  simp only [HQ.out] at r2
  have HSA := Lib.hid hsa
  have HSB := Lib.hid hsb
  have R1 := Lib.hid r1
  have R2 := Lib.hid r2
  have HA := Lib.hid ha
  have HB := Lib.hid hb
  have hee := beq_same (⟨#[]⟩ : ByteArray)
  clear r1 r2 hsa hsb hza hzb ha hb H0 H1 hza2 hzb2
  by_cases hPQ : P = Q
  · have hpe : (P.toList == Q.toList) = true := by rw [hPQ]; exact beq_same _
    rw [q2 hPQ] at l1
    by_cases hab : a = b
    · subst hab
      rw [q4, oT_none] at l1
      have s1 := fun W h h' => cSame A B n m c d a a W HA.out HB.out h h' (by omega) (by omega)
      rw [decide_eq_true rfl] at s1
      have S1 := Lib.hid s1
      have L1 := Lib.hid l1
      have HPQ := Lib.hid hPQ
      clear l1 s1 q1 q2 q3 q4 q5 hPQ
      go_wp2_with fail
      (with_reducible refine L1.out.mono ?_); rintro e w1 ⟨rfl, hb1⟩
      go_wp2_with fail
      (with_reducible refine (R1.out _ (HSA.out.fresh hb1)).mono ?_); rintro e w2 ⟨rfl, hb2⟩
      have g2 := hb1.trans (hb2.mono hb1.size)
      clear hb1 hb2
      go_wp2_with fail
      (with_reducible refine (R2.out _ (HSB.out.fresh g2)).mono ?_); rintro e w3 ⟨rfl, hb3⟩
      have g3 := g2.trans (hb3.mono g2.size)
      clear g2 hb3
      go_wp2_with fail
      (with_reducible refine (S1.out _ (HSA.out.fresh g3) (HSB.out.fresh g3)).mono ?_); rintro e w4 ⟨rfl, hb4⟩
      have g4 := g3.trans (hb4.mono g3.size)
      clear g3 hb4
      go_wp2_with fail
      (with_reducible refine (cAwake17 _).mono ?_); rintro e w5 ⟨rfl, hb5⟩
      go_wp2_with fail
      go_ret
      exact ⟨rfl, g4.trans (hb5.mono g4.size)⟩
    · obtain ⟨q6, q7⟩ := q3 hPQ
      cases hr : apart (wd k) a b with
      | none => exact absurd (q7 hr) hab
      | some r =>
        obtain ⟨x, y⟩ := r
        obtain ⟨z1, z2⟩ := q6 _ hr
        obtain ⟨z3, z4⟩ := q5 _ hr
        rw [hr, oT_some] at l1
        have s1 := fun W h h' => cSame A B n m c d a b W HA.out HB.out h h' (by omega) (by omega)
        rw [decide_eq_false hab] at s1
        have v1 := fun W => crValid k x y W (by dsimp only at z3; omega) (by dsimp only at z4; omega)
        rw [validC_yes (wd k) x y z1 z2] at v1
        have S1 := Lib.hid s1
        have L1 := Lib.hid l1
        have V1 := Lib.hid v1
        have HPQ := Lib.hid hPQ
        clear l1 s1 v1 q1 q2 q3 q4 q5 q6 q7 z1 z2 z3 z4 hr hab hPQ
        go_wp2_with fail
        (with_reducible refine L1.out.mono ?_); rintro e w1 ⟨rfl, hb1⟩
        go_wp2_with fail
        (with_reducible refine (R1.out _ (HSA.out.fresh hb1)).mono ?_); rintro e w2 ⟨rfl, hb2⟩
        have g2 := hb1.trans (hb2.mono hb1.size)
        clear hb1 hb2
        go_wp2_with fail
        (with_reducible refine (R2.out _ (HSB.out.fresh g2)).mono ?_); rintro e w3 ⟨rfl, hb3⟩
        have g3 := g2.trans (hb3.mono g2.size)
        clear g2 hb3
        go_wp2_with fail
        (with_reducible refine (S1.out _ (HSA.out.fresh g3) (HSB.out.fresh g3)).mono ?_); rintro e w4 ⟨rfl, hb4⟩
        have g4 := g3.trans (hb4.mono g3.size)
        clear g3 hb4
        go_wp2_with fail
        (with_reducible refine (V1.out _).mono ?_); rintro e w5 ⟨rfl, hb5⟩
        have g5 := g4.trans (hb5.mono g4.size)
        clear g4 hb5
        go_wp2_with fail
        (with_reducible refine (cAwake17 _).mono ?_); rintro e w6 ⟨rfl, hb6⟩
        go_wp2_with fail
        go_ret
        exact ⟨rfl, g5.trans (hb6.mono g5.size)⟩
  · have hpe := beq_text_ne hPQ
    rw [q1 hPQ, oT_none] at l1
    have L1 := Lib.hid l1
    clear l1 q1 q2 q3 q4 q5 hPQ
    go_wp2_with fail
    (with_reducible refine L1.out.mono ?_); rintro e w1 ⟨rfl, hb1⟩
    go_wp2_with fail
    (with_reducible refine (R1.out _ (HSA.out.fresh hb1)).mono ?_); rintro e w2 ⟨rfl, hb2⟩
    have g2 := hb1.trans (hb2.mono hb1.size)
    clear hb1 hb2
    go_wp2_with fail
    (with_reducible refine (R2.out _ (HSB.out.fresh g2)).mono ?_); rintro e w3 ⟨rfl, hb3⟩
    have g3 := g2.trans (hb3.mono g2.size)
    clear g2 hb3
    go_wp2_with fail
    (with_reducible refine (cAwake17 _).mono ?_); rintro e w5 ⟨rfl, hb5⟩
    go_wp2_with fail
    go_ret
    exact ⟨rfl, g3.trans (hb5.mono g3.size)⟩
end Go.Proofs.Ytgkjpemgfbkejaa
namespace Go.Proofs.Ytgkjpemgfbkejaa
open Go.RowKit
set_option linter.unusedVariables false
set_option linter.unusedSimpArgs false

set_option maxRecDepth 100000 in
set_option maxHeartbeats 4000000 in
theorem cSteps (w : Int) (i n : Nat) (a : ByteArray) (A : Option Addr) (m c : Nat) (p : List ByteArray) (W : World) (ha : a.size ≤ 200000) (hp : p.length = m) (hs : Strs W A p) (hw : (way i n).length = m) (hpz : ∀ s ∈ p, s.size ≤ 32) (hi : i < n) (hn : n ≤ 2305843009213693952) :
    Calls Try.prog 49 #[.agg #[.string a, .slice A m c], .int .i64 w, .int .i64 (i : Int), .int .i64 (n : Int)] W fun e W' => ∃ A' c', e = .returned (.slice A' (m + 1) c') ∧ m + 1 ≤ c' ∧ Strs W' A' (stepsL (wd w) (⟨#[0]⟩ ++ a) (way i n) p) ∧ Below W.heap.size W W' := by
  have hbits := way_bits 61 i n (by omega)
  have h1 := fun W => cWay n i W hn hi
  have hx0 : (⟨#[0]⟩ ++ a : ByteArray).size ≤ 300000 := by rw [ByteArray.size_append]; have : (⟨#[0]⟩ : ByteArray).size = 1 := rfl; omega
  have hlz := fun k => lastX_size (wd w) (wd_hi w) ((way i n).take k) (p.take k) (⟨#[0]⟩ ++ a) hx0 (fun s hs => hpz s (List.mem_of_mem_take hs))
  have hst := fun k h => take_step (wd w) (⟨#[0]⟩ ++ a) (way i n) p k (by omega) h
  have hlen := fun k (h : k ≤ m) => stepsL_length (wd w) ((way i n).take k) (p.take k) (⟨#[0]⟩ ++ a) (by rw [List.length_take, List.length_take]; omega)
  have hm1 := fun x W (h : x.size ≤ 300000) => cMSum1 w x W (by omega)
  have hmz := fun x => msum_size (wd w) x (wd_hi w)
  have hd32 := wd_hi w
  obtain ⟨d, HD⟩ : ∃ x, Hid (wd w = x) := ⟨_, Lib.hid rfl⟩
  obtain ⟨bs, HBS⟩ : ∃ x, Hid (way i n = x) := ⟨_, Lib.hid rfl⟩
  obtain ⟨x0, HX0⟩ : ∃ x, Hid ((⟨#[0]⟩ ++ a : ByteArray) = x) := ⟨_, Lib.hid rfl⟩
  simp only [HD.out, HBS.out, HX0.out] at hbits h1 hlz hst hlen hm1 hmz hd32 hw hx0
  rw [HD.out, HBS.out, HX0.out]
  have H1 := Lib.hid h1
  have HLZ := Lib.hid hlz
  have HST := Lib.hid hst
  have HLEN := Lib.hid hlen
  have HM1 := Lib.hid hm1
  have HMZ := Lib.hid hmz
  have HW := Lib.hid hw
  have HP := Lib.hid hp
  have HS := Lib.hid hs
  have HPZ := Lib.hid hpz
  rw [hw] at hbits
  have haI : (a.size : Int) ≤ 200000 := by omega
  have hS := Blk.new W 44 #[.string a, .slice A m c]
  have hB : Below W.heap.size W (W.alloc (.cells #[.string a, .slice A m c] 44)) := (Below.refl _ _).alloc (Nat.le_refl _) _
  have b0 : (W.alloc (.cells #[.string a, .slice A m c] 44)).cell? ⟨W.heap.size, 0, none⟩ = some (.string a) := (hS.cell 0).trans rfl
  clear h1 hlz hst hlen hm1 hmz hw hp hs hpz
  go_enter Try.func49, Try.ntmps49
  go_wp2_with fail
  rw [HX0.out]
  obtain ⟨W1, HW1⟩ : ∃ u, Hid ((W.alloc (.cells #[.string a, .slice A m c] 44)).alloc (.cells #[.string x0] 9) = u) := ⟨_, Lib.hid rfl⟩
  have hsz : (W.alloc (.cells #[.string a, .slice A m c] 44)).heap.size = W.heap.size + 1 := by simp
  have hrow := SL.lit (W.alloc (.cells #[.string a, .slice A m c] 44)) W.heap.size 9 #[.string x0] (by rw [hsz]; omega) (by show 1 ≤ maxLen; decide)
  have hS1 := hS.alloc (.cells #[.string x0] 9)
  have hB1 := hB.alloc hB.size (.cells #[.string x0] 9)
  have hsz1 : ((W.alloc (.cells #[.string a, .slice A m c] 44)).alloc (.cells #[.string x0] 9)).heap.size = W.heap.size + 2 := by simp
  rw [HW1.out] at hS1 hB1 hsz1 hrow
  rw [hsz] at hrow
  rw [HW1.out]
  have hrow : SL W1 W.heap.size 9 (.slice (some ⟨W.heap.size + 1, 0, none⟩) 1 1) ([x0].map Value.string) := hrow
  clear hS hB hsz b0
  (with_reducible refine (H1.out _).mono ?_); rintro e w1 ⟨v, rfl, hV, hb1⟩
  obtain ⟨A2, c2, rfl, hc2⟩ := hV.open_
  rw [HW.out] at hV hc2 ⊢
  have hbr : ∀ k, k < m → ∃ g, A2 = some ⟨g, 0, none⟩ ∧ W.heap.size + 2 ≤ g ∧ g < w1.heap.size ∧ Rw w1 g 4 (bs.map Value.bool) := fun k hk => by
    obtain ⟨g, cap, h2, h3, h4, h5⟩ := hV.rw (by intro e; have := congrArg List.length e; rw [List.length_map, HW.out] at this; simp at this; omega)
    injection h2 with h2 _ _
    exact ⟨g, h2, by rw [hsz1] at h4; exact h4, h5.lt, h5⟩
  have HBR := Lib.hid hbr
  have hS2 := Lib.hid (hS1.below hb1 hS1.lt)
  have hrow2 := SL.below hrow hb1 (Nat.le_refl _)
  have hB2 := hB1.trans (hb1.mono hB1.size)
  have HB2 := Lib.hid hB2
  have hw1 : W.heap.size + 2 ≤ w1.heap.size := by rw [← hsz1]; exact hb1.size
  have hO : Only (fun k => k = W.heap.size + 1 ∨ w1.heap.size ≤ k) w1 w1 := Only.refl _ _
  clear hbr hS1 hB1 hrow hb1 hV hB2
  go_wp2_with fail
  go_loopw [9, 10, 23] (fun v9 v10 v23 wr => ∃ (k c5 : Nat) (x : ByteArray) (A5 : Option Addr), v9 = .string x ∧ v10 = .slice A5 (k + 1) c5 ∧ v23 = .int .i64 k ∧ k ≤ m ∧ k + 1 ≤ c5 ∧ x = lastX d x0 (bs.take k) (p.take k) ∧
    SL wr W.heap.size 9 (.slice A5 (k + 1) c5) ((stepsL d x0 (bs.take k) (p.take k)).map Value.string) ∧ (∀ g o, A5 = some ⟨g, o, none⟩ → g = W.heap.size + 1 ∨ w1.heap.size ≤ g) ∧ Only (fun k => k = W.heap.size + 1 ∨ w1.heap.size ≤ k) w1 wr) (fun _ _ v _ => m - (intOf v).toNat)
  case atStart => exact ⟨0, 1, x0, _, rfl, rfl, rfl, by omega, by omega, by rw [List.take_zero, lastX_nil], by rw [List.take_zero, stepsL_nil]; exact hrow2, fun g o e => by injection e with e; injection e with e _ _; exact .inl e.symm, hO⟩
  case round =>
    clear hO hrow2
    obtain ⟨k, c5, x, A5, rfl, rfl, rfl, hk, hkc, hx, hSL, hA5, hO⟩ := hrel
    have HX := Lib.hid hx
    have HSL := Lib.hid hSL
    have HA5 := Lib.hid hA5
    have HO := Lib.hid hO
    have hxz : x.size ≤ 300000 := by rw [hx]; exact HLZ.out k
    have hBW : Below W.heap.size W wr := HB2.out.trans (hO.below (by omega) (fun k hk => by omega))
    have HBW := Lib.hid hBW
    clear hx hSL hA5 hO
    by_cases hlt : k < m
    · have hdk : decide ((k : Int) < (m : Int)) = true := decide_eq_true (by omega)
      have hkI : (k : Int) < (m : Int) := by omega
      obtain ⟨gb, rfl, hgb, hgb2, hrw⟩ := HBR.out k hlt
      have hrw2 : Rw wr gb 4 (bs.map Value.bool) := Only.rw_ HO.out hrw (by omega)
      have cb : wr.cell? ⟨gb, k, none⟩ = some (.bool (bs.getD k false)) := hrw2.cell k _ (by rw [List.getElem?_map, List.getD_eq_getElem?_getD, List.getElem?_eq_getElem (by rw [HW.out]; exact hlt)]; rfl)
      obtain ⟨g1, o1, rfl, c1⟩ := (HS.out.fresh hBW).cell_ k (by rw [HP.out]; exact hlt)
      have hg1 : g1 < wr.heap.size := by
        obtain ⟨g', o', e1, e2, _⟩ := (HS.out.fresh hBW) (by rw [HP.out]; omega)
        injection e1 with e1; injection e1 with e1 _ _; omega
      have hSb := HO.out.blk hS2.out (by omega)
      obtain ⟨st1, st2⟩ := HST.out k (by rw [HW.out]; exact hlt)
      rw [← HX.out] at st1 st2
      have hsz := HPZ.out _ (getD_mem (by rw [HP.out]; exact hlt : k < p.length))
      have hlk := HLEN.out k (by omega)
      rw [List.length_take, HW.out, Nat.min_eq_left (by omega)] at hlk
      have hsum := fun W => HM1.out x W hxz
      have hyz := HMZ.out x
      obtain ⟨s, HSS⟩ : ∃ v, Hid (p.getD k ByteArray.empty = v) := ⟨_, Lib.hid rfl⟩
      obtain ⟨bb, HBB⟩ : ∃ v, Hid (bs.getD k false = v) := ⟨_, Lib.hid rfl⟩
      rw [HSS.out] at c1 hsz st1 st2
      rw [HBB.out] at cb st1 st2
      have hn1 := nextX_true d s x
      have hn2 := nextX_false d s x
      obtain ⟨y, HY⟩ : ∃ v, Hid (msum d x = v) := ⟨_, Lib.hid rfl⟩
      simp only [HY.out] at hsum hyz hn1 hn2
      have HSUM := Lib.hid hsum
      have hyI : (y.size : Int) ≤ 32 := by omega
      have hsI : (s.size : Int) ≤ 32 := by omega
      have ST1 := Lib.hid st1
      have ST2 := Lib.hid st2
      obtain ⟨sl, HSTL⟩ : ∃ v, Hid (stepsL d x0 (bs.take k) (p.take k) = v) := ⟨_, Lib.hid rfl⟩
      rw [HSTL.out] at hlk
      have HSL2 := HSL.out
      rw [HSTL.out] at HSL2
      have HSL := Lib.hid HSL2
      have HN1 := Lib.hid hn1
      have HN2 := Lib.hid hn2
      clear hsum st1 st2 hBW HSL2 hn1 hn2 hrw hrw2
      cases bb with
      | true =>
        go_wp2_with fail
        (with_reducible refine (HSUM.out _).mono ?_); rintro e w2 ⟨rfl, hb2⟩
        have HSL3 := Lib.hid (HSL.out.below hb2 (Nat.le_refl _))
        have c1 : w2.cell? ⟨g1, o1 + k, none⟩ = some (.string s) := (hb2.cell hg1).trans c1
        have hSb2 := hSb.below hb2 hSb.lt
        have b1 : w2.cell? ⟨W.heap.size, 1, none⟩ = some (.slice (some ⟨g1, o1, none⟩) m c) := (hSb2.cell 1).trans rfl
        have hO2 := Lib.hid (HO.out.trans (Only.fresh hb2 : Only (fun k => k = W.heap.size + 1 ∨ w1.heap.size ≤ k) _ _) (fun _ _ e => e))
        have hsz2 : w1.heap.size ≤ w2.heap.size := hO2.out.size
        have hWs : W.heap.size ≤ w2.heap.size := by omega
        clear hb2 hSb hSb2 cb
        go_wp2_with (refine wpList_app1g Value.string (fun _ => rfl) str_elem Try.underlying24 rfl (.tmp 49) (.tmp 51) rfl W.heap.size A5 (k + 1) c5 sl (⟨#[1]⟩ ++ s ++ y) _ hlk rfl HSL3.out rfl _ rfl rfl (by omega) (by decide) hWs ?_; intro A6 c6 w6 hS6 hc6 hO6 hA6; dsimp only [Act.put])
        go_roundw
        case rel =>
          refine ⟨k + 1, c6, (⟨#[1]⟩ ++ s ++ y), A6, rfl, rfl, by go_num, by omega, hc6, by rw [ST2.out, HN1.out], by rw [ST1.out, HSTL.out, HN1.out]; exact hS6, fun g o e => ?_, hO2.out.trans hO6 (fun k _ e => ?_)⟩
          · rcases hA6 g o e with ⟨o', h⟩ | h
            · exact HA5.out g o' h
            · exact .inr (by omega)
          · rcases e with ⟨o', h⟩ | h
            · exact HA5.out k o' h
            · exact .inr (by omega)
        case measure => simp [intOf]; omega
      | false =>
        go_wp2_with fail
        (with_reducible refine (HSUM.out _).mono ?_); rintro e w2 ⟨rfl, hb2⟩
        have HSL3 := Lib.hid (HSL.out.below hb2 (Nat.le_refl _))
        have c1 : w2.cell? ⟨g1, o1 + k, none⟩ = some (.string s) := (hb2.cell hg1).trans c1
        have hSb2 := hSb.below hb2 hSb.lt
        have b1 : w2.cell? ⟨W.heap.size, 1, none⟩ = some (.slice (some ⟨g1, o1, none⟩) m c) := (hSb2.cell 1).trans rfl
        have hO2 := Lib.hid (HO.out.trans (Only.fresh hb2 : Only (fun k => k = W.heap.size + 1 ∨ w1.heap.size ≤ k) _ _) (fun _ _ e => e))
        have hsz2 : w1.heap.size ≤ w2.heap.size := hO2.out.size
        have hWs : W.heap.size ≤ w2.heap.size := by omega
        clear hb2 hSb hSb2 cb
        go_wp2_with (refine wpList_app1g Value.string (fun _ => rfl) str_elem Try.underlying24 rfl (.tmp 49) (.tmp 51) rfl W.heap.size A5 (k + 1) c5 sl (⟨#[1]⟩ ++ y ++ s) _ hlk rfl HSL3.out rfl _ rfl rfl (by omega) (by decide) hWs ?_; intro A6 c6 w6 hS6 hc6 hO6 hA6; dsimp only [Act.put])
        go_roundw
        case rel =>
          refine ⟨k + 1, c6, (⟨#[1]⟩ ++ y ++ s), A6, rfl, rfl, by go_num, by omega, hc6, by rw [ST2.out, HN2.out], by rw [ST1.out, HSTL.out, HN2.out]; exact hS6, fun g o e => ?_, hO2.out.trans hO6 (fun k _ e => ?_)⟩
          · rcases hA6 g o e with ⟨o', h⟩ | h
            · exact HA5.out g o' h
            · exact .inr (by omega)
          · rcases e with ⟨o', h⟩ | h
            · exact HA5.out k o' h
            · exact .inr (by omega)
        case measure => simp [intOf]; omega
    · have hdk : decide ((k : Int) < (m : Int)) = false := decide_eq_false (by omega)
      have e : k = m := by omega
      subst e
      have f1 : bs.take k = bs := List.take_of_length_le (by rw [HW.out]; omega)
      have f2 : p.take k = p := List.take_of_length_le (by rw [HP.out]; omega)
      have hsl := HSL.out
      rw [f1, f2] at hsl
      have HSLF := Lib.hid hsl
      clear f1 f2 hsl
      go_wp2_with fail
      go_ret
      exact ⟨A5, c5, rfl, hkc, Strs.of_sl HSLF.out, HBW.out⟩
end Go.Proofs.Ytgkjpemgfbkejaa
namespace Go.Proofs.Ytgkjpemgfbkejaa
open Go.RowKit
set_option linter.unusedVariables false
set_option linter.unusedSimpArgs false

theorem claim_size : (Try.prog.info? 44).map (·.size) = some 2 := by kernel_rfl
theorem Blk.rng {w : World} {g : Nat} {t : TypeId} {cs : List Value} (h : Blk w g t cs.toArray) : w.rangeAt g 0 cs := fun j v hj => by
  rw [Nat.zero_add, h.cell]; simpa using hj
theorem neq_nat {a b : Nat} (h : ¬ a = b) : ((a : Int) != (b : Int)) = true := by simp; omega
set_option maxRecDepth 100000 in
set_option maxHeartbeats 8000000 in
theorem cClaims (w i n : Int) (a b : ByteArray) (A B : Option Addr) (m c q e : Nat) (p qs : List ByteArray) (W : World) (ha : a.size ≤ 200000) (hb : b.size ≤ 200000) (hn : n ≤ 2305843009213693952)
    (hp : p.length = m) (hsp : Strs W A p) (hm6 : m ≤ 1000000) (hq : qs.length = q) (hsq : Strs W B qs) (hq6 : q ≤ 1000000) :
    Calls Try.prog 30 #[.int .i64 w, .int .i64 i, .int .i64 n, .agg #[.string a, .slice A m c], .agg #[.string b, .slice B q e]] W fun e W' => e = .returned (oT (claimsC (wd w) i n a b p qs)) ∧ Below W.heap.size W W' := by
  have l1 := fun W => cLeaf w a W (by omega)
  have l2 := fun W => cLeaf w b W (by omega)
  have u1 := fun W h => cUpI w i n (mleaf (wd w) a) A m c p W hp h hn (by omega)
  have u2 := fun W h => cUpI w i n (mleaf (wd w) b) B q e qs W hq h hn (by omega)
  have cn := claimsC_no (wd w) i n a b p qs
  have cy := claimsC_yes (wd w) i n a b p qs
  have z1 := upI_zero (wd w) i n (mleaf (wd w) a) p
  have z2 := upI_zero (wd w) i n (mleaf (wd w) b) qs
  obtain ⟨LA, HLA⟩ : ∃ x, Hid (mleaf (wd w) a = x) := ⟨_, Lib.hid rfl⟩
  obtain ⟨LB, HLB⟩ : ∃ x, Hid (mleaf (wd w) b = x) := ⟨_, Lib.hid rfl⟩
  simp only [HLA.out, HLB.out] at l1 l2 u1 u2 cn cy z1 z2
  obtain ⟨R1, HR1⟩ : ∃ x, Hid (upI (wd w) i n LA p = x) := ⟨_, Lib.hid rfl⟩
  obtain ⟨R2, HR2⟩ : ∃ x, Hid (upI (wd w) i n LB qs = x) := ⟨_, Lib.hid rfl⟩
  obtain ⟨V, HV⟩ : ∃ x, Hid (claimsC (wd w) i n a b p qs = x) := ⟨_, Lib.hid rfl⟩
  simp only [HR1.out, HR2.out, HV.out] at u1 u2 cn cy z1 z2
  rw [HV.out]
  obtain ⟨r1, e1⟩ := R1
  obtain ⟨r2, e2⟩ := R2
  dsimp only at u1 u2 cn cy z1 z2
  have L1 := Lib.hid l1
  have L2 := Lib.hid l2
  have U1 := Lib.hid u1
  have U2 := Lib.hid u2
  have CN := Lib.hid cn
  have CY := Lib.hid cy
  have Z1 := Lib.hid z1
  have Z2 := Lib.hid z2
  have HP := Lib.hid hp
  have HQ := Lib.hid hq
  have HSP := Lib.hid hsp
  have HSQ := Lib.hid hsq
  have k8 := (Blk.new W 44 #[.string a, .slice A m c]).alloc (.cells #[.string b, .slice B q e] 44)
  have k9 := Blk.new (W.alloc (.cells #[.string a, .slice A m c] 44)) 44 #[.string b, .slice B q e]
  have hsz : (W.alloc (.cells #[.string a, .slice A m c] 44)).heap.size = W.heap.size + 1 := by simp
  rw [hsz] at k9
  have hB : Below W.heap.size W ((W.alloc (.cells #[.string a, .slice A m c] 44)).alloc (.cells #[.string b, .slice B q e] 44)) := ((Below.refl _ _).alloc (Nat.le_refl _) _).alloc (by rw [hsz]; omega) _
  clear l1 l2 u1 u2 cn cy z1 z2 hp hq hsp hsq hsz
  go_enter Try.func30, Try.ntmps30
  go_wp2_with fail
  obtain ⟨W0, HW0⟩ : ∃ u, Hid ((W.alloc (.cells #[.string a, .slice A m c] 44)).alloc (.cells #[.string b, .slice B q e] 44) = u) := ⟨_, Lib.hid rfl⟩
  rw [HW0.out] at k8 k9 hB
  rw [HW0.out]
  have hBd := hB.drew
  have g8 : W.heap.size < W0.drew.heap.size := k8.lt
  have d0 : W0.drew.cell? ⟨W.heap.size, 0, none⟩ = some (.string a) := (k8.drew.cell 0).trans rfl
  have d1 : W0.drew.cell? ⟨W.heap.size, 1, none⟩ = some (.slice A m c) := (k8.drew.cell 1).trans rfl
  have hS0 := Below.refl W0.drew.heap.size W0.drew
  refine wp_region_lexS (fun w' => Below W0.drew.heap.size W0.drew w') 0 [] (by kernel_rfl) (by kernel_rfl) hS0 ?_
  repeat (first
    | (refine wpX_load0 rfl rfl _ _ rfl _ rfl _ rfl Try.underlying9 _ (fun w' h => (h.cell g8).trans d0) hS0 ?_; simp only [Act.put, List.setIfInBounds_toArray, List.set_cons_zero, List.set_cons_succ, List.getElem_toArray, List.getElem_cons_zero, List.getElem_cons_succ])
    | (refine wpX_load0 rfl rfl _ _ rfl _ rfl _ rfl Try.underlying24 _ (fun w' h => (h.cell g8).trans d1) hS0 ?_; simp only [Act.put, List.setIfInBounds_toArray, List.set_cons_zero, List.set_cons_succ, List.getElem_toArray, List.getElem_cons_zero, List.getElem_cons_succ])
    | (refine wpX_pure rfl rfl rfl ?_; intro K hK; go_big_quiet_op; refine hK _ ?_; clear hK K))
  refine wpX_eff rfl rfl ?_; intro K hK; go_wp2_with fail
  (with_reducible refine (L1.out _).mono ?_); rintro e w4 ⟨rfl, hb⟩
  go_wp2_with fail
  refine hK _ _ (hS0.trans (hb.mono hS0.size)) ?_; clear hK K
  replace hS0 := hS0.trans (hb.mono hS0.size)
  clear hb
  repeat (first
    | (refine wpX_load0 rfl rfl _ _ rfl _ rfl _ rfl Try.underlying9 _ (fun w' h => (h.cell g8).trans d0) hS0 ?_; simp only [Act.put, List.setIfInBounds_toArray, List.set_cons_zero, List.set_cons_succ, List.getElem_toArray, List.getElem_cons_zero, List.getElem_cons_succ])
    | (refine wpX_load0 rfl rfl _ _ rfl _ rfl _ rfl Try.underlying24 _ (fun w' h => (h.cell g8).trans d1) hS0 ?_; simp only [Act.put, List.setIfInBounds_toArray, List.set_cons_zero, List.set_cons_succ, List.getElem_toArray, List.getElem_cons_zero, List.getElem_cons_succ])
    | (refine wpX_pure rfl rfl rfl ?_; intro K hK; go_big_quiet_op; refine hK _ ?_; clear hK K))
  refine wpX_eff rfl rfl ?_; intro K hK; go_wp2_with fail
  (with_reducible refine (U1.out _ (HSP.out.fresh (hBd.trans (hS0.mono hBd.size)))).mono ?_); rintro e w5 ⟨rfl, hb⟩
  go_wp2_with fail
  refine hK _ _ (hS0.trans (hb.mono hS0.size)) ?_; clear hK K
  replace hS0 := hS0.trans (hb.mono hS0.size)
  clear hb
  repeat (first
    | (refine wpX_load0 rfl rfl _ _ rfl _ rfl _ rfl Try.underlying9 _ (fun w' h => (h.cell g8).trans d0) hS0 ?_; simp only [Act.put, List.setIfInBounds_toArray, List.set_cons_zero, List.set_cons_succ, List.getElem_toArray, List.getElem_cons_zero, List.getElem_cons_succ])
    | (refine wpX_load0 rfl rfl _ _ rfl _ rfl _ rfl Try.underlying24 _ (fun w' h => (h.cell g8).trans d1) hS0 ?_; simp only [Act.put, List.setIfInBounds_toArray, List.set_cons_zero, List.set_cons_succ, List.getElem_toArray, List.getElem_cons_zero, List.getElem_cons_succ])
    | (refine wpX_pure rfl rfl rfl ?_; intro K hK; go_big_quiet_op; refine hK _ ?_; clear hK K))
  refine wpX_nil ?_
  have k8 := k8.drew.below hS0 k8.lt
  have k9 := k9.drew.below hS0 k9.lt
  have hB := hBd.trans (hS0.mono hBd.size)
  obtain ⟨W1, HW1⟩ : ∃ u, Hid (w5 = u) := ⟨_, Lib.hid rfl⟩
  rw [HW1.out] at k8 k9 hB
  rw [HW1.out]
  clear d0 d1 hS0 g8 hBd
  go_wp2_with fail
  have hBd := hB.drew
  have g9 : W.heap.size + 1 < W1.drew.heap.size := k9.lt
  have d0 : W1.drew.cell? ⟨W.heap.size + 1, 0, none⟩ = some (.string b) := (k9.drew.cell 0).trans rfl
  have d1 : W1.drew.cell? ⟨W.heap.size + 1, 1, none⟩ = some (.slice B q e) := (k9.drew.cell 1).trans rfl
  have hS0 := Below.refl W1.drew.heap.size W1.drew
  refine wp_region_lexS (fun w' => Below W1.drew.heap.size W1.drew w') 0 [] (by kernel_rfl) (by kernel_rfl) hS0 ?_
  repeat (first
    | (refine wpX_load0 rfl rfl _ _ rfl _ rfl _ rfl Try.underlying9 _ (fun w' h => (h.cell g9).trans d0) hS0 ?_; simp only [Act.put, List.setIfInBounds_toArray, List.set_cons_zero, List.set_cons_succ, List.getElem_toArray, List.getElem_cons_zero, List.getElem_cons_succ])
    | (refine wpX_load0 rfl rfl _ _ rfl _ rfl _ rfl Try.underlying24 _ (fun w' h => (h.cell g9).trans d1) hS0 ?_; simp only [Act.put, List.setIfInBounds_toArray, List.set_cons_zero, List.set_cons_succ, List.getElem_toArray, List.getElem_cons_zero, List.getElem_cons_succ])
    | (refine wpX_pure rfl rfl rfl ?_; intro K hK; go_big_quiet_op; refine hK _ ?_; clear hK K))
  refine wpX_eff rfl rfl ?_; intro K hK; go_wp2_with fail
  (with_reducible refine (L2.out _).mono ?_); rintro e w5b ⟨rfl, hb⟩
  go_wp2_with fail
  refine hK _ _ (hS0.trans (hb.mono hS0.size)) ?_; clear hK K
  replace hS0 := hS0.trans (hb.mono hS0.size)
  clear hb
  repeat (first
    | (refine wpX_load0 rfl rfl _ _ rfl _ rfl _ rfl Try.underlying9 _ (fun w' h => (h.cell g9).trans d0) hS0 ?_; simp only [Act.put, List.setIfInBounds_toArray, List.set_cons_zero, List.set_cons_succ, List.getElem_toArray, List.getElem_cons_zero, List.getElem_cons_succ])
    | (refine wpX_load0 rfl rfl _ _ rfl _ rfl _ rfl Try.underlying24 _ (fun w' h => (h.cell g9).trans d1) hS0 ?_; simp only [Act.put, List.setIfInBounds_toArray, List.set_cons_zero, List.set_cons_succ, List.getElem_toArray, List.getElem_cons_zero, List.getElem_cons_succ])
    | (refine wpX_pure rfl rfl rfl ?_; intro K hK; go_big_quiet_op; refine hK _ ?_; clear hK K))
  refine wpX_eff rfl rfl ?_; intro K hK; go_wp2_with fail
  (with_reducible refine (U2.out _ (HSQ.out.fresh (hBd.trans (hS0.mono hBd.size)))).mono ?_); rintro e w6 ⟨rfl, hb⟩
  go_wp2_with fail
  refine hK _ _ (hS0.trans (hb.mono hS0.size)) ?_; clear hK K
  replace hS0 := hS0.trans (hb.mono hS0.size)
  clear hb
  repeat (first
    | (refine wpX_load0 rfl rfl _ _ rfl _ rfl _ rfl Try.underlying9 _ (fun w' h => (h.cell g9).trans d0) hS0 ?_; simp only [Act.put, List.setIfInBounds_toArray, List.set_cons_zero, List.set_cons_succ, List.getElem_toArray, List.getElem_cons_zero, List.getElem_cons_succ])
    | (refine wpX_load0 rfl rfl _ _ rfl _ rfl _ rfl Try.underlying24 _ (fun w' h => (h.cell g9).trans d1) hS0 ?_; simp only [Act.put, List.setIfInBounds_toArray, List.set_cons_zero, List.set_cons_succ, List.getElem_toArray, List.getElem_cons_zero, List.getElem_cons_succ])
    | (refine wpX_pure rfl rfl rfl ?_; intro K hK; go_big_quiet_op; refine hK _ ?_; clear hK K))
  refine wpX_nil ?_
  have k8 := k8.drew.below hS0 k8.lt
  have k9 := k9.drew.below hS0 k9.lt
  have hB := hBd.trans (hS0.mono hBd.size)
  obtain ⟨W2, HW2⟩ : ∃ u, Hid (w6 = u) := ⟨_, Lib.hid rfl⟩
  rw [HW2.out] at k8 k9 hB
  rw [HW2.out]
  clear d0 d1 hS0 g9 hBd
  have a0 : W2.cell? ⟨W.heap.size, 0, none⟩ = some (.string a) := (k8.cell 0).trans rfl
  have b0 : W2.cell? ⟨W.heap.size + 1, 0, none⟩ = some (.string b) := (k9.cell 0).trans rfl
  by_cases he : e1 = e2
  · subst he
    have he1 : ((e1 : Int) != (e1 : Int)) = false := by simp
    by_cases h0 : e1 = 0
    · subst h0
      by_cases hr : r1 = r2
      · have hre : (r1.toList == r2.toList) = true := by rw [hr]; exact beq_same _
        by_cases hab : a = b
        · have habe : (a.toList == b.toList) = true := by rw [hab]; exact beq_same _
          have hv := CN.out (fun h => h.2.2.2 hab)
          have HV2 := Lib.hid hv
          have HAB := Lib.hid hab
          have HRR := Lib.hid hr
          clear hv hab hr
          go_wp2_with fail
          go_ret3
          exact ⟨by rw [HV2.out]; rfl, hB⟩
        · have habe := beq_text_ne hab
          have hv := CY.out ⟨rfl, rfl, hr, hab⟩
          obtain ⟨i0, i1, w1, pz, pc1⟩ := Z1.out rfl
          obtain ⟨i2, i3, w2, qz, pc2⟩ := Z2.out rfl
          clear pc1 pc2 i2 i3
          have hmq : m = q := by rw [← HP.out, ← HQ.out, ← w1, ← w2]
          subst hmq
          have ei : ((i.toNat : Nat) : Int) = i := Int.toNat_of_nonneg i0
          have en : ((n.toNat : Nat) : Int) = n := Int.toNat_of_nonneg (by omega)
          rw [HP.out] at w1
          rw [HQ.out] at w2
          have hd := wd_hi w
          have s1 := fun W h => cSteps w i.toNat n.toNat a A m c p W ha HP.out h w1 (fun s hs => by have := pz s hs; omega) (by omega) (by omega)
          have s2 := fun W h => cSteps w i.toNat n.toNat b B m e qs W hb HQ.out h w2 (fun s hs => by have := qz s hs; omega) (by omega) (by omega)
          have x0z : (⟨#[0]⟩ ++ a : ByteArray).size ≤ 300000 := by rw [ByteArray.size_append]; have : (⟨#[0]⟩ : ByteArray).size = 1 := rfl; omega
          have y0z : (⟨#[0]⟩ ++ b : ByteArray).size ≤ 300000 := by rw [ByteArray.size_append]; have : (⟨#[0]⟩ : ByteArray).size = 1 := rfl; omega
          have sz1 := stepsL_size (wd w) hd (way i.toNat n.toNat) p (⟨#[0]⟩ ++ a) x0z (fun s hs => by have := pz s hs; omega)
          have sz2 := stepsL_size (wd w) hd (way i.toNat n.toNat) qs (⟨#[0]⟩ ++ b) y0z (fun s hs => by have := qz s hs; omega)
          have sl1 := stepsL_length (wd w) (way i.toNat n.toNat) p (⟨#[0]⟩ ++ a) (by rw [w1, HP.out])
          have sl2 := stepsL_length (wd w) (way i.toNat n.toNat) qs (⟨#[0]⟩ ++ b) (by rw [w2, HQ.out])
          rw [w1] at sl1 sl2
          simp only [ei, en] at s1 s2
          have fd := firstC_drop (wd w) (stepsL (wd w) (⟨#[0]⟩ ++ a) (way i.toNat n.toNat) p) (stepsL (wd w) (⟨#[0]⟩ ++ b) (way i.toNat n.toNat) qs)
          obtain ⟨XS, HXS⟩ : ∃ x, Hid (stepsL (wd w) (⟨#[0]⟩ ++ a) (way i.toNat n.toNat) p = x) := ⟨_, Lib.hid rfl⟩
          obtain ⟨YS, HYS⟩ : ∃ x, Hid (stepsL (wd w) (⟨#[0]⟩ ++ b) (way i.toNat n.toNat) qs = x) := ⟨_, Lib.hid rfl⟩
          simp only [HXS.out] at s1 sz1 sl1 fd hv
          simp only [HYS.out] at s2 sz2 sl2 fd hv
          have vl := fun x y W hx hy => cValid w x y W hx hy
          obtain ⟨d, HD⟩ : ∃ x, Hid (wd w = x) := ⟨_, Lib.hid rfl⟩
          simp only [HD.out] at vl fd hv
          have S1 := Lib.hid s1
          have S2 := Lib.hid s2
          have SZ1 := Lib.hid sz1
          have SZ2 := Lib.hid sz2
          have SL1 := Lib.hid sl1
          have SL2 := Lib.hid sl2
          have FD := Lib.hid fd
          have VL := Lib.hid vl
          have HV2 := Lib.hid hv
          have HRR := Lib.hid hr
          clear s1 s2 sz1 sz2 sl1 sl2 fd vl hv hr hab w1 w2 pz qz ei en x0z y0z
          go_wp2_with fail
          have hBd := hB.drew
          have g8 : W.heap.size < W2.drew.heap.size := k8.lt
          have g9 : W.heap.size + 1 < W2.drew.heap.size := k9.lt
          have r8 : W2.drew.rangeAt W.heap.size 0 [.string a, .slice A m c] := Blk.rng k8.drew
          have r9 : W2.drew.rangeAt (W.heap.size + 1) 0 [.string b, .slice B m e] := Blk.rng k9.drew
          have hS0 := Below.refl W2.drew.heap.size W2.drew
          refine wp_region_lexS (fun w' => Below W2.drew.heap.size W2.drew w') 0 [] (by kernel_rfl) (by kernel_rfl) hS0 ?_
          repeat (first
            | (refine wpX_load_mid rfl rfl 44 (.tmp 8) rfl W.heap.size 0 rfl [.string a, .slice A m c] _ (fun w' h j x hj => (h.cell g8).trans (r8 j x hj)) Try.underlying44 rfl claim_size hS0 ?_; simp only [Act.put, List.setIfInBounds_toArray, List.set_cons_zero, List.set_cons_succ, List.getElem_toArray, List.getElem_cons_zero, List.getElem_cons_succ])
            | (refine wpX_load_mid rfl rfl 44 (.tmp 9) rfl (W.heap.size + 1) 0 rfl [.string b, .slice B m e] _ (fun w' h j x hj => (h.cell g9).trans (r9 j x hj)) Try.underlying44 rfl claim_size hS0 ?_; simp only [Act.put, List.setIfInBounds_toArray, List.set_cons_zero, List.set_cons_succ, List.getElem_toArray, List.getElem_cons_zero, List.getElem_cons_succ])
            | (refine wpX_pure rfl rfl rfl ?_; intro K hK; go_big_quiet_op; refine hK _ ?_; clear hK K))
          refine wpX_eff rfl rfl ?_; intro K hK; go_wp2_with fail
          (with_reducible refine (S1.out _ (HSP.out.fresh (hBd.trans (hS0.mono hBd.size)))).mono ?_); rintro e w7 ⟨A7, c7, rfl, hc7, hs7, hb7⟩
          go_wp2_with fail
          refine hK _ _ (hS0.trans (hb7.mono hS0.size)) ?_; clear hK K
          replace hS0 := hS0.trans (hb7.mono hS0.size)
          have HS7 := Lib.hid hs7
          clear hb7 hs7
          repeat (first
            | (refine wpX_load_mid rfl rfl 44 (.tmp 8) rfl W.heap.size 0 rfl [.string a, .slice A m c] _ (fun w' h j x hj => (h.cell g8).trans (r8 j x hj)) Try.underlying44 rfl claim_size hS0 ?_; simp only [Act.put, List.setIfInBounds_toArray, List.set_cons_zero, List.set_cons_succ, List.getElem_toArray, List.getElem_cons_zero, List.getElem_cons_succ])
            | (refine wpX_load_mid rfl rfl 44 (.tmp 9) rfl (W.heap.size + 1) 0 rfl [.string b, .slice B m e] _ (fun w' h j x hj => (h.cell g9).trans (r9 j x hj)) Try.underlying44 rfl claim_size hS0 ?_; simp only [Act.put, List.setIfInBounds_toArray, List.set_cons_zero, List.set_cons_succ, List.getElem_toArray, List.getElem_cons_zero, List.getElem_cons_succ])
            | (refine wpX_pure rfl rfl rfl ?_; intro K hK; go_big_quiet_op; refine hK _ ?_; clear hK K))
          refine wpX_eff rfl rfl ?_; intro K hK; go_wp2_with fail
          (with_reducible refine (S2.out _ (HSQ.out.fresh (hBd.trans (hS0.mono hBd.size)))).mono ?_); rintro e w8 ⟨A8, c8, rfl, hc8, hs8, hb8⟩
          go_wp2_with fail
          refine hK _ _ (hS0.trans (hb8.mono hS0.size)) ?_; clear hK K
          replace hS0 := hS0.trans (hb8.mono hS0.size)
          have HS7 := Lib.hid (HS7.out.fresh hb8)
          have HS8 := Lib.hid hs8
          clear hb8 hs8
          repeat (first
            | (refine wpX_load_mid rfl rfl 44 (.tmp 8) rfl W.heap.size 0 rfl [.string a, .slice A m c] _ (fun w' h j x hj => (h.cell g8).trans (r8 j x hj)) Try.underlying44 rfl claim_size hS0 ?_; simp only [Act.put, List.setIfInBounds_toArray, List.set_cons_zero, List.set_cons_succ, List.getElem_toArray, List.getElem_cons_zero, List.getElem_cons_succ])
            | (refine wpX_load_mid rfl rfl 44 (.tmp 9) rfl (W.heap.size + 1) 0 rfl [.string b, .slice B m e] _ (fun w' h j x hj => (h.cell g9).trans (r9 j x hj)) Try.underlying44 rfl claim_size hS0 ?_; simp only [Act.put, List.setIfInBounds_toArray, List.set_cons_zero, List.set_cons_succ, List.getElem_toArray, List.getElem_cons_zero, List.getElem_cons_succ])
            | (refine wpX_pure rfl rfl rfl ?_; intro K hK; go_big_quiet_op; refine hK _ ?_; clear hK K))
          refine wpX_nil ?_
          have HB8 := Lib.hid (hBd.trans (hS0.mono hBd.size))
          clear hS0 hBd r8 r9 k8 k9 a0 b0 hB g8 g9
          go_wp2_with fail
          have hb0 := Below.refl w8.heap.size w8
          go_loopw [77] (fun u wr => ∃ k : Nat, u = .int .i64 k ∧ k ≤ m + 1 ∧ firstC d (XS.drop k) (YS.drop k) = V ∧ Below w8.heap.size w8 wr) (fun u _ => m + 1 - (intOf u).toNat)
          case atStart => exact ⟨0, rfl, by omega, by rw [List.drop_zero, List.drop_zero]; exact HV2.out.symm, hb0⟩
          case round =>
            clear hb0
            obtain ⟨k, rfl, hk, hf, hb⟩ := hrel
            have HF := Lib.hid hf
            have HB := Lib.hid hb
            clear hf hb
            by_cases hlt : k < m + 1
            · have hdk : decide ((k : Int) < (m : Int) + 1) = true := decide_eq_true (by omega)
              have hkI : (k : Int) < (m : Int) + 1 := by omega
              have hX := HS7.out.fresh HB.out
              have hY := HS8.out.fresh HB.out
              obtain ⟨g1, o1, rfl, c1⟩ := hX.cell_ k (by rw [SL1.out]; exact hlt)
              obtain ⟨g2, o2, rfl, c2⟩ := hY.cell_ k (by rw [SL2.out]; exact hlt)
              have hg1 : g1 < wr.heap.size := by
                obtain ⟨g', o', q1, q2, _⟩ := hX (by rw [SL1.out]; omega)
                injection q1 with q1; injection q1 with q1 _ _; omega
              have hg2 : g2 < wr.heap.size := by
                obtain ⟨g', o', q1, q2, _⟩ := hY (by rw [SL2.out]; omega)
                injection q1 with q1; injection q1 with q1 _ _; omega
              have f1 := FD.out k (by rw [SL1.out]; exact hlt) (by rw [SL2.out]; exact hlt)
              have x1 := SZ1.out _ (getD_mem (by rw [SL1.out]; exact hlt : k < XS.length))
              have y1 := SZ2.out _ (getD_mem (by rw [SL2.out]; exact hlt : k < YS.length))
              rw [HF.out] at f1
              obtain ⟨x, HX⟩ : ∃ v, Hid (XS.getD k ByteArray.empty = v) := ⟨_, Lib.hid rfl⟩
              obtain ⟨y, HY⟩ : ∃ v, Hid (YS.getD k ByteArray.empty = v) := ⟨_, Lib.hid rfl⟩
              rw [HX.out, HY.out] at f1
              rw [HX.out] at c1 x1
              rw [HY.out] at c2 y1
              have v1 := fun W => VL.out x y W (by omega) (by omega)
              have c1 : wr.drew.cell? ⟨g1, o1 + k, none⟩ = some (.string x) := c1
              have c2 : wr.drew.cell? ⟨g2, o2 + k, none⟩ = some (.string y) := c2
              have hg1 : g1 < wr.drew.heap.size := hg1
              have hg2 : g2 < wr.drew.heap.size := hg2
              cases hvv : validC d x y with
              | true =>
                rw [hvv, if_pos rfl] at f1
                rw [hvv] at v1
                have V1 := Lib.hid v1
                have F1 := Lib.hid f1
                clear v1 f1 hvv hX hY
                go_wp2_with fail
                have hS0 := Below.refl wr.drew.heap.size wr.drew
                refine wp_region_lexS (fun w' => Below wr.drew.heap.size wr.drew w') 0 [] (by kernel_rfl) (by kernel_rfl) hS0 ?_
                repeat (first
                  | (refine wpX_load0 rfl rfl _ _ rfl _ rfl _ rfl Try.underlying9 _ (fun w' h => (h.cell hg1).trans c1) hS0 ?_; simp only [Act.put, List.setIfInBounds_toArray, List.set_cons_zero, List.set_cons_succ, List.getElem_toArray, List.getElem_cons_zero, List.getElem_cons_succ])
                  | (refine wpX_load0 rfl rfl _ _ rfl _ rfl _ rfl Try.underlying9 _ (fun w' h => (h.cell hg2).trans c2) hS0 ?_; simp only [Act.put, List.setIfInBounds_toArray, List.set_cons_zero, List.set_cons_succ, List.getElem_toArray, List.getElem_cons_zero, List.getElem_cons_succ])
                  | (refine wpX_pure rfl rfl rfl ?_; intro K hK; go_big_quiet_op; refine hK _ ?_; clear hK K))
                refine wpX_eff rfl rfl ?_; intro K hK; go_wp2_with fail
                (with_reducible refine (V1.out _).mono ?_); rintro e w9 ⟨rfl, hb9⟩
                go_wp2_with fail
                refine hK _ _ hb9 ?_; clear hK K
                refine wpX_nil ?_
                have c3 : w9.drew.cell? ⟨g1, o1 + k, none⟩ = some (.string x) := (hb9.cell (p := ⟨g1, o1 + k, none⟩) hg1).trans c1
                have c4 : w9.drew.cell? ⟨g2, o2 + k, none⟩ = some (.string y) := (hb9.cell (p := ⟨g2, o2 + k, none⟩) hg2).trans c2
                have hBf := (HB8.out.trans ((HB.out.drew.trans (hb9.mono HB.out.drew.size)).mono HB8.out.size)).drew
                clear c1 c2 hS0 hb9
                go_wp2_with fail
                refine wp_region_lexX [] (by kernel_rfl) (by kernel_rfl) ?_
                repeat (first
                  | (refine wpX_pure rfl rfl rfl ?_; intro K hK; go_big_quiet_op; refine hK _ ?_; clear hK K)
                  | (refine wpX_load rfl rfl rfl ?_; intro K hK; go_big_quiet_op; refine hK _ ?_; clear hK K))
                refine wpX_nil ?_
                go_wp2_with fail
                go_ret3
                exact ⟨by rw [F1.out]; rfl, hBf⟩
              | false =>
                rw [hvv, if_neg (by decide)] at f1
                rw [hvv] at v1
                have V1 := Lib.hid v1
                have F1 := Lib.hid f1
                clear v1 f1 hvv hX hY
                go_wp2_with fail
                have hS0 := Below.refl wr.drew.heap.size wr.drew
                refine wp_region_lexS (fun w' => Below wr.drew.heap.size wr.drew w') 0 [] (by kernel_rfl) (by kernel_rfl) hS0 ?_
                repeat (first
                  | (refine wpX_load0 rfl rfl _ _ rfl _ rfl _ rfl Try.underlying9 _ (fun w' h => (h.cell hg1).trans c1) hS0 ?_; simp only [Act.put, List.setIfInBounds_toArray, List.set_cons_zero, List.set_cons_succ, List.getElem_toArray, List.getElem_cons_zero, List.getElem_cons_succ])
                  | (refine wpX_load0 rfl rfl _ _ rfl _ rfl _ rfl Try.underlying9 _ (fun w' h => (h.cell hg2).trans c2) hS0 ?_; simp only [Act.put, List.setIfInBounds_toArray, List.set_cons_zero, List.set_cons_succ, List.getElem_toArray, List.getElem_cons_zero, List.getElem_cons_succ])
                  | (refine wpX_pure rfl rfl rfl ?_; intro K hK; go_big_quiet_op; refine hK _ ?_; clear hK K))
                refine wpX_eff rfl rfl ?_; intro K hK; go_wp2_with fail
                (with_reducible refine (V1.out _).mono ?_); rintro e w9 ⟨rfl, hb9⟩
                go_wp2_with fail
                refine hK _ _ hb9 ?_; clear hK K
                refine wpX_nil ?_
                go_wp2_with fail
                go_roundw
                case rel => exact ⟨k + 1, by go_num, by omega, F1.out.symm, HB.out.drew.trans (hb9.mono HB.out.drew.size)⟩
                case measure => simp [intOf]; omega
            · have hdk : decide ((k : Int) < (m : Int) + 1) = false := decide_eq_false (by omega)
              have hf := HF.out
              have hxd : XS.drop k = [] := List.drop_of_length_le (by rw [SL1.out]; omega)
              rw [hxd, firstC_nil] at hf
              have HFF := Lib.hid hf
              clear hf hxd
              go_wp2_with fail
              go_ret3
              exact ⟨by rw [← HFF.out]; rfl, HB8.out.trans (HB.out.mono HB8.out.size)⟩
      · have hre := beq_text_ne hr
        have hv := CN.out (fun h => hr h.2.2.1)
        have HV2 := Lib.hid hv
        clear hv hr
        go_wp2_with fail
        go_ret3
        exact ⟨by rw [HV2.out]; rfl, hB⟩
    · have hv := CN.out (fun h => h0 h.1)
      have HV2 := Lib.hid hv
      have h0I : ((e1 : Int) != 0) = true := by simp; omega
      clear hv
      go_wp2_with fail
      go_ret3
      exact ⟨by rw [HV2.out]; rfl, hB⟩
  · have hv := CN.out (fun h => he (h.1.trans h.2.1.symm))
    have heI := neq_nat he
    have HV2 := Lib.hid hv
    clear hv
    go_wp2_with fail
    go_ret3
    exact ⟨by rw [HV2.out]; rfl, hB⟩
end Go.Proofs.Ytgkjpemgfbkejaa
namespace Go.Proofs.Ytgkjpemgfbkejaa
open Go.RowKit
set_option linter.unusedVariables false
set_option linter.unusedSimpArgs false

set_option maxRecDepth 100000 in
set_option maxHeartbeats 16000000 in
theorem crClaims (w i n : Int) (a b : ByteArray) (A B : Option Addr) (m c q e : Nat) (p qs : List ByteArray) (W : World) (ha : a.size ≤ 200000) (hb : b.size ≤ 200000) (hn : n ≤ 2305843009213693952)
    (hp : p.length = m) (hsp : Strs W A p) (hmc : m ≤ c) (hm6 : m ≤ 1000000) (hq : qs.length = q) (hsq : Strs W B qs) (hqe : q ≤ e) (hq6 : q ≤ 1000000) :
    Calls Try.prog 31 #[.int .i64 w, .int .i64 i, .int .i64 n, .string a, .string b, .slice A m c, .slice B q e] W fun e W' => e = .returned (oT (claimsC (wd w) i n a b p qs)) ∧ Below W.heap.size W W' := by
  have l1 := fun W => crLeaf w a W (by omega)
  have l2 := fun W => crLeaf w b W (by omega)
  have u1 := fun W h => crUpI w i n (mleaf (wd w) a) A m c p W hp h hmc hn (by omega)
  have u2 := fun W h => crUpI w i n (mleaf (wd w) b) B q e qs W hq h hqe hn (by omega)
  have cn := claimsC_no (wd w) i n a b p qs
  have cy := claimsC_yes (wd w) i n a b p qs
  have z1 := upI_zero (wd w) i n (mleaf (wd w) a) p
  have z2 := upI_zero (wd w) i n (mleaf (wd w) b) qs
  obtain ⟨LA, HLA⟩ : ∃ x, Hid (mleaf (wd w) a = x) := ⟨_, Lib.hid rfl⟩
  obtain ⟨LB, HLB⟩ : ∃ x, Hid (mleaf (wd w) b = x) := ⟨_, Lib.hid rfl⟩
  simp only [HLA.out, HLB.out] at l1 l2 u1 u2 cn cy z1 z2
  obtain ⟨R1, HR1⟩ : ∃ x, Hid (upI (wd w) i n LA p = x) := ⟨_, Lib.hid rfl⟩
  obtain ⟨R2, HR2⟩ : ∃ x, Hid (upI (wd w) i n LB qs = x) := ⟨_, Lib.hid rfl⟩
  obtain ⟨V, HV⟩ : ∃ x, Hid (claimsC (wd w) i n a b p qs = x) := ⟨_, Lib.hid rfl⟩
  simp only [HR1.out, HR2.out, HV.out] at u1 u2 cn cy z1 z2
  rw [HV.out]
  obtain ⟨r1, e1⟩ := R1
  obtain ⟨r2, e2⟩ := R2
  dsimp only at u1 u2 cn cy z1 z2
  have L1 := Lib.hid l1
  have L2 := Lib.hid l2
  have U1 := Lib.hid u1
  have U2 := Lib.hid u2
  have CN := Lib.hid cn
  have CY := Lib.hid cy
  have Z1 := Lib.hid z1
  have Z2 := Lib.hid z2
  have HP := Lib.hid hp
  have HQ := Lib.hid hq
  have HSP := Lib.hid hsp
  have HSQ := Lib.hid hsq
  clear l1 l2 u1 u2 cn cy z1 z2 hp hq hsp hsq
  go_enter Try.func31, Try.ntmps31
  go_wp2_with fail
  (with_reducible refine (L1.out _).mono ?_); rintro e w1 ⟨rfl, hb1⟩
  go_wp2_with fail
  (with_reducible refine (U1.out _ (HSP.out.fresh hb1)).mono ?_); rintro e w2 ⟨rfl, hb2⟩
  have hB2 := hb1.trans (hb2.mono hb1.size)
  clear hb1 hb2
  go_wp2_with fail
  (with_reducible refine (L2.out _).mono ?_); rintro e w3 ⟨rfl, hb3⟩
  have hB3 := hB2.trans (hb3.mono hB2.size)
  clear hB2 hb3
  go_wp2_with fail
  (with_reducible refine (U2.out _ (HSQ.out.fresh hB3)).mono ?_); rintro e w4 ⟨rfl, hb4⟩
  have hB := hB3.trans (hb4.mono hB3.size)
  clear hB3 hb4
  by_cases h0 : e1 = 0
  · subst h0
    by_cases h1 : e2 = 0
    · subst h1
      by_cases hr : r1 = r2
      · have hre : (r1.toList == r2.toList) = true := by rw [hr]; exact beq_same _
        by_cases hab : a = b
        · have habe : (a.toList == b.toList) = true := by rw [hab]; exact beq_same _
          have hv := CN.out (fun h => h.2.2.2 hab)
          have HV2 := Lib.hid hv
          have HAB := Lib.hid hab
          have HRR := Lib.hid hr
          clear hv hab hr
          go_wp2_with fail
          go_ret3
          exact ⟨by rw [HV2.out]; rfl, hB⟩
        · have habe := beq_text_ne hab
          have hv := CY.out ⟨rfl, rfl, hr, hab⟩
          obtain ⟨i0, i1, w1, pz, pc1⟩ := Z1.out rfl
          obtain ⟨i2, i3, w2, qz, pc2⟩ := Z2.out rfl
          clear pc1 pc2 i2 i3
          have hmq : m = q := by rw [← HP.out, ← HQ.out, ← w1, ← w2]
          subst hmq
          obtain ⟨I, rfl⟩ : ∃ I : Nat, i = (I : Int) := ⟨i.toNat, (Int.toNat_of_nonneg i0).symm⟩
          obtain ⟨N, rfl⟩ : ∃ N : Nat, n = (N : Int) := ⟨n.toNat, (Int.toNat_of_nonneg (by omega)).symm⟩
          rw [Int.toNat_natCast, Int.toNat_natCast] at w1 w2 hv
          rw [HP.out] at w1
          rw [HQ.out] at w2
          have hd := wd_hi w
          have wy := fun W => crWay N I W (by omega) (by omega)
          have hbits := way_bits 61 I N (by omega)
          have x0z : (⟨#[0]⟩ ++ a : ByteArray).size ≤ 300000 := by rw [ByteArray.size_append]; have : (⟨#[0]⟩ : ByteArray).size = 1 := rfl; omega
          have y0z : (⟨#[0]⟩ ++ b : ByteArray).size ≤ 300000 := by rw [ByteArray.size_append]; have : (⟨#[0]⟩ : ByteArray).size = 1 := rfl; omega
          have pz32 : ∀ s ∈ p, s.size ≤ 32 := fun s hs => by have := pz s hs; omega
          have qz32 : ∀ s ∈ qs, s.size ≤ 32 := fun s hs => by have := qz s hs; omega
          have lz1 := fun k => lastX_size (wd w) hd ((way I N).take k) (p.take k) (⟨#[0]⟩ ++ a) x0z (fun s hs => pz32 s (List.mem_of_mem_take hs))
          have lz2 := fun k => lastX_size (wd w) hd ((way I N).take k) (qs.take k) (⟨#[0]⟩ ++ b) y0z (fun s hs => qz32 s (List.mem_of_mem_take hs))
          have sl1 := stepsL_length (wd w) (way I N) p (⟨#[0]⟩ ++ a) (by rw [w1, HP.out])
          have sl2 := stepsL_length (wd w) (way I N) qs (⟨#[0]⟩ ++ b) (by rw [w2, HQ.out])
          have gd1 := fun k h => stepsL_getD (wd w) (way I N) p (⟨#[0]⟩ ++ a) k (by rw [w1, HP.out]) h
          have gd2 := fun k h => stepsL_getD (wd w) (way I N) qs (⟨#[0]⟩ ++ b) k (by rw [w2, HQ.out]) h
          have st1 := fun k h => (take_step (wd w) (⟨#[0]⟩ ++ a) (way I N) p k (by rw [w1, HP.out]) h).2
          have st2 := fun k h => (take_step (wd w) (⟨#[0]⟩ ++ b) (way I N) qs k (by rw [w2, HQ.out]) h).2
          rw [w1] at sl1 sl2
          have fd := firstC_drop (wd w) (stepsL (wd w) (⟨#[0]⟩ ++ a) (way I N) p) (stepsL (wd w) (⟨#[0]⟩ ++ b) (way I N) qs)
          obtain ⟨XS, HXS⟩ : ∃ x, Hid (stepsL (wd w) (⟨#[0]⟩ ++ a) (way I N) p = x) := ⟨_, Lib.hid rfl⟩
          obtain ⟨YS, HYS⟩ : ∃ x, Hid (stepsL (wd w) (⟨#[0]⟩ ++ b) (way I N) qs = x) := ⟨_, Lib.hid rfl⟩
          simp only [HXS.out] at sl1 fd hv gd1
          simp only [HYS.out] at sl2 fd hv gd2
          obtain ⟨x0, HX0⟩ : ∃ x, Hid ((⟨#[0]⟩ ++ a : ByteArray) = x) := ⟨_, Lib.hid rfl⟩
          obtain ⟨y0, HY0⟩ : ∃ x, Hid ((⟨#[0]⟩ ++ b : ByteArray) = x) := ⟨_, Lib.hid rfl⟩
          simp only [HX0.out] at lz1 st1 gd1 x0z
          simp only [HY0.out] at lz2 st2 gd2 y0z
          have vl := fun x y W hx hy => crValid w x y W hx hy
          have sm := fun x W (h : x.size ≤ 300000) => crMSum w x W (by omega)
          have smz := fun x => msum_size (wd w) x hd
          obtain ⟨d, HD⟩ : ∃ x, Hid (wd w = x) := ⟨_, Lib.hid rfl⟩
          obtain ⟨bs, HBS⟩ : ∃ x, Hid (way I N = x) := ⟨_, Lib.hid rfl⟩
          simp only [HD.out, HBS.out] at vl fd hv lz1 lz2 st1 st2 gd1 gd2 sm smz hd wy w1 w2 hbits
          rw [w1] at hbits
          have WY := Lib.hid wy
          have SL1 := Lib.hid sl1
          have SL2 := Lib.hid sl2
          have GD1 := Lib.hid gd1
          have GD2 := Lib.hid gd2
          have ST1 := Lib.hid st1
          have ST2 := Lib.hid st2
          have LZ1 := Lib.hid lz1
          have LZ2 := Lib.hid lz2
          have FD := Lib.hid fd
          have VL := Lib.hid vl
          have SM := Lib.hid sm
          have SMZ := Lib.hid smz
          have HV2 := Lib.hid hv
          have HRR := Lib.hid hr
          have HW := Lib.hid w1
          have PZ := Lib.hid pz32
          have QZ := Lib.hid qz32
          have haI : (a.size : Int) ≤ 200000 := by omega
          have hbI : (b.size : Int) ≤ 200000 := by omega
          clear wy sl1 sl2 gd1 gd2 st1 st2 lz1 lz2 fd vl sm smz hv hr hab w1 w2 pz qz pz32 qz32
          go_wp2_with fail
          (with_reducible refine (WY.out _).mono ?_); rintro e w5 ⟨v, rfl, hV, hb5⟩
          obtain ⟨A2, c2, rfl, hc2⟩ := hV.open_
          rw [HW.out] at hV hc2 ⊢
          have HRB := Lib.hid hV.reads
          have hB5 := hB.trans (hb5.mono hB.size)
          have HB5 := Lib.hid hB5
          clear hV hb5 hB hB5
          go_wp2_with fail
          rw [HX0.out, HY0.out]
          have hb0 := Below.refl w5.heap.size w5
          go_loopw [22, 23, 24] (fun u v u3 wr => ∃ (k : Nat) (x y : ByteArray), u = .string x ∧ v = .string y ∧ u3 = .int .i64 k ∧ k ≤ m + 1 ∧ (k ≤ m → x = lastX d x0 (bs.take k) (p.take k) ∧ y = lastX d y0 (bs.take k) (qs.take k)) ∧
            firstC d (XS.drop k) (YS.drop k) = V ∧ Below w5.heap.size w5 wr) (fun _ _ u _ => m + 1 - (intOf u).toNat)
          case atStart => exact ⟨0, x0, y0, rfl, rfl, rfl, by omega, fun _ => ⟨by rw [List.take_zero, lastX_nil], by rw [List.take_zero, lastX_nil]⟩, by rw [List.drop_zero, List.drop_zero]; exact HV2.out.symm, hb0⟩
          case round =>
            clear hb0
            obtain ⟨k, x, y, rfl, rfl, rfl, hk, hxy, hf, hb⟩ := hrel
            have HF := Lib.hid hf
            have HB := Lib.hid hb
            clear hf hb
            by_cases hlt : k ≤ m
            · have hdk : decide ((k : Int) ≤ (m : Int)) = true := decide_eq_true (by omega)
              obtain ⟨hx, hy⟩ := hxy hlt
              have xz : x.size ≤ 300000 := by rw [hx]; exact LZ1.out k
              have yz : y.size ≤ 300000 := by rw [hy]; exact LZ2.out k
              have f1 := FD.out k (by rw [SL1.out]; omega) (by rw [SL2.out]; omega)
              have q1 := GD1.out k (by rw [HW.out]; exact hlt)
              have q2 := GD2.out k (by rw [HW.out]; exact hlt)
              rw [HF.out, q1, q2, ← hx, ← hy] at f1
              have HX := Lib.hid hx
              have HY := Lib.hid hy
              have v1 := fun W => VL.out x y W (by omega) (by omega)
              clear hx hy q1 q2 hxy
              cases hvv : validC d x y with
              | true =>
                rw [hvv, if_pos rfl] at f1
                rw [hvv] at v1
                have V1 := Lib.hid v1
                have F1 := Lib.hid f1
                have hBf := HB5.out.trans (HB.out.mono HB5.out.size)
                clear v1 f1 hvv
                go_wp2_with fail
                (with_reducible refine (V1.out _).mono ?_); rintro e w9 ⟨rfl, hb9⟩
                go_wp2_with fail
                go_ret3
                exact ⟨by rw [F1.out]; rfl, hBf.trans (hb9.mono hBf.size)⟩
              | false =>
                rw [hvv, if_neg (by decide)] at f1
                rw [hvv] at v1
                have V1 := Lib.hid v1
                have F1 := Lib.hid f1
                clear v1 f1 hvv
                by_cases hkm : k < m
                · have hdm : decide ((k : Int) < (m : Int)) = true := decide_eq_true (by omega)
                  have hkI : (k : Int) < (m : Int) := by omega
                  have st1 := ST1.out k (by rw [HW.out]; exact hkm)
                  have st2 := ST2.out k (by rw [HW.out]; exact hkm)
                  rw [← HX.out] at st1
                  rw [← HY.out] at st2
                  have sz1 := PZ.out _ (getD_mem (by rw [HP.out]; exact hkm : k < p.length))
                  have sz2 := QZ.out _ (getD_mem (by rw [HQ.out]; exact hkm : k < qs.length))
                  have hsm1 := fun W => SM.out x W xz
                  have hsm2 := fun W => SM.out y W yz
                  have hyz1 := SMZ.out x
                  have hyz2 := SMZ.out y
                  obtain ⟨s, HSS⟩ : ∃ v, Hid (p.getD k ByteArray.empty = v) := ⟨_, Lib.hid rfl⟩
                  obtain ⟨t, HTT⟩ : ∃ v, Hid (qs.getD k ByteArray.empty = v) := ⟨_, Lib.hid rfl⟩
                  obtain ⟨bb, HBB⟩ : ∃ v, Hid (bs.getD k false = v) := ⟨_, Lib.hid rfl⟩
                  rw [HSS.out, HBB.out] at st1
                  rw [HTT.out, HBB.out] at st2
                  rw [HSS.out] at sz1
                  rw [HTT.out] at sz2
                  have n1 := nextX_true d s x
                  have n2 := nextX_false d s x
                  have n3 := nextX_true d t y
                  have n4 := nextX_false d t y
                  obtain ⟨P, HPP⟩ : ∃ v, Hid (msum d x = v) := ⟨_, Lib.hid rfl⟩
                  obtain ⟨Q, HQQ⟩ : ∃ v, Hid (msum d y = v) := ⟨_, Lib.hid rfl⟩
                  simp only [HPP.out] at hsm1 hyz1 n1 n2
                  simp only [HQQ.out] at hsm2 hyz2 n3 n4
                  have HS1 := Lib.hid hsm1
                  have HS2 := Lib.hid hsm2
                  have N1 := Lib.hid n1
                  have N2 := Lib.hid n2
                  have N3 := Lib.hid n3
                  have N4 := Lib.hid n4
                  have T1 := Lib.hid st1
                  have T2 := Lib.hid st2
                  have sI : (s.size : Int) ≤ 32 := by omega
                  have tI : (t.size : Int) ≤ 32 := by omega
                  have PI : (P.size : Int) ≤ 32 := by omega
                  have QI : (Q.size : Int) ≤ 32 := by omega
                  clear hsm1 hsm2 n1 n2 n3 n4 st1 st2
                  go_wp2_with fail
                  (with_reducible refine (V1.out _).mono ?_); rintro e w9 ⟨rfl, hb9⟩
                  have hB9 := HB.out.trans (hb9.mono HB.out.size)
                  have hW9 := HB5.out.trans (hB9.mono HB5.out.size)
                  obtain ⟨ad, rfl, cb⟩ := (HRB.out.below hB9).bool_ k (by rw [HW.out]; exact hkm)
                  rw [HBB.out] at cb
                  have hX := HSP.out.fresh hW9
                  have hY := HSQ.out.fresh hW9
                  obtain ⟨g1, o1, rfl, d1⟩ := hX.cell_ k (by rw [HP.out]; exact hkm)
                  obtain ⟨g2, o2, rfl, d2⟩ := hY.cell_ k (by rw [HQ.out]; exact hkm)
                  have hg1 : g1 < w9.heap.size := by
                    obtain ⟨g', o', q1, q2, _⟩ := hX (by rw [HP.out]; omega)
                    injection q1 with q1; injection q1 with q1 _ _; omega
                  have hg2 : g2 < w9.heap.size := by
                    obtain ⟨g', o', q1, q2, _⟩ := hY (by rw [HQ.out]; omega)
                    injection q1 with q1; injection q1 with q1 _ _; omega
                  rw [HSS.out] at d1
                  rw [HTT.out] at d2
                  have HB9 := Lib.hid hB9
                  clear hb9 hW9 hX hY hB9
                  cases bb with
                  | true =>
                    go_wp2_with fail
                    have hS0 := Below.refl w9.drew.heap.size w9.drew
                    have lg1 : g1 < w9.drew.heap.size := hg1
                    have d1' : w9.drew.cell? ⟨g1, o1 + k, none⟩ = some (.string s) := d1
                    refine wp_region_lexS (fun w' => Below w9.drew.heap.size w9.drew w') 0 [] (by kernel_rfl) (by kernel_rfl) hS0 ?_
                    repeat (first
                      | (refine wpX_load0 rfl rfl _ _ rfl _ rfl _ rfl Try.underlying9 _ (fun w' h => (h.cell lg1).trans d1') hS0 ?_; simp only [Act.put, List.setIfInBounds_toArray, List.set_cons_zero, List.set_cons_succ, List.getElem_toArray, List.getElem_cons_zero, List.getElem_cons_succ])
                      | (refine wpX_pure rfl rfl rfl ?_; intro K hK; go_big_quiet_op; refine hK _ ?_; clear hK K))
                    refine wpX_eff rfl rfl ?_; intro K hK; go_wp2_with fail
                    (with_reducible refine (HS1.out _).mono ?_); rintro e w10 ⟨rfl, hb10⟩
                    go_wp2_with fail
                    refine hK _ _ (hS0.trans (hb10.mono hS0.size)) ?_; clear hK K
                    replace hS0 := hS0.trans (hb10.mono hS0.size)
                    repeat (first
                      | (refine wpX_load0 rfl rfl _ _ rfl _ rfl _ rfl Try.underlying9 _ (fun w' h => (h.cell lg1).trans d1') hS0 ?_; simp only [Act.put, List.setIfInBounds_toArray, List.set_cons_zero, List.set_cons_succ, List.getElem_toArray, List.getElem_cons_zero, List.getElem_cons_succ])
                      | (refine wpX_pure rfl rfl rfl ?_; intro K hK; go_big_quiet_op; refine hK _ ?_; clear hK K))
                    refine wpX_nil ?_
                    have hB10 := HB9.out.drew.trans (hS0.mono HB9.out.drew.size)
                    have d2' : w10.drew.cell? ⟨g2, o2 + k, none⟩ = some (.string t) := (hb10.cell (p := ⟨g2, o2 + k, none⟩) hg2).trans d2
                    have lg2 : g2 < w10.drew.heap.size := Nat.lt_of_lt_of_le hg2 hb10.size
                    clear hS0 hb10 d1' lg1
                    go_wp2_with fail
                    have hS0 := Below.refl w10.drew.heap.size w10.drew
                    refine wp_region_lexS (fun w' => Below w10.drew.heap.size w10.drew w') 0 [] (by kernel_rfl) (by kernel_rfl) hS0 ?_
                    repeat (first
                      | (refine wpX_load0 rfl rfl _ _ rfl _ rfl _ rfl Try.underlying9 _ (fun w' h => (h.cell lg2).trans d2') hS0 ?_; simp only [Act.put, List.setIfInBounds_toArray, List.set_cons_zero, List.set_cons_succ, List.getElem_toArray, List.getElem_cons_zero, List.getElem_cons_succ])
                      | (refine wpX_pure rfl rfl rfl ?_; intro K hK; go_big_quiet_op; refine hK _ ?_; clear hK K))
                    refine wpX_eff rfl rfl ?_; intro K hK; go_wp2_with fail
                    (with_reducible refine (HS2.out _).mono ?_); rintro e w11 ⟨rfl, hb11⟩
                    go_wp2_with fail
                    refine hK _ _ (hS0.trans (hb11.mono hS0.size)) ?_; clear hK K
                    replace hS0 := hS0.trans (hb11.mono hS0.size)
                    repeat (first
                      | (refine wpX_load0 rfl rfl _ _ rfl _ rfl _ rfl Try.underlying9 _ (fun w' h => (h.cell lg2).trans d2') hS0 ?_; simp only [Act.put, List.setIfInBounds_toArray, List.set_cons_zero, List.set_cons_succ, List.getElem_toArray, List.getElem_cons_zero, List.getElem_cons_succ])
                      | (refine wpX_pure rfl rfl rfl ?_; intro K hK; go_big_quiet_op; refine hK _ ?_; clear hK K))
                    refine wpX_nil ?_
                    go_wp2_with fail
                    go_roundw
                    case rel => exact ⟨k + 1, _, _, rfl, rfl, by go_num, by omega, fun _ => ⟨by rw [T1.out, N1.out], by rw [T2.out, N3.out]⟩, F1.out.symm, hB10.drew.trans (hS0.mono hB10.drew.size)⟩
                    case measure => simp [intOf]; omega
                  | false =>
                    go_wp2_with fail
                    have hS0 := Below.refl w9.drew.heap.size w9.drew
                    have lg1 : g1 < w9.drew.heap.size := hg1
                    have d1' : w9.drew.cell? ⟨g1, o1 + k, none⟩ = some (.string s) := d1
                    refine wp_region_lexS (fun w' => Below w9.drew.heap.size w9.drew w') 0 [] (by kernel_rfl) (by kernel_rfl) hS0 ?_
                    repeat (first
                      | (refine wpX_load0 rfl rfl _ _ rfl _ rfl _ rfl Try.underlying9 _ (fun w' h => (h.cell lg1).trans d1') hS0 ?_; simp only [Act.put, List.setIfInBounds_toArray, List.set_cons_zero, List.set_cons_succ, List.getElem_toArray, List.getElem_cons_zero, List.getElem_cons_succ])
                      | (refine wpX_pure rfl rfl rfl ?_; intro K hK; go_big_quiet_op; refine hK _ ?_; clear hK K))
                    refine wpX_eff rfl rfl ?_; intro K hK; go_wp2_with fail
                    (with_reducible refine (HS1.out _).mono ?_); rintro e w10 ⟨rfl, hb10⟩
                    go_wp2_with fail
                    refine hK _ _ (hS0.trans (hb10.mono hS0.size)) ?_; clear hK K
                    replace hS0 := hS0.trans (hb10.mono hS0.size)
                    repeat (first
                      | (refine wpX_load0 rfl rfl _ _ rfl _ rfl _ rfl Try.underlying9 _ (fun w' h => (h.cell lg1).trans d1') hS0 ?_; simp only [Act.put, List.setIfInBounds_toArray, List.set_cons_zero, List.set_cons_succ, List.getElem_toArray, List.getElem_cons_zero, List.getElem_cons_succ])
                      | (refine wpX_pure rfl rfl rfl ?_; intro K hK; go_big_quiet_op; refine hK _ ?_; clear hK K))
                    refine wpX_nil ?_
                    have hB10 := HB9.out.drew.trans (hS0.mono HB9.out.drew.size)
                    have d2' : w10.drew.cell? ⟨g2, o2 + k, none⟩ = some (.string t) := (hb10.cell (p := ⟨g2, o2 + k, none⟩) hg2).trans d2
                    have lg2 : g2 < w10.drew.heap.size := Nat.lt_of_lt_of_le hg2 hb10.size
                    clear hS0 hb10 d1' lg1
                    go_wp2_with fail
                    have hS0 := Below.refl w10.drew.heap.size w10.drew
                    refine wp_region_lexS (fun w' => Below w10.drew.heap.size w10.drew w') 0 [] (by kernel_rfl) (by kernel_rfl) hS0 ?_
                    repeat (first
                      | (refine wpX_load0 rfl rfl _ _ rfl _ rfl _ rfl Try.underlying9 _ (fun w' h => (h.cell lg2).trans d2') hS0 ?_; simp only [Act.put, List.setIfInBounds_toArray, List.set_cons_zero, List.set_cons_succ, List.getElem_toArray, List.getElem_cons_zero, List.getElem_cons_succ])
                      | (refine wpX_pure rfl rfl rfl ?_; intro K hK; go_big_quiet_op; refine hK _ ?_; clear hK K))
                    refine wpX_eff rfl rfl ?_; intro K hK; go_wp2_with fail
                    (with_reducible refine (HS2.out _).mono ?_); rintro e w11 ⟨rfl, hb11⟩
                    go_wp2_with fail
                    refine hK _ _ (hS0.trans (hb11.mono hS0.size)) ?_; clear hK K
                    replace hS0 := hS0.trans (hb11.mono hS0.size)
                    repeat (first
                      | (refine wpX_load0 rfl rfl _ _ rfl _ rfl _ rfl Try.underlying9 _ (fun w' h => (h.cell lg2).trans d2') hS0 ?_; simp only [Act.put, List.setIfInBounds_toArray, List.set_cons_zero, List.set_cons_succ, List.getElem_toArray, List.getElem_cons_zero, List.getElem_cons_succ])
                      | (refine wpX_pure rfl rfl rfl ?_; intro K hK; go_big_quiet_op; refine hK _ ?_; clear hK K))
                    refine wpX_nil ?_
                    go_wp2_with fail
                    go_roundw
                    case rel => exact ⟨k + 1, _, _, rfl, rfl, by go_num, by omega, fun _ => ⟨by rw [T1.out, N2.out], by rw [T2.out, N4.out]⟩, F1.out.symm, hB10.drew.trans (hS0.mono hB10.drew.size)⟩
                    case measure => simp [intOf]; omega
                · have hdm : decide ((k : Int) < (m : Int)) = false := decide_eq_false (by omega)
                  go_wp2_with fail
                  (with_reducible refine (V1.out _).mono ?_); rintro e w9 ⟨rfl, hb9⟩
                  go_wp2_with fail
                  go_roundw
                  case rel => exact ⟨k + 1, x, y, rfl, rfl, by go_num, by omega, fun h => absurd h (by omega), F1.out.symm, HB.out.trans (hb9.mono HB.out.size)⟩
                  case measure => simp [intOf]; omega
            · have hdk : decide ((k : Int) ≤ (m : Int)) = false := decide_eq_false (by omega)
              have hf := HF.out
              have hxd : XS.drop k = [] := List.drop_of_length_le (by rw [SL1.out]; omega)
              rw [hxd, firstC_nil] at hf
              have HFF := Lib.hid hf
              clear hf hxd hxy
              go_wp2_with fail
              go_ret3
              exact ⟨by rw [← HFF.out]; rfl, HB5.out.trans (HB.out.mono HB5.out.size)⟩
      · have hre := beq_text_ne hr
        have hv := CN.out (fun h => hr h.2.2.1)
        have HV2 := Lib.hid hv
        clear hv hr
        go_wp2_with fail
        go_ret3
        exact ⟨by rw [HV2.out]; rfl, hB⟩
    · have hv := CN.out (fun h => h1 h.2.1)
      have HV2 := Lib.hid hv
      have h0I : ((e2 : Int) != 0) = true := by simp; omega
      clear hv
      go_wp2_with fail
      go_ret3
      exact ⟨by rw [HV2.out]; rfl, hB⟩
  · have hv := CN.out (fun h => h0 h.1)
    have HV2 := Lib.hid hv
    have h0I : ((e1 : Int) != 0) = true := by simp; omega
    clear hv
    go_wp2_with fail
    go_ret3
    exact ⟨by rw [HV2.out]; rfl, hB⟩
end Go.Proofs.Ytgkjpemgfbkejaa
namespace Go.Proofs.Ytgkjpemgfbkejaa
open Go.RowKit
set_option linter.unusedVariables false
set_option linter.unusedSimpArgs false

set_option maxRecDepth 100000 in
set_option maxHeartbeats 4000000 in
theorem clashClaims_walk {w : World} (k : Int) (hk : (Lit.int .i64 k).wf = true) (i : Int) (hi : (Lit.int .i64 i).wf = true) (n : Int) (hn : (Lit.int .i64 n).wf = true) (a : ByteArray) (ha : a.size ≤ reachBytes) (b : ByteArray) (hb : b.size ≤ reachBytes) (v1 : Value) (s1 : List ByteArray) (hv1 : StrsIn w v1 s1) (v2 : Value) (s2 : List ByteArray) (hv2 : StrsIn w v2 s2) :
    Calls Try.prog 8 #[.int .i64 k, .int .i64 i, .int .i64 n, .string a, .string b, v1, v2] w fun e w' => e = .returned (.bool true) ∧ Below w.heap.size w w' := by
  have h0 := cFewV hv1
  have h1 := cFewV hv2
  have H0 := Lib.hid h0
  have H1 := Lib.hid h1
  have ha2 : a.size ≤ 140737488355328 := Nat.le_trans ha (by decide)
  have hb2 : b.size ≤ 140737488355328 := Nat.le_trans hb (by decide)
  have hn2 := wf_i64 hn
  clear h0 h1 hv1 hv2 hk hi hn ha hb
  go_enter Try.func8, Try.ntmps8
  go_wp2_with fail
  (with_reducible refine H0.out.mono ?_); rintro e w1 ⟨A, m, c, p, rfl, hp, hsp, hmc, hm, hzp, rfl⟩
  go_wp2_with fail
  (with_reducible refine H1.out.mono ?_); rintro e w1 ⟨B, q, d, qs, rfl, hq, hsq, hqd, hq7, hzq, rfl⟩
  clear H0 H1 hzp hzq
  by_cases ha3 : a.size ≤ 2000
  · have d1 : decide ((2000 : Int) < (a.size : Int)) = false := decide_eq_false (by omega)
    by_cases hb3 : b.size ≤ 2000
    · have d2 : decide ((2000 : Int) < (b.size : Int)) = false := decide_eq_false (by omega)
      have c1 := fun (N : Int) (h : N ≤ 4096) => cClaims k i N a b A B m c q d p qs w (by omega) (by omega) (by omega) hp hsp (by omega) hq hsq (by omega)
      have c2 := fun (N : Int) (h : N ≤ 4096) W h1 h2 => crClaims k i N a b A B m c q d p qs W (by omega) (by omega) (by omega) hp h1 hmc (by omega) hq h2 hqd (by omega)
      have HSP := Lib.hid hsp
      have HSQ := Lib.hid hsq
      by_cases hn3 : 4096 < n
      · have d3 : decide ((4096 : Int) < n) = true := decide_eq_true hn3
        have had := and_4095 n
        have hm1 := Int.emod_nonneg n (show (4096 : Int) ≠ 0 by decide)
        have hm2 := Int.emod_lt_of_pos n (show (0 : Int) < 4096 by decide)
        obtain ⟨N, HN⟩ : ∃ x, n % 4096 = x := ⟨_, rfl⟩
        rw [HN] at had hm1 hm2
        have k1 := c1 N (by omega)
        have k2 := c2 N (by omega)
        obtain ⟨V, HV⟩ : ∃ x, Hid (claimsC (wd k) i N a b p qs = x) := ⟨_, Lib.hid rfl⟩
        simp only [HV.out] at k1 k2
        obtain ⟨x, y, bb, hv⟩ := oT_form V
        simp only [hv] at k1 k2
        have K1 := Lib.hid k1
        have K2 := Lib.hid k2
        have hxx := beq_same x
        have hyy := beq_same y
        have hbb : (bb == bb) = true := by simp
        clear c1 c2 k1 k2 hv hsp hsq hp hq HN
        go_wp2_with fail
        (with_reducible refine K1.out.mono ?_); rintro e w1 ⟨rfl, hb1⟩
        go_wp2_with fail
        (with_reducible refine (K2.out _ (HSP.out.fresh hb1) (HSQ.out.fresh hb1)).mono ?_); rintro e w2 ⟨rfl, hb2⟩
        have q2 := hb1.trans (hb2.mono hb1.size)
        clear hb1 hb2
        go_wp2_with fail
        (with_reducible refine (cAwake17 _).mono ?_); rintro e w4 ⟨rfl, hb4⟩
        go_wp2_with fail
        go_ret
        exact ⟨rfl, q2.trans (hb4.mono q2.size)⟩
      · have d3 : decide ((4096 : Int) < n) = false := decide_eq_false hn3
        have k1 := c1 n (by omega)
        have k2 := c2 n (by omega)
        obtain ⟨V, HV⟩ : ∃ x, Hid (claimsC (wd k) i n a b p qs = x) := ⟨_, Lib.hid rfl⟩
        simp only [HV.out] at k1 k2
        obtain ⟨x, y, bb, hv⟩ := oT_form V
        simp only [hv] at k1 k2
        have K1 := Lib.hid k1
        have K2 := Lib.hid k2
        have hxx := beq_same x
        have hyy := beq_same y
        have hbb : (bb == bb) = true := by simp
        clear c1 c2 k1 k2 hv hsp hsq hp hq
        go_wp2_with fail
        (with_reducible refine K1.out.mono ?_); rintro e w1 ⟨rfl, hb1⟩
        go_wp2_with fail
        (with_reducible refine (K2.out _ (HSP.out.fresh hb1) (HSQ.out.fresh hb1)).mono ?_); rintro e w2 ⟨rfl, hb2⟩
        have q2 := hb1.trans (hb2.mono hb1.size)
        clear hb1 hb2
        go_wp2_with fail
        (with_reducible refine (cAwake17 _).mono ?_); rintro e w4 ⟨rfl, hb4⟩
        go_wp2_with fail
        go_ret
        exact ⟨rfl, q2.trans (hb4.mono q2.size)⟩
    · have d2 : decide ((2000 : Int) < (b.size : Int)) = true := decide_eq_true (by omega)
      go_wp2_with fail
      (with_reducible refine (cAwake17 _).mono ?_); rintro e w4 ⟨rfl, hb4⟩
      go_wp2_with fail
      go_ret
      exact ⟨rfl, hb4⟩
  · have d1 : decide ((2000 : Int) < (a.size : Int)) = true := decide_eq_true (by omega)
    go_wp2_with fail
    (with_reducible refine (cAwake17 _).mono ?_); rintro e w4 ⟨rfl, hb4⟩
    go_wp2_with fail
    go_ret
    exact ⟨rfl, hb4⟩
theorem firstC_mem (d : Nat) : ∀ (xs ys : List ByteArray) (r : ByteArray × ByteArray), firstC d xs ys = some r → r.1 ∈ xs ∧ r.2 ∈ ys
  | x :: xs, y :: ys, r, h => by
    rw [firstC_cons] at h
    split at h
    · injection h with e; subst e; exact ⟨by simp, by simp⟩
    · obtain ⟨h1, h2⟩ := firstC_mem d xs ys r h
      exact ⟨List.mem_cons_of_mem _ h1, List.mem_cons_of_mem _ h2⟩
  | [], ys, r, h => by rw [firstC_nil] at h; cases h
  | _ :: _, [], r, h => by cases h
/-- What a law is told of a leaf's proof and another one's claim. -/
theorem claims_proved (d : Nat) (hd : d ≤ 32) (j n : Nat) (a b : ByteArray) (L qs : List ByteArray) (hL : L.length = n) (hj : j < n) (hLz : ∀ s ∈ L, s.size = d) (hLj : L.getD j ByteArray.empty = mleaf d a) (ha : a.size ≤ 200000) (hb : b.size ≤ 200000) :
    (((upI d j n (mleaf d b) qs).2 = 0 ∧ (upI d j n (mleaf d b) qs).1 = root d L ∧ ¬ b = a) → ∃ x y, claimsC d j n a b (proof d j L) qs = some (x, y) ∧ validC d x y = true ∧ x.size ≤ 300000 ∧ y.size ≤ 300000) ∧
    (¬ ((upI d j n (mleaf d b) qs).2 = 0 ∧ (upI d j n (mleaf d b) qs).1 = root d L ∧ ¬ b = a) → claimsC d j n a b (proof d j L) qs = none) := by
  have hwp := way_proof d n j L hL hj
  have hpw : allW d (proof d j L) = true := proof_sizes d hd n j L hL hLz
  have hup : upI d j n (mleaf d a) (proof d j L) = (root d L, 0) := by
    unfold upI
    rw [if_neg (by omega), Int.toNat_natCast, Int.toNat_natCast, upR_yes hwp.1 (mleaf_size d a hd) hpw, ← hLj, hwp.2]
  constructor
  · rintro ⟨h1, h2, h3⟩
    have hcy := claimsC_yes d j n a b (proof d j L) qs ⟨by rw [hup], h1, by rw [hup]; exact h2.symm, fun e => h3 e.symm⟩
    obtain ⟨_, _, w2, qz, c2⟩ := upI_zero d j n (mleaf d b) qs h1
    rw [Int.toNat_natCast, Int.toNat_natCast] at hcy w2 c2
    have pz : ∀ s ∈ proof d j L, s.size = d := fun s hs => by
      unfold allW at hpw
      rw [List.all_eq_true] at hpw
      simpa using hpw s hs
    cases hf : firstC d (stepsL d (⟨#[0]⟩ ++ a) (way j n) (proof d j L)) (stepsL d (⟨#[0]⟩ ++ b) (way j n) qs) with
    | none =>
      exfalso
      have hc : climb d (msum d (⟨#[0]⟩ ++ a)) (way j n) (proof d j L) = climb d (msum d (⟨#[0]⟩ ++ b)) (way j n) qs := by
        show climb d (mleaf d a) (way j n) (proof d j L) = climb d (mleaf d b) (way j n) qs
        rw [← c2, h2, ← hLj, hwp.2]
      have := firstC_none d hd (way j n) (proof d j L) qs _ _ hwp.1 w2 pz qz hc hf
      exact h3 (app_inj this rfl).2.symm
    | some r =>
      obtain ⟨x, y⟩ := r
      obtain ⟨g1, g2⟩ := firstC_some d _ _ _ hf
      obtain ⟨m1, m2⟩ := firstC_mem d _ _ _ hf
      have x0z : (⟨#[0]⟩ ++ a : ByteArray).size ≤ 300000 := by rw [ByteArray.size_append]; have : (⟨#[0]⟩ : ByteArray).size = 1 := rfl; omega
      have y0z : (⟨#[0]⟩ ++ b : ByteArray).size ≤ 300000 := by rw [ByteArray.size_append]; have : (⟨#[0]⟩ : ByteArray).size = 1 := rfl; omega
      exact ⟨x, y, by rw [hcy, hf], validC_yes d x y g1 g2, stepsL_size d hd _ _ _ x0z (fun s hs => by have := pz s hs; omega) _ m1, stepsL_size d hd _ _ _ y0z (fun s hs => by have := qz s hs; omega) _ m2⟩
  · intro h
    refine claimsC_no d j n a b (proof d j L) qs (fun g => h ⟨g.2.1, ?_, fun e => g.2.2.2 e.symm⟩)
    have := g.2.2.1
    rw [hup] at this
    exact this.symm
set_option maxRecDepth 100000 in
set_option maxHeartbeats 8000000 in
theorem clashProves_walk {w : World} (k : Int) (hk : (Lit.int .i64 k).wf = true) (i : Int) (hi : (Lit.int .i64 i).wf = true) (v1 : Value) (s1 : List ByteArray) (hv1 : StrsIn w v1 s1) (b : ByteArray) (hb : b.size ≤ reachBytes) (v2 : Value) (s2 : List ByteArray) (hv2 : StrsIn w v2 s2) :
    Calls Try.prog 9 #[.int .i64 k, .int .i64 i, v1, .string b, v2] w fun e w' => e = .returned (.bool true) ∧ Below w.heap.size w w' := by
  have h0 := cFewV hv1
  have h1 := cFewV hv2
  have H0 := Lib.hid h0
  have H1 := Lib.hid h1
  have hb2 : b.size ≤ 140737488355328 := Nat.le_trans hb (by decide)
  have hi2 := wf_i64 hi
  clear h0 h1 hv1 hv2 hk hi hb
  have hB0 := Below.refl w.heap.size w
  go_enter Try.func9, Try.ntmps9
  go_wp2_with fail
  (with_reducible refine H0.out.mono ?_); rintro e w1 ⟨A, n, c, l, rfl, hl, hs, hnc, hn, hz, rfl⟩
  go_wp2_with fail
  (with_reducible refine H1.out.mono ?_); rintro e w1 ⟨B, q, cq, qs, rfl, hq, hsq, hqd, hq7, hzq, rfl⟩
  have HL := Lib.hid hl
  have HS := Lib.hid hs
  have HZ := Lib.hid hz
  have HQ := Lib.hid hq
  have HSQ := Lib.hid hsq
  clear H0 H1 hzq hl hs hz hq hsq
  by_cases hn0 : n = 0
  · subst hn0
    go_wp2_with fail
    (with_reducible refine (cAwake17 _).mono ?_); rintro e w4 ⟨rfl, hb4⟩
    go_wp2_with fail
    go_ret
    exact ⟨rfl, hb4⟩
  · have hn0I : ((n : Int) == 0) = false := by simp; omega
    have hn0K : (n == 0) = false := by simp; omega
    have hn0J : (0 : Int) < (n : Int) := by omega
    by_cases hb3 : b.size ≤ 2000
    · have d2 : decide ((2000 : Int) < (b.size : Int)) = false := decide_eq_false (by omega)
      obtain ⟨j, hj, ej⟩ := turn_mod i n (by omega) (by omega)
      go_wp2_with fail
      go_loopw [11, 12] (fun u v wr => ∃ (q : Nat), q ≤ n ∧ v = .int .i64 q ∧ SL wr w.heap.size 9 u (((l.take q).map (mleaf (wd k))).map Value.string) ∧ Below w.heap.size w wr) (fun _ v _ => n - (intOf v).toNat)
      case atStart => exact ⟨0, by omega, rfl, SL.nil _ _ _, hB0⟩
      case round =>
        clear hB0
        obtain ⟨x, hx, rfl, hS, hb⟩ := hrel
        have hbs := hb.size
        obtain ⟨A2, c2, rfl, hc2⟩ := hS.open_
        have hlen : ((l.take x).map (mleaf (wd k))).length = x := by rw [List.length_map, List.length_take, HL.out]; omega
        rw [hlen] at hS hc2 ⊢
        have HSR := Lib.hid hS
        have HB := Lib.hid hb
        clear hS hb
        by_cases hlt : x < n
        · have hdk : decide ((x : Int) < (n : Int)) = true := decide_eq_true (by omega)
          obtain ⟨g, o, rfl, c1⟩ := (HS.out.fresh HB.out).cell_ x (by rw [HL.out]; exact hlt)
          have hst := map_take_next (mleaf (wd k)) l x (by rw [HL.out]; exact hlt)
          have hsz := HZ.out _ (getD_mem (by rw [HL.out]; exact hlt : x < l.length))
          obtain ⟨s, HSS⟩ : ∃ s, Hid (l.getD x ByteArray.empty = s) := ⟨_, Lib.hid rfl⟩
          rw [HSS.out] at c1 hst hsz
          have h1 := fun W => crLeaf k s W (by omega)
          obtain ⟨t, HT⟩ : ∃ t, Hid (mleaf (wd k) s = t) := ⟨_, Lib.hid rfl⟩
          simp only [HT.out] at h1 hst
          have H1 := Lib.hid h1
          have HST := Lib.hid hst
          clear h1 hst
          go_wp2_with fail
          (with_reducible refine (H1.out _).mono ?_); rintro e w2 ⟨rfl, hb2⟩
          have HS2 := Lib.hid (HSR.out.below hb2 (Nat.le_refl _))
          have HB2 := Lib.hid (HB.out.trans (hb2.mono hbs))
          have hbs2 := HB2.out.size
          clear hb2
          go_wp2_with (refine wpList_app1 Value.string (fun _ => rfl) str_elem rfl (.tmp 47) (.tmp 54) rfl w.heap.size A2 x c2 _ t _ hlen rfl HS2.out rfl _ rfl rfl (by omega) (by decide) hbs2 ?_; intro A3 c3 w3 hS3 hc3 hb3; dsimp only [Act.put])
          go_roundw
          case rel => exact ⟨x + 1, by omega, by go_num, by rw [HST.out]; exact hS3, HB2.out.trans hb3⟩
          case measure => simp [intOf]; omega
        · have hdk : decide ((x : Int) < (n : Int)) = false := decide_eq_false (by omega)
          have e : x = n := by omega
          subst e
          have hfull : l.take x = l := List.take_of_length_le (by rw [HL.out]; omega)
          have hslr := HSR.out
          rw [hfull] at hslr hlen
          have hst := Strs.of_sl hslr
          have hd32 := wd_hi k
          have hLz : ∀ s ∈ l.map (mleaf (wd k)), s.size = wd k := fun s hs => by
            obtain ⟨z, _, rfl⟩ := List.mem_map.1 hs
            exact mleaf_size _ _ hd32
          have hjl : (l.map (mleaf (wd k))).getD j ByteArray.empty = mleaf (wd k) (l.getD j ByteArray.empty) := by
            rw [List.getD_eq_getElem?_getD, List.getElem?_map, List.getD_eq_getElem?_getD, List.getElem?_eq_getElem (by rw [HL.out]; exact hj)]; rfl
          have hza := HZ.out _ (getD_mem (by rw [HL.out]; exact hj : j < l.length))
          obtain ⟨L, HLL⟩ : ∃ v, Hid (l.map (mleaf (wd k)) = v) := ⟨_, Lib.hid rfl⟩
          obtain ⟨a, HAA⟩ : ∃ v, Hid (l.getD j ByteArray.empty = v) := ⟨_, Lib.hid rfl⟩
          rw [HLL.out] at hst hLz hjl hlen
          rw [HAA.out] at hjl hza
          have cp := claims_proved (wd k) hd32 j x a b L qs hlen hj hLz hjl (by omega) (by omega)
          have p1 := fun W h => crProof k x j A2 c2 L W hlen h hc2 (by omega) (fun s hs => by have := hLz s hs; omega) hj
          have c1 := fun AP cP W h1 h2 => cClaims k (j : Int) (x : Int) a b AP B (proof (wd k) j L).length cP q cq (proof (wd k) j L) qs W (by omega) (by omega) (by omega) rfl h1 (by rw [← (way_proof (wd k) x j L hlen hj).1]; have := way_bits 61 j x (by omega); omega) HQ.out h2 (by omega)
          have l1 := fun W => crLeaf k b W (by omega)
          have u1 := fun W h => crUpI k (j : Int) (x : Int) (mleaf (wd k) b) B q cq qs W HQ.out h hqd (by omega) (by omega)
          have r1 := fun W h => crRoot k x A2 c2 L W hlen h hc2 (by omega) (fun s hs => by have := hLz s hs; omega)
          have vl := fun X Y W h1 h2 => crValid k X Y W h1 h2
          obtain ⟨LB, HLB⟩ : ∃ v, Hid (mleaf (wd k) b = v) := ⟨_, Lib.hid rfl⟩
          simp only [HLB.out] at l1 u1 cp
          obtain ⟨R, HR⟩ : ∃ v, Hid (root (wd k) L = v) := ⟨_, Lib.hid rfl⟩
          obtain ⟨P, HP⟩ : ∃ v, Hid (proof (wd k) j L = v) := ⟨_, Lib.hid rfl⟩
          obtain ⟨U, HU⟩ : ∃ v, Hid (upI (wd k) (j : Int) (x : Int) LB qs = v) := ⟨_, Lib.hid rfl⟩
          simp only [HR.out] at r1
          simp only [HP.out] at p1 c1
          simp only [HU.out] at u1
          simp only [HR.out, HP.out, HU.out] at cp
          obtain ⟨V, HV⟩ : ∃ v, Hid (claimsC (wd k) (j : Int) (x : Int) a b P qs = v) := ⟨_, Lib.hid rfl⟩
          simp only [HV.out] at c1 cp
          obtain ⟨r, e⟩ := U
          dsimp only at u1 cp
          obtain ⟨X, Y, ok, hv⟩ := oT_form V
          simp only [hv] at c1
          have CP := Lib.hid cp
          have P1 := Lib.hid p1
          have C1 := Lib.hid c1
          have L1 := Lib.hid l1
          have U1 := Lib.hid u1
          have R1 := Lib.hid r1
          have VL := Lib.hid vl
          have HVV := Lib.hid hv
          have HST := Lib.hid hst
          have HBB := Lib.hid HB.out
          have hjI : (j : Int) < (x : Int) := by omega
          obtain ⟨g, o, rfl, ca⟩ := (HS.out.fresh HBB.out).cell_ j (by rw [HL.out]; exact hj)
          rw [HAA.out] at ca
          have hg : g < w.heap.size := by
            obtain ⟨g', o', q1, q2, _⟩ := HS.out (by rw [HL.out]; omega)
            injection q1 with q1; injection q1 with q1 _ _; omega
          have hgr : g < wr.drew.heap.size := Nat.lt_of_lt_of_le hg HBB.out.size
          have ca : wr.drew.cell? ⟨g, o + j, none⟩ = some (.string a) := ca
          clear cp p1 c1 l1 u1 r1 vl hv hst hslr hlen hfull HB HSR hjl hLz
          go_wp2_with fail
          have hS0 := Below.refl wr.drew.heap.size wr.drew
          refine wp_region_lexS (fun w' => Below wr.drew.heap.size wr.drew w') 0 [] (by kernel_rfl) (by kernel_rfl) hS0 ?_
          repeat (first
            | (refine wpX_load0 rfl rfl _ _ rfl _ rfl _ rfl Try.underlying9 _ (fun w' h => (h.cell hgr).trans ca) hS0 ?_; simp only [Act.put, List.setIfInBounds_toArray, List.set_cons_zero, List.set_cons_succ, List.getElem_toArray, List.getElem_cons_zero, List.getElem_cons_succ])
            | (refine wpX_pure rfl rfl rfl ?_; intro K hK; go_big_quiet_op; refine hK _ ?_; clear hK K))
          refine wpX_eff rfl rfl ?_; intro K hK; go_wp2_with fail
          (with_reducible refine (P1.out _ HST.out.drew).mono ?_); rintro e w2 ⟨A3, c3, rfl, hc3, hs3, hb3⟩
          go_wp2_with fail
          refine hK _ _ hb3 ?_; clear hK K
          replace hS0 := hb3
          have HS3 := Lib.hid (Strs.of_sl hs3)
          clear hb3 hs3
          repeat (first
            | (refine wpX_load0 rfl rfl _ _ rfl _ rfl _ rfl Try.underlying9 _ (fun w' h => (h.cell hgr).trans ca) hS0 ?_; simp only [Act.put, List.setIfInBounds_toArray, List.set_cons_zero, List.set_cons_succ, List.getElem_toArray, List.getElem_cons_zero, List.getElem_cons_succ])
            | (refine wpX_pure rfl rfl rfl ?_; intro K hK; go_big_quiet_op; refine hK _ ?_; clear hK K))
          refine wpX_eff rfl rfl ?_; intro K hK; go_wp2_with fail
          (with_reducible refine (C1.out _ _ _ HS3.out (HSQ.out.fresh (HBB.out.drew.trans (hS0.mono HBB.out.drew.size)))).mono ?_); rintro e w3 ⟨rfl, hb4⟩
          go_wp2_with fail
          refine hK _ _ (hS0.trans (hb4.mono hS0.size)) ?_; clear hK K
          replace hS0 := hS0.trans (hb4.mono hS0.size)
          clear hb4
          repeat (first | (refine wpX_pure rfl rfl rfl ?_; intro K hK; go_big_quiet_op; refine hK _ ?_; clear hK K) | (refine wpX_eff rfl rfl ?_; intro K hK; go_wp2_with fail; refine hK _ _ hS0 ?_; clear hK K))
          refine wpX_nil ?_
          have HB3 := Lib.hid (HBB.out.drew.trans (hS0.mono HBB.out.drew.size))
          have HST3 := Lib.hid (HST.out.drew.fresh hS0)
          have ca3 : w3.cell? ⟨g, o + j, none⟩ = some (.string a) := (hS0.cell hgr).trans ca
          clear hS0 ca
          go_wp2_with fail
          (with_reducible refine (L1.out _).mono ?_); rintro e w4 ⟨rfl, hb4⟩
          go_wp2_with fail
          (with_reducible refine (U1.out _ (HSQ.out.fresh (HB3.out.trans (hb4.mono HB3.out.size)))).mono ?_); rintro e w5 ⟨rfl, hb5⟩
          have hB45 := hb4.trans (hb5.mono hb4.size)
          have hl3 : g < w3.heap.size := Nat.lt_of_lt_of_le hg HB3.out.size
          have ca5 : w5.cell? ⟨g, o + j, none⟩ = some (.string a) := (hB45.cell hl3).trans ca3
          have HST5 := Lib.hid (HST3.out.fresh hB45)
          have HB5 := Lib.hid (HB3.out.trans (hB45.mono HB3.out.size))
          clear hb4 hb5 hB45 ca3
          by_cases he : e = 0
          · subst he
            by_cases hrr : r = R
            · have hre : (r.toList == R.toList) = true := by rw [hrr]; exact beq_same _
              by_cases hba : b = a
              · have hbe : (b.toList == a.toList) = true := by rw [hba]; exact beq_same _
                have hvn := CP.out.2 (fun h => h.2.2 hba)
                have hvv := HVV.out
                rw [hvn, oT_none] at hvv
                injection hvv with hvv
                have hok : ok = false := by
                  have := congrArg (fun x : Array Value => x[2]?) hvv
                  simp at this; exact this
                subst hok
                have HBA := Lib.hid hba
                have HRR := Lib.hid hrr
                clear hba hrr hvv hvn
                go_wp2_with fail
                (with_reducible refine (R1.out _ HST5.out).mono ?_); rintro e w6 ⟨rfl, hb6⟩
                have ca6 : w6.cell? ⟨g, o + j, none⟩ = some (.string a) := (hb6.cell (Nat.lt_of_lt_of_le hg HB5.out.size)).trans ca5
                have hB6 := HB5.out.trans (hb6.mono HB5.out.size)
                clear hb6 ca5
                go_wp2_with fail
                (with_reducible refine (cAwake17 _).mono ?_); rintro e w7 ⟨rfl, hb7⟩
                go_wp2_with fail
                go_ret
                exact ⟨rfl, hB6.trans (hb7.mono hB6.size)⟩
              · have hbe := beq_text_ne hba
                obtain ⟨X', Y', hvs, hval, hxs, hys⟩ := CP.out.1 ⟨rfl, hrr, hba⟩
                have hvv := HVV.out
                rw [hvs, oT_some] at hvv
                injection hvv with hvv
                have e0 : X' = X := by have := congrArg (fun x : Array Value => x[0]?) hvv; simpa using this
                have e1 : Y' = Y := by have := congrArg (fun x : Array Value => x[1]?) hvv; simpa using this
                have e2 : ok = true := by have := congrArg (fun x : Array Value => x[2]?) hvv; simp at this; exact this
                subst e0
                subst e1
                subst e2
                have vl := fun W => VL.out X' Y' W (by omega) (by omega)
                rw [hval] at vl
                have VL2 := Lib.hid vl
                have HRR := Lib.hid hrr
                clear hba hrr hvv hvs vl hval
                go_wp2_with fail
                (with_reducible refine (R1.out _ HST5.out).mono ?_); rintro e w6 ⟨rfl, hb6⟩
                have ca6 : w6.cell? ⟨g, o + j, none⟩ = some (.string a) := (hb6.cell (Nat.lt_of_lt_of_le hg HB5.out.size)).trans ca5
                have hB6 := HB5.out.trans (hb6.mono HB5.out.size)
                clear hb6 ca5
                go_wp2_with fail
                (with_reducible refine (VL2.out _).mono ?_); rintro e w7 ⟨rfl, hb7⟩
                have hB7 := hB6.trans (hb7.mono hB6.size)
                clear hb7 hB6
                go_wp2_with fail
                (with_reducible refine (cAwake17 _).mono ?_); rintro e w8 ⟨rfl, hb8⟩
                go_wp2_with fail
                go_ret
                exact ⟨rfl, hB7.trans (hb8.mono hB7.size)⟩
            · have hre := beq_text_ne hrr
              have hvn := CP.out.2 (fun h => hrr h.2.1)
              have hvv := HVV.out
              rw [hvn, oT_none] at hvv
              injection hvv with hvv
              have hok : ok = false := by
                have := congrArg (fun x : Array Value => x[2]?) hvv
                simp at this; exact this
              subst hok
              clear hrr hvv hvn
              go_wp2_with fail
              (with_reducible refine (R1.out _ HST5.out).mono ?_); rintro e w6 ⟨rfl, hb6⟩
              have hB6 := HB5.out.trans (hb6.mono HB5.out.size)
              clear hb6 ca5
              go_wp2_with fail
              (with_reducible refine (cAwake17 _).mono ?_); rintro e w7 ⟨rfl, hb7⟩
              go_wp2_with fail
              go_ret
              exact ⟨rfl, hB6.trans (hb7.mono hB6.size)⟩
          · have heI : ((e : Int) != 0) = true := by simp; omega
            have hvn := CP.out.2 (fun h => he h.1)
            have hvv := HVV.out
            rw [hvn, oT_none] at hvv
            injection hvv with hvv
            have hok : ok = false := by
              have := congrArg (fun x : Array Value => x[2]?) hvv
              simp at this; exact this
            subst hok
            clear hvv hvn
            go_wp2_with fail
            (with_reducible refine (cAwake17 _).mono ?_); rintro e w7 ⟨rfl, hb7⟩
            go_wp2_with fail
            go_ret
            exact ⟨rfl, HB5.out.trans (hb7.mono HB5.out.size)⟩
    · have d2 : decide ((2000 : Int) < (b.size : Int)) = true := decide_eq_true (by omega)
      go_wp2_with fail
      (with_reducible refine (cAwake17 _).mono ?_); rintro e w4 ⟨rfl, hb4⟩
      go_wp2_with fail
      go_ret
      exact ⟨rfl, hb4⟩
end Go.Proofs.Ytgkjpemgfbkejaa
