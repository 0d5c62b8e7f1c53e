/- Several leaves of a tree at once, as plain functions. No function of the program stands here. -/
import Derived.Test.YtcnhhlnbmliihaaMerkP
namespace Go.Proofs.Ytcnhhlnbmliihaa
open Go.RowKit
set_option linter.unusedVariables false
set_option linter.unusedSimpArgs false

/-- The numbers of those that are wanted. -/
def idx : List Bool → List Nat
  | [] => []
  | b :: bs => (if b then [0] else []) ++ (idx bs).map (· + 1)
theorem idx_cons (b : Bool) (bs : List Bool) : idx (b :: bs) = (if b then [0] else []) ++ (idx bs).map (· + 1) := rfl
theorem idx_append : ∀ (a b : List Bool), idx (a ++ b) = idx a ++ (idx b).map (· + a.length)
  | [], b => by simp [idx]
  | x :: a, b => by
    rw [List.cons_append, idx_cons, idx_cons, idx_append a b]
    have e : (List.map (· + a.length) (idx b)).map (· + 1) = (idx b).map (· + (x :: a).length) := by
      rw [List.map_map]
      apply List.map_congr_left
      intro k _
      show k + a.length + 1 = k + (a.length + 1)
      omega
    rw [List.map_append, e, List.append_assoc]
theorem idx_lt : ∀ (a : List Bool), ∀ k ∈ idx a, k < a.length
  | [], k, h => by cases h
  | b :: bs, k, h => by
    unfold idx at h
    rcases List.mem_append.1 h with h | h
    · cases b
      · cases h
      · simp at h; subst h; simp
    · obtain ⟨j, hj, rfl⟩ := List.mem_map.1 h
      have := idx_lt bs j hj
      simp; omega
theorem idx_sorted : ∀ (a : List Bool), (idx a).Pairwise (· < ·)
  | [] => List.Pairwise.nil
  | b :: bs => by
    unfold idx
    refine List.pairwise_append.2 ⟨?_, ?_, ?_⟩
    · cases b <;> simp
    · exact List.pairwise_map.2 ((idx_sorted bs).imp (fun h => by omega))
    · intro x hx y hy
      obtain ⟨j, hj, rfl⟩ := List.mem_map.1 hy
      cases b
      · cases hx
      · simp at hx; subst hx; omega
theorem idx_mem : ∀ (a : List Bool) (k : Nat), k ∈ idx a ↔ a.getD k false = true
  | [], k => by simp [idx]
  | b :: bs, k => by
    unfold idx
    rw [List.mem_append, List.mem_map]
    cases k with
    | zero =>
      cases b
      · simp
      · simp
    | succ k =>
      have ih := idx_mem bs k
      constructor
      · rintro (h | ⟨j, hj, e⟩)
        · cases b <;> simp at h
        · have : j = k := by omega
          subst this
          simpa using ih.1 hj
      · intro h
        exact .inr ⟨k, ih.2 (by simpa using h), rfl⟩
/-- Is none wanted? -/
def noneB (a : List Bool) : Bool := a.all (!·)
theorem idx_nil_iff (a : List Bool) : idx a = [] ↔ noneB a = true := by
  unfold noneB
  rw [List.all_eq_true]
  constructor
  · intro h x hx
    obtain ⟨k, hk, e⟩ := List.getElem_of_mem hx
    cases hxx : x with
    | false => rfl
    | true =>
      have : k ∈ idx a := (idx_mem a k).2 (by rw [List.getD_eq_getElem?_getD, List.getElem?_eq_getElem hk, e, hxx]; rfl)
      rw [h] at this
      cases this
  · intro h
    apply List.eq_nil_iff_forall_not_mem.2
    intro k hk
    have h1 := (idx_mem a k).1 hk
    have h2 := idx_lt a k hk
    rw [List.getD_eq_getElem?_getD, List.getElem?_eq_getElem h2] at h1
    have h3 := h _ (List.getElem_mem h2)
    simp at h1 h3
    rw [h1] at h3
    cases h3
theorem noneB_append (a b : List Bool) : noneB (a ++ b) = (noneB a && noneB b) := by unfold noneB; rw [List.all_append]
theorem noneB_false (a : List Bool) (h : noneB a = false) : 1 ≤ (idx a).length := by
  rcases hl : idx a with _ | ⟨x, r⟩
  · have := (idx_nil_iff a).1 hl; rw [h] at this; cases this
  · simp
theorem idx_snoc (a : List Bool) (b : Bool) : idx (a ++ [b]) = idx a ++ (if b then [a.length] else []) := by
  rw [idx_append]
  cases b <;> simp [idx]
theorem idx_length_le (a : List Bool) : (idx a).length ≤ a.length := by
  induction a with
  | nil => simp [idx]
  | cons b bs ih =>
    unfold idx
    rw [List.length_append, List.length_map, List.length_cons]
    cases b <;> simp <;> omega
theorem idx_inj : ∀ (a b : List Bool), a.length = b.length → idx a = idx b → a = b := by
  intro a b hl h
  apply List.ext_getElem hl
  intro k h1 h2
  have e1 := idx_mem a k
  have e2 := idx_mem b k
  rw [h] at e1
  rw [List.getD_eq_getElem?_getD, List.getElem?_eq_getElem h1] at e1
  rw [List.getD_eq_getElem?_getD, List.getElem?_eq_getElem h2] at e2
  simp only [Option.getD_some] at e1 e2
  have := e1.symm.trans e2
  cases hx : a[k] <;> cases hy : b[k] <;> simp_all
theorem idx_none (n : Nat) : idx (List.replicate n false) = [] := by
  rw [idx_nil_iff]
  unfold noneB
  rw [List.all_eq_true]
  intro x hx
  rw [(List.mem_replicate.1 hx).2]; rfl
/-- One more is wanted, behind all others. -/
theorem idx_set : ∀ (a : List Bool) (k : Nat), k < a.length → (∀ j ∈ idx a, j < k) → idx (a.set k true) = idx a ++ [k]
  | [], k, h, _ => by simp at h
  | b :: bs, 0, _, h => by
    have hb : b = false := by
      cases hb : b with
      | false => rfl
      | true => have := h 0 (by unfold idx; simp [hb]); omega
    have hn : idx bs = [] := by
      apply List.eq_nil_iff_forall_not_mem.2
      intro j hj
      have := h (j + 1) (by unfold idx; simp [hj])
      omega
    subst hb
    show idx (true :: bs) = _
    rw [idx_cons, idx_cons, hn]; rfl
  | b :: bs, k + 1, hk, h => by
    have ih := idx_set bs k (by simpa using hk) (fun j hj => by
      have := h (j + 1) (by unfold idx; simp [hj])
      omega)
    show idx (b :: bs.set k true) = _
    rw [idx_cons, idx_cons, ih]
    simp

/-- Numbers that rise, from 0 on, below n. -/
def riseP (want : List Int) (n : Int) : Prop := want ≠ [] ∧ ∀ i, i < want.length → 0 ≤ want.getD i 0 ∧ want.getD i 0 < n ∧ (0 < i → want.getD (i - 1) 0 < want.getD i 0)
theorem take_snocI (l : List Int) (k : Nat) (h : k < l.length) : l.take (k + 1) = l.take k ++ [l.getD k 0] := by
  rw [List.take_succ_eq_append_getElem h, List.getD_eq_getElem?_getD, List.getElem?_eq_getElem h]; rfl
/-- All so far are below the next one. -/
theorem rise_below (want : List Int) (n : Int) (h : ∀ i, i < want.length → 0 ≤ want.getD i 0 ∧ want.getD i 0 < n ∧ (0 < i → want.getD (i - 1) 0 < want.getD i 0)) : ∀ q, q < want.length → ∀ x ∈ want.take q, x < want.getD q 0 := by
  intro q
  induction q with
  | zero => intro _ x hx; simp at hx
  | succ q ih =>
    intro hq x hx
    have h1 := (h (q + 1) hq).2.2 (by omega)
    simp only [Nat.add_sub_cancel] at h1
    rw [take_snocI want q (by omega)] at hx
    rcases List.mem_append.1 hx with hx | hx
    · have := ih (by omega) x hx; omega
    · simp only [List.mem_singleton] at hx; subst hx; exact h1
def idxI (a : List Bool) : List Int := (idx a).map (fun (k : Nat) => (k : Int))
theorem idxI_length (a : List Bool) : (idxI a).length = (idx a).length := by unfold idxI; rw [List.length_map]
theorem idxI_set (a : List Bool) (k : Nat) (hk : k < a.length) (h : ∀ x ∈ idxI a, x < (k : Int)) : idxI (a.set k true) = idxI a ++ [(k : Int)] := by
  unfold idxI at h ⊢
  rw [idx_set a k hk (fun j hj => by have := h (j : Int) (List.mem_map.2 ⟨j, hj, rfl⟩); omega), List.map_append]; rfl
theorem idxI_inj (a b : List Bool) (hl : a.length = b.length) (h : idxI a = idxI b) : a = b := by
  refine idx_inj a b hl ?_
  unfold idxI at h
  exact List.map_inj_right (fun x y e => by have e2 : (x : Int) = (y : Int) := e; omega) |>.1 h
theorem rise_part (want : List Int) (n : Int) (h : ∀ i, i < want.length → 0 ≤ want.getD i 0 ∧ want.getD i 0 < n ∧ (0 < i → want.getD (i - 1) 0 < want.getD i 0)) : ∀ q, q ≤ want.length → ∃ a : List Bool, a.length = n.toNat ∧ idxI a = want.take q := by
  intro q
  induction q with
  | zero => intro _; exact ⟨List.replicate n.toNat false, by simp, by unfold idxI; rw [idx_none]; simp⟩
  | succ q ih =>
    intro hq
    obtain ⟨a, h1, h2⟩ := ih (by omega)
    obtain ⟨h3, h4, _⟩ := h q (by omega)
    have hb := rise_below want n h q (by omega)
    obtain ⟨k, hk⟩ : ∃ k : Nat, want.getD q 0 = (k : Int) := ⟨(want.getD q 0).toNat, by omega⟩
    refine ⟨a.set k true, by simpa using h1, ?_⟩
    rw [idxI_set a k (by omega) (fun x hx => by rw [h2] at hx; have := hb x hx; omega), h2, take_snocI want q (by omega), hk]
theorem rise_some (want : List Int) (n : Int) (h : riseP want n) : ∃ a : List Bool, a.length = n.toNat ∧ idxI a = want ∧ 1 ≤ n ∧ noneB a = false := by
  obtain ⟨a, h1, h2⟩ := rise_part want n h.2 want.length (Nat.le_refl _)
  rw [List.take_length] at h2
  have hw : 0 < want.length := by
    rcases want with _ | ⟨x, r⟩
    · exact absurd rfl h.1
    · simp
  have h3 := h.2 0 hw
  refine ⟨a, h1, h2, by omega, ?_⟩
  cases hn : noneB a with
  | false => rfl
  | true =>
    have := (idx_nil_iff a).2 hn
    unfold idxI at h2
    rw [this] at h2
    exact absurd h2.symm h.1
theorem idxI_getD (a : List Bool) (i : Nat) (h : i < (idxI a).length) : (idxI a).getD i 0 = (((idx a).getD i 0 : Nat) : Int) := by
  unfold idxI at h ⊢
  rw [List.length_map] at h
  rw [List.getD_eq_getElem?_getD, List.getD_eq_getElem?_getD, List.getElem?_map, List.getElem?_eq_getElem h]; rfl
theorem rise_of (a : List Bool) (h : noneB a = false) : riseP (idxI a) a.length := by
  have hn := noneB_false a h
  refine ⟨fun e => ?_, fun i hi => ?_⟩
  · have := congrArg List.length e
    rw [idxI_length] at this
    simp at this
    rw [this] at hn
    simp at hn
  · have hi2 : i < (idx a).length := by rw [← idxI_length]; exact hi
    have e1 := idxI_getD a i hi
    have g1 : (idx a).getD i 0 = (idx a)[i] := by rw [List.getD_eq_getElem?_getD, List.getElem?_eq_getElem hi2]; rfl
    have hl := idx_lt a _ (List.getElem_mem hi2)
    rw [e1, g1]
    refine ⟨by omega, by omega, fun h0 => ?_⟩
    have e2 := idxI_getD a (i - 1) (by omega)
    have g2 : (idx a).getD (i - 1) 0 = (idx a)[i - 1]'(by omega) := by rw [List.getD_eq_getElem?_getD, List.getElem?_eq_getElem (by omega)]; rfl
    rw [e2, g2]
    have := List.pairwise_iff_getElem.1 (idx_sorted a) (i - 1) i (by omega) hi2 (by omega)
    omega
/-- How wanted numbers part at a bound. -/
theorem idx_part (a : List Bool) (k : Nat) (hk : k ≤ a.length) : idx a = idx (a.take k) ++ (idx (a.drop k)).map (· + k) := by
  conv => lhs; rw [← List.take_append_drop k a]
  rw [idx_append, List.length_take, Nat.min_eq_left hk]
theorem idxI_part (a : List Bool) (k : Nat) (hk : k ≤ a.length) : idxI a = idxI (a.take k) ++ (idxI (a.drop k)).map (· + (k : Int)) := by
  unfold idxI
  rw [idx_part a k hk]
  simp [List.map_append, List.map_map, Function.comp_def]

/-- The sums of the parts in which none of the wanted is. -/
def pv (w : Nat) (a : List Bool) (l : List ByteArray) : List ByteArray :=
  if noneB a then [root w l] else if l.length < 2 then [] else
    pv w (a.take (cut l.length)) (l.take (cut l.length)) ++ pv w (a.drop (cut l.length)) (l.drop (cut l.length))
  termination_by l.length
  decreasing_by
    all_goals
      have h1 := cut_lt l.length (by omega)
      have h2 := cut_pos l.length
      simp only [List.length_take, List.length_drop]
      omega
theorem pv_none (w : Nat) (a : List Bool) (l : List ByteArray) (h : noneB a = true) : pv w a l = [root w l] := by rw [pv, if_pos h]
theorem pv_one (w : Nat) (a : List Bool) (l : List ByteArray) (h : noneB a = false) (h2 : l.length < 2) : pv w a l = [] := by rw [pv, if_neg (by rw [h]; decide), if_pos h2]
theorem pv_cut (w : Nat) (a : List Bool) (l : List ByteArray) (h : noneB a = false) (h2 : 2 ≤ l.length) : pv w a l = pv w (a.take (cut l.length)) (l.take (cut l.length)) ++ pv w (a.drop (cut l.length)) (l.drop (cut l.length)) := by
  rw [pv, if_neg (by rw [h]; decide), if_neg (by omega)]
/-- How many. -/
def cn (a : List Bool) : Nat :=
  if noneB a then 1 else if a.length < 2 then 0 else cn (a.take (cut a.length)) + cn (a.drop (cut a.length))
  termination_by a.length
  decreasing_by
    all_goals
      have h1 := cut_lt a.length (by omega)
      have h2 := cut_pos a.length
      simp only [List.length_take, List.length_drop]
      omega
theorem cn_none (a : List Bool) (h : noneB a = true) : cn a = 1 := by rw [cn, if_pos h]
theorem cn_one (a : List Bool) (h : noneB a = false) (h2 : a.length < 2) : cn a = 0 := by rw [cn, if_neg (by rw [h]; decide), if_pos h2]
theorem cn_cut (a : List Bool) (h : noneB a = false) (h2 : 2 ≤ a.length) : cn a = cn (a.take (cut a.length)) + cn (a.drop (cut a.length)) := by
  rw [cn, if_neg (by rw [h]; decide), if_neg (by omega)]
/-- The root of a part. -/
def upM (w : Nat) (a : List Bool) (ls ps : List ByteArray) : ByteArray :=
  if noneB a then ps.getD 0 ByteArray.empty else if a.length < 2 then ls.getD 0 ByteArray.empty else
    mnode w (upM w (a.take (cut a.length)) ls ps) (upM w (a.drop (cut a.length)) (ls.drop (idx (a.take (cut a.length))).length) (ps.drop (cn (a.take (cut a.length)))))
  termination_by a.length
  decreasing_by
    all_goals
      have h1 := cut_lt a.length (by omega)
      have h2 := cut_pos a.length
      simp only [List.length_take, List.length_drop]
      omega
theorem upM_none (w : Nat) (a : List Bool) (ls ps : List ByteArray) (h : noneB a = true) : upM w a ls ps = ps.getD 0 ByteArray.empty := by rw [upM, if_pos h]
theorem upM_one (w : Nat) (a : List Bool) (ls ps : List ByteArray) (h : noneB a = false) (h2 : a.length < 2) : upM w a ls ps = ls.getD 0 ByteArray.empty := by rw [upM, if_neg (by rw [h]; decide), if_pos h2]
theorem upM_cut (w : Nat) (a : List Bool) (ls ps : List ByteArray) (h : noneB a = false) (h2 : 2 ≤ a.length) : upM w a ls ps = mnode w (upM w (a.take (cut a.length)) ls ps) (upM w (a.drop (cut a.length)) (ls.drop (idx (a.take (cut a.length))).length) (ps.drop (cn (a.take (cut a.length))))) := by
  rw [upM, if_neg (by rw [h]; decide), if_neg (by omega)]
theorem idx_len_cut (a : List Bool) (k : Nat) (hk : k ≤ a.length) : (idx a).length = (idx (a.take k)).length + (idx (a.drop k)).length := by
  rw [idx_part a k hk, List.length_append, List.length_map]
theorem noneB_len (a : List Bool) (h : noneB a = true) : (idx a).length = 0 := by rw [(idx_nil_iff a).2 h]; rfl
theorem idx_one (a : List Bool) (h : noneB a = false) (h1 : a.length = 1) : (idx a).length = 1 := by
  have := noneB_false a h
  have := idx_length_le a
  omega
theorem cn_le : ∀ (n : Nat) (a : List Bool), a.length = n → 1 ≤ n → cn a ≤ n := by
  intro n
  induction n using Nat.strongRecOn with
  | _ n ih =>
    intro a hl h1
    cases hn : noneB a with
    | true => rw [cn_none a hn]; omega
    | false =>
      rcases Nat.lt_or_ge n 2 with h2 | h2
      · rw [cn_one a hn (by omega)]; omega
      · have hc := cut_lt n h2
        have hp := cut_pos n
        rw [cn_cut a hn (by omega), hl]
        have i1 := ih (cut n) hc (a.take (cut n)) (by rw [List.length_take]; omega) (by omega)
        have i2 := ih (n - cut n) (by omega) (a.drop (cut n)) (by rw [List.length_drop, hl]) (by omega)
        omega
theorem pv_length (w : Nat) : ∀ (n : Nat) (a : List Bool) (l : List ByteArray), l.length = n → a.length = n → 1 ≤ n → (pv w a l).length = cn a := by
  intro n
  induction n using Nat.strongRecOn with
  | _ n ih =>
    intro a l hl ha h1
    cases hn : noneB a with
    | true => rw [pv_none w a l hn, cn_none a hn]; rfl
    | false =>
      rcases Nat.lt_or_ge n 2 with h2 | h2
      · rw [pv_one w a l hn (by omega), cn_one a hn (by omega)]; rfl
      · have hc := cut_lt n h2
        have hp := cut_pos n
        rw [pv_cut w a l hn (by omega), cn_cut a hn (by omega), ha, hl, List.length_append]
        rw [ih (cut n) hc (a.take (cut n)) (l.take (cut n)) (by rw [List.length_take]; omega) (by rw [List.length_take]; omega) (by omega)]
        rw [ih (n - cut n) (by omega) (a.drop (cut n)) (l.drop (cut n)) (by rw [List.length_drop, hl]) (by rw [List.length_drop, ha]) (by omega)]
/-- Of a list those that are wanted. -/
def sel : List Bool → List ByteArray → List ByteArray
  | b :: bs, x :: xs => (if b then [x] else []) ++ sel bs xs
  | _, _ => []
theorem sel_cons (b : Bool) (bs : List Bool) (x : ByteArray) (xs : List ByteArray) : sel (b :: bs) (x :: xs) = (if b then [x] else []) ++ sel bs xs := rfl
theorem sel_nil (l : List ByteArray) : sel [] l = [] := by cases l <;> rfl
theorem sel_append : ∀ (a : List Bool) (l : List ByteArray) (b : List Bool) (m : List ByteArray), a.length = l.length → sel (a ++ b) (l ++ m) = sel a l ++ sel b m
  | [], [], b, m, _ => by rw [sel_nil]; rfl
  | x :: a, y :: l, b, m, h => by
    rw [List.cons_append, List.cons_append, sel_cons, sel_cons, sel_append a l b m (by simpa using h), List.append_assoc]
  | [], _ :: _, _, _, h => by simp at h
  | _ :: _, [], _, _, h => by simp at h
theorem sel_length : ∀ (a : List Bool) (l : List ByteArray), a.length = l.length → (sel a l).length = (idx a).length
  | [], [], _ => rfl
  | x :: a, y :: l, h => by
    unfold sel idx
    rw [List.length_append, List.length_append, List.length_map, sel_length a l (by simpa using h)]
    cases x <;> rfl
  | [], _ :: _, h => by simp at h
  | _ :: _, [], h => by simp at h
theorem sel_take (a : List Bool) (l : List ByteArray) (k : Nat) (h : a.length = l.length) (hk : k ≤ l.length) : sel a l = sel (a.take k) (l.take k) ++ sel (a.drop k) (l.drop k) := by
  conv => lhs; rw [← List.take_append_drop k a, ← List.take_append_drop k l]
  rw [sel_append _ _ _ _ (by rw [List.length_take, List.length_take]; omega)]
theorem sel_snoc (a : List Bool) (l : List ByteArray) (b : Bool) (x : ByteArray) (h : a.length = l.length) : sel (a ++ [b]) (l ++ [x]) = sel a l ++ (if b then [x] else []) := by
  rw [sel_append a l [b] [x] h]
  cases b <;> simp [sel]
theorem sel_mem : ∀ (a : List Bool) (l : List ByteArray), ∀ x ∈ sel a l, x ∈ l
  | b :: bs, y :: ys, x, h => by
    unfold sel at h
    rcases List.mem_append.1 h with h | h
    · cases b
      · cases h
      · simp at h; subst h; simp
    · exact List.mem_cons_of_mem _ (sel_mem bs ys x h)
  | [], _, x, h => by simp [sel] at h
  | _ :: _, [], x, h => by simp [sel] at h
theorem drop_left_ (a b : List ByteArray) (n : Nat) (h : a.length = n) : (a ++ b).drop n = b := by subst h; simp
/-- Whatever is proved leads to the root. -/
theorem upM_pv (w : Nat) : ∀ (n : Nat) (a : List Bool) (l r1 r2 : List ByteArray), l.length = n → a.length = n → 1 ≤ n → upM w a (sel a l ++ r1) (pv w a l ++ r2) = root w l := by
  intro n
  induction n using Nat.strongRecOn with
  | _ n ih =>
    intro a l r1 r2 hl ha h1
    cases hn : noneB a with
    | true => rw [upM_none w a _ _ hn, pv_none w a l hn]; rfl
    | false =>
      rcases Nat.lt_or_ge n 2 with h2 | h2
      · rw [upM_one w a _ _ hn (by omega), root_one w l (by omega)]
        match a, l, (show a.length = 1 by omega), (show l.length = 1 by omega), hn with
        | [true], [x], _, _, _ => rfl
        | [false], [x], _, _, hn => cases hn
      · have hc := cut_lt n h2
        have hp := cut_pos n
        have ht : (l.take (cut n)).length = cut n := by rw [List.length_take]; omega
        have hta : (a.take (cut n)).length = cut n := by rw [List.length_take]; omega
        have hd : (l.drop (cut n)).length = n - cut n := by rw [List.length_drop, hl]
        have hda : (a.drop (cut n)).length = n - cut n := by rw [List.length_drop, ha]
        rw [upM_cut w a _ _ hn (by omega), pv_cut w a l hn (by omega), sel_take a l (cut n) (by omega) (by omega), root_cut w l (by omega), ha, hl]
        rw [List.append_assoc, List.append_assoc, ih (cut n) hc _ _ _ _ ht hta (by omega)]
        rw [drop_left_ _ _ _ (by rw [sel_length _ _ (by omega)]), drop_left_ _ _ _ (pv_length w (cut n) _ _ ht hta (by omega))]
        rw [ih (n - cut n) (by omega) _ _ _ _ hd hda (by omega)]
theorem pv_sizes (w : Nat) (hw : w ≤ 32) : ∀ (n : Nat) (a : List Bool) (l : List ByteArray), l.length = n → 1 ≤ n → (∀ s ∈ l, s.size = w) → ∀ s ∈ pv w a l, s.size = w := by
  intro n
  induction n using Nat.strongRecOn with
  | _ n ih =>
    intro a l hl h1 hz s hs
    cases hn : noneB a with
    | true =>
      rw [pv_none w a l hn, List.mem_singleton] at hs
      subst hs
      rcases Nat.lt_or_ge n 2 with h2 | h2
      · rw [root_one w l (by omega)]
        exact hz _ (by rw [List.getD_eq_getElem?_getD, List.getElem?_eq_getElem (by omega)]; exact List.getElem_mem _)
      · rw [root_cut w l (by omega)]; exact mnode_size w _ _ hw
    | false =>
      rcases Nat.lt_or_ge n 2 with h2 | h2
      · rw [pv_one w a l hn (by omega)] at hs; cases hs
      · have hc := cut_lt n h2
        have hp := cut_pos n
        rw [pv_cut w a l hn (by omega), hl] at hs
        rcases List.mem_append.1 hs with hs | hs
        · exact ih (cut n) hc _ _ (by rw [List.length_take]; omega) (by omega) (fun s hs => hz s (List.mem_of_mem_take hs)) s hs
        · exact ih (n - cut n) (by omega) _ _ (by rw [List.length_drop, hl]) (by omega) (fun s hs => hz s (List.mem_of_mem_drop hs)) s hs
theorem all_of_idx (a b : List Bool) (k : Nat) (h : idx (a ++ b) = [k]) : (k < a.length → idx a = [k] ∧ noneB b = true) ∧ (a.length ≤ k → noneB a = true ∧ idx b = [k - a.length]) := by
  rw [idx_append] at h
  have hla := idx_lt a
  constructor
  · intro hk
    rcases ha : idx a with _ | ⟨x, r⟩
    · rw [ha, List.nil_append] at h
      have : k ∈ (idx b).map (· + a.length) := by rw [h]; simp
      obtain ⟨j, _, e⟩ := List.mem_map.1 this
      omega
    · rw [ha, List.cons_append] at h
      injection h with e1 e2
      obtain ⟨e2, e3⟩ := List.append_eq_nil_iff.1 e2
      exact ⟨by rw [e1, e2], (idx_nil_iff b).1 (List.map_eq_nil_iff.1 e3)⟩
  · intro hk
    rcases ha : idx a with _ | ⟨x, r⟩
    · rw [ha, List.nil_append] at h
      refine ⟨(idx_nil_iff a).1 ha, ?_⟩
      rcases hb : idx b with _ | ⟨y, r⟩
      · rw [hb] at h; cases h
      · rw [hb, List.map_cons] at h
        injection h with e1 e2
        rw [List.map_eq_nil_iff.1 e2]
        congr 1; omega
    · rw [ha, List.cons_append] at h
      injection h with e1 e2
      have := hla x (by rw [ha]; simp)
      omega
/-- One leaf's proof is as long as its way. -/
theorem cn_single : ∀ (n : Nat) (a : List Bool) (i : Nat), a.length = n → idx a = [i] → cn a = (way i n).length := by
  intro n
  induction n using Nat.strongRecOn with
  | _ n ih =>
    intro a i ha hi
    have hn : noneB a = false := by
      cases h : noneB a with
      | false => rfl
      | true => rw [(idx_nil_iff a).2 h] at hi; cases hi
    have hin : i < n := by have := idx_lt a i (by rw [hi]; simp); omega
    rcases Nat.lt_or_ge n 2 with h2 | h2
    · rw [cn_one a hn (by omega), way_one i n h2]; rfl
    · have hc := cut_lt n h2
      have hp := cut_pos n
      have hta : (a.take (cut n)).length = cut n := by rw [List.length_take]; omega
      have hda : (a.drop (cut n)).length = n - cut n := by rw [List.length_drop, ha]
      have hal := all_of_idx (a.take (cut n)) (a.drop (cut n)) i (by rw [List.take_append_drop]; exact hi)
      rw [hta] at hal
      rw [cn_cut a hn (by omega), ha]
      rcases Nat.lt_or_ge i (cut n) with hi2 | hi2
      · obtain ⟨g1, g2⟩ := hal.1 hi2
        rw [cn_none _ g2, ih (cut n) hc _ i hta g1, way_left i n h2 hi2, List.length_append]; rfl
      · obtain ⟨g1, g2⟩ := hal.2 hi2
        rw [cn_none _ g1, ih (n - cut n) (by omega) _ (i - cut n) hda g2, way_right i n h2 hi2, List.length_append, Nat.add_comm]; rfl
/-- Where all are wanted there is nothing. -/
theorem cn_all : ∀ (n : Nat) (a : List Bool), a.length = n → 1 ≤ n → (∀ x ∈ a, x = true) → cn a = 0 := by
  intro n
  induction n using Nat.strongRecOn with
  | _ n ih =>
    intro a ha h1 hx
    have hn : noneB a = false := by
      match a, ha, hx with
      | [], ha, _ => simp at ha; omega
      | b :: bs, _, hx => have := hx b (by simp); subst this; rfl
    rcases Nat.lt_or_ge n 2 with h2 | h2
    · rw [cn_one a hn (by omega)]
    · have hc := cut_lt n h2
      have hp := cut_pos n
      rw [cn_cut a hn (by omega), ha, ih (cut n) hc _ (by rw [List.length_take]; omega) (by omega) (fun x h => hx x (List.mem_of_mem_take h)), ih (n - cut n) (by omega) _ (by rw [List.length_drop, ha]) (by omega) (fun x h => hx x (List.mem_of_mem_drop h))]
/-- The ways of all that are wanted, together. -/
def wsum (n : Nat) (l : List Nat) : Nat := (l.map fun k => (way k n).length).sum
theorem wsum_append (n : Nat) (a b : List Nat) : wsum n (a ++ b) = wsum n a + wsum n b := by unfold wsum; rw [List.map_append, List.sum_append]
theorem wsum_left (n : Nat) (h2 : 2 ≤ n) : ∀ (l : List Nat), (∀ k ∈ l, k < cut n) → wsum n l = wsum (cut n) l + l.length
  | [], _ => rfl
  | k :: l, h => by
    have ih := wsum_left n h2 l (fun j hj => h j (by simp [hj]))
    unfold wsum at ih ⊢
    rw [List.map_cons, List.map_cons, List.sum_cons, List.sum_cons, ih, way_left k n h2 (h k (by simp)), List.length_append, List.length_cons]
    simp; omega
theorem wsum_right (n : Nat) (h2 : 2 ≤ n) : ∀ (l : List Nat), wsum n (l.map (· + cut n)) = wsum (n - cut n) l + l.length
  | [] => rfl
  | k :: l => by
    have ih := wsum_right n h2 l
    unfold wsum at ih ⊢
    rw [List.map_cons, List.map_cons, List.map_cons, List.sum_cons, List.sum_cons, ih, way_right (k + cut n) n h2 (by omega), List.length_append, List.length_cons, Nat.add_sub_cancel]
    simp; omega
theorem cn_sum : ∀ (n : Nat) (a : List Bool), a.length = n → noneB a = false → cn a ≤ wsum n (idx a) := by
  intro n
  induction n using Nat.strongRecOn with
  | _ n ih =>
    intro a ha hn
    rcases Nat.lt_or_ge n 2 with h2 | h2
    · rw [cn_one a hn (by omega)]; omega
    · have hc := cut_lt n h2
      have hp := cut_pos n
      have hta : (a.take (cut n)).length = cut n := by rw [List.length_take]; omega
      have hda : (a.drop (cut n)).length = n - cut n := by rw [List.length_drop, ha]
      have hil := idx_lt (a.take (cut n))
      rw [hta] at hil
      have hna := noneB_append (a.take (cut n)) (a.drop (cut n))
      rw [List.take_append_drop, hn] at hna
      rw [cn_cut a hn (by omega), ha, idx_part a (cut n) (by omega), wsum_append, wsum_left n h2 _ hil, wsum_right n h2]
      have i1 := ih (cut n) hc (a.take (cut n)) hta
      have i2 := ih (n - cut n) (by omega) (a.drop (cut n)) hda
      have l1 := noneB_false (a.take (cut n))
      have l2 := noneB_false (a.drop (cut n))
      cases g1 : noneB (a.take (cut n)) with
      | true =>
        cases g2 : noneB (a.drop (cut n)) with
        | true => rw [g1, g2] at hna; cases hna
        | false => rw [cn_none _ g1]; have := i2 g2; have := l2 g2; omega
      | false =>
        cases g2 : noneB (a.drop (cut n)) with
        | true => rw [cn_none _ g2]; have := i1 g1; have := l1 g1; omega
        | false => have := i1 g1; have := i2 g2; omega
end Go.Proofs.Ytcnhhlnbmliihaa
