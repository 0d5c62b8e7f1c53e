/- Append of one element onto a row of the call's own: which blocks it turns. -/
import Derived.Test.YtcnhhlnbmliihaaApp1
namespace Go.Proofs.Ytcnhhlnbmliihaa
open Go.RowKit
set_option linter.unusedVariables false
set_option linter.unusedSimpArgs false
section
variable {P : Program} {α : Type}
theorem wpList_app1g (f : α → Value) (hf : ∀ x, (f x).oneCell' = true) {w w0 : World} {ops : Array Oper} {rest : List Oper} {o : Oper} {a : Act} {Q : Exit → Act → World → Prop} {t e e' : TypeId} {z : Value} {bytes : Nat} (E : ElemI P t e z bytes) (hk : P.underlying t = some (.slice e')) (hgd : o.guard = none) (s x : Operand) (ho : o.op = .call { callee := .builtin .append, args := #[s, x], argTypes := #[t, t] })
    (B : Nat) (A : Option Addr) (n c : Nat) (l : List α) (u : α) (tu : TypeId) (hn : l.length = n) (hs : a.eval s = .slice A n c) (hown : SL w0 B e (.slice A n c) (l.map f)) (hw : w = w0.alloc (.cells #[f u] tu)) (g : Nat) (hg : w0.heap.size = g) (hx : a.eval x = .slice (some ⟨g, 0, none⟩) 1 1)
    (hlen : n < 1099511627776) (hby : bytes ≤ 32) (hB : B ≤ w0.heap.size)
    (h : ∀ A' c' w', SL w' B e (.slice A' (n + 1) c') ((l ++ [u]).map f) → n + 1 ≤ c' → Only (fun k => (∃ o, A = some ⟨k, o, none⟩) ∨ w0.heap.size ≤ k) w0 w' → (∀ g o, A' = some ⟨g, o, none⟩ → (∃ o, A = some ⟨g, o, none⟩) ∨ w0.heap.size ≤ g) → wpList P ops Q rest (a.put o.dst (.slice A' (n + 1) c')) w') :
    wpList P ops Q (o :: rest) a w := by
  subst hw; subst hg
  have hsz : w0.heap.size ≤ (w0.alloc (.cells #[f u] tu)).heap.size := by simp
  have hsz1 : (w0.alloc (.cells #[f u] tu)).heap.size = w0.heap.size + 1 := by simp
  refine wpList_app_grown E hgd s x ho B _ (l.map f) hs (hown.alloc _) (.slice (some ⟨w0.heap.size, 0, none⟩) 1 1) 1 [f u] hx (Src.ofReads hk (reads_one w0 tu (f u)) (by intro v hv; simp at hv; subst hv; exact hf u)) (by rw [List.length_map]; omega) hby (by omega) ?_
  intro v' w' hv' hgr hor
  have e1 : l.map f ++ [f u] = (l ++ [u]).map f := by simp
  rw [e1] at hv'
  obtain ⟨A', c', rfl, hc'⟩ := hv'.form
  rw [List.length_map, List.length_append, hn] at hv' hc' hor ⊢
  have hown2 : ∀ k, (Value.slice A n c).ownBlock = some k → ∃ o, A = some ⟨k, o, none⟩ := by
    intro k hk2
    rcases hown.2 with ⟨h1, h2⟩ | ⟨g, cap, cur, h1, h2, h3, _⟩
    · injection h1 with h1 _ _; subst h1; simp [Value.ownBlock] at hk2
    · injection h1 with h1 _ _; subst h1
      have : g = k := by simpa [Value.ownBlock] using hk2
      subst this; exact ⟨0, rfl⟩
  refine h A' c' w' hv' hc' (((Only.refl _ w0).alloc _).trans (Only.grown hgr (fun k hk2 => .inl (hown2 k hk2)) : Only (fun k => (∃ o, A = some ⟨k, o, none⟩) ∨ w0.heap.size ≤ k) _ _) (fun _ _ e => e)) (fun g o hA => ?_)
  subst hA
  have hb : (Value.slice (some ⟨g, o, none⟩) (n + 1) c').ownBlock = some g := by
    rcases hv'.2 with ⟨h1, _⟩ | ⟨g', cap, cur, h1, _⟩
    · cases h1
    · injection h1 with h1 _ _; injection h1 with h1; injection h1 with h1 h2 _; subst h1; subst h2; rfl
  rcases hor with h1 | h1
  · have h1' : (Value.slice (some ⟨g, o, none⟩) (n + 1) c').ownBlock = (Value.slice A n c).ownBlock := h1
    rw [hb] at h1'
    exact .inl (hown2 g h1'.symm)
  · have h1' : (Value.slice (some ⟨g, o, none⟩) (n + 1) c').ownBlock = some (w0.alloc (.cells #[f u] tu)).heap.size := h1
    rw [hb] at h1'
    injection h1' with h1'
    exact .inr (by omega)
end
theorem Only.rw_ {S : Nat → Prop} {w w' : World} {g : Nat} {e : TypeId} {vs : List Value} (h : Only S w w') (hr : ∃ cur : Array Value, w.heap[g]? = some (.cells cur e (0, 0)) ∧ ∀ (i : Nat) (u : Value), vs[i]? = some u → cur[i]? = some u) (hn : ¬ S g) :
    ∃ cur : Array Value, w'.heap[g]? = some (.cells cur e (0, 0)) ∧ ∀ (i : Nat) (u : Value), vs[i]? = some u → cur[i]? = some u := by
  obtain ⟨cur, h1, h2⟩ := hr
  have hlt : g < w.heap.size := by
    rcases Nat.lt_or_ge g w.heap.size with hlt | hge
    · exact hlt
    · rw [Array.getElem?_eq_none hge] at h1; cases h1
  exact ⟨cur, (h.block g hlt hn).trans h1, h2⟩
end Go.Proofs.Ytcnhhlnbmliihaa
