/- Append of one element that lies in a block of its own, onto a row of the call's own: the row as a list of plain things. -/
import Derived.Test.YtcnhhlnbmliihaaShaHash
import Derived.Test.YtcnhhlnbmliihaaStrs
import Derived.Laws.BytesArg
namespace Go.Proofs.Ytcnhhlnbmliihaa
open Go.RowKit
set_option linter.unusedVariables false
set_option linter.unusedSimpArgs false

theorem str_elem : ElemI Try.prog 23 9 (.string ⟨#[]⟩) 16 := elemI Try.underlying23 (by kernel_rfl) rfl
section
variable {P : Program} {α : Type}
theorem wpList_app1 (f : α → Value) (hf : ∀ x, (f x).oneCell' = true) {w w0 : World} {ops : Array Oper} {rest : List Oper} {o : Oper} {a : Act} {Q : Exit → Act → World → Prop} {t e : TypeId} {z : Value} {bytes : Nat} (E : ElemI P t e z bytes) (hgd : o.guard = none) (s x : Operand) (ho : o.op = .call { callee := .builtin .append, args := #[s, x], argTypes := #[t, t] })
    (B : Nat) (A : Option Addr) (n c : Nat) (l : List α) (u : α) (tu : TypeId) (hn : l.length = n) (hs : a.eval s = .slice A n c) (hown : SL w0 B e (.slice A n c) (l.map f)) (hw : w = w0.alloc (.cells #[f u] tu)) (g : Nat) (hg : w0.heap.size = g) (hx : a.eval x = .slice (some ⟨g, 0, none⟩) 1 1)
    (hlen : n < 1099511627776) (hby : bytes ≤ 32) (hB : B ≤ w0.heap.size)
    (h : ∀ A' c' w', SL w' B e (.slice A' (n + 1) c') ((l ++ [u]).map f) → n + 1 ≤ c' → Below B w0 w' → wpList P ops Q rest (a.put o.dst (.slice A' (n + 1) c')) w') :
    wpList P ops Q (o :: rest) a w := by
  subst hw; subst hg
  refine wpList_app E hgd s x ho B _ (l.map f) hs (hown.alloc _) _ _ 1 1 [f u] hx (reads_one w0 tu (f u)) (by intro v hv; simp at hv; subst hv; exact hf u) (by rw [List.length_map]; omega) hby (by simp; omega) ?_
  intro v' w' hv' hbel _ _
  have e : l.map f ++ [f u] = (l ++ [u]).map f := by simp
  rw [e] at hv'
  obtain ⟨A', c', rfl, hc'⟩ := hv'.form
  rw [List.length_map, List.length_append, hn] at hv' hc' ⊢
  exact h A' c' w' hv' hc' (((Below.refl B w0).alloc hB _).trans (hbel B (Nat.le_refl _)))
end
section
variable {P : Program}
/-- Append of a text onto a row of bytes. -/
theorem wpList_appS {w : World} {ops : Array Oper} {rest : List Oper} {o : Oper} {a : Act} {Q : Exit → Act → World → Prop} {t tx e : TypeId} {z : Value} {bytes : Nat} (E : ElemI P t e z bytes) (htx : P.underlying tx = some .string) (hgd : o.guard = none) (s x : Operand) (ho : o.op = .call { callee := .builtin .append, args := #[s, x], argTypes := #[t, tx] })
    (B : Nat) (A : Option Addr) (n c m : Nat) (l : List UInt8) (T : ByteArray) (hn : l.length = n) (hs : a.eval s = .slice A n c) (hown : SL w B e (.slice A n c) (l.map bv)) (hx : a.eval x = .string T) (hm : T.size = m)
    (hlen : n + m ≤ 1099511627776) (hby : bytes ≤ 32) (hB : B ≤ w.heap.size)
    (h : ∀ A' c' w', SL w' B e (.slice A' (n + m) c') ((l ++ T.data.toList).map bv) → n + m ≤ c' → Below B w w' → wpList P ops Q rest (a.put o.dst (.slice A' (n + m) c')) w') :
    wpList P ops Q (o :: rest) a w := by
  subst hm
  refine wpList_app_grown E hgd s x ho B _ (l.map bv) hs hown (.string T) T.size (byteCells T) hx (Src.ofString _ htx T) (by rw [List.length_map, hn]; omega) hby hB ?_
  intro v' w' hv' hg _
  have e : l.map bv ++ byteCells T = (l ++ T.data.toList).map bv := by rw [byteCells_bv, List.map_append]
  rw [e] at hv'
  obtain ⟨A', c', rfl, hc'⟩ := hv'.form
  rw [List.length_map, List.length_append, hn, data_length] at hv' hc' ⊢
  refine h A' c' w' hv' hc' ((Below.refl B w).grown hg hB (fun k hk => ?_))
  exact (hown.own_lt k hk).2
/-- The first bytes of a row of the call's own, as a text. -/
theorem conv_sl {src dst el : TypeId} (hs : P.underlying src = some (.slice el)) (he : P.underlying el = some (.int .u8)) (hd : P.underlying dst = some .string) {w : World} {B : Nat} {e : TypeId} {A : Option Addr} {m c : Nat} {l : List UInt8}
    (h : SL w B e (.slice A m c) (l.map bv)) (n : Nat) (hn : n ≤ m) : (convert src dst (.slice A n c)).run P w = .ok (.string (str (l.take n))) w := by
  obtain ⟨A2, c2, h1, h2, h3⟩ := h.view
  injection h1 with e1 e2 e3
  subst e1 e2 e3
  by_cases h0 : 0 < l.length
  · obtain ⟨g, rfl, _, _, hb⟩ := h3 h0
    refine conv_bytes (P := P) hs he hd w ⟨g, 0, none⟩ n c (l.take n) (by rw [List.length_take]; omega) (fun j hj => ?_)
    have := hb.2 j (by omega)
    rw [Nat.zero_add] at this
    rw [add0, this]
    simp only [List.getD_eq_getElem?_getD, List.getElem?_take_of_lt hj]
  · have hl : l = [] := List.eq_nil_of_length_eq_zero (by omega)
    subst hl
    have e0 : n = 0 := by simpa using hn
    subst e0
    cases A with
    | none => exact run_convert_bytes_nil w src el hs he 0 c dst hd
    | some ad => exact conv_bytes (P := P) hs he hd w ad 0 c [] rfl (fun j hj => absurd hj (by omega))
end
/-- A row of the call's own, looked at. -/
theorem SL.open_ {w : World} {B : Nat} {e : TypeId} {v : Value} {α : Type} {f : α → Value} {l : List α} (h : SL w B e v (l.map f)) : ∃ A c, v = .slice A l.length c ∧ l.length ≤ c := by
  obtain ⟨A, c, h1, h2⟩ := h.form
  rw [List.length_map] at h1 h2
  exact ⟨A, c, h1, h2⟩
theorem wf_i64 {c : Int} (h : (Lit.int .i64 c).wf = true) : -9223372036854775808 ≤ c ∧ c ≤ 9223372036854775807 := by
  have e1 : IntKind.i64.min = -9223372036854775808 := by decide
  have e2 : IntKind.i64.max = 9223372036854775807 := by decide
  simp [Lit.wf, e1, e2] at h
  exact h
theorem wf_byte {c : Int} (h : (Lit.int .u8 c).wf = true) : 0 ≤ c ∧ c ≤ 255 := by
  have e1 : IntKind.u8.min = 0 := by decide
  have e2 : IntKind.u8.max = 255 := by decide
  simp [Lit.wf, e1, e2] at h
  exact h
end Go.Proofs.Ytcnhhlnbmliihaa
