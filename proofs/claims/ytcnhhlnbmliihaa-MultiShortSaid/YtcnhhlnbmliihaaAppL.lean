/- Append of a slice of texts onto a row of the call's own. -/
import Derived.Test.YtcnhhlnbmliihaaApp1
namespace Go.Proofs.Ytcnhhlnbmliihaa
open Go.RowKit
set_option linter.unusedVariables false
set_option linter.unusedSimpArgs false
section
variable {P : Program}
theorem wpList_appL {w : World} {ops : Array Oper} {rest : List Oper} {o : Oper} {a : Act} {Q : Exit → Act → World → Prop} {t e e' : TypeId} {z : Value} {bytes : Nat} (E : ElemI P t e z bytes) (hk : P.underlying t = some (.slice e')) (hgd : o.guard = none) (s x : Operand) (ho : o.op = .call { callee := .builtin .append, args := #[s, x], argTypes := #[t, t] })
    (B : Nat) (A : Option Addr) (n c : Nat) (l : List ByteArray) (hn : l.length = n) (hs : a.eval s = .slice A n c) (hown : SL w B e (.slice A n c) (l.map Value.string))
    (A2 : Option Addr) (m c2 : Nat) (news : List ByteArray) (hm : news.length = m) (hx : a.eval x = .slice A2 m c2) (hst : Strs w A2 news)
    (hlen : n + m ≤ 1099511627776) (hby : bytes ≤ 32) (hB : B ≤ w.heap.size)
    (h : ∀ A' c' w', SL w' B e (.slice A' (n + m) c') ((l ++ news).map Value.string) → n + m ≤ c' → Below B w w' → wpList P ops Q rest (a.put o.dst (.slice A' (n + m) c')) w') :
    wpList P ops Q (o :: rest) a w := by
  subst hm
  refine wpList_app_grown E hgd s x ho B _ (l.map Value.string) hs hown (.slice A2 news.length c2) news.length (news.map Value.string) hx (Src.ofReads hk hst.reads (one_strs news)) (by rw [List.length_map, hn]; omega) hby hB ?_
  intro v' w' hv' hg _
  rw [← List.map_append] at hv'
  obtain ⟨A', c', rfl, hc'⟩ := hv'.form
  rw [List.length_map, List.length_append, hn] at hv' hc' ⊢
  refine h A' c' w' hv' hc' ((Below.refl B w).grown hg hB (fun k hk => ?_))
  exact (hown.own_lt k hk).2
end
end Go.Proofs.Ytcnhhlnbmliihaa
