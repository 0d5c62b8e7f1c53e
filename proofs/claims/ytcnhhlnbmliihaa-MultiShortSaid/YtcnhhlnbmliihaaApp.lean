/- Append of whatever is appended (a slice, a string, nothing) onto a row of the call's own. -/
import Derived.Test.YtcnhhlnbmliihaaSl
import Derived.Deep.AppendSrc
namespace Go.Proofs.Ytcnhhlnbmliihaa
open Go.RowKit
set_option linter.unusedVariables false
set_option linter.unusedSimpArgs false

section
variable {P : Program} {w : World} {B : Nat} {e : TypeId} {v : Value} {xs : List Value}
theorem run_app_src {t tx ty : TypeId} {z : Value} {bytes : Nat} (E : ElemI P t e z bytes) (hown : SL w B e v xs) (x : Value) (n : Nat) (news : List Value) (hs : Src P 1 tx x n news w) (hlen : xs.length + n ≤ 1099511627776) (hby : bytes ≤ 32) (hB : B ≤ w.heap.size) :
    ∃ v' w', (Builtin.append_ #[t, tx] ty #[v, x]).run P w = .ok v' w' ∧ SL w' B e v' (xs ++ news) ∧ w.grownBy w' v.ownBlock ∧ (v'.ownBlock = v.ownBlock ∨ v'.ownBlock = some w.heap.size) := by
  obtain ⟨i, hi, hz0, hz1, hz2⟩ := E.hi
  have hl : news.length = n := by have := hs.newsLen; omega
  have hl2 : (xs ++ news).length = xs.length + n := by rw [List.length_append, hl]
  have h63 : xs.length + n ≤ maxLen := by unfold maxLen; omega
  have hbytes : (xs.length + n) * bytes ≤ 140737488355328 := by
    calc (xs.length + n) * bytes ≤ 1099511627776 * 32 := Nat.mul_le_mul hlen hby
      _ ≤ 140737488355328 := by decide
  have grown : ∀ (old : Nat), old < xs.length + n → ∀ (row : Option Nat),
      SL (w.drew.alloc (.cells ((xs ++ news).toArray ++ Builtin.zeroCells z.cells (grownCap w (xs.length + n) old e - (xs.length + n))) e)) B e
        (.slice (some ⟨w.heap.size, 0, none⟩) (xs.length + n) (grownCap w (xs.length + n) old e)) (xs ++ news) ∧
      w.grownBy (w.drew.alloc (.cells ((xs ++ news).toArray ++ Builtin.zeroCells z.cells (grownCap w (xs.length + n) old e - (xs.length + n))) e)) row := by
    intro old ho row
    have hge := grownCap_ge w (xs.length + n) old e
    have hcm : grownCap w (xs.length + n) old e ≤ maxLen := grownCap_le_maxLen w (xs.length + n) old e h63
    refine ⟨⟨by omega, .inr ⟨w.heap.size, _, _, by rw [hl2], hB, heap_alloc_new w.drew _, by omega, hcm, ?_, ?_⟩⟩, ⟨rfl, rfl, rfl, by simp, fun k hk _ => Below.heap_alloc w.drew _ k hk⟩⟩
    · simp only [Array.size_append, List.size_toArray, size_zeroCells, E.hz, hl2]
      omega
    · rw [hl2]
      simp only [Array.toList_append]
      rw [Nat.mul_one, ← hl2]
      exact List.take_left
  rcases hown.2 with ⟨rfl, hx⟩ | ⟨g, cap, cur, rfl, hbg, hg, hnc, hcm, hcs, htake⟩
  · obtain rfl : xs = [] := List.eq_nil_of_length_eq_zero hx
    by_cases hm : n = 0
    · subst hm
      obtain rfl : news = [] := List.eq_nil_of_length_eq_zero hl
      refine ⟨.slice none 0 0, w, ?_, World.ownsRow_nil _ _ _ _, ⟨rfl, rfl, rfl, Nat.le_refl _, fun _ _ _ => rfl⟩, .inl rfl⟩
      have hc := hs.cells
      rcases hs.kind with ⟨e', hk⟩ | hk <;> simp [Builtin.append_, run_underlying E.ht, run_underlying hk, sizeOf, typeInfo, hi, hz1, hs.len, hc]
    · have hr := run_append_grow_src (P := P) w t tx ty e i z E.ht hi hz0 none 0 0 [] (run_firstCells_none w.drew i.size 0 0 0) x n news (by rw [hz1]; exact hs) (by omega) (by omega) (growslice_fits (by omega) (by rw [hz2]; simpa using hbytes))
      have hgr := grown 0 (by simp; omega) (Value.ownBlock (.slice none 0 0))
      simp only [List.length_nil, Nat.zero_add, List.nil_append] at hgr hr ⊢
      exact ⟨_, _, hr, hgr.1, hgr.2, .inr rfl⟩
  · by_cases hroom : xs.length + n ≤ cap
    · have hst := run_storeCells_at P g xs.length e news 0 cur w hg (by rw [hl]; omega) hs.one
      simp only [Nat.add_zero] at hst
      have hc := hs.cells
      refine ⟨.slice (some ⟨g, 0, none⟩) (xs.length + n) cap, _, ?_, ⟨by omega, .inr ⟨g, cap, _, by rw [hl2], hbg, setRow_heap w g cur (cur.toList.take xs.length ++ news ++ cur.toList.drop (xs.length + news.length)).toArray e _ hg, by omega, hcm, ?_, ?_⟩⟩, ⟨rfl, rfl, rfl, by simp, fun k _ hk => setRow_other w g k _ (fun e => hk (by simp [Value.ownBlock, e]))⟩, .inl rfl⟩
      · rcases hs.kind with ⟨e', hk⟩ | hk <;> simp [Builtin.append_, run_underlying E.ht, run_underlying hk, sizeOf, typeInfo, hi, hz1, hs.len, hroom, hc, Addr.add_lit, hst]
      · simp only [List.size_toArray, List.length_append, List.length_take, List.length_drop, Array.length_toList]
        omega
      · rw [Nat.mul_one] at htake
        rw [htake, Nat.mul_one]
        exact List.take_left
    · have holds : ∀ j u, xs[j]? = some u → w.drew.cell? ((⟨g, 0, none⟩ : Addr).add j) = some u := hown.cells (g := g) rfl
      have hf := run_firstCells_some (P := P) w.drew i.size xs.length ⟨g, 0, none⟩ xs.length cap xs (by rw [hz1, Nat.mul_one]) holds
      have hr := run_append_grow_src (P := P) w t tx ty e i z E.ht hi hz0 (some ⟨g, 0, none⟩) xs.length cap xs hf x n news (by rw [hz1]; exact hs) (by omega) (by omega) (growslice_fits (by omega) (by rw [hz2]; exact hbytes))
      have hgr := grown cap (by omega) (Value.ownBlock (.slice (some ⟨g, 0, none⟩) xs.length cap))
      exact ⟨_, _, hr, hgr.1, hgr.2, .inr rfl⟩
theorem wpList_app_src {ops : Array Oper} {rest : List Oper} {o : Oper} {a : Act} {Q : Exit → Act → World → Prop} {t tx : TypeId} {z : Value} {bytes : Nat} (E : ElemI P t e z bytes) (hgd : o.guard = none) (s x : Operand)
    (ho : o.op = .call { callee := .builtin .append, args := #[s, x], argTypes := #[t, tx] }) (B : Nat) (v : Value) (xs : List Value) (hs : a.eval s = v) (hown : SL w B e v xs)
    (xv : Value) (n : Nat) (news : List Value) (hx : a.eval x = xv) (hsrc : Src P 1 tx xv n news w) (hlen : xs.length + n ≤ 1099511627776) (hby : bytes ≤ 32) (hB : B ≤ w.heap.size)
    (h : ∀ v' w', SL w' B e v' (xs ++ news) → (∀ B0, B0 ≤ B → Below B0 w w') → (∀ g t' cs, Blk w g t' cs → v.ownBlock ≠ some g → Blk w' g t' cs) → (v'.ownBlock = v.ownBlock ∨ v'.ownBlock = some w.heap.size) → w.heap.size ≤ w'.heap.size → wpList P ops Q rest (a.put o.dst v') w') :
    wpList P ops Q (o :: rest) a w := by
  refine wpList_plain hgd fun K hK => ?_
  obtain ⟨v', w', hrun, h2, h3, h4⟩ := run_app_src (P := P) (ty := o.type) E hown xv n news hsrc hlen hby hB
  unfold Oper.wp execOp
  simp only [ho, resolve, invoke, builtin, Sem.run_bind, Sem.run_pure, Result.andThen_ok, List.map_toArray, List.map_cons, List.map_nil, hs, hx, hrun]
  refine hK _ _ (h v' w' h2 (fun B0 hB0 => ?_) (fun g t' cs hb hne => hb.grown h3 (fun e => hne e.symm)) h4 h3.size)
  refine (Below.refl B0 w).grown h3 (by omega) (fun k hk => ?_)
  rcases hown.2 with ⟨rfl, _⟩ | ⟨g, cap, cur, rfl, hg, _⟩
  · simp [Value.ownBlock] at hk
  · have : g = k := by simpa [Value.ownBlock] using hk
    omega
/-- What a slice of old memory yields. -/
theorem Src.ofReads {tx e' : TypeId} (hk : P.underlying tx = some (.slice e')) {B' : Nat} {A : Option Addr} {n c : Nat} {news : List Value} (hr : Reads w B' 1 A n news) (h1 : ∀ u ∈ news, u.oneCell' = true) : Src P 1 tx (.slice A n c) n news w := by
  rcases Nat.eq_zero_or_pos n with h0 | h0
  · subst h0
    have hn : news = [] := List.eq_nil_of_length_eq_zero (by simpa using hr.1)
    subst hn
    refine ⟨.inl ⟨e', hk⟩, fun _ => rfl, ?_, ?_, rfl, fun _ h => by cases h⟩
    · cases A with
      | none => exact run_firstCells_none w 1 0 0 c
      | some a => exact run_firstCells_some w 1 0 a 0 c [] rfl (by simp)
    · cases A with
      | none => exact run_firstCells_none w.drew 1 0 0 c
      | some a => exact run_firstCells_some w.drew 1 0 a 0 c [] rfl (by simp)
  · obtain ⟨ad, rfl, _, hc⟩ := hr.2 h0
    exact Src.ofSlice w hk ad n c news (by simpa using hr.1) hc h1
theorem byteCells_bv (s : ByteArray) : byteCells s = s.data.toList.map bv := rfl
end
end Go.Proofs.Ytcnhhlnbmliihaa
