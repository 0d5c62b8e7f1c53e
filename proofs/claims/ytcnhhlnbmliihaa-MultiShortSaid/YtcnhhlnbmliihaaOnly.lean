/- What a call turns: some blocks, and no others; slices of the call's own, looked at; values that a region's operation yields wherever a fact holds. -/
import Derived.Test.YtcnhhlnbmliihaaApp
import Derived.Test.YtcnhhlnbmliihaaRowK
import Derived.Deep.MidRow
import Derived.Deep.LoopGhost
namespace Go.Proofs.Ytcnhhlnbmliihaa
open Go.RowKit
set_option linter.unusedVariables false
set_option linter.unusedSimpArgs false

/-- Of the blocks that were there none but those of S has turned. -/
structure Only (S : Nat → Prop) (w w' : World) : Prop where
  os : w'.os = w.os
  tape : w'.tape = w.tape
  output : w'.output = w.output
  size : w.heap.size ≤ w'.heap.size
  block : ∀ k, k < w.heap.size → ¬ S k → w'.heap[k]? = w.heap[k]?
section
variable {S S' : Nat → Prop} {w w' w'' : World} {B : Nat}
theorem Only.refl (S : Nat → Prop) (w : World) : Only S w w := ⟨rfl, rfl, rfl, Nat.le_refl _, fun _ _ _ => rfl⟩
theorem Only.mono (h : Only S w w') (hs : ∀ k, k < w.heap.size → S k → S' k) : Only S' w w' := ⟨h.os, h.tape, h.output, h.size, fun k hk hn => h.block k hk (fun hS => hn (hs k hk hS))⟩
theorem Only.trans (h : Only S w w') (h' : Only S' w' w'') (hs : ∀ k, k < w.heap.size → S' k → S k) : Only S w w'' :=
  ⟨h'.os.trans h.os, h'.tape.trans h.tape, h'.output.trans h.output, Nat.le_trans h.size h'.size, fun k hk hn => (h'.block k (Nat.lt_of_lt_of_le hk h.size) (fun e => hn (hs k hk e))).trans (h.block k hk hn)⟩
theorem Only.trans' (h : Only S w w') (h' : Only S w' w'') : Only S w w'' := h.trans h' fun _ _ e => e
theorem Only.of_below (h : Below B w w') (hs : ∀ k, k < w.heap.size → B ≤ k → S k) : Only S w w' := ⟨h.os, h.tape, h.output, h.size, fun k hk hn => h.block k (Nat.lt_of_not_le fun hB => hn (hs k hk hB))⟩
theorem Only.fresh (h : Below w.heap.size w w') : Only S w w' := Only.of_below h fun k hk hB => absurd hB (by omega)
theorem Only.below (h : Only S w w') (hB : B ≤ w.heap.size) (hs : ∀ k, S k → B ≤ k) : Below B w w' := ⟨h.os, h.tape, h.output, h.size, fun k hk => h.block k (by omega) fun e => by have := hs k e; omega⟩
theorem Only.grown {row : Option Nat} (h : w.grownBy w' row) (hs : ∀ k, row = some k → S k) : Only S w w' := ⟨h.os, h.tape, h.output, h.size, fun k hk hn => h.block k hk fun e => hn (hs k e.symm)⟩
theorem Only.drew (h : Only S w w') : Only S w w'.drew := ⟨h.os, h.tape, h.output, h.size, h.block⟩
theorem Only.drewN (h : Only S w w') (n : Nat) : Only S w (w'.drewN n) := ⟨h.os, h.tape, h.output, h.size, h.block⟩
theorem Only.alloc (h : Only S w w') (o : Obj) : Only S w (w'.alloc o) := ⟨h.os, h.tape, h.output, by have := h.size; simp; omega, fun k hk hn => (Below.heap_alloc w' o k (Nat.lt_of_lt_of_le hk h.size)).trans (h.block k hk hn)⟩
theorem Only.setCell (h : Only S w w') {p : Addr} (hp : p.block < w.heap.size → S p.block) (u : Value) : Only S w (w'.setCell p u) :=
  ⟨h.os, h.tape, h.output, by simpa using h.size, fun k hk hn => (Below.heap_setCell w' p u k (fun e => by subst e; exact hn (hp hk))).trans (h.block k hk hn)⟩
theorem Only.blk (h : Only S w w') {g : Nat} {t : TypeId} {cs : Array Value} (hb : Blk w g t cs) (hn : ¬ S g) : Blk w' g t cs := (h.block g hb.lt hn).trans hb
theorem Only.sl (h : Only S w w') {e : TypeId} {v : Value} {xs : List Value} (hv : SL w B e v xs) (hn : ∀ k, v.ownBlock = some k → ¬ S k) : SL w' B e v xs := by
  refine ⟨hv.1, ?_⟩
  rcases hv.2 with h1 | ⟨g, cap, cur, h1, h2, h3, r⟩
  · exact .inl h1
  · refine .inr ⟨g, cap, cur, h1, h2, ?_, r⟩
    have hlt : g < w.heap.size := by
      rcases Nat.lt_or_ge g w.heap.size with hlt | hge
      · exact hlt
      · rw [Array.getElem?_eq_none hge] at h3; cases h3
    exact (h.block g hlt (hn g (by rw [h1]; rfl))).trans h3
theorem Only.byt (h : Only S w w') {g o : Nat} {l : List UInt8} (hb : Byt w g o l) (hn : ¬ S g) : Byt w' g o l :=
  ⟨Nat.lt_of_lt_of_le hb.1 h.size, fun j hj => (World.cell?_of_block (a := ⟨g, o + j, none⟩) (h.block g hb.1 hn)).trans (hb.2 j hj)⟩
end

theorem SL.own_lt {w : World} {B : Nat} {v : Value} {e : TypeId} {xs : List Value} (h : SL w B e v xs) : ∀ k, v.ownBlock = some k → k < w.heap.size ∧ B ≤ k := by
  intro k hk
  rcases h.2 with ⟨h1, h2⟩ | ⟨g', cap, cur, h1, h2, h3, _⟩
  · rw [h1] at hk; simp [Value.ownBlock] at hk
  · rw [h1] at hk
    have e : g' = k := by simpa [Value.ownBlock] using hk
    subst e
    refine ⟨?_, h2⟩
    rcases Nat.lt_or_ge g' w.heap.size with hlt | hge
    · exact hlt
    · rw [Array.getElem?_eq_none hge] at h3; cases h3
/-- A slice of bytes of the call's own, looked at. -/
theorem SL.view {w : World} {B : Nat} {v : Value} {e : TypeId} {l : List UInt8} (h : SL w B e v (l.map bv)) :
    ∃ A c, v = .slice A l.length c ∧ l.length ≤ c ∧ (0 < l.length → ∃ g, A = some ⟨g, 0, none⟩ ∧ B ≤ g ∧ v.ownBlock = some g ∧ Byt w g 0 l) := by
  rcases h.2 with ⟨h1, h2⟩ | ⟨g, cap, cur, h1, h2, h3, h4, h5, h6, h7⟩
  · rw [List.length_map] at h2
    exact ⟨none, 0, by rw [h1, h2], by omega, fun h0 => by omega⟩
  · rw [List.length_map] at h1 h4 h7
    refine ⟨some ⟨g, 0, none⟩, cap, h1, h4, fun h0 => ⟨g, rfl, h2, by rw [h1]; rfl, ?_⟩⟩
    refine ⟨h.own_lt g (by rw [h1]; rfl) |>.1, fun j hj => ?_⟩
    rw [Nat.zero_add, cell_any h3]
    have e2 : (l.map bv)[j]? = some (bv (l.getD j 0)) := by simp [hj]
    rw [← h7, List.getElem?_take_of_lt (by omega)] at e2
    simpa [bv] using e2
theorem Byt.sub {w : World} {g o : Nat} {l : List UInt8} (h : Byt w g o l) (k m : Nat) : Byt w g (o + k) ((l.drop k).take m) := by
  refine ⟨h.1, fun j hj => ?_⟩
  simp only [List.length_take, List.length_drop] at hj
  have := h.2 (k + j) (by omega)
  rw [← Nat.add_assoc] at this
  rw [this]
  simp only [List.getD_eq_getElem?_getD]
  rw [List.getElem?_take_of_lt (by omega), List.getElem?_drop]
/-- Bytes in memory as a slice to be appended. -/
theorem Byt.reads {w : World} {g : Nat} {l : List UInt8} {o : Nat} (h : Byt w g o l) : Reads w w.heap.size 1 (some ⟨g, o, none⟩) l.length (l.map bv) := by
  refine ⟨by simp, fun _ => ⟨_, rfl, h.1, fun j u hu => ?_⟩⟩
  rw [addo]
  have hj : j < l.length := by have := (List.getElem?_eq_some_iff.1 hu).1; simpa using this
  rw [h.2 j hj, ← hu]
  simp [bv, hj]

section
variable {P : Program} {ops : Array Oper} {kf : Nat → Nat} {S : World → Prop} {Q : Act → World → Prop} {k : Nat} {o : Oper} {l : List Oper} {a : Act} {w : World}
/-- An operation that yields one value in every world that meets S. -/
theorem wpX_val0 (hk : kf k = 0) (hw : Region.wanted o (yielded ops a.tmps) = true) (v : Value) (hv : ∀ w', S w' → (execOp a.eval o).run P w' = .ok (.value v) w') (hS : S w)
    (h : wpX P ops S kf Q (k + 1) l (a.put o.dst v) w) : wpX P ops S kf Q k (o :: l) a w := by
  show opX P ops S (kf k) o _ a w
  unfold opX
  rw [hk, if_neg (by decide)]
  refine ⟨v, .inl ⟨hw, fun w' hw' => ?_⟩, h⟩
  have hS' : S w' := by rcases hw' with ⟨_, h⟩ | rfl; exact h; exact hS
  exact hv w' hS'
/-- .. and one that yields it in the world at hand. -/
theorem wpX_val1 (hk : kf k = 1) (hw : Region.wanted o (yielded ops a.tmps) = true) (v : Value) (hv : (execOp a.eval o).run P w = .ok (.value v) w)
    (h : wpX P ops S kf Q (k + 1) l (a.put o.dst v) w) : wpX P ops S kf Q k (o :: l) a w := by
  show opX P ops S (kf k) o _ a w
  unfold opX
  rw [hk, if_neg (by decide)]
  refine ⟨v, .inl ⟨hw, fun w' hw' => ?_⟩, h⟩
  rcases hw' with h0 | rfl
  · exact absurd h0.1 (by decide)
  · exact hv
theorem wpX_load_mid1 (hk : kf k = 1) (hw : Region.wanted o (yielded ops a.tmps) = true) (ty : TypeId) (x : Operand) (ho : o.op = .load ty x) (b off : Nat) (hx : a.eval x = .pointer (some ⟨b, off, none⟩)) (cs : List Value) (d : TypeDesc)
    (hc : w.rangeAt b off cs) (hu : P.underlying ty = some d) (hd : d.isRow = true) (hi : (P.info? ty).map (·.size) = some cs.length)
    (h : wpX P ops S kf Q (k + 1) l (a.put o.dst (.agg cs.toArray)) w) : wpX P ops S kf Q k (o :: l) a w := by
  refine wpX_val1 hk hw (.agg cs.toArray) ?_ h
  unfold execOp
  simp only [ho, hx, Instr.loadAt, Instr.sureAddr, Sem.run_bind, Sem.run_pure, Result.andThen_ok, run_loadVar_mid w b off ty cs d hc hu hd hi]
theorem wpX_load_mid (hk : kf k = 0) (hw : Region.wanted o (yielded ops a.tmps) = true) (ty : TypeId) (x : Operand) (ho : o.op = .load ty x) (b off : Nat) (hx : a.eval x = .pointer (some ⟨b, off, none⟩)) (cs : List Value) (d : TypeDesc)
    (hc : ∀ w', S w' → w'.rangeAt b off cs) (hu : P.underlying ty = some d) (hd : d.isRow = true) (hi : (P.info? ty).map (·.size) = some cs.length) (hS : S w)
    (h : wpX P ops S kf Q (k + 1) l (a.put o.dst (.agg cs.toArray)) w) : wpX P ops S kf Q k (o :: l) a w := by
  refine wpX_val0 hk hw (.agg cs.toArray) (fun w' hS' => ?_) hS h
  unfold execOp
  simp only [ho, hx, Instr.loadAt, Instr.sureAddr, Sem.run_bind, Sem.run_pure, Result.andThen_ok, run_loadVar_mid w' b off ty cs d (hc w' hS') hu hd hi]
end
/-- Append, the world described by 'grownBy'. -/
theorem wpList_app_grown {P : Program} {w : World} {e : TypeId} {ops : Array Oper} {rest : List Oper} {o : Oper} {a : Act} {Q : Exit → Act → World → Prop} {t tx : TypeId} {z : Value} {bytes : Nat} (E : ElemI P t e z bytes) (hgd : o.guard = none) (s x : Operand)
    (ho : o.op = .call { callee := .builtin .append, args := #[s, x], argTypes := #[t, tx] }) (B : Nat) (v : Value) (xs : List Value) (hs : a.eval s = v) (hown : SL w B e v xs)
    (xv : Value) (n : Nat) (news : List Value) (hx : a.eval x = xv) (hsrc : Src P 1 tx xv n news w) (hlen : xs.length + n ≤ 1099511627776) (hby : bytes ≤ 32) (hB : B ≤ w.heap.size)
    (h : ∀ v' w', SL w' B e v' (xs ++ news) → w.grownBy w' v.ownBlock → (v'.ownBlock = v.ownBlock ∨ v'.ownBlock = some w.heap.size) → wpList P ops Q rest (a.put o.dst v') w') :
    wpList P ops Q (o :: rest) a w := by
  refine wpList_plain hgd fun K hK => ?_
  obtain ⟨v', w', hrun, h2, h3, h4⟩ := run_app_src (P := P) (ty := o.type) E hown xv n news hsrc hlen hby hB
  unfold Oper.wp execOp
  simp only [ho, resolve, invoke, builtin, Sem.run_bind, Sem.run_pure, Result.andThen_ok, List.map_toArray, List.map_cons, List.map_nil, hs, hx, hrun]
  exact hK _ _ (h v' w' h2 h3 h4)
end Go.Proofs.Ytcnhhlnbmliihaa
