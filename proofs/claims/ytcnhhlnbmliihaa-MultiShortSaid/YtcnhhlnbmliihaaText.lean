/- Rows of bytes that begin as a text: '[]byte(s)' lays one, with a mark behind its last cell. -/
import Derived.Test.YtcnhhlnbmliihaaSl
import Derived.Laws.IdiomCopy
namespace Go.Proofs.Ytcnhhlnbmliihaa
open Go.RowKit
set_option linter.unusedVariables false
set_option linter.unusedSimpArgs false

/-! ### bytes as numbers -/
theorem ofInt8_byte (x : UInt8) : BitVec.ofInt 8 ((x.toNat : Nat) : Int) = x.toBitVec := by
  rw [BitVec.ofInt_natCast]; apply BitVec.eq_of_toNat_eq; simp
theorem wrap_byte (x : UInt8) : IntKind.u8.wrap ((x.toNat : Nat) : Int) = ((x.toNat : Nat) : Int) := by
  have := x.toNat_lt
  show ((x.toNat : Nat) : Int) % 256 = _
  omega
theorem b_xor8 (x y : UInt8) : bits .xor .u8 ((x.toNat : Nat) : Int) ((y.toNat : Nat) : Int) = (((x ^^^ y).toNat : Nat) : Int) := by
  have h : bits .xor .u8 ((x.toNat : Nat) : Int) ((y.toNat : Nat) : Int) = IntKind.u8.wrap ((BitVec.ofInt 8 ((x.toNat : Nat) : Int) ^^^ BitVec.ofInt 8 ((y.toNat : Nat) : Int)).toNat : Nat) := rfl
  rw [h, ofInt8_byte, ofInt8_byte]
  exact wrap_byte (x ^^^ y)
theorem lob_toNat (x : BitVec 32) : (lob x).toNat = x.toNat % 256 := by unfold lob; simp
theorem b_low8 (x : BitVec 32) : bits .and .i64 (V x) 255 = (((lob x).toNat : Nat) : Int) := by
  have e : (255 : Int) = V 255#32 := rfl
  rw [e, b_and64]
  unfold V
  rw [lob_toNat, BitVec.toNat_and]
  have := Nat.and_two_pow_sub_one_eq_mod x.toNat 8
  have e2 : (255#32).toNat = 2 ^ 8 - 1 := rfl
  rw [e2, this]
theorem V_bw (x : UInt8) : V (bw x) = ((x.toNat : Nat) : Int) := by
  unfold V bw; rw [BitVec.toNat_ofNat]; have := x.toNat_lt; omega
theorem lob_bw (x : UInt8) : lob (bw x) = x := by
  apply UInt8.toNat_inj.1; rw [lob_toNat]; unfold bw; rw [BitVec.toNat_ofNat]; have := x.toNat_lt; omega
theorem bw_xor (x y : UInt8) : bw x ^^^ bw y = bw (x ^^^ y) := by
  apply BitVec.eq_of_toNat_eq
  have hx := x.toNat_lt
  have hy := y.toNat_lt
  have hz := (x ^^^ y).toNat_lt
  unfold bw
  rw [BitVec.toNat_xor, BitVec.toNat_ofNat, BitVec.toNat_ofNat, BitVec.toNat_ofNat, Nat.mod_eq_of_lt (by omega), Nat.mod_eq_of_lt (by omega), Nat.mod_eq_of_lt (by omega), UInt8.toNat_xor]
theorem b_xor64b (x y : UInt8) : bits .xor .i64 ((x.toNat : Nat) : Int) ((y.toNat : Nat) : Int) = V (bw (x ^^^ y)) := by
  rw [← V_bw, ← V_bw, b_xor64, bw_xor]
attribute [go_sem] b_xor8 b_low8 wrap_byte b_xor64b lob_bw
theorem beq_byte (x y : UInt8) : ((((x.toNat : Nat) : Int)) == (((y.toNat : Nat) : Int))) = (x == y) := by
  rw [Bool.eq_iff_iff, beq_iff_eq, beq_iff_eq]
  constructor
  · intro h; exact UInt8.toNat_inj.1 (by omega)
  · rintro rfl; rfl

theorem data_length (s : ByteArray) : s.data.toList.length = s.size := by rw [Array.length_toList]; rfl

/-! ### a row of bytes, its mark behind it if there is one -/
/-- The block g begins with the bytes l, and these may be written. -/
def Tx (w : World) (g : Nat) (e : TypeId) (l : List UInt8) : Prop :=
  ∃ (cur : Array Value) (fz : Nat × Nat), w.heap[g]? = some (.cells cur e fz) ∧ (fz = (0, 0) ∨ cur.size ≤ fz.1) ∧ ∀ i, i < l.length → cur[i]? = some (bv (l.getD i 0))
section
variable {w w' : World} {g : Nat} {e : TypeId} {l : List UInt8}
theorem Tx.lt (h : Tx w g e l) : g < w.heap.size := by
  obtain ⟨cur, fz, hg, _⟩ := h
  rcases Nat.lt_or_ge g w.heap.size with hlt | hge
  · exact hlt
  · rw [Array.getElem?_eq_none hge] at hg; cases hg
theorem cell_any {cur : Array Value} {fz : Nat × Nat} (hg : w.heap[g]? = some (.cells cur e fz)) (i : Nat) : w.cell? ⟨g, i, none⟩ = cur[i]? := by
  unfold World.cell?; simp [hg]
theorem Tx.cell (h : Tx w g e l) (i : Nat) (hi : i < l.length) : w.cell? ⟨g, i, none⟩ = some (.int .u8 (((l.getD i 0).toNat : Nat) : Int)) := by
  obtain ⟨cur, fz, hg, _, hc⟩ := h
  rw [cell_any hg]; exact hc i hi
theorem Tx.frozen (h : Tx w g e l) (i : Nat) (hi : i < l.length) : w.frozen? ⟨g, i, none⟩ = false := by
  obtain ⟨cur, fz, hg, hz, hc⟩ := h
  have hs : i < cur.size := (Array.getElem?_eq_some_iff.1 (hc i hi)).1
  unfold World.frozen?
  simp only [hg]
  rcases hz with rfl | hz
  · simp
  · simp; omega
theorem Tx.alloc (h : Tx w g e l) (o : Obj) : Tx (w.alloc o) g e l := by
  have hl := h.lt
  obtain ⟨cur, fz, hg, r⟩ := h
  exact ⟨cur, fz, (Below.heap_alloc w o g hl).trans hg, r⟩
theorem Tx.drewN (h : Tx w g e l) (n : Nat) : Tx (w.drewN n) g e l := h
theorem Tx.drew (h : Tx w g e l) : Tx w.drew g e l := h
theorem Tx.below {B : Nat} (h : Tx w g e l) (hb : Below B w w') (hg : g < B) : Tx w' g e l := by
  obtain ⟨cur, fz, h1, r⟩ := h
  exact ⟨cur, fz, (hb.block g hg).trans h1, r⟩
theorem Tx.far (h : Tx w g e l) {p : Addr} (hp : g ≠ p.block) (u : Value) : Tx (w.setCell p u) g e l := by
  obtain ⟨cur, fz, h1, r⟩ := h
  exact ⟨cur, fz, (Below.heap_setCell w p u g hp).trans h1, r⟩
theorem Tx.row_far {g' : Nat} (h : Tx w g e l) (hne : g ≠ g') (cs : Array Value) : Tx (w.setRow g' cs) g e l := by
  obtain ⟨cur, fz, h1, r⟩ := h
  exact ⟨cur, fz, (setRow_other w g' g cs hne).trans h1, r⟩
theorem Tx.set_ (h : Tx w g e l) (i : Nat) (b : UInt8) : Tx (w.setCell ⟨g, i, none⟩ (.int .u8 ((b.toNat : Nat) : Int))) g e (l.set i b) := by
  obtain ⟨cur, fz, hg, hz, hc⟩ := h
  refine ⟨cur.setIfInBounds i (bv b), fz, by simp [World.setCell, Array.getElem?_modify, hg, bv], by simpa using hz, fun j hj => ?_⟩
  have hj' : j < l.length := by simpa using hj
  have hjs : j < cur.size := (Array.getElem?_eq_some_iff.1 (hc j hj')).1
  by_cases hij : i = j
  · subst hij
    simp [hjs, hj', bv]
  · rw [Array.getElem?_setIfInBounds_ne hij, hc j hj']
    simp [hij]
theorem Tx.take (h : Tx w g e l) (n : Nat) : Tx w g e (l.take n) := by
  obtain ⟨cur, fz, hg, hz, hc⟩ := h
  refine ⟨cur, fz, hg, hz, fun i hi => ?_⟩
  simp only [List.length_take] at hi
  rw [hc i (by omega)]
  simp [show i < n by omega]
theorem add0 (g i : Nat) : (⟨g, 0, none⟩ : Addr).add i = ⟨g, i, none⟩ := by unfold Addr.add; split <;> simp_all
theorem addo (g o i : Nat) : (⟨g, o, none⟩ : Addr).add i = ⟨g, o + i, none⟩ := by unfold Addr.add; split <;> simp_all
theorem Tx.bytes (h : Tx w g e l) : ∀ j, j < l.length → w.cell? ((⟨g, 0, none⟩ : Addr).add j) = some (.int .u8 (((l.getD j 0).toNat : Nat) : Int)) := by
  intro j hj
  rw [add0]; exact h.cell j hj
end
/-- What '[]byte(s)' lays. -/
theorem Tx.new (w : World) (e : TypeId) (s : ByteArray) (cap n : Nat) (hn : (bytesRow s cap).size ≤ n) : Tx (w.alloc (.cells (bytesRow s cap) e (n, n + 1))) w.heap.size e s.data.toList := by
  refine ⟨_, _, heap_alloc_new w _, .inr hn, fun i hi => ?_⟩
  rw [bytesRow_at s cap i (by simpa using hi)]
  rw [bv, List.getD_eq_getElem?_getD, List.getElem?_eq_getElem hi]
  simp
/-! ### a slice over a row of the call's own, marked or not -/
def RowM (w : World) (B : Nat) (e : TypeId) (v : Value) (l : List UInt8) : Prop :=
  ∃ (g cap : Nat) (cur : Array Value) (fz : Nat × Nat), v = .slice (some ⟨g, 0, none⟩) l.length cap ∧ B ≤ g ∧ w.heap[g]? = some (.cells cur e fz) ∧ (fz = (0, 0) ∨ cur.size ≤ fz.1) ∧ cur.size = cap ∧ l.length ≤ cap ∧
    ∀ i, i < l.length → cur[i]? = some (bv (l.getD i 0))
section
variable {P : Program} {w w' : World} {B : Nat} {e : TypeId} {v : Value} {l : List UInt8}
theorem RowM.form (h : RowM w B e v l) : ∃ g cap, v = .slice (some ⟨g, 0, none⟩) l.length cap ∧ l.length ≤ cap ∧ B ≤ g ∧ Tx w g e l := by
  obtain ⟨g, cap, cur, fz, h1, h2, h3, h4, h5, h6, h7⟩ := h
  exact ⟨g, cap, h1, h6, h2, cur, fz, h3, h4, h7⟩
theorem RowM.alloc (h : RowM w B e v l) (o : Obj) : RowM (w.alloc o) B e v l := by
  obtain ⟨g, cap, cur, fz, h1, h2, h3, r⟩ := h
  have hl : g < w.heap.size := by
    rcases Nat.lt_or_ge g w.heap.size with hlt | hge
    · exact hlt
    · rw [Array.getElem?_eq_none hge] at h3; cases h3
  exact ⟨g, cap, cur, fz, h1, h2, (Below.heap_alloc w o g hl).trans h3, r⟩
theorem RowM.new (w : World) (e : TypeId) (s : ByteArray) (cap n B : Nat) (hB : B ≤ w.heap.size) (hc : s.size ≤ cap) (hn : (bytesRow s cap).size ≤ n) :
    RowM (w.alloc (.cells (bytesRow s cap) e (n, n + 1))) B e (.slice (some ⟨w.heap.size, 0, none⟩) s.size cap) s.data.toList := by
  refine ⟨w.heap.size, cap, _, _, by rw [data_length], hB, heap_alloc_new w _, .inr hn, ?_, by rw [data_length]; exact hc, fun i hi => ?_⟩
  · unfold bytesRow
    have : s.data.size = s.size := rfl
    simp only [Array.size_append, Array.size_map, Array.size_replicate, this]
    omega
  · rw [bytesRow_at s cap i (by simpa using hi)]
    rw [bv, List.getD_eq_getElem?_getD, List.getElem?_eq_getElem hi]
    simp
theorem bytes_getD_append (l : List UInt8) (b : UInt8) (i : Nat) : (l ++ [b]).getD i 0 = if i < l.length then l.getD i 0 else if i = l.length then b else 0 := by
  simp only [List.getD_eq_getElem?_getD, List.getElem?_append]
  split
  · rfl
  · rename_i h
    by_cases e : i = l.length
    · simp [e]
    · rw [if_neg e]
      have : i - l.length ≠ 0 := by omega
      cases h2 : i - l.length with
      | zero => exact absurd h2 this
      | succ k => simp
theorem run_app_byte {t ty : TypeId} (E : ElemI P t e (.int .u8 0) 1) (h : RowM w B e v l) (A : Addr) (c : Nat) (b : UInt8) (hA : w.cell? A = some (bv b)) (hlen : l.length + 1 ≤ 1099511627776) (hB : B ≤ w.heap.size) :
    ∃ v' w', (Builtin.append_ #[t, t] ty #[v, .slice (some A) 1 c]).run P w = .ok v' w' ∧ RowM w' B e v' (l ++ [b]) ∧ Below B w w' := by
  obtain ⟨i, hi, hz0, hz1, hz2⟩ := E.hi
  obtain ⟨g, cap, cur, fz, rfl, h2, h3, h4, h5, h6, h7⟩ := h
  have hA0 : A.add 0 = A := by unfold Addr.add; simp
  have hnews : ∀ j u, [bv b][j]? = some u → w.cell? (A.add j) = some u := by
    intro j u hj
    match j, hj with
    | 0, hj => simp at hj; subst hj; rw [hA0]; exact hA
  by_cases hroom : l.length + 1 ≤ cap
  · have hf := run_firstCells_some (P := P) w i.size 1 A 1 c [bv b] (by rw [hz1]; rfl) hnews
    have hlc : l.length < cur.size := by omega
    have hst := run_storeCells_cells (P := P) g l.length [bv b] 0 w (fun j hj => by
        have e : j = 0 := by simpa using hj
        subst e
        rw [cell_any h3]; simp [hlc]) (fun j hj => by
        have e : j = 0 := by simpa using hj
        subst e
        unfold World.frozen?
        simp only [h3]
        rcases h4 with rfl | h4
        · simp
        · simp; omega) (by intro u hu; simp at hu; subst hu; rfl)
    simp only [Nat.add_zero] at hst
    rw [hz1] at hf
    refine ⟨.slice (some ⟨g, 0, none⟩) (l.length + 1) cap, w.setCells g l.length [bv b], ?_, ⟨g, cap, cur.setIfInBounds l.length (bv b), fz, by simp, h2, ?_, by simpa using h4, by simpa using h5, by simpa using hroom, ?_⟩, ?_⟩
    · simp [Builtin.append_, run_underlying E.ht, sizeOf, typeInfo, hi, Builtin.lenOf, hroom, hf, Addr.add_lit, hst, hz1]
    · simp [World.setCells, World.setCell, Array.getElem?_modify, h3]
    · intro j hj
      rw [bytes_getD_append]
      by_cases hjl : j = l.length
      · subst hjl
        rw [if_neg (by omega), if_pos rfl]
        simp [hlc]
      · have hj' : j < l.length := by simp at hj; omega
        rw [if_pos hj', Array.getElem?_setIfInBounds_ne (fun e => hjl e.symm)]
        exact h7 j hj'
    · show Below B w (w.setCell ⟨g, l.length, none⟩ (bv b))
      exact (Below.refl B w).setCell (p := ⟨g, l.length, none⟩) h2 _
  · have holds : ∀ j u, (l.map bv)[j]? = some u → w.cell? ((⟨g, 0, none⟩ : Addr).add j) = some u := by
      intro j u hj
      have hjl : j < l.length := by have := (List.getElem?_eq_some_iff.1 hj).1; simpa using this
      rw [add0, cell_any h3, h7 j hjl, ← hj]
      simp [hjl]
    have hr := run_append_grow (P := P) w t ty e i (.int .u8 0) E.ht hi hz0 ⟨g, 0, none⟩ l.length cap (l.map bv) (by rw [hz1]; simp) holds A 1 c [bv b] (by rw [hz1]; rfl) hnews (by omega) (by omega) (growslice_fits (by omega) (by rw [hz2]; omega))
    have hge := grownCap_ge w (l.length + 1) cap e
    refine ⟨_, _, hr, ⟨w.heap.size, grownCap w (l.length + 1) cap e, _, _, by simp, hB, heap_alloc_new w.drew _, .inl rfl, ?_, by simpa using hge, ?_⟩, ((Below.refl B w).drew).alloc (by simpa using hB) _⟩
    · simp only [Array.size_append, List.size_toArray, List.length_map, size_zeroCells, List.length_cons, List.length_nil]
      have : (Value.int .u8 0).cells.size = 1 := rfl
      rw [this]; omega
    · intro j hj
      have hj' : j < l.length + 1 := by simpa using hj
      rw [bytes_getD_append, Array.getElem?_append_left (by simp; omega)]
      simp only [List.append_toArray, List.getElem?_toArray, List.getElem?_append, List.length_map]
      split
      · rename_i hl; simp [hl]
      · rename_i hl
        have e : j = l.length := by omega
        subst e; simp
end
theorem wpList_app_byte {P : Program} {w : World} {ops : Array Oper} {rest : List Oper} {o : Oper} {a : Act} {Q : Exit → Act → World → Prop} {t e : TypeId} (E : ElemI P t e (.int .u8 0) 1) (hgd : o.guard = none) (s x : Operand)
    (ho : o.op = .call { callee := .builtin .append, args := #[s, x], argTypes := #[t, t] })
    (B : Nat) (v : Value) (l : List UInt8) (hs : a.eval s = v) (hown : RowM w B e v l) (A : Addr) (c : Nat) (b : UInt8) (hx : a.eval x = .slice (some A) 1 c) (hA : w.cell? A = some (bv b)) (hlen : l.length + 1 ≤ 1099511627776) (hB : B ≤ w.heap.size)
    (h : ∀ v' w', RowM w' B e v' (l ++ [b]) → Below B w w' → wpList P ops Q rest (a.put o.dst v') w') : wpList P ops Q (o :: rest) a w := by
  obtain ⟨v', w', hrun, h2, h3⟩ := run_app_byte (P := P) (ty := o.type) E hown A c b hA hlen hB
  refine wpList_plain hgd fun K hK => ?_
  unfold Oper.wp execOp
  simp only [ho, resolve, invoke, builtin, Sem.run_bind, Sem.run_pure, Result.andThen_ok, List.map_toArray, List.map_cons, List.map_nil, hs, hx, hrun]
  exact hK _ _ (h v' w' h2 h3)
end Go.Proofs.Ytcnhhlnbmliihaa
