/- Blocks of memory that are known whole: rows of words, rows of bytes; what stores, new blocks and draws do to them. -/
import Derived.Test.YtcnhhlnbmliihaaWords
import Derived.Test.YtcnhhlnbmliihaaOrd
import Derived.Deep.Draws
import Derived.Laws.OwnMore
import Derived.Laws.CopyRow
import Derived.Laws.CopyOwn
import Derived.Laws.IdiomStrings
import Derived.Deep.WholeRow
namespace Go.Proofs.Ytcnhhlnbmliihaa
open Go.RowKit
set_option linter.unusedVariables false
set_option linter.unusedSimpArgs false

def Blk (w : World) (g : Nat) (t : TypeId) (cs : Array Value) : Prop := w.heap[g]? = some (.cells cs t (0, 0))

section
variable {w w' : World} {g : Nat} {t : TypeId} {cs : Array Value}
theorem Blk.lt (h : Blk w g t cs) : g < w.heap.size := by
  rcases Nat.lt_or_ge g w.heap.size with hlt | hge
  · exact hlt
  · unfold Blk at h; rw [Array.getElem?_eq_none hge] at h; cases h
theorem Blk.cell (h : Blk w g t cs) (i : Nat) : w.cell? ⟨g, i, none⟩ = cs[i]? := cell_of_row w g i cs t (0, 0) h
theorem Blk.frozen (h : Blk w g t cs) (i : Nat) : w.frozen? ⟨g, i, none⟩ = false := by
  unfold Blk at h
  simp [World.frozen?, h]
theorem Blk.new (w : World) (t : TypeId) (cs : Array Value) : Blk (w.alloc (.cells cs t)) w.heap.size t cs := heap_alloc_new w _
theorem Blk.drew (h : Blk w g t cs) : Blk w.drew g t cs := h
theorem Blk.drewN (h : Blk w g t cs) (n : Nat) : Blk (w.drewN n) g t cs := h
theorem Blk.alloc (h : Blk w g t cs) (o : Obj) : Blk (w.alloc o) g t cs := (Below.heap_alloc w o g h.lt).trans h
theorem Blk.set_ (h : Blk w g t cs) (i : Nat) (u : Value) : Blk (w.setCell ⟨g, i, none⟩ u) g t (cs.setIfInBounds i u) := by
  unfold Blk at h ⊢
  simp [World.setCell, Array.getElem?_modify, h]
theorem Blk.far (h : Blk w g t cs) {p : Addr} (hp : g ≠ p.block) (u : Value) : Blk (w.setCell p u) g t cs := (Below.heap_setCell w p u g hp).trans h
theorem Blk.below {B : Nat} (h : Blk w g t cs) (hb : Below B w w') (hg : g < B) : Blk w' g t cs := (hb.block g hg).trans h
theorem Blk.grown {row : Option Nat} (h : Blk w g t cs) (hb : w.grownBy w' row) (hg : some g ≠ row) : Blk w' g t cs := (hb.block g h.lt hg).trans h
theorem Blk.ne_ {g' : Nat} {t' : TypeId} {cs' : Array Value} (h : Blk w g t cs) (h' : Blk w g' t' cs') (hne : t ≠ t') : g ≠ g' := by
  rintro rfl
  unfold Blk at h h'
  rw [h] at h'
  injection h' with h'
  injection h' with _ ht
  exact hne ht
end

/-- A block of so many cells. -/
def BlkN (w : World) (g : Nat) (t : TypeId) (n : Nat) : Prop := ∃ cs : Array Value, cs.size = n ∧ Blk w g t cs
section
variable {w w' : World} {g n : Nat} {t : TypeId}
theorem BlkN.lt (h : BlkN w g t n) : g < w.heap.size := let ⟨_, _, h2⟩ := h; h2.lt
theorem BlkN.drewN (h : BlkN w g t n) (m : Nat) : BlkN (w.drewN m) g t n := h
theorem BlkN.alloc (h : BlkN w g t n) (o : Obj) : BlkN (w.alloc o) g t n := let ⟨c, h1, h2⟩ := h; ⟨c, h1, h2.alloc o⟩
theorem BlkN.set_ (h : BlkN w g t n) (i : Nat) (u : Value) : BlkN (w.setCell ⟨g, i, none⟩ u) g t n := let ⟨c, h1, h2⟩ := h; ⟨_, by simp [h1], h2.set_ i u⟩
theorem BlkN.far (h : BlkN w g t n) {p : Addr} (hp : g ≠ p.block) (u : Value) : BlkN (w.setCell p u) g t n := let ⟨c, h1, h2⟩ := h; ⟨c, h1, h2.far hp u⟩
theorem BlkN.below {B : Nat} (h : BlkN w g t n) (hb : Below B w w') (hg : g < B) : BlkN w' g t n := let ⟨c, h1, h2⟩ := h; ⟨c, h1, h2.below hb hg⟩
theorem BlkN.row_far {g' : Nat} (h : BlkN w g t n) (hne : g ≠ g') (cs : Array Value) : BlkN (w.setRow g' cs) g t n := let ⟨c, h1, h2⟩ := h; ⟨c, h1, (setRow_other w g' g cs hne).trans h2⟩
theorem BlkN.of (cs : Array Value) (h : Blk w g t cs) (hn : cs.size = n) : BlkN w g t n := ⟨cs, hn, h⟩
end

/-! ### cells of words, cells of bytes -/
/-- A text out of its bytes. -/
def str (l : List UInt8) : ByteArray := ⟨l.toArray⟩
theorem str_size (l : List UInt8) : (str l).size = l.length := by simp [str, ByteArray.size]
theorem str_bytes (s : ByteArray) : str s.data.toList = s := by simp [str]
theorem bytes_str (l : List UInt8) : (str l).data.toList = l := by simp [str]
theorem byteAt_str (l : List UInt8) (i : Nat) : byteAt (str l) i = l.getD i 0 := by simp [byteAt, str]
def wv (x : BitVec 32) : Value := .int .u32 (V x)
def bv (b : UInt8) : Value := .int .u8 ((b.toNat : Nat) : Int)
def wcells (l : List (BitVec 32)) : Array Value := (l.map wv).toArray
def bcells (l : List UInt8) : Array Value := (l.map bv).toArray
theorem size_wcells (l : List (BitVec 32)) : (wcells l).size = l.length := by simp [wcells]
theorem size_bcells (l : List UInt8) : (bcells l).size = l.length := by simp [bcells]
theorem wcells_set (l : List (BitVec 32)) (i : Nat) (x : BitVec 32) : (wcells l).setIfInBounds i (.int .u32 (V x)) = wcells (l.set i x) := by
  simp [wcells, List.map_set, wv]
theorem bcells_set (l : List UInt8) (i : Nat) (b : UInt8) : (bcells l).setIfInBounds i (.int .u8 ((b.toNat : Nat) : Int)) = bcells (l.set i b) := by
  simp [bcells, List.map_set, bv]
theorem wcells_get (l : List (BitVec 32)) (i : Nat) (h : i < l.length) : (wcells l)[i]? = some (.int .u32 (V (l.getD i 0))) := by
  simp [wcells, wv, h]
theorem bcells_get (l : List UInt8) (i : Nat) (h : i < l.length) : (bcells l)[i]? = some (.int .u8 (((l.getD i 0).toNat : Nat) : Int)) := by
  simp [bcells, bv, h]
theorem bcells_one (l : List UInt8) : ∀ v ∈ (bcells l).toList, v.oneCell' = true := by
  intro v hv
  simp [bcells] at hv
  obtain ⟨b, _, rfl⟩ := hv
  rfl
theorem wcells_one (l : List (BitVec 32)) : ∀ v ∈ (wcells l).toList, v.oneCell' = true := by
  intro v hv
  simp [wcells] at hv
  obtain ⟨b, _, rfl⟩ := hv
  rfl

theorem Blk.row {w : World} {g : Nat} {t : TypeId} {cur : Array Value} (h : Blk w g t cur) (cs : Array Value) : Blk (w.setRow g cs) g t cs := setRow_heap w g cur cs t (0, 0) h
theorem Blk.row_far {w : World} {g g' : Nat} {t : TypeId} {cur : Array Value} (h : Blk w g t cur) (hne : g ≠ g') (cs : Array Value) : Blk (w.setRow g' cs) g t cur := (setRow_other w g' g cs hne).trans h
theorem below_row {B : Nat} {w w' : World} (h : Below B w w') {g : Nat} (hg : B ≤ g) (cs : Array Value) : Below B w (w'.setRow g cs) := below_setRow h hg cs

section
variable {P : Program} {ops : Array Oper} {rest : List Oper} {o : Oper} {a : Act} {w : World} {Q : Exit → Act → World → Prop}
/-- A whole row stored into a block that is known whole. -/
theorem wp_store_blk {K : Act → World → Prop} (ty : TypeId) (x y : Operand) (ho : o.op = .store ty x y) (g : Nat) (cs cur : Array Value) (t : TypeId)
    (hx : a.eval x = .pointer (some ⟨g, 0, none⟩)) (hy : a.eval y = .agg cs) (hg : Blk w g t cur) (hi : (P.info? ty).map (·.size) = some cs.size) (hsz : cur.size = cs.size) (h1 : ∀ v ∈ cs.toList, v.oneCell' = true)
    (h : K (a.put o.dst undef) (w.setRow g cs)) : o.wp P a w K Q := by
  have hr : (storeVar ty ⟨g, 0, none⟩ (.agg cs)).run P w = .ok () (w.setRow g cs) :=
    run_storeVar_row w g t ty cur cs hg hi hsz (by rw [Array.all_eq_true_iff_forall_mem]; intro v hv; exact h1 v (by simpa using hv))
  unfold Oper.wp execOp
  simp only [ho, hx, hy, Instr.storeAt, Instr.sureAddr, Sem.run_bind, Sem.run_pure, Result.andThen_ok, hr]
  exact h
theorem wpList_store_blk (hgd : o.guard = none) (ty : TypeId) (x y : Operand) (ho : o.op = .store ty x y) (g : Nat) (cs cur : Array Value) (t : TypeId)
    (hx : a.eval x = .pointer (some ⟨g, 0, none⟩)) (hy : a.eval y = .agg cs) (hg : Blk w g t cur) (hi : (P.info? ty).map (·.size) = some cs.size) (hsz : cur.size = cs.size) (h1 : ∀ v ∈ cs.toList, v.oneCell' = true)
    (h : wpList P ops Q rest (a.put o.dst undef) (w.setRow g cs)) : wpList P ops Q (o :: rest) a w :=
  wpList_plain hgd fun _ hK => wp_store_blk ty x y ho g cs cur t hx hy hg hi hsz h1 (hK _ _ h)
/-- A whole row stored into the newest block. -/
theorem wpList_store_new (hgd : o.guard = none) (ty : TypeId) (x y : Operand) (ho : o.op = .store ty x y) (g : Nat) (cs cur : Array Value) (t : TypeId) {w0 : World}
    (hx : a.eval x = .pointer (some ⟨g, 0, none⟩)) (hy : a.eval y = .agg cs) (hw : w = w0.alloc (.cells cur t)) (hg : w0.heap.size = g) (hi : (P.info? ty).map (·.size) = some cs.size) (hsz : cur.size = cs.size) (h1 : ∀ v ∈ cs.toList, v.oneCell' = true)
    (h : wpList P ops Q rest (a.put o.dst undef) (w0.alloc (.cells cs t))) : wpList P ops Q (o :: rest) a w := by
  subst hw; subst hg
  exact wpList_store_blk hgd ty x y ho _ cs cur t hx hy (Blk.new w0 t cur) hi hsz h1 (by rw [World.setRow_alloc_new]; exact h)
/-- A whole row loaded. -/
theorem wpList_load_blk (hgd : o.guard = none) (ty : TypeId) (x : Operand) (ho : o.op = .load ty x) (g : Nat) (cs : Array Value) (t : TypeId) (n : Nat) (e : TypeId)
    (hx : a.eval x = .pointer (some ⟨g, 0, none⟩)) (hg : Blk w g t cs) (hu : P.underlying ty = some (.array n e)) (hi : (P.info? ty).map (·.size) = some cs.size)
    (h : wpList P ops Q rest (a.put o.dst (.agg cs)) w) : wpList P ops Q (o :: rest) a w :=
  wpList_load_row hgd ty x ho g hx t cs (0, 0) (.array n e) hg hu rfl hi h
/-- A result that is read out of a block. -/
theorem results_blk {fn : Func} {p : Tmp} {ty : TypeId} (h : fn.results = #[.cell p ty]) (tmps : Array Value) (g : Nat) (t : TypeId) (cs : Array Value) (n : Nat) (e : TypeId)
    (hp : tmps.getD p undef = .pointer (some ⟨g, 0, none⟩)) (hg : Blk w g t cs) (hu : P.underlying ty = some (.array n e)) (hi : (P.info? ty).map (·.size) = some cs.size) :
    (results fn tmps).run P w = .ok (.agg cs) w :=
  results_cell_row h tmps w g t cs (0, 0) (.array n e) hp hg hu rfl hi
/-- A slice of bytes as a text. -/
theorem conv_bytes {src dst e : TypeId} (hs : P.underlying src = some (.slice e)) (he : P.underlying e = some (.int .u8)) (hd : P.underlying dst = some .string) (W : World) (a : Addr) (n cap : Nat) (l : List UInt8) (hn : l.length = n)
    (hc : ∀ j, j < n → W.cell? (a.add j) = some (.int .u8 (((l.getD j 0).toNat : Nat) : Int))) : (convert src dst (.slice (some a) n cap)).run P W = .ok (.string (str l)) W := by
  subst hn
  refine run_convert_bytes_back W src dst e a cap l hs he hd (fun j hj => ?_)
  rw [hc j hj, List.getD_eq_getElem?_getD, List.getElem?_eq_getElem hj]
  rfl
theorem blk_bytes {W : World} {g : Nat} {t : TypeId} {l : List UInt8} (h : Blk W g t (bcells l)) : ∀ j, j < l.length → W.cell? ((⟨g, 0, none⟩ : Addr).add j) = some (.int .u8 (((l.getD j 0).toNat : Nat) : Int)) := by
  intro j hj
  have e : (⟨g, 0, none⟩ : Addr).add j = ⟨g, j, none⟩ := by unfold Addr.add; split <;> simp_all
  rw [e, h.cell, bcells_get l j hj]
end
end Go.Proofs.Ytcnhhlnbmliihaa
