/- Rows that are read and written in place, and what the reference's block computes. -/
import Derived.Test.YtbofmfocnbennaaRefWords
import Derived.Test.YtbofmfocnbennaaText
namespace Go.Proofs.Ytbofmfocnbennaa
open Go.RowKit
set_option maxRecDepth 100000
set_option linter.unusedVariables false
set_option linter.unusedSimpArgs false

/-- The state at the beginning, as a list. -/
theorem bgn_list (key nonce : ByteArray) (c : BitVec 32) : bgn key nonce c = [0x61707865, 0x3320646e, 0x79622d32, 0x6b206574] ++ (List.range 8).map (fun i => lew key i) ++ [c] ++ (List.range 3).map (fun i => lew nonce i) := by
  rfl

/-- The rounds' places. -/
def qa (r : Nat) : Nat := if r < 4 then r else r - 4
def qb (r : Nat) : Nat := if r < 4 then 4 + r else 4 + (r - 4 + 1) % 4
def qc (r : Nat) : Nat := if r < 4 then 8 + r else 8 + (r - 4 + 2) % 4
def qd (r : Nat) : Nat := if r < 4 then 12 + r else 12 + (r - 4 + 3) % 4
def refL (l : List (BitVec 32)) (k : Nat) : List (BitVec 32) := if k ≤ 4 then colL l k else diaL (colL l 4) (k - 4)
theorem refL_zero (l : List (BitVec 32)) : refL l 0 = l := by unfold refL; rw [if_pos (by omega), colL_zero]
theorem refL_length (l : List (BitVec 32)) (k : Nat) : (refL l k).length = l.length := by
  unfold refL; split
  · rw [colL_length]
  · rw [diaL_length, colL_length]
theorem refL_succ (l : List (BitVec 32)) (k : Nat) : refL l (k + 1) = mixL (refL l k) (qa k) (qb k) (qc k) (qd k) := by
  unfold refL qa qb qc qd
  by_cases h : k < 4
  · rw [if_pos (by omega), if_pos (by omega), if_pos h, if_pos h, if_pos h, if_pos h, colL_succ]
  · by_cases h4 : k = 4
    · subst h4
      rw [if_neg (by omega), if_pos (by omega)]
      have e : diaL (colL l 4) (4 + 1 - 4) = diaL (colL l 4) (0 + 1) := rfl
      rw [e, diaL_succ, diaL_zero]
      rfl
    · rw [if_neg (by omega), if_neg (by omega), if_neg h, if_neg h, if_neg h, if_neg h]
      have e : k + 1 - 4 = (k - 4) + 1 := by omega
      rw [e, diaL_succ]
theorem refL_eight (l : List (BitVec 32)) : refL l 8 = dblL l := by
  unfold refL; rw [if_neg (by omega), dblL_eq]
attribute [irreducible] refL
theorem q_bounds (r : Nat) (h : r < 8) : qa r < 4 ∧ 4 ≤ qb r ∧ qb r < 8 ∧ 8 ≤ qc r ∧ qc r < 12 ∧ 12 ≤ qd r ∧ qd r < 16 := by
  unfold qa qb qc qd
  split <;> omega
/-- The bytes appended. -/
def four (x : BitVec 32) : List UInt8 := [lob x, lob (x >>> 8), lob (x >>> 16), lob (x >>> 24)]
def outA (f s : List (BitVec 32)) (k : Nat) : List UInt8 := (List.range k).flatMap fun i => four (s.getD i 0 + f.getD i 0)
theorem outA_succ (f s : List (BitVec 32)) (k : Nat) : outA f s (k + 1) = outA f s k ++ four (s.getD k 0 + f.getD k 0) := by
  unfold outA; rw [List.range_succ, List.flatMap_append]; simp
theorem outA_length (f s : List (BitVec 32)) (k : Nat) : (outA f s k).length = 4 * k := by
  induction k with
  | zero => rfl
  | succ k ih => rw [outA_succ, List.length_append, ih]; rfl
theorem outL_outA (f s : List (BitVec 32)) : ∀ k, k ≤ 16 → outL f s k = outA f s k ++ List.replicate (64 - 4 * k) 0
  | 0, _ => by rw [outL_zero]; rfl
  | k + 1, h => by
    rw [outL_succ, outL_outA f s k (by omega), outA_succ]
    have hl := outA_length f s k
    have hr : List.replicate (64 - 4 * k) (0 : UInt8) = 0 :: 0 :: 0 :: 0 :: List.replicate (64 - 4 * (k + 1)) 0 := by
      have e : 64 - 4 * k = (64 - 4 * (k + 1)) + 4 := by omega
      rw [e]; rfl
    rw [hr]
    generalize outA f s k = A at *
    rw [List.set_append_right _ _ (by omega), List.set_append_right _ _ (by omega), List.set_append_right _ _ (by omega), List.set_append_right _ _ (by omega)]
    have e0 : 4 * k - A.length = 0 := by omega
    have e1 : 4 * k + 1 - A.length = 1 := by omega
    have e2 : 4 * k + 2 - A.length = 2 := by omega
    have e3 : 4 * k + 3 - A.length = 3 := by omega
    rw [e0, e1, e2, e3]
    simp [four]
theorem strm_outA (key nonce : ByteArray) (c : BitVec 32) : strm key nonce c = outA (bgn key nonce c) (rndL (bgn key nonce c) 10) 16 := by
  unfold strm; rw [outL_outA _ _ 16 (by omega)]; simp
attribute [irreducible] outA

theorem four_take (x : BitVec 32) (j : Nat) (h : j < 4) : (four x).take (j + 1) = (four x).take j ++ [lob (x >>> (8 * j))] := by
  match j, h with
  | 0, _ => simp [four]
  | 1, _ => rfl
  | 2, _ => rfl
  | 3, _ => rfl
theorem shr_next (x : BitVec 32) (j : Nat) : (x >>> (8 * j)) >>> 8 = x >>> (8 * (j + 1)) := by
  rw [← BitVec.shiftRight_add]; congr 1
/-! ### the table of rounds in memory -/
def mkR (w : World) (t : TypeId) : List (Array Value) → World
  | [] => w
  | cs :: l => mkR (w.alloc (.cells cs t)) t l
theorem mkR_old (t : TypeId) : ∀ (l : List (Array Value)) (w : World) (g : Nat), g < w.heap.size → (mkR w t l).heap[g]? = w.heap[g]?
  | [], _, _, _ => rfl
  | cs :: l, w, g, h => by
    show (mkR (w.alloc (.cells cs t)) t l).heap[g]? = _
    rw [mkR_old t l _ g (by simp; omega), Below.heap_alloc w _ g h]
theorem mkR_size (t : TypeId) : ∀ (l : List (Array Value)) (w : World), (mkR w t l).heap.size = w.heap.size + l.length
  | [], _ => rfl
  | cs :: l, w => by
    show (mkR (w.alloc (.cells cs t)) t l).heap.size = _
    rw [mkR_size t l]; simp; omega
theorem mkR_blk (t : TypeId) : ∀ (l : List (Array Value)) (w : World) (r : Nat) (cs : Array Value), l[r]? = some cs → Blk (mkR w t l) (w.heap.size + r) t cs
  | [], _, _, _, h => by simp at h
  | c :: l, w, 0, cs, h => by
    simp at h; subst h
    show (mkR (w.alloc (.cells c t)) t l).heap[w.heap.size + 0]? = _
    rw [mkR_old t l _ _ (by simp)]
    exact heap_alloc_new w _
  | c :: l, w, r + 1, cs, h => by
    have := mkR_blk t l (w.alloc (.cells c t)) r cs (by simpa using h)
    have e : (w.alloc (.cells c t)).heap.size + r = w.heap.size + (r + 1) := by simp; omega
    rw [e] at this
    exact this
theorem mkR_below (t : TypeId) : ∀ (l : List (Array Value)) (B : Nat) (v w : World), B ≤ v.heap.size → Below B v w → Below B v (mkR w t l)
  | [], _, _, _, _, h => h
  | cs :: l, B, v, w, hB, h => mkR_below t l B v _ hB (h.alloc (Nat.le_trans hB h.size) _)
def rdA : List (Array Value) := (List.range 8).map fun r => #[.int .i64 (qa r : Int), .int .i64 (qb r : Int), .int .i64 (qc r : Int), .int .i64 (qd r : Int)]
def rdS (b : Nat) : Array Value := ((List.range 8).map fun r => Value.slice (some ⟨b + r, 0, none⟩) 4 4).toArray
def Rds (w : World) (b : Nat) : Prop :=
  (∀ r, r < 8 → w.cell? ⟨b + 8, r, none⟩ = some (.slice (some ⟨b + r, 0, none⟩) 4 4)) ∧
  ∀ r, r < 8 → w.cell? ⟨b + r, 0, none⟩ = some (.int .i64 (qa r : Int)) ∧ w.cell? ⟨b + r, 1, none⟩ = some (.int .i64 (qb r : Int)) ∧ w.cell? ⟨b + r, 2, none⟩ = some (.int .i64 (qc r : Int)) ∧ w.cell? ⟨b + r, 3, none⟩ = some (.int .i64 (qd r : Int))
theorem Rds.new (w : World) (t u : TypeId) : Rds ((mkR w t rdA).alloc (.cells (rdS w.heap.size) u)) w.heap.size := by
  constructor
  · intro r hr
    have h := Blk.new (mkR w t rdA) u (rdS w.heap.size)
    have e : (mkR w t rdA).heap.size = w.heap.size + 8 := by rw [mkR_size]; rfl
    rw [e] at h
    rw [h.cell]
    simp [rdS, hr]
  · intro r hr
    have h := (mkR_blk t rdA w r #[.int .i64 (qa r : Int), .int .i64 (qb r : Int), .int .i64 (qc r : Int), .int .i64 (qd r : Int)] (by simp [rdA, hr])).alloc (.cells (rdS w.heap.size) u)
    exact ⟨h.cell 0, h.cell 1, h.cell 2, h.cell 3⟩
theorem Rds.keep {w w' : World} {b : Nat} (h : Rds w b) (hk : ∀ p : Addr, b ≤ p.block → w'.cell? p = w.cell? p) : Rds w' b :=
  ⟨fun r hr => (hk _ (by simp)).trans (h.1 r hr), fun r hr => ⟨(hk _ (by simp)).trans (h.2 r hr).1, (hk _ (by simp)).trans (h.2 r hr).2.1, (hk _ (by simp)).trans (h.2 r hr).2.2.1, (hk _ (by simp)).trans (h.2 r hr).2.2.2⟩⟩
theorem Rds.setCell {w : World} {b : Nat} (h : Rds w b) (p : Addr) (hp : p.block < b) (u : Value) : Rds (w.setCell p u) b :=
  h.keep fun q hq => World.cell?_setCell_other w p q u (fun e => by subst e; omega)
theorem Rds.drewN {w : World} {b : Nat} (h : Rds w b) (n : Nat) : Rds (w.drewN n) b := h.keep fun _ _ => rfl
end Go.Proofs.Ytbofmfocnbennaa
