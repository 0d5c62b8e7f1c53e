/- Words kept in ints; rows that are read and written in place. -/
import Derived.Test.YtcnhhlnbmliihaaText
import Derived.Test.YtcnhhlnbmliihaaRows
namespace Go.Proofs.Ytcnhhlnbmliihaa
open Go.RowKit
set_option linter.unusedVariables false
set_option linter.unusedSimpArgs false

def iv (n : Int) : Value := .int .i64 n
def wi (x : BitVec 32) : Value := iv (V x)

theorem int_elem : ElemI Try.prog 22 3 (.int .i64 0) 8 := elemI Try.underlying22 (by kernel_rfl) rfl

theorem lor_sum (x y n : Nat) (h : x < 2 ^ n) : x ||| y <<< n = x + y * 2 ^ n := by
  rw [Nat.or_comm, ← Nat.shiftLeft_add_eq_or_of_lt h, Nat.shiftLeft_eq]; omega
theorem bw_toNat (b : UInt8) : (bw b).toNat = b.toNat := by
  unfold bw; rw [BitVec.toNat_ofNat]; have := b.toNat_lt; omega
/-- Block g begins with the cells vs, and bears no mark. -/
def Rw (w : World) (g : Nat) (e : TypeId) (vs : List Value) : Prop := ∃ cur : Array Value, w.heap[g]? = some (.cells cur e (0, 0)) ∧ ∀ (i : Nat) (u : Value), vs[i]? = some u → cur[i]? = some u
section
variable {w w' : World} {g : Nat} {e : TypeId} {vs : List Value}
theorem Rw.lt (h : Rw w g e vs) : g < w.heap.size := by
  obtain ⟨cur, hg, _⟩ := h
  rcases Nat.lt_or_ge g w.heap.size with hlt | hge
  · exact hlt
  · rw [Array.getElem?_eq_none hge] at hg; cases hg
theorem Rw.cell (h : Rw w g e vs) (i : Nat) (u : Value) (hi : vs[i]? = some u) : w.cell? ⟨g, i, none⟩ = some u := by
  obtain ⟨cur, hg, hc⟩ := h
  rw [cell_any hg]; exact hc i u hi
theorem Rw.frozen (h : Rw w g e vs) (i : Nat) : w.frozen? ⟨g, i, none⟩ = false := by
  obtain ⟨cur, hg, hc⟩ := h
  unfold World.frozen?; simp [hg]
theorem Rw.alloc (h : Rw w g e vs) (o : Obj) : Rw (w.alloc o) g e vs := by
  have hl := h.lt
  obtain ⟨cur, hg, r⟩ := h
  exact ⟨cur, (Below.heap_alloc w o g hl).trans hg, r⟩
theorem Rw.drewN (h : Rw w g e vs) (n : Nat) : Rw (w.drewN n) g e vs := h
theorem Rw.below {B : Nat} (h : Rw w g e vs) (hb : Below B w w') (hg : g < B) : Rw w' g e vs := by
  obtain ⟨cur, h1, r⟩ := h
  exact ⟨cur, (hb.block g hg).trans h1, r⟩
theorem Rw.far (h : Rw w g e vs) {p : Addr} (hp : g ≠ p.block) (u : Value) : Rw (w.setCell p u) g e vs := by
  obtain ⟨cur, h1, r⟩ := h
  exact ⟨cur, (Below.heap_setCell w p u g hp).trans h1, r⟩
theorem Rw.set_ (h : Rw w g e vs) (i : Nat) (u : Value) : Rw (w.setCell ⟨g, i, none⟩ u) g e (vs.set i u) := by
  obtain ⟨cur, hg, hc⟩ := h
  refine ⟨cur.setIfInBounds i u, by simp [World.setCell, Array.getElem?_modify, hg], fun j x hj => ?_⟩
  rw [List.getElem?_set] at hj
  split at hj
  · rename_i hij
    subst hij
    split at hj
    · rename_i hl
      injection hj with hj
      subst hj
      have := hc i _ (List.getElem?_eq_getElem hl)
      have hs : i < cur.size := (Array.getElem?_eq_some_iff.1 this).1
      simp [hs]
    · cases hj
  · rename_i hij
    rw [Array.getElem?_setIfInBounds_ne hij]; exact hc j x hj
theorem Rw.of_blk {cs : Array Value} (h : Blk w g e cs) : Rw w g e cs.toList := ⟨cs, h, fun i u hi => by simpa using hi⟩
theorem SL.rw {B : Nat} {v : Value} (h : SL w B e v vs) (hne : vs ≠ []) : ∃ g cap, v = .slice (some ⟨g, 0, none⟩) vs.length cap ∧ vs.length ≤ cap ∧ B ≤ g ∧ Rw w g e vs := by
  rcases h.2 with ⟨_, h2⟩ | ⟨g, cap, cur, h1, h2, h3, h4, h5, h6, h7⟩
  · exact absurd (List.eq_nil_of_length_eq_zero (by simpa using h2)) hne
  · refine ⟨g, cap, h1, h4, h2, cur, h3, fun i u hi => ?_⟩
    rw [← h7] at hi
    have hl : i < (cur.toList.take (vs.length * 1)).length := (List.getElem?_eq_some_iff.1 hi).1
    simp only [List.length_take] at hl
    rw [List.getElem?_take_of_lt (by omega)] at hi
    simpa using hi
end
/-- A literal's row as a row of the call's own. -/
theorem SL.lit (w : World) (B : Nat) (e : TypeId) (cs : Array Value) (hB : B ≤ w.heap.size) (hm : cs.size ≤ maxLen) : SL (w.alloc (.cells cs e)) B e (.slice (some ⟨w.heap.size, 0, none⟩) cs.size cs.size) cs.toList := by
  refine ⟨by simp, .inr ⟨w.heap.size, cs.size, cs, by simp, hB, heap_alloc_new w _, by simp, hm, by simp, by simp [List.take_of_length_le]⟩⟩

theorem wi_get (l : List (BitVec 32)) (i : Nat) (h : i < l.length) : (l.map wi)[i]? = some (.int .i64 (V (l.getD i 0))) := by
  simp [wi, iv, h]
theorem wi_set (l : List (BitVec 32)) (i : Nat) (x : BitVec 32) : (l.map wi).set i (.int .i64 (V x)) = (l.set i x).map wi := by
  simp [List.map_set, wi, iv]

theorem SL.lower {w : World} {B B0 : Nat} {e : TypeId} {v : Value} {xs : List Value} (h : SL w B e v xs) (hB : B0 ≤ B) : SL w B0 e v xs := by
  refine ⟨h.1, ?_⟩
  rcases h.2 with h2 | ⟨g, cap, cur, h1, h2, r⟩
  · exact .inl h2
  · exact .inr ⟨g, cap, cur, h1, by omega, r⟩
theorem one_wi (l : List (BitVec 32)) : ∀ u ∈ l.map wi, u.oneCell' = true := by
  intro u hu
  simp only [List.mem_map] at hu
  obtain ⟨x, _, rfl⟩ := hu
  rfl

theorem SL.rw16 {w : World} {B n : Nat} {e : TypeId} {v : Value} {vs : List Value} (h : SL w B e v vs) (hl : vs.length = n + 1) : ∃ g cap, v = .slice (some ⟨g, 0, none⟩) (n + 1) cap ∧ n + 1 ≤ cap ∧ B ≤ g ∧ Rw w g e vs := by
  rw [← hl]
  exact h.rw (by rintro rfl; simp at hl)

end Go.Proofs.Ytcnhhlnbmliihaa
