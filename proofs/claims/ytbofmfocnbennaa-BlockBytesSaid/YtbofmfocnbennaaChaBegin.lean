import Derived.Test.YtbofmfocnbennaaQuarter
import Derived.Test.YtbofmfocnbennaaMem
import Derived.WalkSmall
namespace Go.Proofs.Ytbofmfocnbennaa
open Go.RowKit
set_option maxRecDepth 100000
set_option linter.unusedVariables false
set_option linter.unusedSimpArgs false

/-- Four bytes, the lowest first. -/
def le4 (b0 b1 b2 b3 : UInt8) : BitVec 32 := bw b0 ||| bw b1 <<< 8 ||| bw b2 <<< 16 ||| bw b3 <<< 24
/-- The i-th word of a text. -/
def lew (s : ByteArray) (i : Nat) : BitVec 32 := le4 (byteAt s (4 * i)) (byteAt s (4 * i + 1)) (byteAt s (4 * i + 2)) (byteAt s (4 * i + 3))

theorem cword (s : ByteArray) (i : Nat) (w : World) (h : 4 * i + 4 ≤ s.size) (hs : s.size ≤ 140737488355328) :
    Calls Try.prog 80 #[.string s, .int .i64 i] w fun e w' => e = .returned (.int .u32 (V (lew s i))) ∧ ∃ m, w' = w.drewN m := by
  have hm : 0 ≤ 4 * (i : Int) := by omega
  have h0 : 4 * (i : Int) < (s.size : Int) := by omega
  have h1 : 4 * (i : Int) + 1 < (s.size : Int) := by omega
  have h2 : 4 * (i : Int) + 2 < (s.size : Int) := by omega
  have h3 : 4 * (i : Int) + 3 < (s.size : Int) := by omega
  have hm1 : 0 ≤ 4 * (i : Int) + 1 := by omega
  have hm2 : 0 ≤ 4 * (i : Int) + 2 := by omega
  have hm3 : 0 ≤ 4 * (i : Int) + 3 := by omega
  go_enter Try.func80, Try.ntmps80
  go_wp2_with fail
  refine wp_region_lexX [] (by kernel_rfl) (by kernel_rfl) ?_
  repeat (refine wpX_pure rfl rfl rfl ?_; intro K hK; go_big_quiet_op; refine hK _ ?_; clear hK K)
  refine wpX_nil ?_
  go_wp2
  go_ret
  exact ⟨rfl, 1, rfl⟩

/-- The state at the beginning, as it is filled. -/
def bgn0 : List (BitVec 32) := [0x61707865, 0x3320646e, 0x79622d32, 0x6b206574, 0, 0, 0, 0, 0, 0, 0, 0, 0, 0, 0, 0]
def bgnK (key : ByteArray) (k : Nat) : List (BitVec 32) := (List.range k).foldl (fun l i => l.set (4 + i) (lew key i)) bgn0
def bgnN (nonce : ByteArray) (l : List (BitVec 32)) (k : Nat) : List (BitVec 32) := (List.range k).foldl (fun l i => l.set (13 + i) (lew nonce i)) l
theorem bgnK_succ (key : ByteArray) (k : Nat) : bgnK key (k + 1) = (bgnK key k).set (4 + k) (lew key k) := by
  unfold bgnK; rw [List.range_succ, List.foldl_append]; rfl
theorem bgnN_succ (nonce : ByteArray) (l : List (BitVec 32)) (k : Nat) : bgnN nonce l (k + 1) = (bgnN nonce l k).set (13 + k) (lew nonce k) := by
  unfold bgnN; rw [List.range_succ, List.foldl_append]; rfl
theorem bgnK_length (key : ByteArray) (k : Nat) : (bgnK key k).length = 16 := by
  induction k with
  | zero => rfl
  | succ k ih => rw [bgnK_succ, List.length_set, ih]
theorem bgnN_length (nonce : ByteArray) (l : List (BitVec 32)) (k : Nat) (h : l.length = 16) : (bgnN nonce l k).length = 16 := by
  induction k with
  | zero => exact h
  | succ k ih => rw [bgnN_succ, List.length_set, ih]
def bgn (key nonce : ByteArray) (c : BitVec 32) : List (BitVec 32) := bgnN nonce ((bgnK key 8).set 12 c) 3
theorem bgn_length (key nonce : ByteArray) (c : BitVec 32) : (bgn key nonce c).length = 16 := bgnN_length _ _ _ (by rw [List.length_set, bgnK_length])

theorem state_size : (Try.prog.info? 94).map (·.size) = some 16 := by kernel_rfl

theorem cbegin (key nonce : ByteArray) (c : Int) (w : World) (hk : key.size = 32) (hn : nonce.size = 12) :
    Calls Try.prog 73 #[.string key, .string nonce, .int .i64 c] w fun e w' =>
      e = .returned (.agg (wcells (bgn key nonce (.ofInt 32 c)))) ∧ Below w.heap.size w w' := by
  have HK := Lib.hid hk
  have HN := Lib.hid hn
  clear hk hn
  go_enter Try.func73, Try.ntmps73
  go_wp2_with fail
  go_loopw [11] (fun i wr => ∃ k : Nat, k ≤ 8 ∧ i = .int .i64 k ∧ Blk wr (w.heap.size + 1) 94 (wcells (bgnK key k)) ∧ (∃ c0 : Array Value, c0.size = 16 ∧ Blk wr w.heap.size 94 c0) ∧ Below w.heap.size w wr)
    (fun i _ => 8 - (intOf i).toNat)
  case atStart => exact ⟨0, by omega, rfl, heap_alloc2_new _ _ _, ⟨_, rfl, heap_alloc2_old _ _ _⟩, ((Below.refl _ _).alloc (Nat.le_refl _) _).alloc (by simp) _⟩
  case round =>
    obtain ⟨k, hk8, rfl, hb1, hb0, hB⟩ := hrel
    by_cases hlt : k < 8
    · have hc := (hb1.cell (4 + k)).trans (wcells_get _ _ (by rw [bgnK_length]; omega))
      have hf := hb1.frozen (4 + k)
      go_wp2_with (go_at_call 80; ((with_reducible refine (cword _ _ _ (by have := HK.out; omega) (by have := HK.out; omega)).mono ?_); rintro e w' ⟨rfl, m, rfl⟩))
      go_roundw
      case rel =>
        refine ⟨k + 1, by omega, by go_num, ?_, ?_, ?_⟩
        · have := (hb1.drewN m).set_ (4 + k) (.int .u32 (V (lew key k)))
          rw [wcells_set, ← bgnK_succ] at this
          exact this
        · obtain ⟨c0, h0, h1⟩ := hb0
          exact ⟨c0, h0, (h1.drewN m).far (by simp) _⟩
        · exact (below_drewN hB m).setCell (by simp) _
      case measure => simp [intOf]; omega
    · have e8 : k = 8 := by omega
      rw [e8] at hb1
      clear e8
      have hc := (hb1.cell 12).trans (wcells_get _ _ (by rw [bgnK_length]; omega))
      have hf := hb1.frozen 12
      have h2 := hb1.set_ 12 (.int .u32 (V (.ofInt 32 c)))
      rw [wcells_set] at h2
      have hl2 : ((bgnK key 8).set 12 (.ofInt 32 c)).length = 16 := by rw [List.length_set, bgnK_length]
      have h0 : ∃ c0 : Array Value, c0.size = 16 ∧ Blk (wr.setCell ⟨w.heap.size + 1, 12, none⟩ (.int .u32 (V (.ofInt 32 c)))) w.heap.size 94 c0 := by
        obtain ⟨c0, h0, h1⟩ := hb0
        exact ⟨c0, h0, h1.far (by simp) _⟩
      have hB2 : Below w.heap.size w (wr.setCell ⟨w.heap.size + 1, 12, none⟩ (.int .u32 (V (.ofInt 32 c)))) := hB.setCell (by simp) _
      have HL := Lib.hid hl2
      clear hl2
      go_wp2_with fail
      clear hc hf hb1 hb0 hB
      generalize hl : (bgnK key 8).set 12 (.ofInt 32 c) = l at *
      have HLL := Lib.hid hl
      clear hl
      go_loopw [24] (fun i wr => ∃ k : Nat, k ≤ 3 ∧ i = .int .i64 k ∧ Blk wr (w.heap.size + 1) 94 (wcells (bgnN nonce l k)) ∧ (∃ c0 : Array Value, c0.size = 16 ∧ Blk wr w.heap.size 94 c0) ∧ Below w.heap.size w wr)
        (fun i _ => 3 - (intOf i).toNat)
      case atStart => exact ⟨0, by omega, rfl, h2, h0, hB2⟩
      case round =>
        clear h2 h0 hB2
        obtain ⟨k, hk3, rfl, hb1, hb0, hB⟩ := hrel
        by_cases hlt : k < 3
        · have hc := (hb1.cell (13 + k)).trans (wcells_get _ _ (by rw [bgnN_length _ _ _ HL.out]; omega))
          have hf := hb1.frozen (13 + k)
          go_wp2_with (go_at_call 80; ((with_reducible refine (cword _ _ _ (by have := HN.out; omega) (by have := HN.out; omega)).mono ?_); rintro e w' ⟨rfl, m, rfl⟩))
          go_roundw
          case rel =>
            refine ⟨k + 1, by omega, by go_num, ?_, ?_, ?_⟩
            · have := (hb1.drewN m).set_ (13 + k) (.int .u32 (V (lew nonce k)))
              rw [wcells_set, ← bgnN_succ] at this
              exact this
            · obtain ⟨c0, h0, h1⟩ := hb0
              exact ⟨c0, h0, (h1.drewN m).far (by simp) _⟩
            · exact (below_drewN hB m).setCell (by simp) _
          case measure => simp [intOf]; omega
        · have e3 : k = 3 := by omega
          rw [e3] at hb1
          clear e3
          obtain ⟨c0, hc0, hb00⟩ := hb0
          have hsz : (wcells (bgnN nonce l 3)).size = 16 := by rw [size_wcells, bgnN_length _ _ _ HL.out]
          have HI : Hid ((Try.prog.info? 94).map (·.size) = some (wcells (bgnN nonce l 3)).size) := by rw [hsz]; exact state_size
          have HS : Hid (c0.size = (wcells (bgnN nonce l 3)).size) := by rw [hsz]; exact hc0
          have hone := wcells_one (bgnN nonce l 3)
          clear hsz hc0
          generalize hcs : wcells (bgnN nonce l 3) = cs at *
          have HC := Lib.hid hcs
          clear hcs
          go_wp2_with (first
            | (with_reducible refine wpList_load_blk rfl 94 _ rfl (w.heap.size + 1) cs 94 16 88 rfl hb1 Try.underlying94 HI.out ?_)
            | (with_reducible refine wpList_store_blk rfl 94 _ _ rfl w.heap.size cs c0 94 rfl rfl hb00 HI.out HS.out hone ?_))
          refine bodyPost_ret (results_blk rfl _ w.heap.size 94 cs 16 88 rfl (hb00.row cs) Try.underlying94 HI.out) rfl ⟨?_, below_row hB (Nat.le_refl _) _⟩
          rw [← HC.out, ← HLL.out]
          rfl

set_option maxHeartbeats 1000000 in
theorem cmix (g : Nat) (a b c d : Nat) (x y z u : BitVec 32) (w : World) (ha : a < 4) (hb0 : 4 ≤ b) (hb : b < 8) (hc0 : 8 ≤ c) (hc : c < 12) (hd0 : 12 ≤ d) (hd : d < 16)
    (h1 : w.cell? ⟨g, a, none⟩ = some (.int .u32 (V x))) (h2 : w.cell? ⟨g, b, none⟩ = some (.int .u32 (V y))) (h3 : w.cell? ⟨g, c, none⟩ = some (.int .u32 (V z))) (h4 : w.cell? ⟨g, d, none⟩ = some (.int .u32 (V u)))
    (f1 : w.frozen? ⟨g, a, none⟩ = false) (f2 : w.frozen? ⟨g, b, none⟩ = false) (f3 : w.frozen? ⟨g, c, none⟩ = false) (f4 : w.frozen? ⟨g, d, none⟩ = false) :
    Calls Try.prog 74 #[.pointer (some ⟨g, 0, none⟩), .int .i64 a, .int .i64 b, .int .i64 c, .int .i64 d] w fun e w' =>
      e = .returned (.tuple #[]) ∧ ∃ m, w' = ((((w.drewN m).setCell ⟨g, a, none⟩ (.int .u32 (V (qr x y z u).1))).setCell ⟨g, b, none⟩ (.int .u32 (V (qr x y z u).2.1))).setCell ⟨g, c, none⟩ (.int .u32 (V (qr x y z u).2.2.1))).setCell ⟨g, d, none⟩ (.int .u32 (V (qr x y z u).2.2.2)) := by
  have ha' : (a : Int) < 16 := by omega
  have hb' : (b : Int) < 16 := by omega
  have hc' : (c : Int) < 16 := by omega
  have hd' : (d : Int) < 16 := by omega
  go_enter Try.func74, Try.ntmps74
  go_wp2_with fail
  refine wp_region_lexX [] (by kernel_rfl) (by kernel_rfl) ?_
  repeat (first
    | (refine wpX_pure rfl rfl rfl ?_; intro K hK; go_big_quiet_op; refine hK _ ?_; clear hK K)
    | (refine wpX_load rfl rfl rfl ?_; intro K hK; go_big_quiet_op; refine hK _ ?_; clear hK K)
    | (refine wpX_eff rfl rfl ?_; intro K hK; go_wp2_with (go_at_call 81; ((with_reducible refine (cquarter _ _ _ _ _).mono ?_); rintro e w' ⟨rfl, m, rfl⟩)); refine hK _ _ trivial ?_; clear hK K))
  refine wpX_nil ?_
  go_wp2
  go_end0
  exact ⟨rfl, _, rfl⟩
end Go.Proofs.Ytbofmfocnbennaa
