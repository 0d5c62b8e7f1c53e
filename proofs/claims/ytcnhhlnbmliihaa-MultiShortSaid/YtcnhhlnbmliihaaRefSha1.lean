/- sledgeref02: rotr, start, rounds, padded. -/
import Derived.Test.YtcnhhlnbmliihaaShaSum
import Derived.Test.YtcnhhlnbmliihaaWi
namespace Go.Proofs.Ytcnhhlnbmliihaa
open Go.RowKit
set_option linter.unusedVariables false
set_option linter.unusedSimpArgs false

theorem crrotr (x : BitVec 32) (n : Int) (w : World) (h0 : 0 ≤ n) (h1 : n ≤ 32) :
    Calls Try.prog 73 #[.int .i64 (V x), .int .i64 n] w fun e w' => e = .returned (.int .i64 (V (rotr x n.toNat))) ∧ ∃ m, w' = w.drewN m := by
  have h2 : 32 - n ≤ 64 := by omega
  have h3 : n ≤ 64 := by omega
  have e : (32 - n).toNat = 32 - n.toNat := by omega
  have E := Lib.hid e
  clear e
  go_enter Try.func73, Try.ntmps73
  go_wp2_with fail
  go_quiet (fail)
  go_wp2
  go_ret
  refine ⟨?_, nq, rfl⟩
  unfold rotr
  rw [← E.out]
  rfl

section
variable {P : Program} {ops : Array Oper} {rest : List Oper} {o : Oper} {a : Act} {w w1 : World} {Q : Exit → Act → World → Prop}
/-- An operation that is known to yield a value, and a world. -/
theorem wpList_runw (hgd : o.guard = none) (v : Value) (hrun : (execOp a.eval o).run P w = .ok (.value v) w1) (h : wpList P ops Q rest (a.put o.dst v) w1) : wpList P ops Q (o :: rest) a w := by
  refine wpList_plain hgd fun K hK => ?_
  unfold Oper.wp
  rw [hrun]
  exact hK _ _ h
end
theorem crstart (w : World) : Calls Try.prog 70 #[] w fun e w' => e = .returned (.slice (some ⟨w.heap.size, 0, none⟩) 8 8) ∧ Rw w' w.heap.size 3 (hStart.list.map wi) ∧ Below w.heap.size w w' := by
  have hr : Rw (w.alloc (.cells (hStart.list.map wi).toArray 3)) w.heap.size 3 (hStart.list.map wi) := by
    have := Rw.of_blk (Blk.new w 3 (hStart.list.map wi).toArray)
    simpa using this
  have hb : Below w.heap.size w (w.alloc (.cells (hStart.list.map wi).toArray 3)) := (Below.refl _ _).alloc (Nat.le_refl _) _
  obtain ⟨w1, HW⟩ : ∃ x, Hid (w.alloc (.cells (hStart.list.map wi).toArray 3) = x) := ⟨_, Lib.hid rfl⟩
  rw [HW.out] at hr hb
  have HR := Lib.hid hr
  have HB := Lib.hid hb
  clear hr hb
  go_enter Try.func70, Try.ntmps70
  go_wp2_with (refine wpList_runw (o := ⟨some 1, _, _, _, _, _⟩) (w1 := w1) rfl (.slice (some ⟨w.heap.size, 0, none⟩) 8 8) (by rw [← HW.out]; kernel_rfl) ?_; dsimp only [Act.put])
  go_ret
  exact ⟨rfl, HR.out, HB.out⟩
set_option maxRecDepth 100000 in
theorem crrounds (w : World) : Calls Try.prog 71 #[] w fun e w' => e = .returned (.slice (some ⟨w.heap.size, 0, none⟩) 64 64) ∧ Rw w' w.heap.size 3 (kList.map wi) ∧ Below w.heap.size w w' := by
  have hr : Rw (w.alloc (.cells (kList.map wi).toArray 3)) w.heap.size 3 (kList.map wi) := by
    have := Rw.of_blk (Blk.new w 3 (kList.map wi).toArray)
    simpa using this
  have hb : Below w.heap.size w (w.alloc (.cells (kList.map wi).toArray 3)) := (Below.refl _ _).alloc (Nat.le_refl _) _
  obtain ⟨w1, HW⟩ : ∃ x, Hid (w.alloc (.cells (kList.map wi).toArray 3) = x) := ⟨_, Lib.hid rfl⟩
  rw [HW.out] at hr hb
  have HR := Lib.hid hr
  have HB := Lib.hid hb
  clear hr hb
  go_enter Try.func71, Try.ntmps71
  go_wp2_with (refine wpList_runw (o := ⟨some 1, _, _, _, _, _⟩) (w1 := w1) rfl (.slice (some ⟨w.heap.size, 0, none⟩) 64 64) (by rw [← HW.out]; kernel_rfl) ?_; dsimp only [Act.put])
  go_ret
  exact ⟨rfl, HR.out, HB.out⟩

theorem mask8 (n : Int) : bits .and .i64 n 255 = n % 256 := by
  rw [bits_and64]
  have e : (BitVec.ofInt 64 n &&& BitVec.ofInt 64 255).toNat = (n % 256).toNat := by
    rw [BitVec.toNat_and, BitVec.toNat_ofInt, BitVec.toNat_ofInt]
    have e : ((255 : Int) % ((2 ^ 64 : Nat) : Int)).toNat = 2 ^ 8 - 1 := by decide
    rw [e, Nat.and_two_pow_sub_one_eq_mod]
    have e1 : ((2 ^ 64 : Nat) : Int) = 18446744073709551616 := by decide
    rw [e1]
    omega
  rw [e]
  unfold wrap64
  omega
/-- A text with so many zeros behind, and so many bytes of its length. -/
def rpre (t : List UInt8) (z : Nat) : List UInt8 := t ++ [0x80] ++ List.replicate z 0
def rpz (t : List UInt8) (i : Nat) : List UInt8 := rpre t (zpad t.length) ++ (be (8 * (t.length : Int)) 8).take i
theorem rpre_zero (t : List UInt8) : t ++ [0x80] = rpre t 0 := by unfold rpre; simp
theorem rpre_succ (t : List UInt8) (z : Nat) : rpre t z ++ [0] = rpre t (z + 1) := by unfold rpre; rw [List.replicate_succ', List.append_assoc]
theorem rpre_length (t : List UInt8) (z : Nat) : (rpre t z).length = t.length + 1 + z := by unfold rpre; simp; omega
theorem rpz_zero (t : List UInt8) : rpz t 0 = rpre t (zpad t.length) := by unfold rpz; simp
theorem rpz_length (t : List UInt8) (i : Nat) (h : i ≤ 8) : (rpz t i).length = t.length + 1 + zpad t.length + i := by unfold rpz; simp [rpre_length, be_length]; omega
theorem rpz_succ (t : List UInt8) (i : Nat) (h : i < 8) : rpz t i ++ [nb (8 * (t.length : Int)) (7 - i)] = rpz t (i + 1) := by
  unfold rpz; rw [be_take _ 8 i h, List.append_assoc]
theorem rpz_all (t : List UInt8) : rpz t 8 = padded t := by
  unfold rpz padded rpre; rw [List.take_of_length_le (by rw [be_length]; omega)]
attribute [irreducible] rpre rpz
theorem RowM.below {w w' : World} {B : Nat} {e : TypeId} {v : Value} {l : List UInt8} (h : RowM w B e v l) (hb : Below w.heap.size w w') : RowM w' B e v l := by
  obtain ⟨g, cap, cur, fz, h1, h2, h3, r⟩ := h
  have hl : g < w.heap.size := by
    rcases Nat.lt_or_ge g w.heap.size with hlt | hge
    · exact hlt
    · rw [Array.getElem?_eq_none hge] at h3; cases h3
  exact ⟨g, cap, cur, fz, h1, h2, (hb.block g hl).trans h3, r⟩
theorem Tx.byt {w : World} {g : Nat} {e : TypeId} {l : List UInt8} (h : Tx w g e l) : Byt w g 0 l := ⟨h.lt, fun j hj => by rw [Nat.zero_add]; exact h.cell j hj⟩

set_option maxRecDepth 100000 in
set_option maxHeartbeats 400000 in
theorem crpadded (s : ByteArray) (w : World) (hs : s.size ≤ 1000000000) :
    Calls Try.prog 69 #[.string s] w fun e w' => ∃ g c, e = .returned (.slice (some ⟨g, 0, none⟩) (padded s.data.toList).length c) ∧ (padded s.data.toList).length ≤ c ∧ w.heap.size ≤ g ∧ Byt w' g 0 (padded s.data.toList) ∧ Below w.heap.size w w' := by
  have hcv := run_bytes_of_string (P := Try.prog) w 9 94 5 s Try.underlying9 Try.underlying94 Try.underlying5
  have hge := grownCap_ge w s.size 0 5
  obtain ⟨cap, HP⟩ : ∃ n, Hid (grownCap w s.size 0 5 = n) := ⟨_, Lib.hid rfl⟩
  rw [HP.out] at hcv hge
  have hT := RowM.new w.drew 5 s cap _ w.heap.size (by simp) hge (Nat.le_refl _)
  have hB : Below w.heap.size w (w.drew.alloc (.cells (bytesRow s cap) 5 ((bytesRow s cap).size, (bytesRow s cap).size + 1))) := (below_drewN (Below.refl _ _) 1).alloc (by simp) _
  obtain ⟨w1, HW⟩ : ∃ w1, Hid ((w.drew.alloc (.cells (bytesRow s cap) 5 ((bytesRow s cap).size, (bytesRow s cap).size + 1))) = w1) := ⟨_, Lib.hid rfl⟩
  rw [HW.out] at hcv hT hB
  have hl0 := data_length s
  have hw0 : (w.drew).heap.size = w.heap.size := rfl
  rw [hw0] at hT
  have HL0 := Lib.hid hl0
  obtain ⟨t, HT0⟩ : ∃ t, Hid (s.data.toList = t) := ⟨_, Lib.hid rfl⟩
  rw [HT0.out] at hT hl0 ⊢
  have HL := Lib.hid hl0
  have H1 := Lib.hid hT
  have HB := Lib.hid hB
  have hs1 := hB.size
  have hs9 : (s.size : Int) ≤ 1000000000 := by omega
  have htl : t.length ≤ 1000000000 := by omega
  clear HW hl0 hT hB hw0
  go_enter Try.func69, Try.ntmps69
  go_wp2_with (refine wpList_app_byte u8_elem rfl (.tmp 8) (.tmp 9) rfl w.heap.size _ _ rfl (H1.out.alloc _) ⟨w1.heap.size, 0, none⟩ 1 128 rfl ((Blk.new w1 5 #[bv 128]).cell 0) (by omega) (by simp; omega) ?_
               intro v2 w2 s2 b2
               rw [rpre_zero] at s2
               have n2 := (HB.out.alloc hs1 (.cells #[bv 128] 5)).trans b2
               dsimp only [Act.put])
  go_wp2_with fail
  go_loopg [3] (zpad t.length) (fun k u wr => ∃ (z n c' g : Nat), z + k = zpad t.length ∧ n = t.length + 1 + z ∧ u = .slice (some ⟨g, 0, none⟩) n c' ∧ RowM wr w.heap.size 5 (.slice (some ⟨g, 0, none⟩) n c') (rpre t z) ∧ Below w.heap.size w wr)
  case atStart =>
    obtain ⟨g, c2, hv2, _, _, _⟩ := s2.form
    rw [rpre_length] at hv2
    refine ⟨0, _, c2, g, by omega, rfl, hv2, by rw [← hv2]; exact s2, n2⟩
  case round =>
    clear s2 n2
    obtain ⟨z, n, c', g, hz, hn, rfl, s3, n3⟩ := hrel
    have hzl := zpad_lt t.length
    have hst := zpad_stop t.length z (by omega)
    have HZ := Lib.hid hz
    have HN := Lib.hid hn
    have hn9 : (n : Int) ≤ 1000001000 := by omega
    by_cases hlt : z < zpad t.length
    · have hd : ((n : Int) % 64 == 56) = false := by
        rw [beq_eq_false_iff_ne]
        intro e
        have : z = zpad t.length := hst.1 (by omega)
        omega
      have hd2 : ((n : Int) % 64 != 56) = true := by rw [bne, hd]; rfl
      clear hst hz hn
      have hs3 := n3.size
      have S3 := Lib.hid s3
      have N3 := Lib.hid n3
      have hl3 : (rpre t z).length ≤ 1000001000 := by rw [rpre_length]; omega
      clear s3 n3
      go_wp2_with (refine wpList_app_byte u8_elem rfl (.tmp 15) (.tmp 16) rfl w.heap.size _ _ rfl (S3.out.alloc _) ⟨wr.heap.size, 0, none⟩ 1 0 rfl ((Blk.new wr 5 #[bv 0]).cell 0) (by omega) (by simp; omega) ?_
                   intro v4 w4 s4 b4
                   rw [rpre_succ] at s4
                   have n4 := (N3.out.alloc hs3 (.cells #[bv 0] 5)).trans b4
                   dsimp only [Act.put])
      go_roundg (gk - 1)
      case measure => have := HZ.out; omega
      case rel =>
        obtain ⟨g2, c2, hv2, _, _, _⟩ := s4.form
        rw [rpre_length] at hv2
        have := HZ.out
        exact ⟨z + 1, _, c2, g2, by omega, rfl, hv2, by rw [← hv2]; exact s4, n4⟩
    · have hzz : z = zpad t.length := by omega
      have hd : ((n : Int) % 64 == 56) = true := by
        rw [beq_iff_eq]
        have := hst.2 hzz
        omega
      have hd2 : ((n : Int) % 64 != 56) = false := by rw [bne, hd]; rfl
      rw [hzz, ← rpz_zero] at s3
      clear hst hz hn hzz
      have hs3 := n3.size
      go_wp2_with fail
      obtain ⟨n0, HN0⟩ : ∃ x, Hid (t.length + 1 + zpad t.length = x) := ⟨_, Lib.hid rfl⟩
      have hn0 : n0 ≤ 1000001000 := by rw [← HN0.out]; omega
      have hnn : n = n0 := by rw [← HN0.out, HN.out]; have := HZ.out; omega
      go_loopw [3, 5] (fun u x wr => ∃ (i m c' g : Nat), i ≤ 8 ∧ x = .int .i64 (7 - (i : Int)) ∧ m = n0 + i ∧ u = .slice (some ⟨g, 0, none⟩) m c' ∧ RowM wr w.heap.size 5 (.slice (some ⟨g, 0, none⟩) m c') (rpz t i) ∧ Below w.heap.size w wr)
        (fun _ x _ => (intOf x + 1).toNat)
      case atStart => exact ⟨0, n, c', g, by omega, rfl, by omega, rfl, s3, n3⟩
      case round =>
        clear s3 n3 hnn
        obtain ⟨i, m, c5, g5, hi, rfl, hm, rfl, s5, n5⟩ := hrel
        have HM := Lib.hid hm
        clear hm
        by_cases hli : i < 8
        · have hdi : decide ((0 : Int) ≤ 7 - (i : Int)) = true := by simp; omega
          have hs5 := n5.size
          have S5 := Lib.hid s5
          have N5 := Lib.hid n5
          have hl5 : (rpz t i).length ≤ 1000001008 := by rw [rpz_length _ _ hi, HN0.out]; omega
          have hnb : (bits .and .i64 (8 * (s.size : Int) / 2 ^ (8 * (7 - i))) 255 % 256) = (((nb (8 * (t.length : Int)) (7 - i)).toNat : Nat) : Int) := by
            rw [mask8, ← nb_shr, HL.out]
            omega
          have HNB := Lib.hid hnb
          clear s5 n5 hnb
          go_wp2_with (refine wpList_app_byte u8_elem rfl (.tmp 25) (.tmp 32) rfl w.heap.size _ _ rfl (S5.out.alloc _) ⟨wr.heap.size, 0, none⟩ 1 (nb (8 * (t.length : Int)) (7 - i)) rfl (by rw [HNB.out]; exact (Blk.new wr 5 #[bv (nb (8 * (t.length : Int)) (7 - i))]).cell 0) (by omega) (by simp; omega) ?_
                       intro v6 w6 s6 b6
                       rw [rpz_succ t i hli] at s6
                       have n6 := (N5.out.alloc hs5 _).trans b6
                       dsimp only [Act.put])
          go_roundw
          case rel =>
            obtain ⟨g6, c6, hv6, _, _, _⟩ := s6.form
            rw [rpz_length _ _ (by omega), HN0.out] at hv6
            exact ⟨i + 1, _, c6, g6, by omega, by congr 1; omega, rfl, hv6, by rw [← hv6]; exact s6, n6⟩
          case measure => simp [intOf]; omega
        · have hi8 : i = 8 := by omega
          have hdi : decide ((0 : Int) ≤ 7 - (i : Int)) = false := by simp; omega
          rw [hi8, rpz_all] at s5
          obtain ⟨g7, c7, hv7, hc7, hg7, hx7⟩ := s5.form
          have hy7 := hx7.byt
          have hm7 : m = (padded t).length := by injection hv7
          injection hv7 with e1 e2 e3
          injection e1 with e1
          injection e1 with e1
          subst e1
          rw [e3] at *
          have N5 := Lib.hid n5
          have HM7 := Lib.hid hm7
          have HY7 := Lib.hid hy7
          clear s5 n5 hx7 hy7 hi8 e2 e3 hm7
          go_wp2_with fail
          go_ret
          exact ⟨g5, c7, by rw [← HM7.out]; rfl, hc7, hg7, HY7.out, N5.out⟩
end Go.Proofs.Ytcnhhlnbmliihaa
