/- sledgeref18.Take. -/
import Derived.Test.YthcmkmbnpibnfaaHeaderTake2
import Derived.Test.YthcmkmbnpibnfaaNumBe
namespace Go.Proofs.Ythcmkmbnpibnfaa
open Go.RowKit

theorem crTake4 (s : ByteArray) (w : World) (hs : 4 ≤ s.size) (hs2 : s.size ≤ 1000) :
    Calls Try.prog 42 #[.string s, .int .i64 4] w fun e w' => e = .returned (.tuple #[.int .i64 (num s 4 : Int), .string (s.extract 4 s.size), .int .i64 0]) ∧ Below w.heap.size w w' := crTake s 4 w (by omega) (by omega) hs hs2
theorem crTake2 (s : ByteArray) (w : World) (hs : 2 ≤ s.size) (hs2 : s.size ≤ 1000) :
    Calls Try.prog 42 #[.string s, .int .i64 2] w fun e w' => e = .returned (.tuple #[.int .i64 (num s 2 : Int), .string (s.extract 2 s.size), .int .i64 0]) ∧ Below w.heap.size w w' := crTake s 2 w (by omega) (by omega) hs hs2

set_option maxRecDepth 100000 in
theorem crHTake_bad (s : ByteArray) (w : World) (h : ¬ (s.size : Int) = 98 ∨ ((s.size : Int) = 98 ∧ ((s.extract 0 4).toList == [83, 76, 71, 49]) = false)) :
    Calls Try.prog 24 #[.string s] w fun e w' => e = .returned (.tuple #[.agg #[.int .i64 0, .string ⟨#[]⟩, .int .i64 0, .int .i64 0, .int .i64 0, .string ⟨#[]⟩, .string ⟨#[]⟩], .int .i64 2]) ∧ Below w.heap.size w w' := by
  rcases h with h1 | ⟨h1, h2⟩
  · have e1 : ((s.size : Int) == 98) = false := by simp; omega
    go_enter Try.func24, Try.ntmps24
    go_wp2_with fail
    refine bodyPost_ret (results_box rfl _ _ w.heap.size 27 #[.int .i64 0, .string ⟨#[]⟩, .int .i64 0, .int .i64 0, .int .i64 0, .string ⟨#[]⟩, .string ⟨#[]⟩] _ rfl (Blk.new w 27 #[.int .i64 0, .string ⟨#[]⟩, .int .i64 0, .int .i64 0, .int .i64 0, .string ⟨#[]⟩, .string ⟨#[]⟩]) Try.underlying27 rfl header_size) rfl ⟨rfl, (Below.refl _ _).alloc (Nat.le_refl _) _⟩
  · have e1 : ((s.size : Int) == 98) = true := by simp; omega
    go_enter Try.func24, Try.ntmps24
    go_wp2_with fail
    refine bodyPost_ret (results_box rfl _ _ w.heap.size 27 #[.int .i64 0, .string ⟨#[]⟩, .int .i64 0, .int .i64 0, .int .i64 0, .string ⟨#[]⟩, .string ⟨#[]⟩] _ rfl (Blk.new w 27 #[.int .i64 0, .string ⟨#[]⟩, .int .i64 0, .int .i64 0, .int .i64 0, .string ⟨#[]⟩, .string ⟨#[]⟩]) Try.underlying27 rfl header_size) rfl ⟨rfl, (Below.refl _ _).alloc (Nat.le_refl _) _⟩

set_option maxRecDepth 100000 in
set_option maxHeartbeats 1000000 in
theorem crHTake_good (s : ByteArray) (w : World) (h1 : (s.size : Int) = 98) (h2 : ((s.extract 0 4).toList == [83, 76, 71, 49]) = true) (e : Int) (h0 : Hd)
    (hcase : ((took s).may ∧ e = 0 ∧ h0 = took s) ∨ (¬ (took s).may ∧ e = 2 ∧ h0 = ⟨0, ⟨#[]⟩, 0, 0, 0, ⟨#[]⟩, ⟨#[]⟩⟩)) :
    Calls Try.prog 24 #[.string s] w fun e' w' => e' = .returned (.tuple #[.agg #[.int .i64 h0.id, .string h0.salt, .int .i64 h0.n, .int .i64 h0.bytes, .int .i64 h0.raw, .string h0.root, .string h0.tag], .int .i64 e]) ∧ Below w.heap.size w w' := by
  obtain ⟨s1, S1⟩ : ∃ x, Hid (s.extract 4 s.size = x) := ⟨_, Lib.hid rfl⟩
  have z1 : s1.size = 94 := by rw [← S1.out]; simp; omega
  obtain ⟨s2, S2⟩ : ∃ x, Hid (s1.extract 4 s1.size = x) := ⟨_, Lib.hid rfl⟩
  have z2 : s2.size = 90 := by rw [← S2.out]; simp; omega
  obtain ⟨s3, S3⟩ : ∃ x, Hid (s2.extract 16 s2.size = x) := ⟨_, Lib.hid rfl⟩
  have z3 : s3.size = 74 := by rw [← S3.out]; simp; omega
  obtain ⟨s4, S4⟩ : ∃ x, Hid (s3.extract 2 s3.size = x) := ⟨_, Lib.hid rfl⟩
  have z4 : s4.size = 72 := by rw [← S4.out]; simp; omega
  obtain ⟨s5, S5⟩ : ∃ x, Hid (s4.extract 4 s4.size = x) := ⟨_, Lib.hid rfl⟩
  have z5 : s5.size = 68 := by rw [← S5.out]; simp; omega
  obtain ⟨s6, S6⟩ : ∃ x, Hid (s5.extract 4 s5.size = x) := ⟨_, Lib.hid rfl⟩
  have z6 : s6.size = 64 := by rw [← S6.out]; simp; omega
  obtain ⟨s7, S7⟩ : ∃ x, Hid (s6.extract 32 s6.size = x) := ⟨_, Lib.hid rfl⟩
  have z7 : s7.size = 32 := by rw [← S7.out]; simp; omega
  obtain ⟨x1, X1⟩ : ∃ x, Hid (s2.extract 0 16 = x) := ⟨_, Lib.hid rfl⟩
  obtain ⟨x2, X2⟩ : ∃ x, Hid (s6.extract 0 32 = x) := ⟨_, Lib.hid rfl⟩
  have x3 : s7.extract 0 32 = s7 := by
    have h := split_text s7 32 (by omega)
    have e0 : s7.extract 32 s7.size = ByteArray.empty := by
      apply ba_ext; rw [ba_cut, List.drop_of_length_le (by rw [List.length_take, ba_len]; omega)]; rfl
    rw [e0] at h
    have h3 := congrArg (fun x : ByteArray => x.data.toList) h
    apply ba_ext
    rw [← h3, ba_list]
    exact (List.append_nil _).symm
  have HT : Hid (took s = ⟨num s1 4, x1, num s3 2, num s4 4, num s5 4, x2, s7⟩) := by
    apply Lib.hid
    rw [← x3, ← X1.out, ← X2.out, ← S7.out, ← S6.out, ← S5.out, ← S4.out, ← S3.out, ← S2.out, ← S1.out]
    rfl
  rw [HT.out] at hcase
  have HCs := Lib.hid hcase
  clear hcase x3
  have k1 : (16 : Int) ≤ (s2.size : Int) := by omega
  have k2 : (32 : Int) ≤ (s6.size : Int) := by omega
  have Z1 := Lib.hid z1
  have Z2 := Lib.hid z2
  have Z3 := Lib.hid z3
  have Z4 := Lib.hid z4
  have Z5 := Lib.hid z5
  have Z6 := Lib.hid z6
  have Z7 := Lib.hid z7
  clear z1 z2 z3 z4 z5 z6 z7
  go_enter Try.func24, Try.ntmps24
  go_wp2_with fail
  rw [S1.out]
  have hZ : BlkN (w.alloc (.cells #[.int .i64 0, .string ⟨#[]⟩, .int .i64 0, .int .i64 0, .int .i64 0, .string ⟨#[]⟩, .string ⟨#[]⟩] 27)) w.heap.size 27 7 := ⟨_, rfl, Blk.new w _ _⟩
  have hB : Below w.heap.size w (w.alloc (.cells #[.int .i64 0, .string ⟨#[]⟩, .int .i64 0, .int .i64 0, .int .i64 0, .string ⟨#[]⟩, .string ⟨#[]⟩] 27)) := (Below.refl _ _).alloc (Nat.le_refl _) _
  (with_reducible refine (crTake4 s1 _ (by have := Z1.out; omega) (by have := Z1.out; omega)).mono ?_); rw [S2.out]; rintro e' w' ⟨rfl, hb⟩
  replace hZ := hZ.below hb hZ.lt
  replace hB := hB.trans (hb.mono hB.size)
  clear hb
  go_wp2_with fail
  rw [S3.out, X1.out]
  (with_reducible refine (crTake2 s3 _ (by have := Z3.out; omega) (by have := Z3.out; omega)).mono ?_); rw [S4.out]; rintro e' w' ⟨rfl, hb⟩
  replace hZ := hZ.below hb hZ.lt
  replace hB := hB.trans (hb.mono hB.size)
  clear hb
  go_wp2_with fail
  (with_reducible refine (crTake4 s4 _ (by have := Z4.out; omega) (by have := Z4.out; omega)).mono ?_); rw [S5.out]; rintro e' w' ⟨rfl, hb⟩
  replace hZ := hZ.below hb hZ.lt
  replace hB := hB.trans (hb.mono hB.size)
  clear hb
  go_wp2_with fail
  (with_reducible refine (crTake4 s5 _ (by have := Z5.out; omega) (by have := Z5.out; omega)).mono ?_); rw [S6.out]; rintro e' w5 ⟨rfl, hb⟩
  replace hZ := hZ.below hb hZ.lt
  replace hB := hB.trans (hb.mono hB.size)
  clear hb
  go_wp2_with fail
  refine wp_region_lexX [] (by kernel_rfl) (by kernel_rfl) ?_
  repeat (first
    | (refine wpX_pure rfl rfl rfl ?_; intro K hK; go_big_quiet_op; refine hK _ ?_; clear hK K)
    | (refine wpX_eff rfl rfl ?_; intro K hK; go_wp2_with fail; refine hK _ _ trivial ?_; clear hK K))
  refine wpX_nil ?_
  go_wp2_with fail
  rw [S7.out, X2.out]
  have hH : Blk ((w5.drewN 1).alloc (.cells #[.int .i64 (num s1 4), .string x1, .int .i64 (num s3 2), .int .i64 (num s4 4), .int .i64 (num s5 4), .string x2, .string s7] 27)) w5.heap.size 27 #[.int .i64 (num s1 4), .string x1, .int .i64 (num s3 2), .int .i64 (num s4 4), .int .i64 (num s5 4), .string x2, .string s7] := Blk.new (w5.drewN 1) _ _
  replace hZ := (hZ.drewN 1).alloc (.cells #[.int .i64 (num s1 4), .string x1, .int .i64 (num s3 2), .int .i64 (num s4 4), .int .i64 (num s5 4), .string x2, .string s7] 27)
  replace hB := (below_drewN hB 1).alloc hB.size (.cells #[.int .i64 (num s1 4), .string x1, .int .i64 (num s3 2), .int .i64 (num s4 4), .int .i64 (num s5 4), .string x2, .string s7] 27)
  rcases HCs.out with ⟨hm, rfl, rfl⟩ | ⟨hm, rfl, rfl⟩
  · have HM := Lib.hid hm
    clear hm HCs
    (with_reducible refine (cMay_yes ⟨num s1 4, x1, num s3 2, num s4 4, num s5 4, x2, s7⟩ _ HM.out).mono ?_); rintro e' w' ⟨rfl, hb⟩
    have hH1 := hH.below hb hH.lt
    obtain ⟨z, hz1, hz2⟩ := hZ.below hb hZ.lt
    have hB1 := hB.trans (hb.mono hB.size)
    have HZ1 := Lib.hid hz1
    clear hH hZ hB hb hz1
    go_wp2_with (first
      | ((refine wpList_load_row (o := ⟨some 69, _, _, _, _, _⟩) rfl 27 (.tmp 17) rfl w5.heap.size rfl 27 #[.int .i64 (num s1 4), .string x1, .int .i64 (num s3 2), .int .i64 (num s4 4), .int .i64 (num s5 4), .string x2, .string s7] (0, 0) _ hH1 Try.underlying27 rfl header_size ?_); simp only [Act.put, List.setIfInBounds_toArray, List.set_cons_zero, List.set_cons_succ])
      | ((refine wpList_store_blk rfl 27 (.tmp 2) (.tmp 69) rfl w.heap.size #[.int .i64 (num s1 4), .string x1, .int .i64 (num s3 2), .int .i64 (num s4 4), .int .i64 (num s5 4), .string x2, .string s7] z 27 rfl rfl hz2 header_size (by rw [HZ1.out]; rfl) (by intro v hv; simp at hv; rcases hv with rfl | rfl | rfl | rfl | rfl | rfl | rfl <;> rfl) ?_); simp only [Act.put, List.setIfInBounds_toArray, List.set_cons_zero, List.set_cons_succ]))
    refine bodyPost_ret (results_box rfl _ _ w.heap.size 27 _ _ rfl (hz2.row _) Try.underlying27 rfl header_size) rfl ⟨rfl, below_row hB1 (Nat.le_refl _) _⟩
  · have HM := Lib.hid hm
    clear hm HCs
    (with_reducible refine (cMay_no ⟨num s1 4, x1, num s3 2, num s4 4, num s5 4, x2, s7⟩ _ HM.out).mono ?_); rintro e' w' ⟨rfl, hb⟩
    obtain ⟨z, hz1, hz2⟩ := hZ.below hb hZ.lt
    have hB1 := hB.trans (hb.mono hB.size)
    have HZ1 := Lib.hid hz1
    clear hH hZ hB hb hz1
    go_wp2_with ((refine wpList_store_blk rfl 27 (.tmp 2) (.tmp 68) rfl w.heap.size #[.int .i64 0, .string ⟨#[]⟩, .int .i64 0, .int .i64 0, .int .i64 0, .string ⟨#[]⟩, .string ⟨#[]⟩] z 27 rfl rfl hz2 header_size (by rw [HZ1.out]; rfl) (by intro v hv; simp at hv; rcases hv with rfl | rfl | rfl | rfl | rfl | rfl | rfl <;> rfl) ?_); simp only [Act.put, List.setIfInBounds_toArray, List.set_cons_zero, List.set_cons_succ])
    refine bodyPost_ret (results_box rfl _ _ w.heap.size 27 _ _ rfl (hz2.row _) Try.underlying27 rfl header_size) rfl ⟨rfl, below_row hB1 (Nat.le_refl _) _⟩
end Go.Proofs.Ythcmkmbnpibnfaa
