/- sha's Hash: Write. -/
import Derived.Test.YtcnhhlnbmliihaaShaHash
namespace Go.Proofs.Ytcnhhlnbmliihaa
open Go.RowKit
set_option linter.unusedVariables false
set_option linter.unusedSimpArgs false

theorem hcells_left (s : H8) (v u : Value) (n : Nat) : (hcells s v n).setIfInBounds 8 u = hcells s u n := by simp [hcells]
theorem reads_part {w : World} {A : Option Addr} {r j : Nat} {buf : List UInt8} (hr : r + 64 * j = buf.length) (h : 0 < r → ∃ gl, A = some ⟨gl, 64 * j, none⟩ ∧ Byt w gl 0 buf) : Reads w w.heap.size 1 A r ((buf.drop (64 * j)).map bv) := by
  rcases Nat.eq_zero_or_pos r with h0 | h0
  · subst h0
    exact ⟨by simp; omega, fun h => absurd h (by omega)⟩
  · obtain ⟨gl, rfl, hb⟩ := h h0
    have h2 := (hb.sub (64 * j) r).reads
    rw [Nat.zero_add] at h2
    have e : (buf.drop (64 * j)).take r = buf.drop (64 * j) := List.take_of_length_le (by rw [List.length_drop]; omega)
    have e2 : (buf.drop (64 * j)).length = r := by rw [List.length_drop]; omega
    rw [e, e2] at h2
    exact h2
set_option maxRecDepth 100000 in
set_option maxHeartbeats 1000000 in
theorem cWrite (B g : Nat) (v : Value) (t : List UInt8) (s : ByteArray) (w : World) (hv : HSv w B g v t) (hB : B ≤ w.heap.size) (hl : t.length + s.size ≤ 1000000000) :
    Calls Try.prog 77 #[.pointer (some ⟨g, 0, none⟩), .string s] w fun e w' => e = .returned (.tuple #[]) ∧ ∃ v', HSv w' B g v' (t ++ s.data.toList) ∧ (∀ k, v'.ownBlock = some k → w.heap.size ≤ k) ∧ Only (fun k => k = g ∨ v.ownBlock = some k) w w' := by
  obtain ⟨h1, h2, h3, h4⟩ := hv
  have hg := h2.lt
  have c9 : w.cell? ⟨g, 9, none⟩ = some (.int .i64 (t.length : Int)) := (h2.cell 9).trans rfl
  have f9 := h2.frozen 9
  have c8 : w.cell? ⟨g, 8, none⟩ = some v := (h2.cell 8).trans rfl
  have f8 := h2.frozen 8
  have h2a : Blk (w.setCell ⟨g, 9, none⟩ (.int .i64 ((t.length : Int) + (s.size : Int)))) g 106 (hcells (done t) v (t.length + s.size)) := by
    have := h2.set_ 9 (.int .i64 ((t.length : Int) + (s.size : Int)))
    rw [← Int.natCast_add] at this ⊢
    simpa [hcells] using this
  have h3a := (Only.setCell (S := fun k => k = g) (Only.refl _ w) (p := ⟨g, 9, none⟩) (fun _ => rfl) (.int .i64 ((t.length : Int) + (s.size : Int)))).sl h3 (fun k hk e => h4 (by rw [hk, e]))
  have ho1 := (Only.setCell (S := fun k => k = g) (Only.refl _ w) (p := ⟨g, 9, none⟩) (fun _ => rfl) (.int .i64 ((t.length : Int) + (s.size : Int))))
  have hw1 : Hid ((w.setCell ⟨g, 9, none⟩ (.int .i64 ((t.length : Int) + (s.size : Int)))).heap.size = w.heap.size) := Lib.hid (by simp)
  have hlr : ((rest t).map bv).length ≤ 64 := by rw [List.length_map, rest_length]; omega
  have H3 := Lib.hid h3a
  have O1 := Lib.hid ho1
  have H2 := Lib.hid h2a
  have H4 := Lib.hid h4
  clear h2 h3 h3a ho1 h2a h4
  have hs1 : (s.size : Int) ≤ 1000000000 := by omega
  have hs2 : (t.length : Int) + (s.size : Int) ≤ 1000000000 := by omega
  obtain ⟨buf, HBf⟩ : ∃ b, Hid (rest t ++ s.data.toList = b) := ⟨_, Lib.hid rfl⟩
  have hbl : buf.length ≤ 1000000100 := by rw [← HBf.out, List.length_append, rest_length, data_length]; omega
  go_enter Try.func77, Try.ntmps77
  go_wp2_with (first
    | (refine wpList_app_grown u8_elem rfl (.tmp 19) (.tmp 20) rfl B v _ rfl H3.out (.string s) s.size (byteCells s) rfl (Src.ofString _ Try.underlying9 s) (by omega) (by decide) (by rw [hw1.out]; exact hB) ?_
       intro v1 w1 s1 g1 o1
       rw [byteCells_bv, ← List.map_append, HBf.out] at s1
       have b1 := (Only.grown (S := fun k => v.ownBlock = some k) g1 (fun k e => e)).blk H2.out (fun e => H4.out e)
       have n1 := (O1.out.mono (S' := fun k => k = g ∨ v.ownBlock = some k) (fun k _ e => .inl e)).trans (Only.grown (S := fun k => v.ownBlock = some k) g1 (fun k e => e)) (fun k _ e => .inr e)
       have ne1 : v1.ownBlock ≠ some g := by
         rcases o1 with e | e
         · rw [e]; exact H4.out
         · rw [e, hw1.out]; intro e; injection e with e; omega
       have q8 : w1.cell? ⟨g, 8, none⟩ = some v := (b1.cell 8).trans rfl
       have p8 := b1.frozen 8
       obtain ⟨A1, e1, hv1, hc1, ha1⟩ := s1.view
       have HV1 := Lib.hid hv1
       have HS1 := Lib.hid s1
       have HN1 := Lib.hid n1
       have HB1 := Lib.hid b1
       have HE1 := Lib.hid ne1
       subst hv1
       clear s1 g1 o1 n1 b1 ne1
       dsimp only [Act.put]))
  have k1 : Blk (w1.setCell ⟨g, 8, none⟩ (.slice A1 buf.length e1)) g 106 (hcells (blocks (done t) buf 0) (.slice A1 buf.length e1) (t.length + s.size)) := by
    have := HB1.out.set_ 8 (.slice A1 buf.length e1)
    rw [hcells_left] at this
    rw [blocks_zero]
    exact this
  have k2 : 0 < buf.length → ∃ gl, A1 = some ⟨gl, 64 * 0, none⟩ ∧ gl ≠ g ∧ Byt (w1.setCell ⟨g, 8, none⟩ (.slice A1 buf.length e1)) gl 0 buf := fun h => by
    obtain ⟨gl, ea, _, eo, hb⟩ := ha1 h
    have hne : gl ≠ g := fun e => HE1.out (by rw [eo, e])
    exact ⟨gl, ea, hne, hb.far hne _⟩
  have k3 := HN1.out.setCell (p := ⟨g, 8, none⟩) (fun _ => .inl rfl) (.slice A1 buf.length e1)
  clear ha1 q8 p8
  go_loopg [] (buf.length / 64) (fun k wr => ∃ (j r c : Nat) (A : Option Addr), j + k = buf.length / 64 ∧ r + 64 * j = buf.length ∧ r ≤ c ∧ Blk wr g 106 (hcells (blocks (done t) buf j) (.slice A r c) (t.length + s.size)) ∧
    (0 < r → ∃ gl, A = some ⟨gl, 64 * j, none⟩ ∧ gl ≠ g ∧ Byt wr gl 0 buf) ∧ Only (fun k => k = g ∨ v.ownBlock = some k) w wr)
  case atStart => exact ⟨0, buf.length, e1, A1, by omega, by omega, hc1, k1, k2, k3⟩
  case round =>
    clear k1 k2 k3 hc1
    obtain ⟨j, r, c, A, hj, hr, hrc, k1, k2, k3⟩ := hrel
    have HJ := Lib.hid hj
    have HR := Lib.hid hr
    have hr9 : (r : Int) ≤ 1000000100 := by omega
    obtain ⟨st, HST⟩ : ∃ st, Hid (blocks (done t) buf j = st) := ⟨_, Lib.hid rfl⟩
    rw [HST.out] at k1
    have c8 : wr.cell? ⟨g, 8, none⟩ = some (.slice A r c) := (k1.cell 8).trans rfl
    have f8 := k1.frozen 8
    by_cases h64 : 64 ≤ r
    · have hd : decide ((64 : Int) ≤ (r : Int)) = true := decide_eq_true (by omega)
      obtain ⟨gl, rfl, hne, hb⟩ := k2 (by omega)
      go_wp2_with fail
      have hbs := hb.sub (64 * j) 64
      rw [Nat.zero_add] at hbs
      have hlen : ((buf.drop (64 * j)).take 64).length = 64 := by rw [List.length_take, List.length_drop]; omega
      have hsucc := blocks_succ (done t) buf j
      rw [HST.out] at hsucc
      obtain ⟨bb, HBB⟩ : ∃ bb, Hid ((buf.drop (64 * j)).take 64 = bb) := ⟨_, Lib.hid rfl⟩
      rw [HBB.out] at hbs hlen hsucc
      have HLN := Lib.hid hlen
      have HSU := Lib.hid hsucc
      clear hlen hsucc
      refine wp_region_lexX [] (by kernel_rfl) (by kernel_rfl) ?_
      repeat (first
        | (refine wpX_pure rfl rfl rfl ?_; intro K hK; go_big_quiet_op; refine hK _ ?_; clear hK K)
        | (refine wpX_load_mid1 rfl rfl 104 (.tmp 33) rfl g 0 rfl st.cells.toList _ (hcells_head _ _ _ k1) Try.underlying104 rfl row8_info ?_; simp only [Act.put, Array.toArray_toList, List.setIfInBounds_toArray, List.set_cons_zero, List.set_cons_succ])
        | (refine wpX_load rfl rfl rfl ?_; intro K hK; go_big_quiet_op; refine hK _ ?_; clear hK K))
      refine wpX_eff rfl rfl ?_; intro K hK
      go_wp2_with fail
      (with_reducible refine (cshmix st gl (64 * j) c bb _ HLN.out (by omega) hbs.drew).mono ?_); rintro e' w2 ⟨rfl, hb2⟩
      go_wp2_with fail
      have q1 := k1.drew.below hb2 k1.lt
      have q2 := hb.drew.below hb2 hb.lt hb2.size
      have q3 := k3.drew.trans (Only.fresh (S := fun k => k = g ∨ v.ownBlock = some k) hb2) (fun k _ e => e)
      refine hK _ _ trivial ?_; clear hK K
      clear k1 hb k3 hb2 hbs c8 f8
      obtain ⟨s2, HS2⟩ : ∃ s2, Hid (mixH st bb = s2) := ⟨_, Lib.hid rfl⟩
      rw [HS2.out]
      repeat (refine wpX_pure rfl rfl rfl ?_; intro K hK; go_big_quiet_op; refine hK _ ?_; clear hK K)
      refine wpX_eff rfl rfl ?_; intro K hK
      refine wpList_store_h8 rfl 104 (.tmp 42) (.tmp 40) rfl g s2 rfl rfl row8_info st _ _ _ q1 ?_
      intro w3 d1 d2
      have d3 := d2.byt q2 hne
      have d4 := q3.trans d2 (fun k _ e => .inl e)
      clear q1 q2 q3 d2
      refine wpList_nil (hK _ _ trivial ?_); clear hK K
      refine wpX_nil ?_
      simp only [Act.put]
      have c8 : w3.cell? ⟨g, 8, none⟩ = some (.slice (some ⟨gl, 64 * j, none⟩) r c) := (d1.cell 8).trans rfl
      have f8 := d1.frozen 8
      have hB2 : ∀ u, Blk (w3.setCell ⟨g, 8, none⟩ u) g 106 (hcells (blocks (done t) buf (j + 1)) u (t.length + s.size)) := by
        intro u
        have := d1.set_ 8 u
        rw [hcells_left, ← HS2.out, ← HSU.out] at this
        exact this
      have hO2 : ∀ u, Only (fun k => k = g ∨ v.ownBlock = some k) w (w3.setCell ⟨g, 8, none⟩ u) := fun u => d4.setCell (p := ⟨g, 8, none⟩) (fun _ => .inl rfl) u
      have hY2 : ∀ u, Byt (w3.setCell ⟨g, 8, none⟩ u) gl 0 buf := fun u => d3.far hne u
      have HB2 := Lib.hid hB2
      have HO2 := Lib.hid hO2
      have HY2 := Lib.hid hY2
      clear hB2 hO2 hY2 d1 d3 d4
      by_cases hcap : c = 64
      · subst hcap
        go_wp2_with fail
        go_roundg (gk - 1)
        case measure => have := HJ.out; have := HR.out; omega
        case rel =>
          have h1 := HJ.out
          have h2 := HR.out
          exact ⟨j + 1, 0, 0, some ⟨gl, 64 * j, none⟩, by omega, by omega, by omega, HB2.out _, fun h => absurd h (by omega), HO2.out _⟩
      · go_wp2_with fail
        go_roundg (gk - 1)
        case measure => have := HJ.out; have := HR.out; omega
        case rel =>
          have h1 := HJ.out
          have h2 := HR.out
          have e : 64 * (j + 1) = 64 * j + 64 := by omega
          exact ⟨j + 1, r - 64, c - 64, some ⟨gl, 64 * j + 64, none⟩, by omega, by omega, by omega, HB2.out _, fun h => ⟨gl, by rw [e], hne, HY2.out _⟩, HO2.out _⟩
    · have hd : decide ((64 : Int) ≤ (r : Int)) = false := decide_eq_false (by omega)
      have hj2 : j = buf.length / 64 := by have := HR.out; omega
      have hrd := reads_part (w := wr) HR.out (fun h => by obtain ⟨gl, e, _, hb⟩ := k2 h; exact ⟨gl, e, hb⟩)
      have hone : ∀ u ∈ (buf.drop (64 * j)).map bv, u.oneCell' = true := by
        intro u hu
        obtain ⟨x, _, rfl⟩ := List.mem_map.1 hu
        rfl
      have hBs : B ≤ wr.heap.size := Nat.le_trans hB k3.size
      have K1 := Lib.hid k1
      have K3 := Lib.hid k3
      have HONE := Lib.hid hone
      have HRD := Lib.hid hrd
      have HJ2 := Lib.hid hj2
      clear k1 k2 k3 hone hrd hj2
      go_wp2_with (first
        | (refine wpList_app_grown u8_elem rfl (.const (.slice none 0 0)) (.tmp 55) rfl B (.slice none 0 0) [] rfl (SL.nil _ _ _) (.slice A r c) r _ rfl (Src.ofReads Try.underlying94 HRD.out HONE.out) (by simp; omega) (by decide) hBs ?_
           intro v2 w2 s2 g2 o2
           rw [List.nil_append] at s2
           have n2 := Only.grown (S := fun _ => False) g2 (fun k e => by simp [Value.ownBlock] at e)
           have b2 := n2.blk K1.out (fun e => e)
           have y8 : w2.cell? ⟨g, 8, none⟩ = some (.slice A r c) := (b2.cell 8).trans rfl
           have z8 := b2.frozen 8
           have n3 := K3.out.trans n2 (fun _ _ e => e.elim)
           have fr2 : ∀ k, v2.ownBlock = some k → wr.heap.size ≤ k := fun k e => by
             rcases o2 with e2 | e2
             · rw [e2] at e; simp [Value.ownBlock] at e
             · rw [e2] at e; injection e with e; omega
           obtain ⟨A2, c2, hv2, _, _⟩ := s2.view
           have B2 := Lib.hid b2
           have S2 := Lib.hid s2
           have N3 := Lib.hid n3
           have F2 := Lib.hid fr2
           have HV2 := Lib.hid hv2
           subst hv2
           clear s2 g2 o2 n2 b2 n3 fr2
           dsimp only [Act.put]))
      have hl0 : (rest t ++ s.data.toList).length = buf.length := by rw [HBf.out]
      have hd0 : done (t ++ s.data.toList) = st := by rw [done_append, HBf.out, ← HJ2.out, HST.out]
      have hr0 : rest (t ++ s.data.toList) = buf.drop (64 * j) := by rw [rest_append, HBf.out, ← HJ2.out]
      have hb0 := B2.out.set_ 8 (.slice A2 ((buf.drop (64 * j)).length) c2)
      rw [hcells_left, List.length_drop] at hb0
      have hs0 := S2.out
      rw [List.length_drop] at hs0
      have hown : ∀ k, (Value.slice A2 (buf.length - 64 * j) c2).ownBlock = some k → wr.heap.size ≤ k := fun k e => F2.out k (by rw [List.length_drop]; exact e)
      have hgs : g < wr.heap.size := K1.out.lt
      have hs1 := (Only.setCell (S := fun k => k = g) (Only.refl _ w2) (p := ⟨g, 8, none⟩) (fun _ => rfl) (.slice A2 (buf.length - 64 * j) c2)).sl hs0 (fun k hk e => by have := hown k hk; omega)
      have n4 := N3.out.setCell (p := ⟨g, 8, none⟩) (fun _ => .inl rfl) (.slice A2 (buf.length - 64 * j) c2)
      have hsz := Nat.le_trans K3.out.size (Nat.le_refl wr.heap.size)
      go_end0
      refine ⟨rfl, .slice A2 (buf.length - 64 * j) c2, ⟨h1, by rw [hd0, List.length_append, data_length]; exact hb0, by rw [hr0]; exact hs1, fun e => by have := hown g e; omega⟩, fun k e => Nat.le_trans hsz (hown k e), n4⟩
end Go.Proofs.Ytcnhhlnbmliihaa
