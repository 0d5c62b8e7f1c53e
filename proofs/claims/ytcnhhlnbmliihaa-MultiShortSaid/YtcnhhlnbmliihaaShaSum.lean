/- sha's Hash: Sum. -/
import Derived.Test.YtcnhhlnbmliihaaShaWrite
namespace Go.Proofs.Ytcnhhlnbmliihaa
open Go.RowKit
set_option linter.unusedVariables false
set_option linter.unusedSimpArgs false

/-- A literal row of one cell, to be appended. -/
theorem src_new1 {P : Program} {tx e' : TypeId} (hk : P.underlying tx = some (.slice e')) (W : World) (e : TypeId) (v : Value) (h1 : v.oneCell' = true) : Src P 1 tx (.slice (some ⟨W.heap.size, 0, none⟩) 1 1) 1 [v] (W.alloc (.cells #[v] e)) :=
  Src.ofSlice _ hk _ 1 1 [v] rfl (fun j u hj => by
    match j, hj with
    | 0, hj => rw [add0, (Blk.new W e #[v]).cell]; exact hj) (by intro u hu; simp at hu; subst hu; exact h1)
/-- What stands behind a text, so many bytes of its length told. -/
def tpre (t : List UInt8) (z : Nat) : List UInt8 := rest t ++ [0x80] ++ List.replicate z 0
def tpz (t : List UInt8) (i : Nat) : List UInt8 := tpre t (zpad t.length) ++ (be (8 * (t.length : Int)) 8).take i
theorem tpre_zero (t : List UInt8) : rest t ++ [0x80] = tpre t 0 := by unfold tpre; simp
theorem tpre_succ (t : List UInt8) (z : Nat) : tpre t z ++ [0] = tpre t (z + 1) := by unfold tpre; rw [List.replicate_succ', List.append_assoc]
theorem tpre_length (t : List UInt8) (z : Nat) : (tpre t z).length = t.length % 64 + 1 + z := by unfold tpre; simp [rest_length]; omega
theorem tpz_zero (t : List UInt8) : tpz t 0 = tpre t (zpad t.length) := by unfold tpz; simp
theorem tpz_length (t : List UInt8) (i : Nat) (h : i ≤ 8) : (tpz t i).length = t.length % 64 + 1 + zpad t.length + i := by unfold tpz; simp [tpre_length, be_length]; omega
theorem be_take (n : Int) : ∀ (k i : Nat), i < k → (be n k).take (i + 1) = (be n k).take i ++ [nb n (k - 1 - i)]
  | k + 1, 0, _ => by rw [be_succ]; rfl
  | k + 1, i + 1, h => by
    have e : k + 1 - 1 - (i + 1) = k - 1 - i := by omega
    rw [be_succ, List.take_succ_cons, be_take n k i (by omega), e]
    rfl
theorem tpz_succ (t : List UInt8) (i : Nat) (h : i < 8) : tpz t i ++ [nb (8 * (t.length : Int)) (7 - i)] = tpz t (i + 1) := by
  unfold tpz; rw [be_take _ 8 i h, List.append_assoc]
theorem tpz_all (t : List UInt8) : tpz t 8 = tailP t := by
  unfold tpz tailP tpre; rw [List.take_of_length_le (by rw [be_length]; omega)]
attribute [irreducible] tpre tpz
/-- The bytes of the first words. -/
def wbs (l : List (BitVec 32)) (k : Nat) : List UInt8 := (l.take k).flatMap wby
theorem wbs_zero (l : List (BitVec 32)) : wbs l 0 = [] := rfl
theorem wbs_succ (l : List (BitVec 32)) (k : Nat) (h : k < l.length) : wbs l (k + 1) = wbs l k ++ wby (l.getD k 0) := by
  unfold wbs
  rw [List.take_succ_eq_append_getElem h, List.flatMap_append]
  simp [List.getD_eq_getElem?_getD, h]
theorem wbs_all (s : H8) : wbs s.list 8 = s.bytes := rfl
theorem wbs_length (l : List (BitVec 32)) (k : Nat) (h : k ≤ l.length) : (wbs l k).length = 4 * k := by
  induction k with
  | zero => rfl
  | succ k ih => rw [wbs_succ l k h, List.length_append, ih (by omega)]; rfl
attribute [irreducible] wbs

theorem src_new4 {P : Program} {tx e' : TypeId} (hk : P.underlying tx = some (.slice e')) (W : World) (e : TypeId) (x : BitVec 32) : Src P 1 tx (.slice (some ⟨W.heap.size, 0, none⟩) 4 4) 4 ((wby x).map bv) (W.alloc (.cells #[.int .u8 (((lob (x >>> 24)).toNat : Nat) : Int), .int .u8 (((lob (x >>> 16)).toNat : Nat) : Int), .int .u8 (((lob (x >>> 8)).toNat : Nat) : Int), .int .u8 (((lob x).toNat : Nat) : Int)] e)) :=
  Src.ofSlice _ hk _ 4 4 _ rfl (fun j u hj => by
    rw [add0, (Blk.new W e _).cell]
    match j, hj with
    | 0, hj => exact hj
    | 1, hj => exact hj
    | 2, hj => exact hj
    | 3, hj => exact hj
    | j + 4, hj => simp [wby] at hj) (by intro u hu; obtain ⟨y, _, rfl⟩ := List.mem_map.1 hu; rfl)
/-- A slice of the call's own as a text. -/
theorem sl_text {P : Program} {w : World} {B : Nat} {v : Value} {e : TypeId} {l : List UInt8} (h : SL w B e v (l.map bv)) {src dst el : TypeId} (hs : P.underlying src = some (.slice el)) (he : P.underlying el = some (.int .u8)) (hd : P.underlying dst = some .string) (hl : 0 < l.length) :
    (convert src dst v).run P w = .ok (.string (str l)) w := by
  obtain ⟨A, c, rfl, _, ha⟩ := h.view
  obtain ⟨g, rfl, _, _, hb⟩ := ha hl
  exact conv_bytes (P := P) hs he hd w ⟨g, 0, none⟩ l.length c l rfl (fun j hj => by rw [add0, ← hb.2 j hj, Nat.zero_add])
theorem cells_range {w : World} {g : Nat} {t : TypeId} {s : H8} (h : Blk w g t s.cells) : w.rangeAt g 0 s.cells.toList := by
  intro j u hu
  rw [Nat.zero_add, h.cell, ← hu]
  simp
set_option maxRecDepth 100000 in
set_option maxHeartbeats 1000000 in
theorem cHSum (B g : Nat) (v : Value) (t : List UInt8) (w : World) (hv : HSv w B g v t) (hl : t.length ≤ 1000000000) :
    Calls Try.prog 78 #[.pointer (some ⟨g, 0, none⟩)] w fun e w' => e = .returned (.string (str (sha t))) ∧ Below w.heap.size w w' := by
  obtain ⟨h1, h2, h3, h4⟩ := hv
  have hg := h2.lt
  have c8 : w.cell? ⟨g, 8, none⟩ = some v := (h2.cell 8).trans rfl
  obtain ⟨A, c, hv0, _⟩ := h3.view
  have hrd := h3
  rw [hv0] at hrd
  have hrd := hrd.reads
  have hone : ∀ u ∈ (rest t).map bv, u.oneCell' = true := by
    intro u hu
    obtain ⟨x, _, rfl⟩ := List.mem_map.1 hu
    rfl
  have hrl : ((rest t).map bv).length ≤ 64 := by rw [List.length_map, rest_length]; omega
  rw [List.length_map] at hrd
  have HONE := Lib.hid hone
  have HRD := Lib.hid hrd
  have H2 := Lib.hid h2
  subst hv0
  clear hone hrd h2 h3 h4
  go_enter Try.func78, Try.ntmps78
  go_wp2_with (first
    | (refine wpList_app_grown u8_elem rfl (.const (.slice none 0 0)) (.tmp 14) rfl w.heap.size (.slice none 0 0) [] rfl (SL.nil _ _ _) (.slice A (rest t).length c) (rest t).length _ rfl (Src.ofReads Try.underlying94 HRD.out HONE.out) (by simp; rw [rest_length]; omega) (by decide) (Nat.le_refl _) ?_
       intro v1 w1 s1 g1 o1
       rw [List.nil_append] at s1
       have n1 := (Only.grown (S := fun _ => False) g1 (fun k e => by simp [Value.ownBlock] at e)).below (B := w.heap.size) (Nat.le_refl _) (fun _ e => e.elim)
       obtain ⟨A1, c1, hv1, _, _⟩ := s1.view
       have S1 := Lib.hid s1
       have N1 := Lib.hid n1
       subst hv1
       clear s1 g1 o1 n1
       dsimp only [Act.put])
    | (refine wpList_app_grown u8_elem rfl (.tmp 16) (.tmp 17) rfl w.heap.size _ _ rfl (S1.out.alloc _) (.slice (some ⟨w1.heap.size, 0, none⟩) 1 1) 1 [bv 128] rfl (src_new1 Try.underlying94 w1 _ _ rfl) (by omega) (by decide) (by have := N1.out.size; simp; omega) ?_
       intro v2 w2 s2 g2 o2
       rw [show [bv 128] = [(128 : UInt8)].map bv from rfl, ← List.map_append, tpre_zero] at s2
       have n2 := (N1.out.alloc (by have := N1.out.size; omega) _).trans ((Only.grown (S := fun k => w.heap.size ≤ k) g2 (fun k e => (S1.out.own_lt k e).2)).below (B := w.heap.size) (by have := N1.out.size; simp; omega) (fun _ e => e))
       clear g2 o2
       dsimp only [Act.put]))
  go_wp2_with fail
  clear c8 hrl
  go_loopg [3] (zpad t.length) (fun k u wr => ∃ (z n c' : Nat) (A' : Option Addr), z + k = zpad t.length ∧ n = t.length % 64 + 1 + z ∧ u = .slice A' n c' ∧ SL wr w.heap.size 5 (.slice A' n c') ((tpre t z).map bv) ∧ Below w.heap.size w wr)
  case atStart =>
    obtain ⟨A2, c2, hv2, _, _⟩ := s2.view
    rw [tpre_length] at hv2
    refine ⟨0, _, c2, A2, by omega, rfl, hv2, by rw [← hv2]; exact s2, n2⟩
  case round =>
    clear s2 n2
    obtain ⟨z, n, c', A', hz, hn, rfl, s3, n3⟩ := hrel
    have hzl := zpad_lt t.length
    have hst := zpad_stop t.length z (by omega)
    have HZ := Lib.hid hz
    have HN := Lib.hid hn
    have hn9 : (n : Int) ≤ 1000 := by omega
    by_cases hlt : z < zpad t.length
    · have hd : ((n : Int) % 64 == 56) = false := by
        rw [beq_eq_false_iff_ne]
        intro e
        have : z = zpad t.length := hst.1 (by omega)
        omega
      have hd2 : ((n : Int) % 64 != 56) = true := by rw [bne, hd]; rfl
      clear hst hz hn
      have hs3 := n3.size
      have S3 := Lib.hid s3
      have N3 := Lib.hid n3
      have hl3 : ((tpre t z).map bv).length ≤ 1000 := by rw [List.length_map, tpre_length]; omega
      clear s3 n3
      go_wp2_with (first
        | (refine wpList_app_grown u8_elem rfl (.tmp 23) (.tmp 24) rfl w.heap.size _ _ rfl (S3.out.alloc _) (.slice (some ⟨wr.heap.size, 0, none⟩) 1 1) 1 [bv 0] rfl (src_new1 Try.underlying94 wr _ _ rfl) (by omega) (by decide) (by simp; omega) ?_
           intro v4 w4 s4 g4 o4
           rw [show [bv 0] = [(0 : UInt8)].map bv from rfl, ← List.map_append, tpre_succ] at s4
           have n4 := (N3.out.alloc (by omega) _).trans ((Only.grown (S := fun k => w.heap.size ≤ k) g4 (fun k e => (S3.out.own_lt k e).2)).below (B := w.heap.size) (by simp; omega) (fun _ e => e))
           clear g4 o4
           dsimp only [Act.put]))
      go_roundg (gk - 1)
      case measure => have := HZ.out; omega
      case rel =>
        obtain ⟨A2, c2, hv2, _, _⟩ := s4.view
        rw [tpre_length] at hv2
        have := HZ.out
        exact ⟨z + 1, _, c2, A2, by omega, rfl, hv2, by rw [← hv2]; exact s4, n4⟩
    · have hzz : z = zpad t.length := by omega
      have hd : ((n : Int) % 64 == 56) = true := by
        rw [beq_iff_eq]
        have := hst.2 hzz
        omega
      have hd2 : ((n : Int) % 64 != 56) = false := by rw [bne, hd]; rfl
      rw [hzz, ← tpz_zero] at s3
      clear hst hz hn hzz
      have hs3 := n3.size
      go_wp2_with fail
      obtain ⟨n0, HN0⟩ : ∃ x, Hid (t.length % 64 + 1 + zpad t.length = x) := ⟨_, Lib.hid rfl⟩
      have hn0 : n0 ≤ 200 := by rw [← HN0.out]; have := zpad_lt t.length; omega
      have hnn : n = n0 := by rw [← HN0.out, HN.out]; have := HZ.out; omega
      go_loopw [3, 26] (fun u x wr => ∃ (i m c' : Nat) (A' : Option Addr), i ≤ 8 ∧ x = .int .i64 i ∧ m = n0 + i ∧ u = .slice A' m c' ∧ SL wr w.heap.size 5 (.slice A' m c') ((tpz t i).map bv) ∧ Below w.heap.size w wr)
        (fun _ x _ => 8 - (intOf x).toNat)
      case atStart => exact ⟨0, n, c', A', by omega, rfl, by omega, rfl, s3, n3⟩
      case round =>
        clear s3 n3 hnn
        obtain ⟨i, m, c5, A5, hi, rfl, hm, rfl, s5, n5⟩ := hrel
        have HM := Lib.hid hm
        clear hm
        by_cases hli : i < 8
        · have hdi : decide ((i : Int) < 8) = true := by simp; omega
          have c9 : wr.cell? ⟨g, 9, none⟩ = some (.int .i64 (t.length : Int)) := ((H2.out.below n5 hg).cell 9).trans rfl
          have hs5 := n5.size
          have S5 := Lib.hid s5
          have N5 := Lib.hid n5
          have hl5 : ((tpz t i).map bv).length ≤ 1000 := by rw [List.length_map, tpz_length _ _ hi, HN0.out]; omega
          have ht9 : (t.length : Int) ≤ 1000000000 := by omega
          have hnb : ((t.length : Int) * 8 / 2 ^ (56 - 8 * i) % 256) = (((nb (8 * (t.length : Int)) (7 - i)).toNat : Nat) : Int) := by
            rw [← nb_shr, Int.mul_comm]
            congr 3
            omega
          have HNB := Lib.hid hnb
          clear s5 n5 hnb
          go_wp2_with (first
            | (refine wpList_app_grown u8_elem rfl (.tmp 29) (.tmp 40) rfl w.heap.size _ _ rfl (S5.out.alloc _) (.slice (some ⟨wr.heap.size, 0, none⟩) 1 1) 1 [.int .u8 ((t.length : Int) * 8 / 2 ^ (56 - 8 * i) % 256)] rfl (src_new1 Try.underlying94 wr _ _ rfl) (by omega) (by decide) (by simp; omega) ?_
               intro v6 w6 s6 g6 o6
               rw [HNB.out, show [Value.int .u8 (((nb (8 * (t.length : Int)) (7 - i)).toNat : Nat) : Int)] = [nb (8 * (t.length : Int)) (7 - i)].map bv from rfl, ← List.map_append, tpz_succ t i hli] at s6
               have n6 := (N5.out.alloc (by omega) _).trans ((Only.grown (S := fun k => w.heap.size ≤ k) g6 (fun k e => (S5.out.own_lt k e).2)).below (B := w.heap.size) (by simp; omega) (fun _ e => e))
               clear g6 o6
               dsimp only [Act.put]))
          go_roundw
          case rel =>
            obtain ⟨A6, c6, hv6, _, _⟩ := s6.view
            rw [tpz_length _ _ (by omega), HN0.out] at hv6
            exact ⟨i + 1, _, c6, A6, by omega, by go_num, rfl, hv6, by rw [← hv6]; exact s6, n6⟩
          case measure => simp [intOf]; omega
        · have hi8 : i = 8 := by omega
          have hdi : decide ((i : Int) < 8) = false := by simp; omega
          rw [hi8, tpz_all] at s5
          have hm0 : m = (tailP t).length := by rw [tailP_length, HM.out, hi8, ← HN0.out]; omega
          have hmod := tailP_mod t
          have hshaT := sha_tail t
          have htl : (tailP t).length ≤ 1000 := by rw [← hm0, HM.out]; omega
          obtain ⟨T, HTT⟩ : ∃ T, Hid (tailP t = T) := ⟨_, Lib.hid rfl⟩
          rw [HTT.out] at s5 hm0 hmod hshaT htl
          have h2r := H2.out.below n5 hg
          obtain ⟨d0, HD0⟩ : ∃ d, Hid (done t = d) := ⟨_, Lib.hid rfl⟩
          rw [HD0.out] at h2r hshaT
          have HSHA := Lib.hid hshaT
          have HMOD := Lib.hid hmod
          have hm9 : (m : Int) ≤ 1000 := by omega
          obtain ⟨A7, c7, hv7, hc7, ha7⟩ := s5.view
          rw [← hm0] at hv7 ha7 hc7
          injection hv7 with e1 e2 e3
          have hb7 : 0 < m → ∃ gl, A5 = some ⟨gl, 64 * 0, none⟩ ∧ w.heap.size ≤ gl ∧ Byt wr gl 0 T := fun h => by
            obtain ⟨gl, f1, f2, _, f4⟩ := ha7 h
            exact ⟨gl, by rw [e1]; exact f1, f2, f4⟩
          have hmc : m ≤ c5 := by rw [e3]; exact hc7
          have HM0 := Lib.hid hm0
          have hs5 := n5.size
          clear hi8 hm0 hmod hshaT e1 e2 e3 hc7 ha7
          have HI8 : Hid (8 = d0.cells.size) := Lib.hid rfl
          have HO8 := d0.one_
          have H2R := Lib.hid h2r
          have HB7 := Lib.hid hb7
          have S5 := Lib.hid s5
          have N5 := Lib.hid n5
          clear h2r hb7 s5 n5
          go_wp2_with (first
            | ((refine wpList_load_mid rfl 104 (.tmp 45) rfl g 0 rfl d0.cells.toList _ (hcells_head _ _ _ H2R.out) Try.underlying104 rfl row8_info ?_); simp only [Act.put, Array.toArray_toList, List.setIfInBounds_toArray, List.set_cons_zero, List.set_cons_succ])
            | ((refine wpList_store_new rfl 104 (.tmp 5) (.tmp 46) rfl wr.heap.size d0.cells _ 104 rfl rfl rfl rfl row8_info HI8.out HO8 ?_); dsimp only [Act.put]))
          obtain ⟨gv, HGV⟩ : ∃ x, Hid (wr.heap.size = x) := ⟨_, Lib.hid rfl⟩
          have j1 : Blk (wr.alloc (.cells d0.cells 104)) wr.heap.size 104 (blocks d0 T 0).cells := by rw [blocks_zero]; exact Blk.new _ _ _
          have j2 : 0 < m → ∃ gl, A5 = some ⟨gl, 64 * 0, none⟩ ∧ gl ≠ wr.heap.size ∧ Byt (wr.alloc (.cells d0.cells 104)) gl 0 T := fun h => by
            obtain ⟨gl, f1, f2, f3⟩ := HB7.out h
            exact ⟨gl, f1, by have := f3.lt; omega, f3.alloc _⟩
          have j3 := N5.out.alloc hs5 (.cells d0.cells 104)
          rw [HGV.out] at j1 j2 ⊢
          have hgv : w.heap.size ≤ gv := by rw [← HGV.out]; exact hs5
          obtain ⟨wq, HWQ⟩ : ∃ x, Hid (wr.alloc (.cells d0.cells 104) = x) := ⟨_, Lib.hid rfl⟩
          rw [HWQ.out] at j1 j2 j3 ⊢
          clear HI8 HO8 hs5
          go_loopg [3] (m / 64) (fun k u wr => ∃ (j r c : Nat) (A : Option Addr), j + k = m / 64 ∧ r + 64 * j = m ∧ r ≤ c ∧ u = .slice A r c ∧ Blk wr gv 104 (blocks d0 T j).cells ∧
            (0 < r → ∃ gl, A = some ⟨gl, 64 * j, none⟩ ∧ gl ≠ gv ∧ Byt wr gl 0 T) ∧ Below w.heap.size w wr)
          case atStart => exact ⟨0, m, c5, A5, by omega, by omega, hmc, rfl, j1, j2, j3⟩
          case round =>
            clear j1 j2 j3
            obtain ⟨j, r, c, A, hj, hr, hrc, rfl, j1, j2, j3⟩ := hrel
            have HJ := Lib.hid hj
            have HR := Lib.hid hr
            have hr9 : (r : Int) ≤ 1000 := by omega
            by_cases hr0 : 0 < r
            · have h64 : 64 ≤ r := by have := HM0.out; have := HMOD.out; omega
              have hd : decide ((0 : Int) < (r : Int)) = true := decide_eq_true (by omega)
              obtain ⟨gl, rfl, hne, hb⟩ := j2 hr0
              obtain ⟨st, HST⟩ : ∃ st, Hid (blocks d0 T j = st) := ⟨_, Lib.hid rfl⟩
              rw [HST.out] at j1
              have hbs := hb.sub (64 * j) 64
              rw [Nat.zero_add] at hbs
              have hlen : ((T.drop (64 * j)).take 64).length = 64 := by rw [List.length_take, List.length_drop]; have := HM0.out; omega
              have hsucc := blocks_succ d0 T j
              rw [HST.out] at hsucc
              obtain ⟨bb, HBB⟩ : ∃ bb, Hid ((T.drop (64 * j)).take 64 = bb) := ⟨_, Lib.hid rfl⟩
              rw [HBB.out] at hbs hlen hsucc
              have HLN := Lib.hid hlen
              have HSU := Lib.hid hsucc
              clear hlen hsucc hj hr
              go_wp2_with fail
              refine wp_region_lexX [] (by kernel_rfl) (by kernel_rfl) ?_
              repeat (first
                | (refine wpX_pure rfl rfl rfl ?_; intro K hK; go_big_quiet_op; refine hK _ ?_; clear hK K)
                | (refine wpX_load_mid1 rfl rfl 104 (.tmp 5) rfl gv 0 rfl st.cells.toList _ (cells_range j1) Try.underlying104 rfl row8_info ?_; simp only [Act.put, Array.toArray_toList, List.setIfInBounds_toArray, List.set_cons_zero, List.set_cons_succ]))
              refine wpX_eff rfl rfl ?_; intro K hK
              go_wp2_with fail
              (with_reducible refine (cshmix st gl (64 * j) c bb _ HLN.out (by omega) hbs.drew).mono ?_); rintro e' w2 ⟨rfl, hb2⟩
              go_wp2_with fail
              have q1 := j1.drew.below hb2 j1.lt
              have q2 := hb.drew.below hb2 hb.lt hb2.size
              have q3 := (below_drewN j3 1).trans (hb2.mono j3.size)
              refine hK _ _ trivial ?_; clear hK K
              clear j1 hb j3 hb2 hbs
              obtain ⟨s2, HS2⟩ : ∃ s2, Hid (mixH st bb = s2) := ⟨_, Lib.hid rfl⟩
              rw [HS2.out]
              have hq3 := q3.size
              refine wpX_eff rfl rfl ?_; intro K hK
              refine wpList_store_blk rfl 104 (.tmp 5) (.tmp 55) rfl gv s2.cells st.cells 104 rfl rfl q1 row8_info rfl s2.one_ ?_
              have d1 : Blk (w2.setRow gv s2.cells) gv 104 (blocks d0 T (j + 1)).cells := by rw [HSU.out, HS2.out]; exact q1.row _
              have d2 := q2.row_far hne s2.cells
              have d3 := below_row q3 hgv s2.cells
              obtain ⟨w3, HW3⟩ : ∃ x, Hid (w2.setRow gv s2.cells = x) := ⟨_, Lib.hid rfl⟩
              rw [HW3.out] at d1 d2 d3 ⊢
              clear q1 q2 q3
              refine wpList_nil (hK _ _ trivial ?_); clear hK K
              refine wpX_nil ?_
              simp only [Act.put]
              have D1 := Lib.hid d1
              have D2 := Lib.hid d2
              have D3 := Lib.hid d3
              clear d1 d2 d3
              by_cases hcap : c = 64
              · subst hcap
                go_wp2_with fail
                go_roundg (gk - 1)
                case measure => have := HJ.out; have := HR.out; omega
                case rel =>
                  have h1 := HJ.out
                  have h2 := HR.out
                  exact ⟨j + 1, 0, 0, some ⟨gl, 64 * j, none⟩, by omega, by omega, by omega, rfl, D1.out, fun h => absurd h (by omega), D3.out⟩
              · go_wp2_with fail
                go_roundg (gk - 1)
                case measure => have := HJ.out; have := HR.out; omega
                case rel =>
                  have h1 := HJ.out
                  have h2 := HR.out
                  have e : 64 * (j + 1) = 64 * j + 64 := by omega
                  exact ⟨j + 1, r - 64, c - 64, some ⟨gl, 64 * j + 64, none⟩, by omega, by omega, by omega, rfl, D1.out, fun h => ⟨gl, by rw [e], hne, D2.out⟩, D3.out⟩
            · have hr1 : r = 0 := by omega
              have hjm : j = T.length / 64 := by rw [← HM0.out]; omega
              rw [hjm] at j1
              have hsb := HSHA.out
              obtain ⟨st, HST⟩ : ∃ st, Hid (blocks d0 T (T.length / 64) = st) := ⟨_, Lib.hid rfl⟩
              rw [HST.out] at j1 hsb
              rw [← wbs_all] at hsb
              rw [H8.cells_list] at j1
              have hll : st.list.length = 8 := rfl
              obtain ⟨L, HL0⟩ : ∃ L, Hid (st.list = L) := ⟨_, Lib.hid rfl⟩
              rw [HL0.out] at j1 hsb hll
              have HSB := Lib.hid hsb
              have HLL := Lib.hid hll
              have hsz8 : Hid ((Try.prog.info? 104).map (·.size) = some (wcells L).toList.length) := Lib.hid (by rw [Array.length_toList, size_wcells, hll]; exact row8_info)
              have hrg : wr.rangeAt gv 0 (wcells L).toList := by
                intro j u hu
                rw [Nat.zero_add, j1.cell, ← hu]
                simp
              have hix := fun (k : Nat) (hk : k < 8) (W : World) => run_index_w64 (P := Try.prog) (n := 8) Try.underlying104 Try.underlying103 shword_info L k hk hll W
              have HIX := Lib.hid hix
              have HRG := Lib.hid hrg
              have J3 := Lib.hid j3
              have hj3 := j3.size
              clear hjm hsb hll j1 hr hj j2 hrg j3 hix
              subst hr1
              go_wp2_with ((refine wpList_load_mid rfl 104 (.tmp 5) rfl gv 0 rfl (wcells L).toList _ HRG.out Try.underlying104 rfl hsz8.out ?_); simp only [Act.put, Array.toArray_toList, List.setIfInBounds_toArray, List.set_cons_zero, List.set_cons_succ])
              go_loopw [6, 57] (fun u x wr => ∃ (k n c' : Nat) (A' : Option Addr), k ≤ 8 ∧ x = .int .i64 k ∧ n = 4 * k ∧ u = .slice A' n c' ∧ SL wr w.heap.size 5 (.slice A' n c') ((wbs L k).map bv) ∧ Below w.heap.size w wr)
                (fun _ x _ => 8 - (intOf x).toNat)
              case atStart => exact ⟨0, 0, 0, none, by omega, rfl, rfl, rfl, by rw [wbs_zero]; exact SL.nil _ _ _, J3.out⟩
              case round =>
                clear hj3
                obtain ⟨k, n, c6, A6, hk, rfl, hn, rfl, s6, n6⟩ := hrel
                have HN := Lib.hid hn
                clear hn
                by_cases hlk : k < 8
                · have hdk : decide ((k : Int) < 8) = true := by simp; omega
                  have hix := HIX.out k hlk
                  have hws := wbs_succ L k (by rw [HLL.out]; exact hlk)
                  have hwl := wbs_length L (k + 1) (by rw [HLL.out]; omega)
                  have hl6 : ((wbs L k).map bv).length ≤ 1000 := by rw [List.length_map, wbs_length L k (by rw [HLL.out]; omega)]; omega
                  obtain ⟨x, HX⟩ : ∃ x, Hid (L.getD k 0 = x) := ⟨_, Lib.hid rfl⟩
                  rw [HX.out] at hix hws
                  have HWS := Lib.hid hws
                  have HWL := Lib.hid hwl
                  have hs6 := n6.size
                  have S6 := Lib.hid s6
                  have N6 := Lib.hid n6
                  clear s6 n6 hws hwl
                  go_wp2_with (first
                    | (refine wpList_app_grown u8_elem rfl (.tmp 60) (.tmp 72) rfl w.heap.size _ _ rfl (S6.out.alloc _) (.slice (some ⟨wr.heap.size, 0, none⟩) 4 4) 4 _ rfl (src_new4 Try.underlying94 wr _ x) (by omega) (by decide) (by simp; omega) ?_
                       intro v7 w7 s7 g7 o7
                       rw [← List.map_append, ← HWS.out] at s7
                       have n7 := (N6.out.alloc (by omega) _).trans ((Only.grown (S := fun k => w.heap.size ≤ k) g7 (fun k e => (S6.out.own_lt k e).2)).below (B := w.heap.size) (by simp; omega) (fun _ e => e))
                       clear g7 o7
                       dsimp only [Act.put]))
                  go_roundw
                  case rel =>
                    obtain ⟨A7, c7, hv7, _, _⟩ := s7.view
                    rw [HWL.out] at hv7
                    exact ⟨k + 1, _, c7, A7, by omega, by go_num, rfl, hv7, by rw [← hv7]; exact s7, n7⟩
                  case measure => simp [intOf]; omega
                · have hk8 : k = 8 := by omega
                  have hdk : decide ((k : Int) < 8) = false := by simp; omega
                  rw [hk8, ← HSB.out] at s6
                  have hcv := sl_text (P := Try.prog) s6 Try.underlying94 Try.underlying5 Try.underlying9 (by rw [sha_length]; omega)
                  have N6 := Lib.hid n6
                  clear s6 n6 hk8
                  go_wp2_with fail
                  go_ret
                  exact ⟨rfl, N6.out⟩
end Go.Proofs.Ytcnhhlnbmliihaa
