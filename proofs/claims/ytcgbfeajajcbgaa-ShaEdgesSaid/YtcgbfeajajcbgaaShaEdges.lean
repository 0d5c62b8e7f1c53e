/- The law ShaEdges, walked. -/
import Derived.Test.YtcgbfeajajcbgaaShaLaws
namespace Go.Proofs.Ytcgbfeajajcbgaa
open Go.RowKit

theorem mask_low (n : Int) (k : Nat) (hk : k ≤ 62) : bits .and .i64 n (((2 ^ k - 1 : Nat) : Nat) : Int) = n % ((2 ^ k : Nat) : Int) := by
  have hp : (2 : Nat) ^ k ≤ 2 ^ 62 := Nat.pow_le_pow_right (by decide) hk
  have hp0 : 1 ≤ (2 : Nat) ^ k := Nat.one_le_two_pow
  have hd : (2 : Nat) ^ k ∣ 2 ^ 64 := Nat.pow_dvd_pow 2 (by omega)
  have e : (BitVec.ofInt 64 n &&& BitVec.ofInt 64 (((2 ^ k - 1 : Nat) : Nat) : Int)).toNat = (n % ((2 ^ k : Nat) : Int)).toNat := by
    rw [BitVec.toNat_and, BitVec.toNat_ofInt, BitVec.ofInt_natCast, BitVec.toNat_ofNat, Nat.mod_eq_of_lt (by omega), Nat.and_two_pow_sub_one_eq_mod]
    have h1 : (n % ((2 ^ 64 : Nat) : Int)).toNat % 2 ^ k = (n % ((2 ^ 64 : Nat) : Int) % ((2 ^ k : Nat) : Int)).toNat := by
      have h0 := Int.emod_nonneg n (show ((2 ^ 64 : Nat) : Int) ≠ 0 by decide)
      generalize n % ((2 ^ 64 : Nat) : Int) = m at *
      obtain ⟨m, rfl⟩ := Int.eq_ofNat_of_zero_le h0
      rw [Int.toNat_natCast, ← Int.natCast_emod, Int.toNat_natCast]
    rw [h1, Int.emod_emod_of_dvd n (Int.natCast_dvd_natCast.2 hd)]
  rw [bits_and64, e]
  have h0 := Int.emod_nonneg n (show ((2 ^ k : Nat) : Int) ≠ 0 by omega)
  have h2 := Int.emod_lt_of_pos n (show (0 : Int) < ((2 ^ k : Nat) : Int) by omega)
  unfold wrap64
  omega
theorem mask3 (n : Int) : bits .and .i64 n 3 = n % 4 := mask_low n 2 (by decide)
theorem mask127 (n : Int) : bits .and .i64 n 127 = n % 128 := mask_low n 7 (by decide)
theorem run_conv_none {P : Program} {src dst el : TypeId} (hs : P.underlying src = some (.slice el)) (he : P.underlying el = some (.int .u8)) (hd : P.underlying dst = some .string) (c : Nat) (w : World) :
    (convert src dst (.slice none 0 c)).run P w = .ok (.string ⟨#[]⟩) w := by
  simp [convert, run_underlying hs, run_underlying hd, run_underlying he, Conv.bytesToString, loadCells, loadCellsFrom]
  rfl
/-- A slice of the call's own as a text, whatever its length. -/
theorem sl_text_any {P : Program} {w : World} {B : Nat} {v : Value} {e : TypeId} {l : List UInt8} (h : SL w B e v (l.map bv)) {src dst el : TypeId} (hs : P.underlying src = some (.slice el)) (he : P.underlying el = some (.int .u8)) (hd : P.underlying dst = some .string) :
    (convert src dst v).run P w = .ok (.string (str l)) w := by
  rcases Nat.eq_zero_or_pos l.length with h0 | h0
  · obtain rfl := List.eq_nil_of_length_eq_zero h0
    obtain ⟨A, c, rfl, _, _⟩ := h.view
    cases A with
    | none => exact run_conv_none hs he hd c w
    | some a => exact conv_bytes (P := P) hs he hd w a 0 c [] rfl (fun j hj => absurd hj (by omega))
  · exact sl_text h hs he hd h0
theorem rep_succ (x : UInt8) (i : Nat) : (List.replicate i x).map bv ++ [bv x] = (List.replicate (i + 1) x).map bv := by
  rw [List.replicate_succ', List.map_append]; rfl

set_option maxRecDepth 100000 in
set_option maxHeartbeats 1000000 in
theorem shaEdges_any (a b : Int) (x : UInt8) (w : World) : Calls Try.prog 8 #[.int .i64 a, .int .i64 b, .int .u8 ((x.toNat : Nat) : Int)] w fun e w' => e = .returned (.bool true) ∧ Below w.heap.size w w' := by
  obtain ⟨p, hp⟩ := Int.eq_ofNat_of_zero_le (Int.emod_nonneg a (show (4 : Int) ≠ 0 by decide))
  obtain ⟨q, hq⟩ := Int.eq_ofNat_of_zero_le (Int.emod_nonneg b (show (128 : Int) ≠ 0 by decide))
  have hp4 : (p : Int) ≤ 3 := by omega
  have hq4 : (q : Int) ≤ 127 := by omega
  have m1 : bits .and .i64 a 3 = (p : Int) := by rw [mask3, hp]
  have m2 : bits .and .i64 b 127 = (q : Int) := by rw [mask127, hq]
  clear hp hq
  go_enter Try.func8, Try.ntmps8
  go_wp2_with fail
  clear m1 m2
  obtain ⟨n, HN⟩ : ∃ n : Nat, Hid ((p : Int) * 64 + (q : Int) = (n : Int)) := ⟨p * 64 + q, Lib.hid (by omega)⟩
  have hn : n ≤ 319 := by have := HN.out; omega
  rw [HN.out]
  go_loopw [8, 9] (fun u i wr => ∃ (k c' : Nat) (A : Option Addr), k ≤ n ∧ i = .int .i64 k ∧ u = .slice A k c' ∧ SL wr w.heap.size 5 (.slice A k c') ((List.replicate k x).map bv) ∧ Below w.heap.size w wr)
    (fun _ i _ => n - (intOf i).toNat)
  case atStart => exact ⟨0, 0, none, by omega, rfl, rfl, SL.nil _ _ _, Below.refl _ _⟩
  case round =>
    obtain ⟨k, c', A, hk, rfl, rfl, s1, n1⟩ := hrel
    have hs1 := n1.size
    have S1 := Lib.hid s1
    have N1 := Lib.hid n1
    clear s1 n1
    by_cases hlk : k < n
    · have hdk : decide ((k : Int) < (n : Int)) = true := decide_eq_true (by omega)
      have hl1 : ((List.replicate k x).map bv).length ≤ 1000 := by rw [List.length_map, List.length_replicate]; omega
      go_wp2_with (refine wpList_app_grown u8_elem rfl (.tmp 22) (.tmp 24) rfl w.heap.size _ _ rfl (S1.out.alloc _) (.slice (some ⟨wr.heap.size, 0, none⟩) 1 1) 1 [bv x] rfl (src_new1 Try.underlying35 wr _ _ rfl) (by omega) (by decide) (by simp; omega) ?_
                   intro v4 w4 s4 g4 o4
                   rw [rep_succ] at s4
                   have n4 := (N1.out.alloc (by omega) _).trans ((Only.grown (S := fun k => w.heap.size ≤ k) g4 (fun k e => (S1.out.own_lt k e).2)).below (B := w.heap.size) (by simp; omega) (fun _ e => e))
                   clear g4 o4
                   dsimp only [Act.put])
      go_roundw
      case rel =>
        obtain ⟨A4, c4, hv4, _, _⟩ := s4.view
        rw [List.length_replicate] at hv4
        exact ⟨k + 1, c4, A4, by omega, by go_num, hv4, by rw [← hv4]; exact s4, n4⟩
      case measure => simp [intOf]; omega
    · have hdk : decide ((k : Int) < (n : Int)) = false := decide_eq_false (by omega)
      have ek : k = n := by omega
      subst ek
      have hcv := sl_text_any (P := Try.prog) S1.out Try.underlying35 Try.underlying5 Try.underlying9
      have hsz : (str (List.replicate k x)).size = k := by rw [str_size, List.length_replicate]
      obtain ⟨s, HS⟩ : ∃ s, Hid (str (List.replicate k x) = s) := ⟨_, Lib.hid rfl⟩
      rw [HS.out] at hcv hsz
      have HSZ := Lib.hid hsz
      have hsI : (s.size : Int) = (k : Int) := by omega
      have HSI := Lib.hid hsI
      have h1 := fun W => cSum1 s W (by omega)
      have h2 := fun W => crSum s W (by omega)
      have hcat : s.extract 0 (k / 2) ++ s.extract (k / 2) s.size = s := split_text s (k / 2) (by omega)
      have h3 := fun W => cSum2 (s.extract 0 (k / 2)) (s.extract (k / 2) s.size) W (by simp; omega)
      rw [hcat] at h3
      obtain ⟨X, HX⟩ : ∃ X, Hid (str (sha s.data.toList) = X) := ⟨_, Lib.hid rfl⟩
      simp only [HX.out] at h1 h2 h3
      have H1 := Lib.hid h1
      have H2 := Lib.hid h2
      have H3 := Lib.hid h3
      have hk2 : (k : Int) / 2 ≤ (s.size : Int) := by omega
      have hk3 : 0 ≤ (k : Int) / 2 := by omega
      have hkN : ((k : Int) / 2).toNat = k / 2 := by omega
      clear hsz hsI hcat h1 h2 h3
      go_wp2_with fail
      refine wp_region_lexX [] (by kernel_rfl) (by kernel_rfl) ?_
      repeat (refine wpX_pure rfl rfl rfl ?_; intro K hK; go_big_quiet_op; refine hK _ ?_; clear hK K)
      refine wpX_eff rfl rfl ?_; intro K hK; go_wp2_with fail; refine hK _ _ trivial ?_; clear hK K
      refine wpX_eff rfl rfl ?_; intro K hK
      go_wp2_with fail
      (refine (H1.out wr.drew).mono ?_); rintro e w1 ⟨rfl, b1⟩
      go_wp2_with fail
      refine hK _ _ trivial ?_; clear hK K
      repeat (refine wpX_pure rfl rfl rfl ?_; intro K hK; go_big_quiet_op; refine hK _ ?_; clear hK K)
      refine wpX_eff rfl rfl ?_; intro K hK
      go_wp2_with fail
      (refine (H2.out w1).mono ?_); rintro e w2 ⟨rfl, b2⟩
      go_wp2_with fail
      refine hK _ _ trivial ?_; clear hK K
      repeat (refine wpX_pure rfl rfl rfl ?_; intro K hK; go_big_quiet_op; refine hK _ ?_; clear hK K)
      refine wpX_eff rfl rfl ?_; intro K hK; go_wp2_with fail; refine hK _ _ trivial ?_; clear hK K
      refine wpX_eff rfl rfl ?_; intro K hK
      go_wp2_with fail
      (refine (H3.out w2).mono ?_); rintro e w3 ⟨rfl, b3⟩
      go_wp2_with fail
      refine hK _ _ trivial ?_; clear hK K
      repeat (refine wpX_pure rfl rfl rfl ?_; intro K hK; go_big_quiet_op; refine hK _ ?_; clear hK K)
      refine wpX_eff rfl rfl ?_; intro K hK
      go_wp2_with fail
      (refine (H2.out w3).mono ?_); rintro e w4 ⟨rfl, b4⟩
      go_wp2_with fail
      refine hK _ _ trivial ?_; clear hK K
      repeat (refine wpX_pure rfl rfl rfl ?_; intro K hK; go_big_quiet_op; refine hK _ ?_; clear hK K)
      refine wpX_eff rfl rfl ?_; intro K hK; go_wp2_with fail; refine hK _ _ trivial ?_; clear hK K
      repeat (refine wpX_pure rfl rfl rfl ?_; intro K hK; go_big_quiet_op; refine hK _ ?_; clear hK K)
      refine wpX_eff rfl rfl ?_; intro K hK
      go_wp2_with fail
      (refine (cAwake02 w4).mono ?_); rintro e w5 ⟨rfl, b5⟩
      go_wp2_with fail
      refine hK _ _ trivial ?_; clear hK K
      repeat (refine wpX_pure rfl rfl rfl ?_; intro K hK; go_big_quiet_op; refine hK _ ?_; clear hK K)
      refine wpX_eff rfl rfl ?_; intro K hK; go_wp2_with fail; refine hK _ _ trivial ?_; clear hK K
      repeat (refine wpX_pure rfl rfl rfl ?_; intro K hK; go_big_quiet_op; refine hK _ ?_; clear hK K)
      refine wpX_nil ?_
      go_wp2_with fail
      go_ret
      have c1 := (below_drewN N1.out 1).trans (b1.mono hs1)
      have c2 := c1.trans (b2.mono c1.size)
      have c3 := c2.trans (b3.mono c2.size)
      have c4 := c3.trans (b4.mono c3.size)
      exact ⟨rfl, c4.trans (b5.mono c4.size)⟩
theorem wf_u8 {c : Int} (h : (Lit.int .u8 c).wf = true) : 0 ≤ c ∧ c ≤ 255 := by
  have e1 : IntKind.u8.min = 0 := by decide
  have e2 : IntKind.u8.max = 255 := by decide
  simp [Lit.wf, e1, e2] at h
  omega
theorem shaEdges_walk (a : Int) (_ : (Lit.int .i64 a).wf = true) (b : Int) (_ : (Lit.int .i64 b).wf = true) (c : Int) (hc : (Lit.int .u8 c).wf = true) (w : World) :
    Calls Try.prog 8 #[.int .i64 a, .int .i64 b, .int .u8 c] w fun e w' => e = .returned (.bool true) ∧ Below w.heap.size w w' := by
  have h2 := wf_u8 hc
  have hx : (((UInt8.ofNat c.toNat).toNat : Nat) : Int) = c := by simp; omega
  have := shaEdges_any a b (UInt8.ofNat c.toNat) w
  rw [hx] at this
  exact this
end Go.Proofs.Ytcgbfeajajcbgaa
