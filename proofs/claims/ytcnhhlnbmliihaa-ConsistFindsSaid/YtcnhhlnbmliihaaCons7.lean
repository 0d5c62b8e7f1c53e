/- Proofs of beginnings: the reference's Clash. -/
import Derived.Test.YtcnhhlnbmliihaaCons6
namespace Go.Proofs.Ytcnhhlnbmliihaa
open Go.RowKit
set_option linter.unusedVariables false
set_option linter.unusedSimpArgs false

theorem one_eq {G L X Y : ByteArray} (h : G ++ L = X ++ Y) : ((⟨#[1]⟩ ++ G ++ L : ByteArray).toList == (⟨#[1]⟩ ++ X ++ Y : ByteArray).toList) = true := by
  rw [ByteArray.append_assoc, ByteArray.append_assoc, h]; exact beq_self_eq_true _
theorem one_ne {G L X Y : ByteArray} (h : ¬ G ++ L = X ++ Y) : ((⟨#[1]⟩ ++ G ++ L : ByteArray).toList == (⟨#[1]⟩ ++ X ++ Y : ByteArray).toList) = false := by
  refine beq_text_ne (fun e => h ?_)
  rw [ByteArray.append_assoc, ByteArray.append_assoc] at e
  exact (app_inj e rfl).2

set_option maxRecDepth 100000 in
set_option maxHeartbeats 8000000 in
theorem crClashC (w m : Int) (kn : ByteArray) (Ap0 : Option Addr) (q0 cp0 : Nat) (p0 : List ByteArray) (Al0 : Option Addr) (n0 cl0 : Nat) (l0 : List ByteArray) (W : World) (hk : kn.size ≤ 200000)
    (hpl : p0.length = q0) (hps : Strs W Ap0 p0) (hpc : q0 ≤ cp0) (hp6 : q0 ≤ 1000000) (hpz : ∀ s ∈ p0, s.size ≤ 200000)
    (hll : l0.length = n0) (hls : Strs W Al0 l0) (hlc : n0 ≤ cl0) (hl6 : n0 ≤ 1000000) (hlz : ∀ s ∈ l0, s.size ≤ 200000) :
    Calls Try.prog 32 #[.int .i64 w, .int .i64 m, .string kn, .slice Ap0 q0 cp0, .slice Al0 n0 cl0] W fun e W' => e = .returned (oC (clashC (wd w) kn m p0 l0)) ∧ Below W.heap.size W W' := by
  have g1 := fun W h => crRoot w n0 Al0 cl0 l0 W hll h hlc hl6 (zle hlz)
  have g2 := crRootsC w m n0 kn Ap0 q0 cp0 p0 W (by omega) hk hpl hps hpc hp6 (zle hpz)
  have hyes := fun h => clashC_yes (w := wd w) (kn := kn) (m := m) (p := p0) (l := l0) h
  have hno := fun h => clashC_no (w := wd w) (kn := kn) (m := m) (p := p0) (l := l0) h
  have hry := fun h => rootsC_yes (w := wd w) (kn := kn) (m := m) (n := l0.length) (p := p0) h
  rw [hll] at hyes hno hry
  obtain ⟨V, HV⟩ : ∃ x, Hid (clashC (wd w) kn m p0 l0 = x) := ⟨_, Lib.hid rfl⟩
  rw [HV.out] at hyes hno ⊢
  obtain ⟨A0, HA⟩ : ∃ x, Hid (root (wd w) l0 = x) := ⟨_, Lib.hid rfl⟩
  simp only [HA.out] at g1
  rw [HA.out] at hyes hno
  obtain ⟨RR, HR⟩ : ∃ x, Hid (rootsC (wd w) kn m (n0 : Int) p0 = x) := ⟨_, Lib.hid rfl⟩
  rw [HR.out] at hyes hno hry g2
  obtain ⟨ra, rb, re⟩ := RR
  dsimp only [rT] at g2 hyes hno hry
  have G1 := Lib.hid g1
  have G2 := Lib.hid g2
  have HYES := Lib.hid hyes
  have HNO := Lib.hid hno
  have HPS := Lib.hid hps
  have HLS := Lib.hid hls
  have HPZ := Lib.hid hpz
  have HLZ := Lib.hid hlz
  have HPL := Lib.hid hpl
  have HLL := Lib.hid hll
  clear g1 g2 hyes hno hps hls hpz hlz hpl hll
  by_cases he : re = 0
  · obtain ⟨r1, r2, r3, _, _, _⟩ := hry he
    obtain ⟨M, rfl⟩ : ∃ x : Nat, m = x := ⟨m.toNat, by omega⟩
    have hMn : M ≤ n0 := by omega
    have e1 : ((M : Int)).toNat = M := Int.toNat_natCast M
    have e2 : ((n0 : Int)).toNat = n0 := Int.toNat_natCast n0
    rw [e1, e2] at r3
    have hyes := HYES.out
    have hno := HNO.out
    rw [e1] at hyes hno
    have htl : (l0.take M).length = M := by rw [List.length_take, HLL.out]; omega
    have g3 := fun W h => crRoot w M Al0 cl0 (l0.take M) W htl h (by omega) (by omega) (mem_take_le (zle HLZ.out))
    have hst := HLS.out.take M
    obtain ⟨B0, HB⟩ : ∃ x, Hid (root (wd w) (l0.take M) = x) := ⟨_, Lib.hid rfl⟩
    simp only [HB.out] at g3
    rw [HB.out] at hyes hno
    have G3 := Lib.hid g3
    have HST := Lib.hid hst
    obtain ⟨g0, o0, rfl, hg0, _⟩ := HLS.out (by rw [HLL.out]; omega)
    have hMI : (M : Int) ≤ (cl0 : Int) := by omega
    have hlcI : (n0 : Int) ≤ (cl0 : Int) := by omega
    have hMJ : (M : Int) ≤ (n0 : Int) := by omega
    have heI : ((re : Int) != 0) = false := by simp; omega
    have h1M : 1 ≤ M := by omega
    have HR3 := Lib.hid r3
    clear g3 hst htl hry r1 r3 e1 e2
    by_cases hka : ra = kn
    · have hae : (ra.toList == kn.toList) = true := by rw [hka]; exact beq_self_eq_true _
      by_cases hra : rb = A0
      · have hre : (rb.toList == A0.toList) = true := by rw [hra]; exact beq_self_eq_true _
        by_cases hkb : kn = B0
        · have hn0 := hno (fun h => h.2.2.2 hkb)
          have hbe : (kn.toList == B0.toList) = true := by rw [hkb]; exact beq_self_eq_true _
          rw [hn0, oC_none]
          clear hyes hno hn0 hkb hka hra he
          go_enter Try.func32, Try.ntmps32
          go_wp2_with fail
          (with_reducible refine G2.out.mono ?_); rintro e w1 ⟨rfl, hb1⟩
          go_wp2_with fail
          (with_reducible refine (G1.out _ (HLS.out.fresh hb1)).mono ?_); rintro e w2 ⟨rfl, hb2⟩
          have hb12 := hb1.trans (hb2.mono hb1.size)
          clear hb1 hb2
          go_wp2_with fail
          (with_reducible refine (G3.out _ (HST.out.fresh hb12)).mono ?_); rintro e w3 ⟨rfl, hb3⟩
          have hb13 := hb12.trans (hb3.mono hb12.size)
          clear hb12 hb3
          go_wp2_with fail
          go_ret3
          exact ⟨rfl, hb13⟩
        · have hn0 := hyes ⟨he, hka, hra, hkb⟩
          have hbe := beq_text_ne hkb
          have HN0 := Lib.hid hn0
          clear hyes hno hn0 hkb hka hra he
          go_enter Try.func32, Try.ntmps32
          go_wp2_with fail
          (with_reducible refine G2.out.mono ?_); rintro e w1 ⟨rfl, hb1⟩
          go_wp2_with fail
          (with_reducible refine (G1.out _ (HLS.out.fresh hb1)).mono ?_); rintro e w2 ⟨rfl, hb2⟩
          have hb12 := hb1.trans (hb2.mono hb1.size)
          clear hb1 hb2
          go_wp2_with fail
          (with_reducible refine (G3.out _ (HST.out.fresh hb12)).mono ?_); rintro e w3 ⟨rfl, hb3⟩
          have hb13 := hb12.trans (hb3.mono hb12.size)
          clear hb12 hb3
          have hin : CIn (wd w) kn W w3 V M q0 n0 cp0 cl0 true Ap0 (some ⟨g0, o0, none⟩) p0 l0 := ⟨HPL.out, HLL.out, hpc, hlc, hl6, h1M, hMn, by rw [← HPL.out]; exact HR3.out, HPS.out.fresh hb13, HLS.out.fresh hb13, HPZ.out, HLZ.out, HN0.out.symm, hb13⟩
          clear hb13 hg0
          go_wp2_with fail
          go_loopw [1, 3, 4, 16] (fun v1 v3 v4 v14 wr => ∃ (m' q n cp cl : Nat) (wh : Bool) (Ap Al : Option Addr) (ps ls : List ByteArray), v1 = .int .i64 m' ∧ v3 = .slice Ap q cp ∧ v4 = .slice Al n cl ∧ v14 = .bool wh ∧ CIn (wd w) kn W wr V m' q n cp cl wh Ap Al ps ls) (fun _ _ v4 _ _ => match v4 with | .slice _ n _ => n | _ => 0)
          case atStart => exact ⟨_, _, _, _, _, _, _, _, _, _, rfl, rfl, rfl, rfl, hin⟩
          case round =>
            clear hin
            obtain ⟨m', q, n, cp, cl, wh, Ap, Al, ps, ls, rfl, rfl, rfl, rfl, hC⟩ := hrel
            have HC := Lib.hid hC
            clear hC
            by_cases hmn : m' = n
            · have hv := HC.out.end_ hmn
              have hbb := HC.out.be
              have hmI : ¬ (m' : Int) < (n : Int) := by omega
              have HVN := Lib.hid hv
              clear hv
              go_wp2_with fail
              go_ret3
              rw [HVN.out, oC_none]
              exact ⟨rfl, hbb⟩
            ·
              have h1 := HC.out.h1
              have hlt : m' < n := by have := HC.out.hm; omega
              have hlo := HC.out.lo
              have hlp := long_pos m' n wh h1 hlt
              have hn6 := HC.out.n6
              have hpc' := HC.out.pc
              have hlc' := HC.out.lc
              have hl61 := long_le 61 n m' wh (by omega) h1 (by omega)
              obtain ⟨q, rfl⟩ : ∃ x, q = x + 1 := ⟨q - 1, by omega⟩
              have hcl := cut_lt n (by omega)
              have hcp := cut_pos n
              have h3 := fun W => crCut n W (by omega)
              obtain ⟨gl, ol, rfl, hgl, _⟩ := HC.out.sl (by rw [HC.out.ll]; omega)
              obtain ⟨gp, op, rfl, c1⟩ := HC.out.sp.cell_ q (by rw [HC.out.pl]; omega)
              have hgp : gp < wr.heap.size := by
                obtain ⟨g', o', e1, e2, _⟩ := HC.out.sp (by rw [HC.out.pl]; omega)
                injection e1 with e1; injection e1 with e1 _ _; omega
              have hzL := HC.out.zp _ (mem_last HC.out.pl)
              have ht : (ls.take (cut n)).length = cut n := by rw [List.length_take, HC.out.ll]; omega
              have hd : (ls.drop (cut n)).length = n - cut n := by rw [List.length_drop, HC.out.ll]
              have hpt : (ps.take q).length = q := by rw [List.length_take, HC.out.pl]; omega
              have r1 := fun W h => crRoot w (cut n) (some ⟨gl, ol, none⟩) cl (ls.take (cut n)) W ht h (by omega) (by omega) (mem_take_le (zle HC.out.zl))
              have r2 := fun W h => crRoot w (n - cut n) (some ⟨gl, ol + cut n, none⟩) (cl - cut n) (ls.drop (cut n)) W hd h (by omega) (by omega) (mem_drop_le (zle HC.out.zl))
              have i1 := fun W h e hh => crAll w kn (by omega) (cut n) m' wh (some ⟨gp, op, none⟩) q cp (ps.take q) W h1 h (by omega) e hpt hh (by omega) (mem_take_le (zle HC.out.zp))
              have i2 := fun W h h' e hh => crAll w kn (by omega) (n - cut n) (m' - cut n) false (some ⟨gp, op, none⟩) q cp (ps.take q) W h h' (by omega) e hpt hh (by omega) (mem_take_le (zle HC.out.zp))
              have z1 := fun h e => (both_le (wd w) (wd_hi w) 200000 (by omega) kn hk (cut n) m' (ps.take q) wh h1 h (hpt.trans e) (mem_take_le HC.out.zp)).2
              have z2 := fun h h' e => (both_le (wd w) (wd_hi w) 200000 (by omega) kn hk (n - cut n) (m' - cut n) (ps.take q) false h h' (hpt.trans e) (mem_take_le HC.out.zp)).2
              have lll := fun h => long_left m' n wh h1 hlt h
              have llr := fun h => long_right m' n wh hlt h
              have hcml := fun h => claimedC_left (wd w) kn m' ps ls wh h
              have hcmr := fun h => claimedC_right (wd w) kn m' ps ls wh h
              have hpq : ps.length - 1 = q := by rw [HC.out.pl]; omega
              rw [HC.out.ll, hpq] at hcml hcmr
              have hre : realC (wd w) ls = root (wd w) (ls.take (cut n)) ++ root (wd w) (ls.drop (cut n)) := by unfold realC; rw [HC.out.ll]
              have hX := root_le (wd w) (wd_hi w) 200000 (by omega) (ls.take (cut n)) (mem_take_le HC.out.zl)
              have hY := root_le (wd w) (wd_hi w) 200000 (by omega) (ls.drop (cut n)) (mem_drop_le HC.out.zl)
              have HSL := Lib.hid (HC.out.sl.take (cut n))
              have HSD := Lib.hid (HC.out.sl.from_ (cut n) (by rw [HC.out.ll]; omega) (c := cl) (by rw [HC.out.ll]; omega))
              have HSP := Lib.hid (HC.out.sp.take q)
              have HBW := Lib.hid HC.out.be
              obtain ⟨k, HK⟩ : ∃ k, Hid (cut n = k) := ⟨_, Lib.hid rfl⟩
              simp only [HK.out] at h3 r1 r2 i1 i2 z1 z2 lll llr hcml hcmr hre hX hY HSL HSD hcl hcp
              obtain ⟨X, HX⟩ : ∃ x, Hid (root (wd w) (ls.take k) = x) := ⟨_, Lib.hid rfl⟩
              obtain ⟨Y, HY⟩ : ∃ x, Hid (root (wd w) (ls.drop k) = x) := ⟨_, Lib.hid rfl⟩
              simp only [HX.out] at r1 hre hX
              simp only [HY.out] at r2 hre hY
              obtain ⟨L, HL⟩ : ∃ x, Hid (ps.getD q ByteArray.empty = x) := ⟨_, Lib.hid rfl⟩
              simp only [HL.out] at hcml hcmr c1 hzL
              have HRE := Lib.hid hre
              have R1 := Lib.hid r1
              have R2 := Lib.hid r2
              have H3 := Lib.hid h3
              have hb0 : Below wr.heap.size wr wr.drew := (Below.refl wr.heap.size wr).drew
              have hkn2 : (k : Int) < (n : Int) := by omega
              have hkn3 : (k : Int) ≤ (n : Int) := by omega
              have hkc : (k : Int) ≤ (cl : Int) := by omega
              have hncI : (n : Int) ≤ (cl : Int) := by omega
              have hck2 : ¬ cl = k := by omega
              have hqcI : (q : Int) + 1 ≤ (cp : Int) := by omega
              have hqcJ : (q : Int) ≤ (cp : Int) := by omega
              have hqq : (q : Int) ≤ (q : Int) + 1 := by omega
              have hqI : (q : Int) ≤ 62 := by omega
              have hnI : (n : Int) ≤ 1000000 := by omega
              have hmI6 : (m' : Int) ≤ 1000000 := by omega
              clear hre r1 r2 h3 ht hd hpt hpq hlp hl61 hmn
              by_cases hmk : m' ≤ k
              ·
                have hcm := hcml hmk
                have i3 := fun W h => i1 W hmk (by have := lll hmk; omega) h
                have y3 := z1 hmk (by have := lll hmk; omega)
                have hjI : (m' : Int) ≤ (k : Int) := by omega
                obtain ⟨G, HG⟩ : ∃ x, Hid (allR (wd w) kn m' k (ps.take q) wh = x) := ⟨_, Lib.hid rfl⟩
                simp only [HG.out] at i3
                rw [HG.out] at y3 hcm
                have I3 := Lib.hid i3
                have HCM := Lib.hid hcm
                have HLT := Lib.hid (show m' < n by omega)
                have HMK := Lib.hid hmk
                have hltI : (m' : Int) < (n : Int) := by omega
                clear hcm i1 i2 i3 z1 z2 lll llr hcml hcmr hlt hlo
                by_cases heq : G ++ L = X ++ Y
                · have hbe := one_eq heq
                  have HCC := Lib.hid (show claimedC (wd w) kn m' ps ls wh = realC (wd w) ls by rw [HCM.out, HRE.out, heq])
                  clear heq
                  go_wp2_with fail
                  (with_reducible refine (H3.out _).mono ?_); rintro e w1 ⟨rfl, rfl⟩
                  go_wp2_with fail
                  refine wp_region_lexX [] (by kernel_rfl) (by kernel_rfl) ?_
                  repeat (refine wpX_pure rfl rfl rfl ?_; intro K hK; go_big_quiet_op; refine hK _ ?_; clear hK K)
                  refine wpX_eff rfl rfl ?_; intro K hK; go_wp2_with fail
                  (with_reducible refine (R1.out _ HSL.out.drew).mono ?_); rintro e w1 ⟨rfl, hb1⟩
                  go_wp2_with fail
                  refine hK _ _ trivial ?_; clear hK K
                  have HB1 := Lib.hid (hb0.trans (hb1.mono hb0.size))
                  clear hb1 hb0
                  repeat (refine wpX_pure rfl rfl rfl ?_; intro K hK; go_big_quiet_op; refine hK _ ?_; clear hK K)
                  refine wpX_eff rfl rfl ?_; intro K hK; go_wp2_with fail
                  (with_reducible refine (R2.out _ (HSD.out.fresh HB1.out)).mono ?_); rintro e w2 ⟨rfl, hb2⟩
                  go_wp2_with fail
                  refine hK _ _ trivial ?_; clear hK K
                  have HB2 := Lib.hid (HB1.out.trans (hb2.mono HB1.out.size))
                  clear hb2
                  repeat (refine wpX_pure rfl rfl rfl ?_; intro K hK; go_big_quiet_op; refine hK _ ?_; clear hK K)
                  refine wpX_nil ?_
                  go_wp2_with fail
                  have HBD := Lib.hid HB2.out.drew
                  have c3 : w2.drew.cell? ⟨gp, op + q, none⟩ = some (.string L) := (HBD.out.cell hgp).trans c1
                  have hgp3 : gp < w2.drew.heap.size := Nat.lt_of_lt_of_le hgp HBD.out.size
                  have hS0 := Below.refl w2.drew.heap.size w2.drew
                  refine wp_region_lexS (fun w' => Below w2.drew.heap.size w2.drew w') 0 [] (by kernel_rfl) (by kernel_rfl) hS0 ?_
                  repeat (first | (refine wpX_load0 rfl rfl _ _ rfl _ rfl _ rfl Try.underlying9 _ (fun w' h => (h.cell hgp3).trans c3) hS0 ?_; simp only [Act.put, List.setIfInBounds_toArray, List.set_cons_zero, List.set_cons_succ, List.getElem_toArray, List.getElem_cons_zero, List.getElem_cons_succ]) | (refine wpX_pure rfl rfl rfl ?_; intro K hK; go_big_quiet_op; refine hK _ ?_; clear hK K))
                  refine wpX_eff rfl rfl ?_; intro K hK; go_wp2_with fail
                  (with_reducible refine (I3.out _ (HSP.out.fresh HBD.out)).mono ?_); rintro e w3 ⟨rfl, hb3⟩
                  go_wp2_with fail
                  refine hK _ _ hb3 ?_; clear hK K
                  replace hS0 := hb3
                  clear hb3
                  repeat (first | (refine wpX_load0 rfl rfl _ _ rfl _ rfl _ rfl Try.underlying9 _ (fun w' h => (h.cell hgp3).trans c3) hS0 ?_; simp only [Act.put, List.setIfInBounds_toArray, List.set_cons_zero, List.set_cons_succ, List.getElem_toArray, List.getElem_cons_zero, List.getElem_cons_succ]) | (refine wpX_pure rfl rfl rfl ?_; intro K hK; go_big_quiet_op; refine hK _ ?_; clear hK K))
                  refine wpX_nil ?_
                  have HB3 := Lib.hid (HBD.out.trans (hS0.mono HBD.out.size))
                  clear hS0
                  go_wp2_with fail
                  go_roundw
                  case rel =>
                    have hnx := (HC.out.next HB3.out HLT.out HCC.out).1
                    rw [HK.out] at hnx
                    refine ⟨_, _, _, _, _, _, _, _, _, _, rfl, rfl, rfl, rfl, hnx HMK.out⟩
                  case measure => simp [intOf]; omega
                · have hbe := one_ne heq
                  have HCC := Lib.hid (show ¬ claimedC (wd w) kn m' ps ls wh = realC (wd w) ls by rw [HCM.out, HRE.out]; exact heq)
                  clear heq
                  go_wp2_with fail
                  (with_reducible refine (H3.out _).mono ?_); rintro e w1 ⟨rfl, rfl⟩
                  go_wp2_with fail
                  refine wp_region_lexX [] (by kernel_rfl) (by kernel_rfl) ?_
                  repeat (refine wpX_pure rfl rfl rfl ?_; intro K hK; go_big_quiet_op; refine hK _ ?_; clear hK K)
                  refine wpX_eff rfl rfl ?_; intro K hK; go_wp2_with fail
                  (with_reducible refine (R1.out _ HSL.out.drew).mono ?_); rintro e w1 ⟨rfl, hb1⟩
                  go_wp2_with fail
                  refine hK _ _ trivial ?_; clear hK K
                  have HB1 := Lib.hid (hb0.trans (hb1.mono hb0.size))
                  clear hb1 hb0
                  repeat (refine wpX_pure rfl rfl rfl ?_; intro K hK; go_big_quiet_op; refine hK _ ?_; clear hK K)
                  refine wpX_eff rfl rfl ?_; intro K hK; go_wp2_with fail
                  (with_reducible refine (R2.out _ (HSD.out.fresh HB1.out)).mono ?_); rintro e w2 ⟨rfl, hb2⟩
                  go_wp2_with fail
                  refine hK _ _ trivial ?_; clear hK K
                  have HB2 := Lib.hid (HB1.out.trans (hb2.mono HB1.out.size))
                  clear hb2
                  repeat (refine wpX_pure rfl rfl rfl ?_; intro K hK; go_big_quiet_op; refine hK _ ?_; clear hK K)
                  refine wpX_nil ?_
                  go_wp2_with fail
                  have HBD := Lib.hid HB2.out.drew
                  have c3 : w2.drew.cell? ⟨gp, op + q, none⟩ = some (.string L) := (HBD.out.cell hgp).trans c1
                  have hgp3 : gp < w2.drew.heap.size := Nat.lt_of_lt_of_le hgp HBD.out.size
                  have hS0 := Below.refl w2.drew.heap.size w2.drew
                  refine wp_region_lexS (fun w' => Below w2.drew.heap.size w2.drew w') 0 [] (by kernel_rfl) (by kernel_rfl) hS0 ?_
                  repeat (first | (refine wpX_load0 rfl rfl _ _ rfl _ rfl _ rfl Try.underlying9 _ (fun w' h => (h.cell hgp3).trans c3) hS0 ?_; simp only [Act.put, List.setIfInBounds_toArray, List.set_cons_zero, List.set_cons_succ, List.getElem_toArray, List.getElem_cons_zero, List.getElem_cons_succ]) | (refine wpX_pure rfl rfl rfl ?_; intro K hK; go_big_quiet_op; refine hK _ ?_; clear hK K))
                  refine wpX_eff rfl rfl ?_; intro K hK; go_wp2_with fail
                  (with_reducible refine (I3.out _ (HSP.out.fresh HBD.out)).mono ?_); rintro e w3 ⟨rfl, hb3⟩
                  go_wp2_with fail
                  refine hK _ _ hb3 ?_; clear hK K
                  replace hS0 := hb3
                  clear hb3
                  repeat (first | (refine wpX_load0 rfl rfl _ _ rfl _ rfl _ rfl Try.underlying9 _ (fun w' h => (h.cell hgp3).trans c3) hS0 ?_; simp only [Act.put, List.setIfInBounds_toArray, List.set_cons_zero, List.set_cons_succ, List.getElem_toArray, List.getElem_cons_zero, List.getElem_cons_succ]) | (refine wpX_pure rfl rfl rfl ?_; intro K hK; go_big_quiet_op; refine hK _ ?_; clear hK K))
                  refine wpX_nil ?_
                  have HB3 := Lib.hid (HBD.out.trans (hS0.mono HBD.out.size))
                  clear hS0
                  go_wp2_with fail
                  go_ret3
                  have hv := HC.out.ne HLT.out HCC.out
                  rw [HCM.out, HRE.out] at hv
                  rw [hv, oC_some, ← ByteArray.append_assoc, ← ByteArray.append_assoc]
                  exact ⟨rfl, HBW.out.trans (HB3.out.mono HBW.out.size)⟩
              ·
                have hcm := hcmr (by omega)
                have i3 := fun W h => i2 W (by omega) (by omega) (by have := llr (by omega); omega) h
                have y3 := z2 (by omega) (by omega) (by have := llr (by omega); omega)
                have hjI : ¬ (m' : Int) ≤ (k : Int) := by omega
                have E1 : ((m' - k : Nat) : Int) = (m' : Int) - (k : Int) := by omega
                have E2 : ((n - k : Nat) : Int) = (n : Int) - (k : Int) := by omega
                simp only [E1, E2] at i3
                clear E1 E2
                obtain ⟨G, HG⟩ : ∃ x, Hid (allR (wd w) kn (m' - k) (n - k) (ps.take q) false = x) := ⟨_, Lib.hid rfl⟩
                simp only [HG.out] at i3
                rw [HG.out] at y3 hcm
                have I3 := Lib.hid i3
                have HCM := Lib.hid hcm
                have HLT := Lib.hid (show m' < n by omega)
                have HMK := Lib.hid hmk
                have hltI : (m' : Int) < (n : Int) := by omega
                clear hcm i1 i2 i3 z1 z2 lll llr hcml hcmr hlt hlo
                by_cases heq : L ++ G = X ++ Y
                · have hbe := one_eq heq
                  have HCC := Lib.hid (show claimedC (wd w) kn m' ps ls wh = realC (wd w) ls by rw [HCM.out, HRE.out, heq])
                  clear heq
                  go_wp2_with fail
                  (with_reducible refine (H3.out _).mono ?_); rintro e w1 ⟨rfl, rfl⟩
                  go_wp2_with fail
                  refine wp_region_lexX [] (by kernel_rfl) (by kernel_rfl) ?_
                  repeat (refine wpX_pure rfl rfl rfl ?_; intro K hK; go_big_quiet_op; refine hK _ ?_; clear hK K)
                  refine wpX_eff rfl rfl ?_; intro K hK; go_wp2_with fail
                  (with_reducible refine (R1.out _ HSL.out.drew).mono ?_); rintro e w1 ⟨rfl, hb1⟩
                  go_wp2_with fail
                  refine hK _ _ trivial ?_; clear hK K
                  have HB1 := Lib.hid (hb0.trans (hb1.mono hb0.size))
                  clear hb1 hb0
                  repeat (refine wpX_pure rfl rfl rfl ?_; intro K hK; go_big_quiet_op; refine hK _ ?_; clear hK K)
                  refine wpX_eff rfl rfl ?_; intro K hK; go_wp2_with fail
                  (with_reducible refine (R2.out _ (HSD.out.fresh HB1.out)).mono ?_); rintro e w2 ⟨rfl, hb2⟩
                  go_wp2_with fail
                  refine hK _ _ trivial ?_; clear hK K
                  have HB2 := Lib.hid (HB1.out.trans (hb2.mono HB1.out.size))
                  clear hb2
                  repeat (refine wpX_pure rfl rfl rfl ?_; intro K hK; go_big_quiet_op; refine hK _ ?_; clear hK K)
                  refine wpX_nil ?_
                  go_wp2_with fail
                  have HBD := Lib.hid HB2.out.drew
                  have c3 : w2.drew.cell? ⟨gp, op + q, none⟩ = some (.string L) := (HBD.out.cell hgp).trans c1
                  have hgp3 : gp < w2.drew.heap.size := Nat.lt_of_lt_of_le hgp HBD.out.size
                  have hS0 := Below.refl w2.drew.heap.size w2.drew
                  refine wp_region_lexS (fun w' => Below w2.drew.heap.size w2.drew w') 0 [] (by kernel_rfl) (by kernel_rfl) hS0 ?_
                  repeat (first | (refine wpX_load0 rfl rfl _ _ rfl _ rfl _ rfl Try.underlying9 _ (fun w' h => (h.cell hgp3).trans c3) hS0 ?_; simp only [Act.put, List.setIfInBounds_toArray, List.set_cons_zero, List.set_cons_succ, List.getElem_toArray, List.getElem_cons_zero, List.getElem_cons_succ]) | (refine wpX_pure rfl rfl rfl ?_; intro K hK; go_big_quiet_op; refine hK _ ?_; clear hK K))
                  refine wpX_eff rfl rfl ?_; intro K hK; go_wp2_with fail
                  (with_reducible refine (I3.out _ (HSP.out.fresh HBD.out)).mono ?_); rintro e w3 ⟨rfl, hb3⟩
                  go_wp2_with fail
                  refine hK _ _ hb3 ?_; clear hK K
                  replace hS0 := hb3
                  clear hb3
                  repeat (first | (refine wpX_load0 rfl rfl _ _ rfl _ rfl _ rfl Try.underlying9 _ (fun w' h => (h.cell hgp3).trans c3) hS0 ?_; simp only [Act.put, List.setIfInBounds_toArray, List.set_cons_zero, List.set_cons_succ, List.getElem_toArray, List.getElem_cons_zero, List.getElem_cons_succ]) | (refine wpX_pure rfl rfl rfl ?_; intro K hK; go_big_quiet_op; refine hK _ ?_; clear hK K))
                  refine wpX_nil ?_
                  have HB3 := Lib.hid (HBD.out.trans (hS0.mono HBD.out.size))
                  clear hS0
                  go_wp2_with fail
                  go_roundw
                  case rel =>
                    have hnx := (HC.out.next HB3.out HLT.out HCC.out).2
                    rw [HK.out] at hnx
                    refine ⟨_, _, _, _, _, _, _, _, _, _, by go_num, rfl, by go_num, rfl, hnx (by have := HMK.out; omega)⟩
                  case measure => simp [intOf]; omega
                · have hbe := one_ne heq
                  have HCC := Lib.hid (show ¬ claimedC (wd w) kn m' ps ls wh = realC (wd w) ls by rw [HCM.out, HRE.out]; exact heq)
                  clear heq
                  go_wp2_with fail
                  (with_reducible refine (H3.out _).mono ?_); rintro e w1 ⟨rfl, rfl⟩
                  go_wp2_with fail
                  refine wp_region_lexX [] (by kernel_rfl) (by kernel_rfl) ?_
                  repeat (refine wpX_pure rfl rfl rfl ?_; intro K hK; go_big_quiet_op; refine hK _ ?_; clear hK K)
                  refine wpX_eff rfl rfl ?_; intro K hK; go_wp2_with fail
                  (with_reducible refine (R1.out _ HSL.out.drew).mono ?_); rintro e w1 ⟨rfl, hb1⟩
                  go_wp2_with fail
                  refine hK _ _ trivial ?_; clear hK K
                  have HB1 := Lib.hid (hb0.trans (hb1.mono hb0.size))
                  clear hb1 hb0
                  repeat (refine wpX_pure rfl rfl rfl ?_; intro K hK; go_big_quiet_op; refine hK _ ?_; clear hK K)
                  refine wpX_eff rfl rfl ?_; intro K hK; go_wp2_with fail
                  (with_reducible refine (R2.out _ (HSD.out.fresh HB1.out)).mono ?_); rintro e w2 ⟨rfl, hb2⟩
                  go_wp2_with fail
                  refine hK _ _ trivial ?_; clear hK K
                  have HB2 := Lib.hid (HB1.out.trans (hb2.mono HB1.out.size))
                  clear hb2
                  repeat (refine wpX_pure rfl rfl rfl ?_; intro K hK; go_big_quiet_op; refine hK _ ?_; clear hK K)
                  refine wpX_nil ?_
                  go_wp2_with fail
                  have HBD := Lib.hid HB2.out.drew
                  have c3 : w2.drew.cell? ⟨gp, op + q, none⟩ = some (.string L) := (HBD.out.cell hgp).trans c1
                  have hgp3 : gp < w2.drew.heap.size := Nat.lt_of_lt_of_le hgp HBD.out.size
                  have hS0 := Below.refl w2.drew.heap.size w2.drew
                  refine wp_region_lexS (fun w' => Below w2.drew.heap.size w2.drew w') 0 [] (by kernel_rfl) (by kernel_rfl) hS0 ?_
                  repeat (first | (refine wpX_load0 rfl rfl _ _ rfl _ rfl _ rfl Try.underlying9 _ (fun w' h => (h.cell hgp3).trans c3) hS0 ?_; simp only [Act.put, List.setIfInBounds_toArray, List.set_cons_zero, List.set_cons_succ, List.getElem_toArray, List.getElem_cons_zero, List.getElem_cons_succ]) | (refine wpX_pure rfl rfl rfl ?_; intro K hK; go_big_quiet_op; refine hK _ ?_; clear hK K))
                  refine wpX_eff rfl rfl ?_; intro K hK; go_wp2_with fail
                  (with_reducible refine (I3.out _ (HSP.out.fresh HBD.out)).mono ?_); rintro e w3 ⟨rfl, hb3⟩
                  go_wp2_with fail
                  refine hK _ _ hb3 ?_; clear hK K
                  replace hS0 := hb3
                  clear hb3
                  repeat (first | (refine wpX_load0 rfl rfl _ _ rfl _ rfl _ rfl Try.underlying9 _ (fun w' h => (h.cell hgp3).trans c3) hS0 ?_; simp only [Act.put, List.setIfInBounds_toArray, List.set_cons_zero, List.set_cons_succ, List.getElem_toArray, List.getElem_cons_zero, List.getElem_cons_succ]) | (refine wpX_pure rfl rfl rfl ?_; intro K hK; go_big_quiet_op; refine hK _ ?_; clear hK K))
                  refine wpX_nil ?_
                  have HB3 := Lib.hid (HBD.out.trans (hS0.mono HBD.out.size))
                  clear hS0
                  go_wp2_with fail
                  go_ret3
                  have hv := HC.out.ne HLT.out HCC.out
                  rw [HCM.out, HRE.out] at hv
                  rw [hv, oC_some, ← ByteArray.append_assoc, ← ByteArray.append_assoc]
                  exact ⟨rfl, HBW.out.trans (HB3.out.mono HBW.out.size)⟩
      · have hre := beq_text_ne hra
        have hn0 := hno (fun h => hra h.2.2.1)
        rw [hn0, oC_none]
        clear hyes hno hn0 hka hra he
        go_enter Try.func32, Try.ntmps32
        go_wp2_with fail
        (with_reducible refine G2.out.mono ?_); rintro e w1 ⟨rfl, hb1⟩
        go_wp2_with fail
        (with_reducible refine (G1.out _ (HLS.out.fresh hb1)).mono ?_); rintro e w2 ⟨rfl, hb2⟩
        have hb12 := hb1.trans (hb2.mono hb1.size)
        clear hb1 hb2
        go_wp2_with fail
        go_ret3
        exact ⟨rfl, hb12⟩
    · have hae := beq_text_ne hka
      have hn0 := hno (fun h => hka h.2.1)
      rw [hn0, oC_none]
      clear hyes hno hn0 hka he
      go_enter Try.func32, Try.ntmps32
      go_wp2_with fail
      (with_reducible refine G2.out.mono ?_); rintro e w1 ⟨rfl, hb1⟩
      go_wp2_with fail
      go_ret3
      exact ⟨rfl, hb1⟩
  · have heI : ((re : Int) != 0) = true := by simp; omega
    have hn0 := HNO.out (fun h => he h.1)
    rw [hn0, oC_none]
    clear he hn0 hry
    go_enter Try.func32, Try.ntmps32
    go_wp2_with fail
    (with_reducible refine G2.out.mono ?_); rintro e w1 ⟨rfl, hb1⟩
    go_wp2_with fail
    go_ret3
    exact ⟨rfl, hb1⟩
end Go.Proofs.Ytcnhhlnbmliihaa
