/- Proofs of beginnings: Clash. -/
import Derived.Test.YtcnhhlnbmliihaaCons5
namespace Go.Proofs.Ytcnhhlnbmliihaa
open Go.RowKit
set_option linter.unusedVariables false
set_option linter.unusedSimpArgs false

theorem clashC_yes {w : Nat} {kn : ByteArray} {m : Int} {p l : List ByteArray} (h : (rootsC w kn m l.length p).2.2 = 0 ∧ (rootsC w kn m l.length p).1 = kn ∧ (rootsC w kn m l.length p).2.1 = root w l ∧ kn ≠ root w (l.take m.toNat)) : clashC w kn m p l = consW w kn m.toNat p l true := if_pos h
theorem clashC_no {w : Nat} {kn : ByteArray} {m : Int} {p l : List ByteArray} (h : ¬ ((rootsC w kn m l.length p).2.2 = 0 ∧ (rootsC w kn m l.length p).1 = kn ∧ (rootsC w kn m l.length p).2.1 = root w l ∧ kn ≠ root w (l.take m.toNat))) : clashC w kn m p l = none := if_neg h
/-- What a round of the search knows. -/
structure CIn (w : Nat) (kn : ByteArray) (W0 wr : World) (V : Option (ByteArray × ByteArray)) (m q n cp cl : Nat) (wh : Bool) (Ap Al : Option Addr) (ps ls : List ByteArray) : Prop where
  pl : ps.length = q
  ll : ls.length = n
  pc : q ≤ cp
  lc : n ≤ cl
  n6 : n ≤ 1000000
  h1 : 1 ≤ m
  hm : m ≤ n
  lo : q = long m n wh
  sp : Strs wr Ap ps
  sl : Strs wr Al ls
  zp : ∀ s ∈ ps, s.size ≤ 200000
  zl : ∀ s ∈ ls, s.size ≤ 200000
  co : consW w kn m ps ls wh = V
  be : Below W0.heap.size W0 wr
theorem zle {l : List ByteArray} (h : ∀ s ∈ l, s.size ≤ 200000) : ∀ s ∈ l, s.size ≤ 300000000 := fun s hs => by have := h s hs; omega
theorem CIn.next {w : Nat} {kn : ByteArray} {W0 wr wr' : World} {V : Option (ByteArray × ByteArray)} {m q n cp cl : Nat} {wh : Bool} {g o : Nat} {Ap : Option Addr} {ps ls : List ByteArray} (h : CIn w kn W0 wr V m (q + 1) n cp cl wh Ap (some ⟨g, o, none⟩) ps ls)
    (hb : Below wr.heap.size wr wr') (hlt : m < n) (hc : claimedC w kn m ps ls wh = realC w ls) :
    (m ≤ cut n → CIn w kn W0 wr' V m q (cut n) cp cl wh Ap (some ⟨g, o, none⟩) (ps.take q) (ls.take (cut n))) ∧
    (cut n < m → CIn w kn W0 wr' V (m - cut n) q (n - cut n) cp (cl - cut n) false Ap (some ⟨g, o + cut n, none⟩) (ps.take q) (ls.drop (cut n))) := by
  obtain ⟨pl, ll, pc, lc, n6, h1, hm, lo, sp, sl, zp, zl, co, be⟩ := h
  have hcl := cut_lt n (by omega)
  have hcp := cut_pos n
  have hpq : ps.length - 1 = q := by omega
  have bb := be.trans (hb.mono be.size)
  constructor
  · intro hk
    have e := consW_left w kn m ps ls wh h1 (by omega) hc (by rw [ll]; exact hk)
    rw [ll, hpq] at e
    exact ⟨by rw [List.length_take]; omega, by rw [List.length_take]; omega, by omega, by omega, by omega, h1, hk, by have := long_left m n wh h1 hlt hk; omega, (sp.take q).fresh hb, (sl.take _).fresh hb, mem_take_le zp, mem_take_le zl, e ▸ co, bb⟩
  · intro hk
    have e := consW_right w kn m ps ls wh h1 (by omega) hc (by rw [ll]; exact hk)
    rw [ll, hpq] at e
    exact ⟨by rw [List.length_take]; omega, by rw [List.length_drop]; omega, by omega, by omega, by omega, by omega, by omega, by have := long_right m n wh hlt hk; omega, (sp.take q).fresh hb, (sl.from_ (cut n) (by omega) (c := cl) (by omega)).fresh hb, mem_take_le zp, mem_drop_le zl, e ▸ co, bb⟩
theorem CIn.ne {w : Nat} {kn : ByteArray} {W0 wr : World} {V : Option (ByteArray × ByteArray)} {m q n cp cl : Nat} {wh : Bool} {Al Ap : Option Addr} {ps ls : List ByteArray} (h : CIn w kn W0 wr V m q n cp cl wh Ap Al ps ls)
    (hlt : m < n) (hc : ¬ claimedC w kn m ps ls wh = realC w ls) : V = some (claimedC w kn m ps ls wh, realC w ls) := by
  rw [← h.co, consW_ne w kn m ps ls wh h.h1 (by rw [h.ll]; exact hlt) hc]
theorem CIn.end_ {w : Nat} {kn : ByteArray} {W0 wr : World} {V : Option (ByteArray × ByteArray)} {m q n cp cl : Nat} {wh : Bool} {Al Ap : Option Addr} {ps ls : List ByteArray} (h : CIn w kn W0 wr V m q n cp cl wh Ap Al ps ls) (e : m = n) : V = none := by
  rw [← h.co, consW_end w kn m ps ls wh (by rw [h.ll]; omega)]

set_option maxRecDepth 100000 in
set_option maxHeartbeats 8000000 in
theorem cClashC (w m : Int) (kn : ByteArray) (Ap0 : Option Addr) (q0 cp0 : Nat) (p0 : List ByteArray) (Al0 : Option Addr) (n0 cl0 : Nat) (l0 : List ByteArray) (W : World) (hk : kn.size ≤ 200000)
    (hpl : p0.length = q0) (hps : Strs W Ap0 p0) (hpc : q0 ≤ cp0) (hp6 : q0 ≤ 1000000) (hpz : ∀ s ∈ p0, s.size ≤ 200000)
    (hll : l0.length = n0) (hls : Strs W Al0 l0) (hlc : n0 ≤ cl0) (hl6 : n0 ≤ 1000000) (hlz : ∀ s ∈ l0, s.size ≤ 200000) :
    Calls Try.prog 31 #[.int .i64 w, .int .i64 m, .string kn, .slice Ap0 q0 cp0, .slice Al0 n0 cl0] W fun e W' => e = .returned (oC (clashC (wd w) kn m p0 l0)) ∧ Below W.heap.size W W' := by
  have g1 := cRoot w n0 Al0 cl0 l0 W hll hls hlc hl6 (zle hlz)
  have g2 := fun all W h => cCheckC w m n0 kn all Ap0 q0 cp0 p0 W (by omega) hk hpl h hpc hp6 (zle hpz)
  have hyes := fun h => clashC_yes (w := wd w) (kn := kn) (m := m) (p := p0) (l := l0) h
  have hno := fun h => clashC_no (w := wd w) (kn := kn) (m := m) (p := p0) (l := l0) h
  have hry := fun h => rootsC_yes (w := wd w) (kn := kn) (m := m) (n := l0.length) (p := p0) h
  rw [hll] at hyes hno hry
  obtain ⟨V, HV⟩ : ∃ x, Hid (clashC (wd w) kn m p0 l0 = x) := ⟨_, Lib.hid rfl⟩
  rw [HV.out] at hyes hno ⊢
  obtain ⟨A0, HA⟩ : ∃ x, Hid (root (wd w) l0 = x) := ⟨_, Lib.hid rfl⟩
  rw [HA.out] at g1 hyes hno
  obtain ⟨RR, HR⟩ : ∃ x, Hid (rootsC (wd w) kn m (n0 : Int) p0 = x) := ⟨_, Lib.hid rfl⟩
  rw [HR.out] at hyes hno hry
  simp only [HR.out] at g2
  have G1 := Lib.hid g1
  have G2 := Lib.hid g2
  have HYES := Lib.hid hyes
  have HNO := Lib.hid hno
  have HPS := Lib.hid hps
  have HLS := Lib.hid hls
  have HPZ := Lib.hid hpz
  have HLZ := Lib.hid hlz
  have HPL := Lib.hid hpl
  have HLL := Lib.hid hll
  clear g1 g2 hyes hno hps hls hpz hlz hpl hll
  by_cases hck : checkC RR kn A0 = 0
  · have hgood : RR.2.2 = 0 ∧ RR.1 = kn ∧ RR.2.1 = A0 := by
      unfold checkC at hck
      split at hck
      · cases hck
      · rename_i hh
        exact ⟨hck, by by_cases h1 : RR.1 = kn ∧ RR.2.1 = A0; exact h1.1; exact absurd ⟨hck, h1⟩ hh, by by_cases h1 : RR.1 = kn ∧ RR.2.1 = A0; exact h1.2; exact absurd ⟨hck, h1⟩ hh⟩
    obtain ⟨r1, r2, r3, _, _, _⟩ := hry hgood.1
    obtain ⟨M, rfl⟩ : ∃ x : Nat, m = x := ⟨m.toNat, by omega⟩
    have hMn : M ≤ n0 := by omega
    have e1 : ((M : Int)).toNat = M := Int.toNat_natCast M
    have e2 : ((n0 : Int)).toNat = n0 := Int.toNat_natCast n0
    rw [e1, e2] at r3
    have hyes := HYES.out
    have hno := HNO.out
    rw [e1] at hyes hno
    have c2 := G2.out A0
    rw [hck] at c2
    have C2 := Lib.hid c2
    have htl : (l0.take M).length = M := by rw [List.length_take, HLL.out]; omega
    have g3 := fun W h => cRoot w M Al0 cl0 (l0.take M) W htl h (by omega) (by omega) (mem_take_le (zle HLZ.out))
    have hst := HLS.out.take M
    obtain ⟨B0, HB⟩ : ∃ x, Hid (root (wd w) (l0.take M) = x) := ⟨_, Lib.hid rfl⟩
    simp only [HB.out] at g3
    rw [HB.out] at hyes hno
    have G3 := Lib.hid g3
    have HST := Lib.hid hst
    obtain ⟨g0, o0, rfl, hg0, _⟩ := HLS.out (by rw [HLL.out]; omega)
    have hMI : (M : Int) ≤ (cl0 : Int) := by omega
    have hlcI : (n0 : Int) ≤ (cl0 : Int) := by omega
    have hMJ : (M : Int) ≤ (n0 : Int) := by omega
    by_cases hkb : kn = B0
    · have hn0 := hno (fun h => h.2.2.2 hkb)
      have hbe : (kn.toList == B0.toList) = true := by rw [hkb]; exact beq_self_eq_true _
      rw [hn0, oC_none]
      clear c2 g3 hst hyes hno hn0 hkb htl hgood hck hry r1 r3 e1 e2
      go_enter Try.func31, Try.ntmps31
      go_wp2_with fail
      (with_reducible refine G1.out.mono ?_); rintro e w1 ⟨rfl, hb1⟩
      go_wp2_with fail
      (with_reducible refine (C2.out _ (HPS.out.fresh hb1)).mono ?_); rintro e w2 ⟨rfl, hb2⟩
      have hb12 := hb1.trans (hb2.mono hb1.size)
      clear hb1 hb2
      go_wp2_with fail
      (with_reducible refine (G3.out _ (HST.out.fresh hb12)).mono ?_); rintro e w3 ⟨rfl, hb3⟩
      have hb13 := hb12.trans (hb3.mono hb12.size)
      clear hb12 hb3
      go_wp2_with fail
      go_ret3
      exact ⟨rfl, hb13⟩
    · have hn0 := hyes ⟨hgood.1, hgood.2.1, hgood.2.2, hkb⟩
      have hbe := beq_text_ne hkb
      have HN0 := Lib.hid hn0
      have HR3 := Lib.hid r3
      clear c2 g3 hst hyes hno hn0 hkb htl hgood hck hry r3 e1 e2
      go_enter Try.func31, Try.ntmps31
      go_wp2_with fail
      (with_reducible refine G1.out.mono ?_); rintro e w1 ⟨rfl, hb1⟩
      go_wp2_with fail
      (with_reducible refine (C2.out _ (HPS.out.fresh hb1)).mono ?_); rintro e w2 ⟨rfl, hb2⟩
      have hb12 := hb1.trans (hb2.mono hb1.size)
      clear hb1 hb2
      go_wp2_with fail
      (with_reducible refine (G3.out _ (HST.out.fresh hb12)).mono ?_); rintro e w3 ⟨rfl, hb3⟩
      have hb13 := hb12.trans (hb3.mono hb12.size)
      clear hb12 hb3
      have hin : CIn (wd w) kn W w3 V M q0 n0 cp0 cl0 true Ap0 (some ⟨g0, o0, none⟩) p0 l0 := ⟨HPL.out, HLL.out, hpc, hlc, hl6, by omega, hMn, by rw [← HPL.out]; exact HR3.out, HPS.out.fresh hb13, HLS.out.fresh hb13, HPZ.out, HLZ.out, HN0.out.symm, hb13⟩
      clear hb13 hg0
      go_wp2_with fail
      go_loopw [1, 3, 4, 14] (fun v1 v3 v4 v14 wr => ∃ (m' q n cp cl : Nat) (wh : Bool) (Ap Al : Option Addr) (ps ls : List ByteArray), v1 = .int .i64 m' ∧ v3 = .slice Ap q cp ∧ v4 = .slice Al n cl ∧ v14 = .bool wh ∧ CIn (wd w) kn W wr V m' q n cp cl wh Ap Al ps ls) (fun _ _ v4 _ _ => match v4 with | .slice _ n _ => n | _ => 0)
      case atStart => exact ⟨_, _, _, _, _, _, _, _, _, _, rfl, rfl, rfl, rfl, hin⟩
      case round =>
        clear hin
        obtain ⟨m', q, n, cp, cl, wh, Ap, Al, ps, ls, rfl, rfl, rfl, rfl, hC⟩ := hrel
        have HC := Lib.hid hC
        clear hC
        by_cases hmn : m' = n
        · have hv := HC.out.end_ hmn
          have hbb := HC.out.be
          have hmI : ((m' : Int) == (n : Int)) = true := by simp; omega
          have HVN := Lib.hid hv
          clear hv
          go_wp2_with fail
          go_ret3
          rw [HVN.out, oC_none]
          exact ⟨rfl, hbb⟩
        · have hmI : ((m' : Int) == (n : Int)) = false := by simp; omega
          have h1 := HC.out.h1
          have hlt : m' < n := by have := HC.out.hm; omega
          have hlo := HC.out.lo
          have hlp := long_pos m' n wh h1 hlt
          have hn6 := HC.out.n6
          have hpc' := HC.out.pc
          have hlc' := HC.out.lc
          have hl61 := long_le 61 n m' wh (by omega) h1 (by omega)
          obtain ⟨q, rfl⟩ : ∃ x, q = x + 1 := ⟨q - 1, by omega⟩
          have hcl := cut_lt n (by omega)
          have hcp := cut_pos n
          have h3 := fun W => cCut n W (by omega)
          obtain ⟨gl, ol, rfl, hgl, _⟩ := HC.out.sl (by rw [HC.out.ll]; omega)
          obtain ⟨gp, op, rfl, c1⟩ := HC.out.sp.cell_ q (by rw [HC.out.pl]; omega)
          have hzL := HC.out.zp _ (mem_last HC.out.pl)
          have ht : (ls.take (cut n)).length = cut n := by rw [List.length_take, HC.out.ll]; omega
          have hd : (ls.drop (cut n)).length = n - cut n := by rw [List.length_drop, HC.out.ll]
          have hpt : (ps.take q).length = q := by rw [List.length_take, HC.out.pl]; omega
          have r1 := fun W h => cRoot w (cut n) (some ⟨gl, ol, none⟩) cl (ls.take (cut n)) W ht h (by omega) (by omega) (mem_take_le (zle HC.out.zl))
          have r2 := fun W h => cRoot w (n - cut n) (some ⟨gl, ol + cut n, none⟩) (cl - cut n) (ls.drop (cut n)) W hd h (by omega) (by omega) (mem_drop_le (zle HC.out.zl))
          have i1 := fun W h e hh => cRoots_ w kn (by omega) (cut n) m' wh (some ⟨gp, op, none⟩) q cp (ps.take q) W h1 h (by omega) e hpt hh (by omega) (mem_take_le (zle HC.out.zp))
          have i2 := fun W h h' e hh => cRoots_ w kn (by omega) (n - cut n) (m' - cut n) false (some ⟨gp, op, none⟩) q cp (ps.take q) W h h' (by omega) e hpt hh (by omega) (mem_take_le (zle HC.out.zp))
          have z1 := fun h e => (both_le (wd w) (wd_hi w) 200000 (by omega) kn hk (cut n) m' (ps.take q) wh h1 h (hpt.trans e) (mem_take_le HC.out.zp)).2
          have z2 := fun h h' e => (both_le (wd w) (wd_hi w) 200000 (by omega) kn hk (n - cut n) (m' - cut n) (ps.take q) false h h' (hpt.trans e) (mem_take_le HC.out.zp)).2
          have lll := fun h => long_left m' n wh h1 hlt h
          have llr := fun h => long_right m' n wh hlt h
          have hcml := fun h => claimedC_left (wd w) kn m' ps ls wh h
          have hcmr := fun h => claimedC_right (wd w) kn m' ps ls wh h
          have hpq : ps.length - 1 = q := by rw [HC.out.pl]; omega
          rw [HC.out.ll, hpq] at hcml hcmr
          have hre : realC (wd w) ls = root (wd w) (ls.take (cut n)) ++ root (wd w) (ls.drop (cut n)) := by unfold realC; rw [HC.out.ll]
          have hX := root_le (wd w) (wd_hi w) 200000 (by omega) (ls.take (cut n)) (mem_take_le HC.out.zl)
          have hY := root_le (wd w) (wd_hi w) 200000 (by omega) (ls.drop (cut n)) (mem_drop_le HC.out.zl)
          have HSL := Lib.hid (HC.out.sl.take (cut n))
          have HSD := Lib.hid (HC.out.sl.from_ (cut n) (by rw [HC.out.ll]; omega) (c := cl) (by rw [HC.out.ll]; omega))
          have HSP := Lib.hid (HC.out.sp.take q)
          have HBW := Lib.hid HC.out.be
          obtain ⟨k, HK⟩ : ∃ k, Hid (cut n = k) := ⟨_, Lib.hid rfl⟩
          simp only [HK.out] at h3 r1 r2 i1 i2 z1 z2 lll llr hcml hcmr hre hX hY HSL HSD hcl hcp
          obtain ⟨X, HX⟩ : ∃ x, Hid (root (wd w) (ls.take k) = x) := ⟨_, Lib.hid rfl⟩
          obtain ⟨Y, HY⟩ : ∃ x, Hid (root (wd w) (ls.drop k) = x) := ⟨_, Lib.hid rfl⟩
          simp only [HX.out] at r1 hre hX
          simp only [HY.out] at r2 hre hY
          obtain ⟨L, HL⟩ : ∃ x, Hid (ps.getD q ByteArray.empty = x) := ⟨_, Lib.hid rfl⟩
          simp only [HL.out] at hcml hcmr c1 hzL
          have HRE := Lib.hid hre
          have R1 := Lib.hid r1
          have R2 := Lib.hid r2
          have H3 := Lib.hid h3
          have hb0 : Below wr.heap.size wr wr.drew := (Below.refl wr.heap.size wr).drew
          have hkn2 : (k : Int) < (n : Int) := by omega
          have hkn3 : (k : Int) ≤ (n : Int) := by omega
          have hkc : (k : Int) ≤ (cl : Int) := by omega
          have hncI : (n : Int) ≤ (cl : Int) := by omega
          have hck2 : ¬ cl = k := by omega
          have hqcI : (q : Int) + 1 ≤ (cp : Int) := by omega
          have hqcJ : (q : Int) ≤ (cp : Int) := by omega
          have hqq : (q : Int) ≤ (q : Int) + 1 := by omega
          have hqI : (q : Int) ≤ 62 := by omega
          have hnI : (n : Int) ≤ 1000000 := by omega
          have hmI6 : (m' : Int) ≤ 1000000 := by omega
          clear hre r1 r2 h3 ht hd hpt hpq hlp hl61 hmn
          by_cases hmk : m' ≤ k
          ·
            have hcm := hcml hmk
            have i3 := fun W h => i1 W hmk (by have := lll hmk; omega) h
            have y3 := z1 hmk (by have := lll hmk; omega)
            have hjI : (m' : Int) ≤ (k : Int) := by omega
            obtain ⟨F, HF⟩ : ∃ x, Hid (firstR (wd w) kn m' k (ps.take q) wh = x) := ⟨_, Lib.hid rfl⟩
            obtain ⟨G, HG⟩ : ∃ x, Hid (allR (wd w) kn m' k (ps.take q) wh = x) := ⟨_, Lib.hid rfl⟩
            simp only [HF.out, HG.out] at i3
            rw [HG.out] at y3 hcm
            have I3 := Lib.hid i3
            have HCM := Lib.hid hcm
            have HLT := Lib.hid (show m' < n by omega)
            have HMK := Lib.hid hmk
            clear hcm i1 i2 i3 z1 z2 lll llr hcml hcmr hlt hlo
            by_cases heq : (G ++ L) = X ++ Y
            · have hbe : ((G ++ L).toList == (X ++ Y).toList) = true := by rw [heq]; exact beq_self_eq_true _
              have HCC := Lib.hid (show claimedC (wd w) kn m' ps ls wh = realC (wd w) ls by rw [HCM.out, HRE.out, heq])
              clear heq
              go_wp2_with fail
              (with_reducible refine (H3.out _).mono ?_); rintro e w1 ⟨rfl, rfl⟩
              go_wp2_with fail
              refine wp_region_lexX [] (by kernel_rfl) (by kernel_rfl) ?_
              repeat (refine wpX_pure rfl rfl rfl ?_; intro K hK; go_big_quiet_op; refine hK _ ?_; clear hK K)
              refine wpX_eff rfl rfl ?_; intro K hK; go_wp2_with fail
              (with_reducible refine (R1.out _ HSL.out.drew).mono ?_); rintro e w1 ⟨rfl, hb1⟩
              go_wp2_with fail
              refine hK _ _ trivial ?_; clear hK K
              have HB1 := Lib.hid (hb0.trans (hb1.mono hb0.size))
              clear hb1 hb0
              repeat (refine wpX_pure rfl rfl rfl ?_; intro K hK; go_big_quiet_op; refine hK _ ?_; clear hK K)
              refine wpX_eff rfl rfl ?_; intro K hK; go_wp2_with fail
              (with_reducible refine (R2.out _ (HSD.out.fresh HB1.out)).mono ?_); rintro e w2 ⟨rfl, hb2⟩
              go_wp2_with fail
              refine hK _ _ trivial ?_; clear hK K
              have HB2 := Lib.hid (HB1.out.trans (hb2.mono HB1.out.size))
              clear hb2
              repeat (refine wpX_pure rfl rfl rfl ?_; intro K hK; go_big_quiet_op; refine hK _ ?_; clear hK K)
              refine wpX_nil ?_
              go_wp2_with fail
              (with_reducible refine (I3.out _ (HSP.out.fresh HB2.out)).mono ?_); rintro e w3 ⟨rfl, hb3⟩
              have HB3 := Lib.hid (HB2.out.trans (hb3.mono HB2.out.size))
              clear hb3
              go_wp2_with fail
              go_roundw
              case rel =>
                have hnx := (HC.out.next HB3.out HLT.out HCC.out).1
                rw [HK.out] at hnx
                refine ⟨_, _, _, _, _, _, _, _, _, _, rfl, rfl, rfl, rfl, hnx HMK.out⟩
              case measure => simp [intOf]; omega
            · have hbe := beq_text_ne heq
              have HCC := Lib.hid (show ¬ claimedC (wd w) kn m' ps ls wh = realC (wd w) ls by rw [HCM.out, HRE.out]; exact heq)
              clear heq
              go_wp2_with fail
              (with_reducible refine (H3.out _).mono ?_); rintro e w1 ⟨rfl, rfl⟩
              go_wp2_with fail
              refine wp_region_lexX [] (by kernel_rfl) (by kernel_rfl) ?_
              repeat (refine wpX_pure rfl rfl rfl ?_; intro K hK; go_big_quiet_op; refine hK _ ?_; clear hK K)
              refine wpX_eff rfl rfl ?_; intro K hK; go_wp2_with fail
              (with_reducible refine (R1.out _ HSL.out.drew).mono ?_); rintro e w1 ⟨rfl, hb1⟩
              go_wp2_with fail
              refine hK _ _ trivial ?_; clear hK K
              have HB1 := Lib.hid (hb0.trans (hb1.mono hb0.size))
              clear hb1 hb0
              repeat (refine wpX_pure rfl rfl rfl ?_; intro K hK; go_big_quiet_op; refine hK _ ?_; clear hK K)
              refine wpX_eff rfl rfl ?_; intro K hK; go_wp2_with fail
              (with_reducible refine (R2.out _ (HSD.out.fresh HB1.out)).mono ?_); rintro e w2 ⟨rfl, hb2⟩
              go_wp2_with fail
              refine hK _ _ trivial ?_; clear hK K
              have HB2 := Lib.hid (HB1.out.trans (hb2.mono HB1.out.size))
              clear hb2
              repeat (refine wpX_pure rfl rfl rfl ?_; intro K hK; go_big_quiet_op; refine hK _ ?_; clear hK K)
              refine wpX_nil ?_
              go_wp2_with fail
              (with_reducible refine (I3.out _ (HSP.out.fresh HB2.out)).mono ?_); rintro e w3 ⟨rfl, hb3⟩
              have HB3 := Lib.hid (HB2.out.trans (hb3.mono HB2.out.size))
              clear hb3
              go_wp2_with fail
              go_ret3
              have hv := HC.out.ne HLT.out HCC.out
              rw [HCM.out, HRE.out] at hv
              rw [hv, oC_some]
              exact ⟨rfl, HBW.out.trans (HB3.out.mono HBW.out.size)⟩
          ·
            have hcm := hcmr (by omega)
            have i3 := fun W h => i2 W (by omega) (by omega) (by have := llr (by omega); omega) h
            have y3 := z2 (by omega) (by omega) (by have := llr (by omega); omega)
            have hjI : ¬ (m' : Int) ≤ (k : Int) := by omega
            have E1 : ((m' - k : Nat) : Int) = (m' : Int) - (k : Int) := by omega
            have E2 : ((n - k : Nat) : Int) = (n : Int) - (k : Int) := by omega
            simp only [E1, E2] at i3
            clear E1 E2
            obtain ⟨F, HF⟩ : ∃ x, Hid (firstR (wd w) kn (m' - k) (n - k) (ps.take q) false = x) := ⟨_, Lib.hid rfl⟩
            obtain ⟨G, HG⟩ : ∃ x, Hid (allR (wd w) kn (m' - k) (n - k) (ps.take q) false = x) := ⟨_, Lib.hid rfl⟩
            simp only [HF.out, HG.out] at i3
            rw [HG.out] at y3 hcm
            have I3 := Lib.hid i3
            have HCM := Lib.hid hcm
            have HLT := Lib.hid (show m' < n by omega)
            have HMK := Lib.hid hmk
            clear hcm i1 i2 i3 z1 z2 lll llr hcml hcmr hlt hlo
            by_cases heq : (L ++ G) = X ++ Y
            · have hbe : ((L ++ G).toList == (X ++ Y).toList) = true := by rw [heq]; exact beq_self_eq_true _
              have HCC := Lib.hid (show claimedC (wd w) kn m' ps ls wh = realC (wd w) ls by rw [HCM.out, HRE.out, heq])
              clear heq
              go_wp2_with fail
              (with_reducible refine (H3.out _).mono ?_); rintro e w1 ⟨rfl, rfl⟩
              go_wp2_with fail
              refine wp_region_lexX [] (by kernel_rfl) (by kernel_rfl) ?_
              repeat (refine wpX_pure rfl rfl rfl ?_; intro K hK; go_big_quiet_op; refine hK _ ?_; clear hK K)
              refine wpX_eff rfl rfl ?_; intro K hK; go_wp2_with fail
              (with_reducible refine (R1.out _ HSL.out.drew).mono ?_); rintro e w1 ⟨rfl, hb1⟩
              go_wp2_with fail
              refine hK _ _ trivial ?_; clear hK K
              have HB1 := Lib.hid (hb0.trans (hb1.mono hb0.size))
              clear hb1 hb0
              repeat (refine wpX_pure rfl rfl rfl ?_; intro K hK; go_big_quiet_op; refine hK _ ?_; clear hK K)
              refine wpX_eff rfl rfl ?_; intro K hK; go_wp2_with fail
              (with_reducible refine (R2.out _ (HSD.out.fresh HB1.out)).mono ?_); rintro e w2 ⟨rfl, hb2⟩
              go_wp2_with fail
              refine hK _ _ trivial ?_; clear hK K
              have HB2 := Lib.hid (HB1.out.trans (hb2.mono HB1.out.size))
              clear hb2
              repeat (refine wpX_pure rfl rfl rfl ?_; intro K hK; go_big_quiet_op; refine hK _ ?_; clear hK K)
              refine wpX_nil ?_
              go_wp2_with fail
              (with_reducible refine (I3.out _ (HSP.out.fresh HB2.out)).mono ?_); rintro e w3 ⟨rfl, hb3⟩
              have HB3 := Lib.hid (HB2.out.trans (hb3.mono HB2.out.size))
              clear hb3
              go_wp2_with fail
              go_roundw
              case rel =>
                have hnx := (HC.out.next HB3.out HLT.out HCC.out).2
                rw [HK.out] at hnx
                refine ⟨_, _, _, _, _, _, _, _, _, _, by go_num, rfl, by go_num, rfl, hnx (by have := HMK.out; omega)⟩
              case measure => simp [intOf]; omega
            · have hbe := beq_text_ne heq
              have HCC := Lib.hid (show ¬ claimedC (wd w) kn m' ps ls wh = realC (wd w) ls by rw [HCM.out, HRE.out]; exact heq)
              clear heq
              go_wp2_with fail
              (with_reducible refine (H3.out _).mono ?_); rintro e w1 ⟨rfl, rfl⟩
              go_wp2_with fail
              refine wp_region_lexX [] (by kernel_rfl) (by kernel_rfl) ?_
              repeat (refine wpX_pure rfl rfl rfl ?_; intro K hK; go_big_quiet_op; refine hK _ ?_; clear hK K)
              refine wpX_eff rfl rfl ?_; intro K hK; go_wp2_with fail
              (with_reducible refine (R1.out _ HSL.out.drew).mono ?_); rintro e w1 ⟨rfl, hb1⟩
              go_wp2_with fail
              refine hK _ _ trivial ?_; clear hK K
              have HB1 := Lib.hid (hb0.trans (hb1.mono hb0.size))
              clear hb1 hb0
              repeat (refine wpX_pure rfl rfl rfl ?_; intro K hK; go_big_quiet_op; refine hK _ ?_; clear hK K)
              refine wpX_eff rfl rfl ?_; intro K hK; go_wp2_with fail
              (with_reducible refine (R2.out _ (HSD.out.fresh HB1.out)).mono ?_); rintro e w2 ⟨rfl, hb2⟩
              go_wp2_with fail
              refine hK _ _ trivial ?_; clear hK K
              have HB2 := Lib.hid (HB1.out.trans (hb2.mono HB1.out.size))
              clear hb2
              repeat (refine wpX_pure rfl rfl rfl ?_; intro K hK; go_big_quiet_op; refine hK _ ?_; clear hK K)
              refine wpX_nil ?_
              go_wp2_with fail
              (with_reducible refine (I3.out _ (HSP.out.fresh HB2.out)).mono ?_); rintro e w3 ⟨rfl, hb3⟩
              have HB3 := Lib.hid (HB2.out.trans (hb3.mono HB2.out.size))
              clear hb3
              go_wp2_with fail
              go_ret3
              have hv := HC.out.ne HLT.out HCC.out
              rw [HCM.out, HRE.out] at hv
              rw [hv, oC_some]
              exact ⟨rfl, HBW.out.trans (HB3.out.mono HBW.out.size)⟩
  · have hckI : (((checkC RR kn A0 : Nat) : Int) != 0) = true := by simp; omega
    have hn0 := HNO.out (fun h => hck (if_neg (fun g => g.2 ⟨h.2.1, h.2.2.1⟩) |>.trans h.1))
    rw [hn0, oC_none]
    have c2 := G2.out A0
    obtain ⟨z, HZ⟩ : ∃ x, Hid (checkC RR kn A0 = x) := ⟨_, Lib.hid rfl⟩
    rw [HZ.out] at hckI
    simp only [HZ.out] at c2
    have C2 := Lib.hid c2
    clear hck hn0 c2 hry
    go_enter Try.func31, Try.ntmps31
    go_wp2_with fail
    (with_reducible refine G1.out.mono ?_); rintro e w1 ⟨rfl, hb1⟩
    go_wp2_with fail
    (with_reducible refine (C2.out _ (HPS.out.fresh hb1)).mono ?_); rintro e w2 ⟨rfl, hb2⟩
    go_wp2_with fail
    go_ret3
    exact ⟨rfl, hb1.trans (hb2.mono hb1.size)⟩
end Go.Proofs.Ytcnhhlnbmliihaa
