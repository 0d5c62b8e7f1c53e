/- Proofs of beginnings: the roots that come of a proof, of both packages. -/
import Derived.Test.YtcnhhlnbmliihaaCons1
namespace Go.Proofs.Ytcnhhlnbmliihaa
open Go.RowKit
set_option linter.unusedVariables false
set_option linter.unusedSimpArgs false

/-- No root is longer than what it is made of. -/
theorem both_le (w : Nat) (hw : w ≤ 32) (b : Nat) (hb : 32 ≤ b) (kn : ByteArray) (hk : kn.size ≤ b) : ∀ (n m : Nat) (p : List ByteArray) (wh : Bool), 1 ≤ m → m ≤ n → p.length = long m n wh → (∀ s ∈ p, s.size ≤ b) →
    (firstR w kn m n p wh).size ≤ b ∧ (allR w kn m n p wh).size ≤ b := by
  intro n
  induction n using Nat.strongRecOn with
  | _ n ih =>
    intro m p wh h1 hm hl hz
    by_cases e : m = n
    · obtain ⟨b1, b2⟩ := both_all w kn m n p wh h1 e
      rw [b1, b2]
      rw [long_all m n wh h1 e] at hl
      cases wh with
      | true => exact ⟨hk, hk⟩
      | false =>
        have := hz (p.getD 0 ByteArray.empty) (by rw [List.getD_eq_getElem?_getD, List.getElem?_eq_getElem (by simp at hl; omega)]; exact List.getElem_mem _)
        exact ⟨this, this⟩
    · have hc := cut_lt n (by omega)
      have hp := cut_pos n
      by_cases hmc : m ≤ cut n
      · obtain ⟨b1, b2⟩ := both_left w kn m n p wh h1 (by omega) hmc
        rw [long_left m n wh h1 (by omega) hmc] at hl
        rw [b1, b2, mnode_size _ _ _ hw]
        exact ⟨(ih (cut n) hc m (p.take (p.length - 1)) wh h1 hmc (by rw [take_len_pred p (by omega)]; omega) (fun s hs => hz s (List.mem_of_mem_take hs))).1, by omega⟩
      · obtain ⟨b1, b2⟩ := both_right w kn m n p wh (by omega) (by omega)
        rw [b1, b2, mnode_size _ _ _ hw, mnode_size _ _ _ hw]
        exact ⟨by omega, by omega⟩
theorem mem_last {p : List ByteArray} {q : Nat} (h : p.length = q + 1) : p.getD q ByteArray.empty ∈ p := by
  rw [List.getD_eq_getElem?_getD, List.getElem?_eq_getElem (by omega)]; exact List.getElem_mem _

set_option maxRecDepth 100000 in
set_option maxHeartbeats 4000000 in
theorem cRoots_ (w : Int) (kn : ByteArray) (hk : kn.size ≤ 300000000) : ∀ (n m : Nat) (wh : Bool) (A : Option Addr) (q c : Nat) (p : List ByteArray) (W : World), 1 ≤ m → m ≤ n → n ≤ 2305843009213693952 → q = long m n wh → p.length = q → Strs W A p → q ≤ c → (∀ s ∈ p, s.size ≤ 300000000) →
    Calls Try.prog 54 #[.int .i64 w, .int .i64 m, .int .i64 n, .string kn, .slice A q c, .bool wh] W fun e W' => e = .returned (.tuple #[.string (firstR (wd w) kn m n p wh), .string (allR (wd w) kn m n p wh)]) ∧ Below W.heap.size W W' := by
  intro n
  induction n using Nat.strongRecOn with
  | _ n ih =>
    intro m wh A q c p W h1 hm hn hq hl hs hqc hz
    by_cases hmn : m = n
    · obtain ⟨b1, b2⟩ := both_all (wd w) kn m n p wh h1 hmn
      have hmI : ((m : Int) == (n : Int)) = true := by simp; omega
      cases wh with
      | true =>
        rw [if_pos rfl] at b1 b2
        rw [b1, b2]
        clear ih hs hz b1 b2 hq hl
        go_enter Try.func54, Try.ntmps54
        go_wp2_with fail
        go_ret2
        exact ⟨rfl, Below.refl _ _⟩
      | false =>
        rw [if_neg (by decide)] at b1 b2
        rw [b1, b2]
        have hq1 : q = 1 := by rw [hq, long_all m n false h1 hmn]; rfl
        subst hq1
        have hsl := hs (by omega)
        obtain ⟨g, o, rfl, c0⟩ := hs.cell_ 0 (by omega)
        obtain ⟨X, HX⟩ : ∃ x, Hid (p.getD 0 ByteArray.empty = x) := ⟨_, Lib.hid rfl⟩
        rw [HX.out] at c0 ⊢
        rw [Nat.add_zero] at c0
        clear ih hs hz b1 b2 hq hl
        have hgl : g < W.heap.size := by
          obtain ⟨g', o', e1, e2, _⟩ := hsl
          injection e1 with e1; injection e1 with e1 _ _; omega
        have c1d : W.drew.cell? ⟨g, o, none⟩ = some (.string X) := c0
        have hgd : g < W.drew.heap.size := hgl
        have hS0 := Below.refl W.drew.heap.size W.drew
        go_enter Try.func54, Try.ntmps54
        go_wp2_with fail
        refine wp_region_lexS (fun w' => Below W.drew.heap.size W.drew w') 0 [] (by kernel_rfl) (by kernel_rfl) hS0 ?_
        repeat (first | (refine wpX_load0 rfl rfl _ _ rfl _ rfl _ rfl Try.underlying9 _ (fun w' h => (h.cell hgd).trans c1d) hS0 ?_; simp only [Act.put, List.setIfInBounds_toArray, List.set_cons_zero, List.set_cons_succ, List.getElem_toArray, List.getElem_cons_zero, List.getElem_cons_succ]) | (refine wpX_pure rfl rfl rfl ?_; intro K hK; go_big_quiet_op; refine hK _ ?_; clear hK K))
        refine wpX_nil ?_
        go_wp2_with fail
        go_ret2
        exact ⟨rfl, (Below.refl W.heap.size W).drew⟩
    · have hmI : ((m : Int) == (n : Int)) = false := by simp; omega
      have h2 : 2 ≤ n := by omega
      have hcl := cut_lt n h2
      have hcp := cut_pos n
      have h3 := fun W => cCut n W (by omega)
      have hlp := long_pos m n wh h1 (by omega)
      obtain ⟨q, rfl⟩ : ∃ x, q = x + 1 := ⟨q - 1, by omega⟩
      have htl : (p.take q).length = q := by rw [List.length_take]; omega
      obtain ⟨g, o, rfl, c1⟩ := hs.cell_ q (by omega)
      have hgl : g < W.heap.size := by
        obtain ⟨g', o', e1, e2, _⟩ := hs (by omega)
        injection e1 with e1; injection e1 with e1 _ _; omega
      have hst := hs.take q
      have hzl := hz _ (mem_last (by omega : p.length = q + 1))
      have hzt : ∀ s ∈ p.take q, s.size ≤ 300000000 := mem_take_le hz
      have hpq : p.length - 1 = q := by omega
      have hbl := fun h => both_left (wd w) kn m n p wh h1 (by omega) h
      have hbr := fun h => both_right (wd w) kn m n p wh (by omega) h
      rw [hpq] at hbl hbr
      have lll := fun h => long_left m n wh h1 (by omega) h
      have llr := fun h => long_right m n wh (by omega) h
      have i1 := fun W h e1 hh => ih (cut n) hcl m wh (some ⟨g, o, none⟩) q c (p.take q) W h1 h (by omega) e1 htl hh (by omega) hzt
      have i2 := fun W h h' e1 hh => ih (n - cut n) (by omega) (m - cut n) false (some ⟨g, o, none⟩) q c (p.take q) W h h' (by omega) e1 htl hh (by omega) hzt
      have z1 := fun h e1 => both_le (wd w) (wd_hi w) 300000000 (by omega) kn hk (cut n) m (p.take q) wh h1 h (htl.trans e1) hzt
      have z2 := fun h h' e1 => both_le (wd w) (wd_hi w) 300000000 (by omega) kn hk (n - cut n) (m - cut n) (p.take q) false h h' (htl.trans e1) hzt
      have nd := fun (x y : ByteArray) (hx : x.size ≤ 300000000) (hy : y.size ≤ 300000000) W => cNode w x y W (by omega) (by omega)
      obtain ⟨k, HK⟩ : ∃ k, Hid (cut n = k) := ⟨_, Lib.hid rfl⟩
      simp only [HK.out] at h3 hbl hbr lll llr i1 i2 z1 z2 hcl hcp
      obtain ⟨L, HL⟩ : ∃ x, Hid (p.getD q ByteArray.empty = x) := ⟨_, Lib.hid rfl⟩
      simp only [HL.out] at c1 hzl hbl hbr
      have hkn2 : (k : Int) < (n : Int) := by omega
      have hqcI : (q : Int) + 1 ≤ (c : Int) := by omega
      have hqcJ : (q : Int) ≤ (c : Int) := by omega
      have hqq : (q : Int) ≤ (q : Int) + 1 := by omega
      have hnI : (n : Int) ≤ 2305843009213693952 := by omega
      have hqI : (q : Int) ≤ 62 := by have := long_le 61 n m wh (by omega) h1 hm; omega
      have H3 := Lib.hid h3
      have HST := Lib.hid hst
      have ND := Lib.hid nd
      clear h3 hst hs hz ih nd
      by_cases hjk : m ≤ k
      · obtain ⟨b1, b2⟩ := hbl hjk
        rw [b1, b2]
        have e1 : q = long m k wh := by have := lll hjk; omega
        have i3 := fun W hh => i1 W hjk e1 hh
        obtain ⟨y1, y2⟩ := z1 hjk e1
        have hjI : (m : Int) ≤ (k : Int) := by omega
        clear i1 i2 z1 z2 hbl hbr lll llr b1 b2 e1 hq hl htl hpq
        obtain ⟨F, HF⟩ : ∃ x, Hid (firstR (wd w) kn m k (p.take q) wh = x) := ⟨_, Lib.hid rfl⟩
        obtain ⟨G, HG⟩ : ∃ x, Hid (allR (wd w) kn m k (p.take q) wh = x) := ⟨_, Lib.hid rfl⟩
        simp only [HF.out, HG.out] at i3 y1 y2
        simp only [HF.out, HG.out]
        have n1 := ND.out G L y2 hzl
        obtain ⟨Z, HZ⟩ : ∃ x, Hid (mnode (wd w) G L = x) := ⟨_, Lib.hid rfl⟩
        simp only [HZ.out] at n1 ⊢
        have I3 := Lib.hid i3
        have N1 := Lib.hid n1
        clear i3 n1
        go_enter Try.func54, Try.ntmps54
        go_wp2_with fail
        (with_reducible refine (H3.out _).mono ?_); rintro e w1 ⟨rfl, rfl⟩
        go_wp2_with fail
        (with_reducible refine (I3.out _ HST.out).mono ?_); rintro e w1 ⟨rfl, hb1⟩
        go_wp2_with fail
        (with_reducible refine (N1.out _).mono ?_); rintro e w2 ⟨rfl, hb2⟩
        go_wp2_with fail
        go_ret2
        exact ⟨rfl, hb1.trans (hb2.mono hb1.size)⟩
      · obtain ⟨b1, b2⟩ := hbr (by omega)
        rw [b1, b2]
        have e1 : q = long (m - k) (n - k) false := by have := llr (by omega); omega
        have i3 := fun W hh => i2 W (by omega) (by omega) e1 hh
        obtain ⟨y1, y2⟩ := z2 (by omega) (by omega) e1
        have hjI : ¬ (m : Int) ≤ (k : Int) := by omega
        clear i1 i2 z1 z2 hbl hbr lll llr b1 b2 e1 hq hl htl hpq
        have E1 : ((m - k : Nat) : Int) = (m : Int) - (k : Int) := by omega
        have E2 : ((n - k : Nat) : Int) = (n : Int) - (k : Int) := by omega
        simp only [E1, E2] at i3
        clear E1 E2
        obtain ⟨F, HF⟩ : ∃ x, Hid (firstR (wd w) kn (m - k) (n - k) (p.take q) false = x) := ⟨_, Lib.hid rfl⟩
        obtain ⟨G, HG⟩ : ∃ x, Hid (allR (wd w) kn (m - k) (n - k) (p.take q) false = x) := ⟨_, Lib.hid rfl⟩
        simp only [HF.out, HG.out] at i3 y1 y2
        simp only [HF.out, HG.out]
        have n1 := ND.out L F hzl y1
        have n2 := ND.out L G hzl y2
        obtain ⟨Z, HZ⟩ : ∃ x, Hid (mnode (wd w) L F = x) := ⟨_, Lib.hid rfl⟩
        obtain ⟨Y, HY⟩ : ∃ x, Hid (mnode (wd w) L G = x) := ⟨_, Lib.hid rfl⟩
        simp only [HZ.out] at n1 ⊢
        simp only [HY.out] at n2 ⊢
        have I3 := Lib.hid i3
        have N1 := Lib.hid n1
        have N2 := Lib.hid n2
        clear i3 n1 n2
        go_enter Try.func54, Try.ntmps54
        go_wp2_with fail
        (with_reducible refine (H3.out _).mono ?_); rintro e w1 ⟨rfl, rfl⟩
        go_wp2_with fail
        (with_reducible refine (I3.out _ HST.out).mono ?_); rintro e w1 ⟨rfl, hb1⟩
        go_wp2_with fail
        (with_reducible refine (N1.out _).mono ?_); rintro e w2 ⟨rfl, hb2⟩
        have hb12 := hb1.trans (hb2.mono hb1.size)
        clear hb1 hb2
        go_wp2_with fail
        (with_reducible refine (N2.out _).mono ?_); rintro e w3 ⟨rfl, hb3⟩
        go_wp2_with fail
        go_ret2
        exact ⟨rfl, hb12.trans (hb3.mono hb12.size)⟩
set_option maxRecDepth 100000 in
set_option maxHeartbeats 4000000 in
theorem crFirst (w : Int) (kn : ByteArray) (hk : kn.size ≤ 300000000) : ∀ (n m : Nat) (wh : Bool) (A : Option Addr) (q c : Nat) (p : List ByteArray) (W : World), 1 ≤ m → m ≤ n → n ≤ 2305843009213693952 → q = long m n wh → p.length = q → Strs W A p → q ≤ c → (∀ s ∈ p, s.size ≤ 300000000) →
    Calls Try.prog 57 #[.int .i64 w, .int .i64 m, .int .i64 n, .string kn, .slice A q c, .bool wh] W fun e W' => e = .returned (.string (firstR (wd w) kn m n p wh)) ∧ Below W.heap.size W W' := by
  intro n
  induction n using Nat.strongRecOn with
  | _ n ih =>
    intro m wh A q c p W h1 hm hn hq hl hs hqc hz
    by_cases hmn : m = n
    · obtain ⟨b1, b2⟩ := both_all (wd w) kn m n p wh h1 hmn
      have hmI : ((m : Int) == (n : Int)) = true := by simp; omega
      cases wh with
      | true =>
        rw [if_pos rfl] at b1 b2
        rw [b1]
        clear ih hs hz b1 b2 hq hl
        go_enter Try.func57, Try.ntmps57
        go_wp2_with fail
        go_ret
        exact ⟨rfl, Below.refl _ _⟩
      | false =>
        rw [if_neg (by decide)] at b1 b2
        rw [b1]
        have hq1 : q = 1 := by rw [hq, long_all m n false h1 hmn]; rfl
        subst hq1
        obtain ⟨g, o, rfl, c0⟩ := hs.cell_ 0 (by omega)
        obtain ⟨X, HX⟩ : ∃ x, Hid (p.getD 0 ByteArray.empty = x) := ⟨_, Lib.hid rfl⟩
        rw [HX.out] at c0 ⊢
        rw [Nat.add_zero] at c0
        clear ih hs hz b1 b2 hq hl
        go_enter Try.func57, Try.ntmps57
        go_wp2_with fail
        go_ret
        exact ⟨rfl, Below.refl _ _⟩
    · have hmI : ((m : Int) == (n : Int)) = false := by simp; omega
      have h2 : 2 ≤ n := by omega
      have hcl := cut_lt n h2
      have hcp := cut_pos n
      have h3 := fun W => crCut n W (by omega)
      have hlp := long_pos m n wh h1 (by omega)
      obtain ⟨q, rfl⟩ : ∃ x, q = x + 1 := ⟨q - 1, by omega⟩
      have htl : (p.take q).length = q := by rw [List.length_take]; omega
      obtain ⟨g, o, rfl, c1⟩ := hs.cell_ q (by omega)
      have hgl : g < W.heap.size := by
        obtain ⟨g', o', e1, e2, _⟩ := hs (by omega)
        injection e1 with e1; injection e1 with e1 _ _; omega
      have hst := hs.take q
      have hzl := hz _ (mem_last (by omega : p.length = q + 1))
      have hzt : ∀ s ∈ p.take q, s.size ≤ 300000000 := mem_take_le hz
      have hpq : p.length - 1 = q := by omega
      have hbl := fun h => both_left (wd w) kn m n p wh h1 (by omega) h
      have hbr := fun h => both_right (wd w) kn m n p wh (by omega) h
      rw [hpq] at hbl hbr
      have lll := fun h => long_left m n wh h1 (by omega) h
      have llr := fun h => long_right m n wh (by omega) h
      have i1 := fun W h e1 hh => ih (cut n) hcl m wh (some ⟨g, o, none⟩) q c (p.take q) W h1 h (by omega) e1 htl hh (by omega) hzt
      have i2 := fun W h h' e1 hh => ih (n - cut n) (by omega) (m - cut n) false (some ⟨g, o, none⟩) q c (p.take q) W h h' (by omega) e1 htl hh (by omega) hzt
      have z1 := fun h e1 => both_le (wd w) (wd_hi w) 300000000 (by omega) kn hk (cut n) m (p.take q) wh h1 h (htl.trans e1) hzt
      have z2 := fun h h' e1 => both_le (wd w) (wd_hi w) 300000000 (by omega) kn hk (n - cut n) (m - cut n) (p.take q) false h h' (htl.trans e1) hzt
      have nd := fun (x y : ByteArray) (hx : x.size ≤ 300000000) (hy : y.size ≤ 300000000) W => crNode w x y W (by omega) (by omega)
      obtain ⟨k, HK⟩ : ∃ k, Hid (cut n = k) := ⟨_, Lib.hid rfl⟩
      simp only [HK.out] at h3 hbl hbr lll llr i1 i2 z1 z2 hcl hcp
      obtain ⟨L, HL⟩ : ∃ x, Hid (p.getD q ByteArray.empty = x) := ⟨_, Lib.hid rfl⟩
      simp only [HL.out] at c1 hzl hbl hbr
      have hkn2 : (k : Int) < (n : Int) := by omega
      have hqcI : (q : Int) + 1 ≤ (c : Int) := by omega
      have hqcJ : (q : Int) ≤ (c : Int) := by omega
      have hqq : (q : Int) ≤ (q : Int) + 1 := by omega
      have hnI : (n : Int) ≤ 2305843009213693952 := by omega
      have hqI : (q : Int) ≤ 62 := by have := long_le 61 n m wh (by omega) h1 hm; omega
      have H3 := Lib.hid h3
      have HST := Lib.hid hst
      have ND := Lib.hid nd
      clear h3 hst hs hz ih nd
      by_cases hjk : m ≤ k
      · obtain ⟨b1, b2⟩ := hbl hjk
        rw [b1]
        have e1 : q = long m k wh := by have := lll hjk; omega
        have i3 := fun W hh => i1 W hjk e1 hh
        obtain ⟨y1, y2⟩ := z1 hjk e1
        have hjI : (m : Int) ≤ (k : Int) := by omega
        clear i1 i2 z1 z2 hbl hbr lll llr b1 b2 e1 hq hl htl hpq
        obtain ⟨F, HF⟩ : ∃ x, Hid (firstR (wd w) kn m k (p.take q) wh = x) := ⟨_, Lib.hid rfl⟩
        simp only [HF.out] at i3 y1
        simp only [HF.out]
        have I3 := Lib.hid i3
        clear i3
        go_enter Try.func57, Try.ntmps57
        go_wp2_with fail
        (with_reducible refine (H3.out _).mono ?_); rintro e w1 ⟨rfl, rfl⟩
        go_wp2_with fail
        (with_reducible refine (I3.out _ HST.out).mono ?_); rintro e w1 ⟨rfl, hb1⟩
        go_wp2_with fail
        go_ret
        exact ⟨rfl, hb1⟩
      · obtain ⟨b1, b2⟩ := hbr (by omega)
        rw [b1]
        have e1 : q = long (m - k) (n - k) false := by have := llr (by omega); omega
        have i3 := fun W hh => i2 W (by omega) (by omega) e1 hh
        obtain ⟨y1, y2⟩ := z2 (by omega) (by omega) e1
        have hjI : ¬ (m : Int) ≤ (k : Int) := by omega
        clear i1 i2 z1 z2 hbl hbr lll llr b1 b2 e1 hq hl htl hpq
        have E1 : ((m - k : Nat) : Int) = (m : Int) - (k : Int) := by omega
        have E2 : ((n - k : Nat) : Int) = (n : Int) - (k : Int) := by omega
        simp only [E1, E2] at i3
        clear E1 E2
        obtain ⟨F, HF⟩ : ∃ x, Hid (firstR (wd w) kn (m - k) (n - k) (p.take q) false = x) := ⟨_, Lib.hid rfl⟩
        simp only [HF.out] at i3 y1
        simp only [HF.out]
        have n1 := ND.out L F hzl y1
        obtain ⟨Z, HZ⟩ : ∃ x, Hid (mnode (wd w) L F = x) := ⟨_, Lib.hid rfl⟩
        simp only [HZ.out] at n1 ⊢
        have I3 := Lib.hid i3
        have N1 := Lib.hid n1
        have c1d : W.drew.cell? ⟨g, o + q, none⟩ = some (.string L) := c1
        have hgd : g < W.drew.heap.size := hgl
        have hS0 := Below.refl W.drew.heap.size W.drew
        have hB0 : Below W.heap.size W W.drew := (Below.refl W.heap.size W).drew
        clear i3 n1 c1
        go_enter Try.func57, Try.ntmps57
        go_wp2_with fail
        (with_reducible refine (H3.out _).mono ?_); rintro e w1 ⟨rfl, rfl⟩
        go_wp2_with fail
        refine wp_region_lexS (fun w' => Below W.drew.heap.size W.drew w') 0 [] (by kernel_rfl) (by kernel_rfl) hS0 ?_
        repeat (first | (refine wpX_load0 rfl rfl _ _ rfl _ rfl _ rfl Try.underlying9 _ (fun w' h => (h.cell hgd).trans c1d) hS0 ?_; simp only [Act.put, List.setIfInBounds_toArray, List.set_cons_zero, List.set_cons_succ, List.getElem_toArray, List.getElem_cons_zero, List.getElem_cons_succ]) | (refine wpX_pure rfl rfl rfl ?_; intro K hK; go_big_quiet_op; refine hK _ ?_; clear hK K))
        refine wpX_eff rfl rfl ?_; intro K hK; go_wp2_with fail
        (with_reducible refine (I3.out _ HST.out.drew).mono ?_); rintro e w2 ⟨rfl, hb2⟩
        go_wp2_with fail
        refine hK _ _ hb2 ?_; clear hK K
        replace hS0 := hb2
        clear hb2
        repeat (first | (refine wpX_load0 rfl rfl _ _ rfl _ rfl _ rfl Try.underlying9 _ (fun w' h => (h.cell hgd).trans c1d) hS0 ?_; simp only [Act.put, List.setIfInBounds_toArray, List.set_cons_zero, List.set_cons_succ, List.getElem_toArray, List.getElem_cons_zero, List.getElem_cons_succ]) | (refine wpX_pure rfl rfl rfl ?_; intro K hK; go_big_quiet_op; refine hK _ ?_; clear hK K))
        refine wpX_eff rfl rfl ?_; intro K hK; go_wp2_with fail
        (with_reducible refine (N1.out _).mono ?_); rintro e w3 ⟨rfl, hb3⟩
        go_wp2_with fail
        refine hK _ _ (hS0.trans (hb3.mono hS0.size)) ?_; clear hK K
        replace hS0 := hS0.trans (hb3.mono hS0.size)
        clear hb3
        repeat (first | (refine wpX_load0 rfl rfl _ _ rfl _ rfl _ rfl Try.underlying9 _ (fun w' h => (h.cell hgd).trans c1d) hS0 ?_; simp only [Act.put, List.setIfInBounds_toArray, List.set_cons_zero, List.set_cons_succ, List.getElem_toArray, List.getElem_cons_zero, List.getElem_cons_succ]) | (refine wpX_pure rfl rfl rfl ?_; intro K hK; go_big_quiet_op; refine hK _ ?_; clear hK K))
        refine wpX_nil ?_
        go_wp2_with fail
        go_ret
        exact ⟨rfl, hB0.trans (hS0.mono hB0.size)⟩
set_option maxRecDepth 100000 in
set_option maxHeartbeats 4000000 in
theorem crAll (w : Int) (kn : ByteArray) (hk : kn.size ≤ 300000000) : ∀ (n m : Nat) (wh : Bool) (A : Option Addr) (q c : Nat) (p : List ByteArray) (W : World), 1 ≤ m → m ≤ n → n ≤ 2305843009213693952 → q = long m n wh → p.length = q → Strs W A p → q ≤ c → (∀ s ∈ p, s.size ≤ 300000000) →
    Calls Try.prog 58 #[.int .i64 w, .int .i64 m, .int .i64 n, .string kn, .slice A q c, .bool wh] W fun e W' => e = .returned (.string (allR (wd w) kn m n p wh)) ∧ Below W.heap.size W W' := by
  intro n
  induction n using Nat.strongRecOn with
  | _ n ih =>
    intro m wh A q c p W h1 hm hn hq hl hs hqc hz
    by_cases hmn : m = n
    · obtain ⟨b1, b2⟩ := both_all (wd w) kn m n p wh h1 hmn
      have hmI : ((m : Int) == (n : Int)) = true := by simp; omega
      cases wh with
      | true =>
        rw [if_pos rfl] at b1 b2
        rw [b2]
        clear ih hs hz b1 b2 hq hl
        go_enter Try.func58, Try.ntmps58
        go_wp2_with fail
        go_ret
        exact ⟨rfl, Below.refl _ _⟩
      | false =>
        rw [if_neg (by decide)] at b1 b2
        rw [b2]
        have hq1 : q = 1 := by rw [hq, long_all m n false h1 hmn]; rfl
        subst hq1
        obtain ⟨g, o, rfl, c0⟩ := hs.cell_ 0 (by omega)
        obtain ⟨X, HX⟩ : ∃ x, Hid (p.getD 0 ByteArray.empty = x) := ⟨_, Lib.hid rfl⟩
        rw [HX.out] at c0 ⊢
        rw [Nat.add_zero] at c0
        clear ih hs hz b1 b2 hq hl
        go_enter Try.func58, Try.ntmps58
        go_wp2_with fail
        go_ret
        exact ⟨rfl, Below.refl _ _⟩
    · have hmI : ((m : Int) == (n : Int)) = false := by simp; omega
      have h2 : 2 ≤ n := by omega
      have hcl := cut_lt n h2
      have hcp := cut_pos n
      have h3 := fun W => crCut n W (by omega)
      have hlp := long_pos m n wh h1 (by omega)
      obtain ⟨q, rfl⟩ : ∃ x, q = x + 1 := ⟨q - 1, by omega⟩
      have htl : (p.take q).length = q := by rw [List.length_take]; omega
      obtain ⟨g, o, rfl, c1⟩ := hs.cell_ q (by omega)
      have hgl : g < W.heap.size := by
        obtain ⟨g', o', e1, e2, _⟩ := hs (by omega)
        injection e1 with e1; injection e1 with e1 _ _; omega
      have hst := hs.take q
      have hzl := hz _ (mem_last (by omega : p.length = q + 1))
      have hzt : ∀ s ∈ p.take q, s.size ≤ 300000000 := mem_take_le hz
      have hpq : p.length - 1 = q := by omega
      have hbl := fun h => both_left (wd w) kn m n p wh h1 (by omega) h
      have hbr := fun h => both_right (wd w) kn m n p wh (by omega) h
      rw [hpq] at hbl hbr
      have lll := fun h => long_left m n wh h1 (by omega) h
      have llr := fun h => long_right m n wh (by omega) h
      have i1 := fun W h e1 hh => ih (cut n) hcl m wh (some ⟨g, o, none⟩) q c (p.take q) W h1 h (by omega) e1 htl hh (by omega) hzt
      have i2 := fun W h h' e1 hh => ih (n - cut n) (by omega) (m - cut n) false (some ⟨g, o, none⟩) q c (p.take q) W h h' (by omega) e1 htl hh (by omega) hzt
      have z1 := fun h e1 => both_le (wd w) (wd_hi w) 300000000 (by omega) kn hk (cut n) m (p.take q) wh h1 h (htl.trans e1) hzt
      have z2 := fun h h' e1 => both_le (wd w) (wd_hi w) 300000000 (by omega) kn hk (n - cut n) (m - cut n) (p.take q) false h h' (htl.trans e1) hzt
      have nd := fun (x y : ByteArray) (hx : x.size ≤ 300000000) (hy : y.size ≤ 300000000) W => crNode w x y W (by omega) (by omega)
      obtain ⟨k, HK⟩ : ∃ k, Hid (cut n = k) := ⟨_, Lib.hid rfl⟩
      simp only [HK.out] at h3 hbl hbr lll llr i1 i2 z1 z2 hcl hcp
      obtain ⟨L, HL⟩ : ∃ x, Hid (p.getD q ByteArray.empty = x) := ⟨_, Lib.hid rfl⟩
      simp only [HL.out] at c1 hzl hbl hbr
      have hkn2 : (k : Int) < (n : Int) := by omega
      have hqcI : (q : Int) + 1 ≤ (c : Int) := by omega
      have hqcJ : (q : Int) ≤ (c : Int) := by omega
      have hqq : (q : Int) ≤ (q : Int) + 1 := by omega
      have hnI : (n : Int) ≤ 2305843009213693952 := by omega
      have hqI : (q : Int) ≤ 62 := by have := long_le 61 n m wh (by omega) h1 hm; omega
      have H3 := Lib.hid h3
      have HST := Lib.hid hst
      have ND := Lib.hid nd
      clear h3 hst hs hz ih nd
      by_cases hjk : m ≤ k
      · obtain ⟨b1, b2⟩ := hbl hjk
        rw [b2]
        have e1 : q = long m k wh := by have := lll hjk; omega
        have i3 := fun W hh => i1 W hjk e1 hh
        obtain ⟨y1, y2⟩ := z1 hjk e1
        have hjI : (m : Int) ≤ (k : Int) := by omega
        clear i1 i2 z1 z2 hbl hbr lll llr b1 b2 e1 hq hl htl hpq
        obtain ⟨F, HF⟩ : ∃ x, Hid (allR (wd w) kn m k (p.take q) wh = x) := ⟨_, Lib.hid rfl⟩
        simp only [HF.out] at i3 y2
        simp only [HF.out]
        have n1 := ND.out F L y2 hzl
        obtain ⟨Z, HZ⟩ : ∃ x, Hid (mnode (wd w) F L = x) := ⟨_, Lib.hid rfl⟩
        simp only [HZ.out] at n1 ⊢
        have I3 := Lib.hid i3
        have N1 := Lib.hid n1
        have c1d : W.drew.cell? ⟨g, o + q, none⟩ = some (.string L) := c1
        have hgd : g < W.drew.heap.size := hgl
        have hS0 := Below.refl W.drew.heap.size W.drew
        have hB0 : Below W.heap.size W W.drew := (Below.refl W.heap.size W).drew
        clear i3 n1 c1
        go_enter Try.func58, Try.ntmps58
        go_wp2_with fail
        (with_reducible refine (H3.out _).mono ?_); rintro e w1 ⟨rfl, rfl⟩
        go_wp2_with fail
        refine wp_region_lexS (fun w' => Below W.drew.heap.size W.drew w') 0 [] (by kernel_rfl) (by kernel_rfl) hS0 ?_
        repeat (first | (refine wpX_load0 rfl rfl _ _ rfl _ rfl _ rfl Try.underlying9 _ (fun w' h => (h.cell hgd).trans c1d) hS0 ?_; simp only [Act.put, List.setIfInBounds_toArray, List.set_cons_zero, List.set_cons_succ, List.getElem_toArray, List.getElem_cons_zero, List.getElem_cons_succ]) | (refine wpX_pure rfl rfl rfl ?_; intro K hK; go_big_quiet_op; refine hK _ ?_; clear hK K))
        refine wpX_eff rfl rfl ?_; intro K hK; go_wp2_with fail
        (with_reducible refine (I3.out _ HST.out.drew).mono ?_); rintro e w2 ⟨rfl, hb2⟩
        go_wp2_with fail
        refine hK _ _ hb2 ?_; clear hK K
        replace hS0 := hb2
        clear hb2
        repeat (first | (refine wpX_load0 rfl rfl _ _ rfl _ rfl _ rfl Try.underlying9 _ (fun w' h => (h.cell hgd).trans c1d) hS0 ?_; simp only [Act.put, List.setIfInBounds_toArray, List.set_cons_zero, List.set_cons_succ, List.getElem_toArray, List.getElem_cons_zero, List.getElem_cons_succ]) | (refine wpX_pure rfl rfl rfl ?_; intro K hK; go_big_quiet_op; refine hK _ ?_; clear hK K))
        refine wpX_eff rfl rfl ?_; intro K hK; go_wp2_with fail
        (with_reducible refine (N1.out _).mono ?_); rintro e w3 ⟨rfl, hb3⟩
        go_wp2_with fail
        refine hK _ _ (hS0.trans (hb3.mono hS0.size)) ?_; clear hK K
        replace hS0 := hS0.trans (hb3.mono hS0.size)
        clear hb3
        repeat (first | (refine wpX_load0 rfl rfl _ _ rfl _ rfl _ rfl Try.underlying9 _ (fun w' h => (h.cell hgd).trans c1d) hS0 ?_; simp only [Act.put, List.setIfInBounds_toArray, List.set_cons_zero, List.set_cons_succ, List.getElem_toArray, List.getElem_cons_zero, List.getElem_cons_succ]) | (refine wpX_pure rfl rfl rfl ?_; intro K hK; go_big_quiet_op; refine hK _ ?_; clear hK K))
        refine wpX_nil ?_
        go_wp2_with fail
        go_ret
        exact ⟨rfl, hB0.trans (hS0.mono hB0.size)⟩
      · obtain ⟨b1, b2⟩ := hbr (by omega)
        rw [b2]
        have e1 : q = long (m - k) (n - k) false := by have := llr (by omega); omega
        have i3 := fun W hh => i2 W (by omega) (by omega) e1 hh
        obtain ⟨y1, y2⟩ := z2 (by omega) (by omega) e1
        have hjI : ¬ (m : Int) ≤ (k : Int) := by omega
        clear i1 i2 z1 z2 hbl hbr lll llr b1 b2 e1 hq hl htl hpq
        have E1 : ((m - k : Nat) : Int) = (m : Int) - (k : Int) := by omega
        have E2 : ((n - k : Nat) : Int) = (n : Int) - (k : Int) := by omega
        simp only [E1, E2] at i3
        clear E1 E2
        obtain ⟨F, HF⟩ : ∃ x, Hid (allR (wd w) kn (m - k) (n - k) (p.take q) false = x) := ⟨_, Lib.hid rfl⟩
        simp only [HF.out] at i3 y2
        simp only [HF.out]
        have n1 := ND.out L F hzl y2
        obtain ⟨Z, HZ⟩ : ∃ x, Hid (mnode (wd w) L F = x) := ⟨_, Lib.hid rfl⟩
        simp only [HZ.out] at n1 ⊢
        have I3 := Lib.hid i3
        have N1 := Lib.hid n1
        have c1d : W.drew.cell? ⟨g, o + q, none⟩ = some (.string L) := c1
        have hgd : g < W.drew.heap.size := hgl
        have hS0 := Below.refl W.drew.heap.size W.drew
        have hB0 : Below W.heap.size W W.drew := (Below.refl W.heap.size W).drew
        clear i3 n1 c1
        go_enter Try.func58, Try.ntmps58
        go_wp2_with fail
        (with_reducible refine (H3.out _).mono ?_); rintro e w1 ⟨rfl, rfl⟩
        go_wp2_with fail
        refine wp_region_lexS (fun w' => Below W.drew.heap.size W.drew w') 0 [] (by kernel_rfl) (by kernel_rfl) hS0 ?_
        repeat (first | (refine wpX_load0 rfl rfl _ _ rfl _ rfl _ rfl Try.underlying9 _ (fun w' h => (h.cell hgd).trans c1d) hS0 ?_; simp only [Act.put, List.setIfInBounds_toArray, List.set_cons_zero, List.set_cons_succ, List.getElem_toArray, List.getElem_cons_zero, List.getElem_cons_succ]) | (refine wpX_pure rfl rfl rfl ?_; intro K hK; go_big_quiet_op; refine hK _ ?_; clear hK K))
        refine wpX_eff rfl rfl ?_; intro K hK; go_wp2_with fail
        (with_reducible refine (I3.out _ HST.out.drew).mono ?_); rintro e w2 ⟨rfl, hb2⟩
        go_wp2_with fail
        refine hK _ _ hb2 ?_; clear hK K
        replace hS0 := hb2
        clear hb2
        repeat (first | (refine wpX_load0 rfl rfl _ _ rfl _ rfl _ rfl Try.underlying9 _ (fun w' h => (h.cell hgd).trans c1d) hS0 ?_; simp only [Act.put, List.setIfInBounds_toArray, List.set_cons_zero, List.set_cons_succ, List.getElem_toArray, List.getElem_cons_zero, List.getElem_cons_succ]) | (refine wpX_pure rfl rfl rfl ?_; intro K hK; go_big_quiet_op; refine hK _ ?_; clear hK K))
        refine wpX_eff rfl rfl ?_; intro K hK; go_wp2_with fail
        (with_reducible refine (N1.out _).mono ?_); rintro e w3 ⟨rfl, hb3⟩
        go_wp2_with fail
        refine hK _ _ (hS0.trans (hb3.mono hS0.size)) ?_; clear hK K
        replace hS0 := hS0.trans (hb3.mono hS0.size)
        clear hb3
        repeat (first | (refine wpX_load0 rfl rfl _ _ rfl _ rfl _ rfl Try.underlying9 _ (fun w' h => (h.cell hgd).trans c1d) hS0 ?_; simp only [Act.put, List.setIfInBounds_toArray, List.set_cons_zero, List.set_cons_succ, List.getElem_toArray, List.getElem_cons_zero, List.getElem_cons_succ]) | (refine wpX_pure rfl rfl rfl ?_; intro K hK; go_big_quiet_op; refine hK _ ?_; clear hK K))
        refine wpX_nil ?_
        go_wp2_with fail
        go_ret
        exact ⟨rfl, hB0.trans (hS0.mono hB0.size)⟩
end Go.Proofs.Ytcnhhlnbmliihaa
