/- Proofs of beginnings: Roots of both packages, and Check. -/
import Derived.Test.YtcnhhlnbmliihaaCons2
import Derived.Test.YtcnhhlnbmliihaaContains
namespace Go.Proofs.Ytcnhhlnbmliihaa
open Go.RowKit
set_option linter.unusedVariables false
set_option linter.unusedSimpArgs false

theorem rootsC_arg {w : Nat} {kn : ByteArray} {m n : Int} {p : List ByteArray} (h : m < 1 ∨ n < m) : rootsC w kn m n p = (ByteArray.empty, ByteArray.empty, 1) := if_pos h
theorem rootsC_ok {w : Nat} {kn : ByteArray} {m n : Nat} {p : List ByteArray} (h1 : 1 ≤ m) (h2 : m ≤ n) (h : p.length = long m n true ∧ kn.size = w ∧ (p.all fun s => s.size == w) = true) :
    rootsC w kn (m : Int) (n : Int) p = (firstR w kn m n p true, allR w kn m n p true, 0) := by
  unfold rootsC
  rw [if_neg (by omega), Int.toNat_natCast, Int.toNat_natCast, if_pos h]
theorem rootsC_form {w : Nat} {kn : ByteArray} {m n : Nat} {p : List ByteArray} (h1 : 1 ≤ m) (h2 : m ≤ n) (h : ¬ (p.length = long m n true ∧ kn.size = w ∧ (p.all fun s => s.size == w) = true)) :
    rootsC w kn (m : Int) (n : Int) p = (ByteArray.empty, ByteArray.empty, 2) := by
  unfold rootsC
  rw [if_neg (by omega), Int.toNat_natCast, Int.toNat_natCast, if_neg h]
theorem any_short (w : Nat) (p : List ByteArray) : (p.any fun s => !(s.size == w)) = !(p.all fun s => s.size == w) := by
  induction p with
  | nil => rfl
  | cons x p ih => rw [List.any_cons, List.all_cons, ih, Bool.not_and]
abbrev rT (r : ByteArray × ByteArray × Nat) : Value := .tuple #[.string r.1, .string r.2.1, .int .i64 (r.2.2 : Int)]
set_option maxRecDepth 100000 in
set_option maxHeartbeats 4000000 in
theorem cRootsC (w m n : Int) (kn : ByteArray) (A : Option Addr) (q c : Nat) (p : List ByteArray) (W : World) (hn : n ≤ 1000000) (hk : kn.size ≤ 200000) (hl : p.length = q) (hs : Strs W A p) (hqc : q ≤ c) (hq6 : q ≤ 1000000) (hz : ∀ s ∈ p, s.size ≤ 300000000) :
    Calls Try.prog 28 #[.int .i64 w, .int .i64 m, .int .i64 n, .string kn, .slice A q c] W fun e W' => e = .returned (rT (rootsC (wd w) kn m n p)) ∧ Below W.heap.size W W' := by
  have hB := (Below.refl W.heap.size W).alloc (Nat.le_refl _) (.cells #[.int .i64 w] 3)
  have cb : (W.alloc (.cells #[.int .i64 w] 3)).cell? ⟨W.heap.size, 0, none⟩ = some (.int .i64 w) := ((Blk.new W 3 #[.int .i64 w]).cell 0).trans rfl
  have hs2 := hs.alloc (.cells #[.int .i64 w] 3)
  have HB := Lib.hid hB
  have HS := Lib.hid hs2
  have HZ := Lib.hid hz
  clear hB hs2 hs hz
  rcases Int.lt_or_le m 1 with hm1 | hm1
  · rw [rootsC_arg (.inl hm1)]
    clear hl
    go_enter Try.func28, Try.ntmps28
    go_wp2_with fail
    go_ret3
    exact ⟨rfl, HB.out⟩
  rcases Int.lt_or_le n m with hmn | hmn
  · rw [rootsC_arg (.inr hmn)]
    clear hl
    go_enter Try.func28, Try.ntmps28
    go_wp2_with fail
    go_ret3
    exact ⟨rfl, HB.out⟩
  obtain ⟨M, rfl⟩ : ∃ x : Nat, m = x := ⟨m.toNat, by omega⟩
  obtain ⟨N, rfl⟩ : ∃ x : Nat, n = x := ⟨n.toNat, by omega⟩
  have hMN : M ≤ N := by omega
  have h1M : 1 ≤ M := by omega
  have g1 := fun W => cLong N M true W (by omega) h1M hMN
  have hll := long_le 61 N M true (by omega) h1M hMN
  have hno := rootsC_form (w := wd w) (kn := kn) (p := p) h1M hMN
  have hyes := rootsC_ok (w := wd w) (kn := kn) (p := p) h1M hMN
  have hroots := fun W e hh => cRoots_ w kn (by omega) N M true A q c p W h1M hMN (by omega) e hl hh hqc HZ.out
  have hsz := fun e => both_le (wd w) (wd_hi w) 300000000 (by omega) kn (by omega) N M p true h1M hMN e HZ.out
  have hsk2 := cShort40 w W.heap.size _ cb kn
  have hct := cContainsFunc40 ⟨W.heap.size, 0, none⟩ (fun s => !(s.size == wd w)) A q c p (W.alloc (.cells #[.int .i64 w] 3)) hl HS.out hqc (by omega) (fun s => cShort40 w W.heap.size _ cb s)
  rw [any_short] at hct
  obtain ⟨L, HL⟩ : ∃ x, Hid (long M N true = x) := ⟨_, Lib.hid rfl⟩
  rw [HL.out] at hll hno hyes
  simp only [HL.out] at g1 hroots hsz
  have G1 := Lib.hid g1
  have HROOTS := Lib.hid hroots
  have HSZ := Lib.hid hsz
  have HNO := Lib.hid hno
  have HYES := Lib.hid hyes
  have HLQ := Lib.hid hl
  clear g1 hroots hsz hno hyes hl
  by_cases hqL : q = L
  · have hqI : ((q : Int) != (L : Int)) = false := by simp; omega
    cases hkw : (kn.size == wd w) with
    | false =>
      rw [hkw] at hsk2
      rw [HNO.out (fun h => by rw [beq_eq_false_iff_ne] at hkw; exact hkw h.2.1)]
      have HSK := Lib.hid hsk2
      clear hsk2 hct hkw hqL
      go_enter Try.func28, Try.ntmps28
      go_wp2_with fail
      (with_reducible refine (G1.out _).mono ?_); rintro e w1 ⟨rfl, rfl⟩
      go_wp2_with fail
      (with_reducible refine HSK.out.mono ?_); rintro e w1 ⟨rfl, rfl⟩
      go_wp2_with fail
      go_ret3
      exact ⟨rfl, HB.out⟩
    | true =>
      rw [hkw] at hsk2
      cases hal : (p.all fun s => s.size == wd w) with
      | false =>
        rw [hal] at hct
        rw [HNO.out (fun h => by rw [hal] at h; exact absurd h.2.2 (by decide))]
        have HSK := Lib.hid hsk2
        have HCT := Lib.hid hct
        clear hsk2 hct hkw hal hqL
        go_enter Try.func28, Try.ntmps28
        go_wp2_with fail
        (with_reducible refine (G1.out _).mono ?_); rintro e w1 ⟨rfl, rfl⟩
        go_wp2_with fail
        (with_reducible refine HSK.out.mono ?_); rintro e w1 ⟨rfl, rfl⟩
        go_wp2_with fail
        (with_reducible refine HCT.out.mono ?_); rintro e w1 ⟨rfl, rfl⟩
        go_wp2_with fail
        go_ret3
        exact ⟨rfl, HB.out⟩
      | true =>
        rw [hal] at hct
        rw [HYES.out ⟨HLQ.out.trans hqL, by simpa using hkw, hal⟩]
        have HSK := Lib.hid hsk2
        have HCT := Lib.hid hct
        have hr := fun W => HROOTS.out W hqL
        obtain ⟨F, HF⟩ : ∃ x, Hid (firstR (wd w) kn M N p true = x) := ⟨_, Lib.hid rfl⟩
        obtain ⟨G, HG⟩ : ∃ x, Hid (allR (wd w) kn M N p true = x) := ⟨_, Lib.hid rfl⟩
        simp only [HF.out, HG.out] at hr
        rw [HF.out, HG.out]
        have HR := Lib.hid hr
        clear hsk2 hct hkw hal hqL hr
        go_enter Try.func28, Try.ntmps28
        go_wp2_with fail
        (with_reducible refine (G1.out _).mono ?_); rintro e w1 ⟨rfl, rfl⟩
        go_wp2_with fail
        (with_reducible refine HSK.out.mono ?_); rintro e w1 ⟨rfl, rfl⟩
        go_wp2_with fail
        (with_reducible refine HCT.out.mono ?_); rintro e w1 ⟨rfl, rfl⟩
        go_wp2_with fail
        (with_reducible refine (HR.out _ HS.out).mono ?_); rintro e w1 ⟨rfl, hb1⟩
        have hbf := HB.out.trans (hb1.mono HB.out.size)
        clear hb1
        go_wp2_with fail
        go_ret3
        exact ⟨rfl, hbf⟩
  · have hqI : ((q : Int) != (L : Int)) = true := by simp; omega
    rw [HNO.out (fun h => hqL (HLQ.out.symm.trans h.1))]
    clear hqL hsk2 hct
    go_enter Try.func28, Try.ntmps28
    go_wp2_with fail
    (with_reducible refine (G1.out _).mono ?_); rintro e w1 ⟨rfl, rfl⟩
    go_wp2_with fail
    go_ret3
    exact ⟨rfl, HB.out⟩
end Go.Proofs.Ytcnhhlnbmliihaa
