/- Growing trees: Add. -/
import Derived.Test.YtgkjpemgfbkejaaGrow2
import Derived.Test.YtgkjpemgfbkejaaAnd
namespace Go.Proofs.Ytgkjpemgfbkejaa
open Go.RowKit
set_option linter.unusedVariables false
set_option linter.unusedSimpArgs false

theorem GInv.le {d : Nat} {l : List ByteArray} {x : ByteArray} {j q : Nat} {L : List ByteArray} {leaf : ByteArray} (h : GInv d l x j q L leaf) : q ≤ l.length := by
  have h1 := h.len
  have : (q + 1) * 1 ≤ (q + 1) * 2 ^ j := Nat.mul_le_mul_left _ Nat.one_le_two_pow
  omega
/-- A row of the call's own without its last element. -/
theorem SL.pop {w : World} {B : Nat} {e : TypeId} {A : Option Addr} {k c : Nat} {xs : List Value} {u : Value} (h : SL w B e (.slice A (k + 1) c) (xs ++ [u])) : SL w B e (.slice A k c) xs := by
  obtain ⟨h1, h2⟩ := h
  refine ⟨by simp, .inr ?_⟩
  rcases h2 with ⟨h2, _⟩ | ⟨g, cap, cur, h3, h4, h5, h6, h7, h8, h9⟩
  · cases h2
  · injection h3 with e1 e2 e3
    have hl : xs.length = k := by simp at e2; omega
    refine ⟨g, cap, cur, by rw [e1, e3, hl], h4, h5, by simp at h6; omega, h7, h8, ?_⟩
    have := congrArg (List.take xs.length) h9
    rw [List.take_take, List.take_left] at this
    have e : min xs.length ((xs ++ [u]).length * 1) = xs.length * 1 := by rw [List.length_append, List.length_singleton]; omega
    rw [e] at this
    exact this
theorem SL.set_far {w : World} {B : Nat} {e : TypeId} {v : Value} {xs : List Value} (h : SL w B e v xs) {p : Addr} (hp : p.block < B) (u : Value) : SL (w.setCell p u) B e v xs :=
  ((Only.refl (fun k => k = p.block) w).setCell (fun _ => rfl) u).sl h (fun k hk e => by have := (h.own_lt k hk).2; omega)
set_option maxRecDepth 100000 in
set_option maxHeartbeats 4000000 in
theorem cTAdd (W : World) (g d : Nat) (l : List ByteArray) (x : ByteArray) (h : TR W g d l.length (peaks d l)) (h1 : 1 ≤ d) (h2 : d ≤ 32) (hz : ∀ s ∈ l, s.size = d) (hx : x.size = d) (hl : l.length ≤ 100000) :
    Calls Try.prog 27 #[.pointer (some ⟨g, 0, none⟩), .string x] W fun e W' => e = .returned (.int .i64 0) ∧ TR W' g d (l.length + 1) (peaks d (l ++ [x])) ∧ Only (fun k => k = g) W W' := by
  obtain ⟨A, c, hb, hc, hs⟩ := h
  have hpz := peaks_size d h2 l.length l rfl hz
  have hpl : (peaks d l).length ≤ 17 := by rw [peaks_length d l.length l rfl]; exact ones_le 17 l.length (by omega)
  have hst := GInv.start d l x
  have hodd := fun j q L leaf (h : GInv d l x j q L leaf) ho => h.odd ho
  have heven := fun j q L leaf (h : GInv d l x j q L leaf) ho => h.even ho
  have hlen := fun j q L leaf (h : GInv d l x j q L leaf) => h.le
  have h4 := fun a b W ha hb => cNode d a b W ha hb
  rw [wd_self d h1 h2] at h4
  obtain ⟨ps, HP⟩ : ∃ X, Hid (peaks d l = X) := ⟨_, Lib.hid rfl⟩
  obtain ⟨qs, HQ⟩ : ∃ X, Hid (peaks d (l ++ [x]) = X) := ⟨_, Lib.hid rfl⟩
  obtain ⟨n, HN⟩ : ∃ X, Hid (l.length = X) := ⟨_, Lib.hid rfl⟩
  rw [HN.out] at hb hst hl
  simp only [HN.out] at hlen
  rw [HP.out] at hb hc hs hpz hpl hst
  simp only [HQ.out] at heven
  rw [HN.out, HQ.out]
  obtain ⟨m, HM⟩ : ∃ X, Hid (ps.length = X) := ⟨_, Lib.hid rfl⟩
  rw [HM.out] at hb hc hpl
  have b0 : W.cell? ⟨g, 0, none⟩ = some (.int .i64 (d : Int)) := (hb.cell 0).trans rfl
  have b1 : W.cell? ⟨g, 1, none⟩ = some (.int .i64 (n : Int)) := (hb.cell 1).trans rfl
  have b2 : W.cell? ⟨g, 2, none⟩ = some (.slice A m c) := (hb.cell 2).trans rfl
  have hgl := hb.lt
  have hxI : ((x.size : Int) != (d : Int)) = false := by simp; omega
  have HBK := Lib.hid hb
  have HS := Lib.hid hs
  have HPZ := Lib.hid hpz
  have HST := Lib.hid hst
  have HODD := Lib.hid hodd
  have HEVEN := Lib.hid heven
  have HLEN := Lib.hid hlen
  have H4 := Lib.hid h4
  clear hb hs hpz hst hodd heven hlen h4 hz
  go_enter Try.func27, Try.ntmps27
  go_wp2_with (refine wpList_appL str_elem Try.underlying24 rfl (.const (.slice none 0 0)) (.tmp 21) rfl W.heap.size none 0 0 [] rfl rfl (SL.nil _ _ _) A m c ps HM.out rfl HS.out (by omega) (by decide) (Nat.le_refl _) ?_; intro A3 c3 w3 hS3 hc3 hb3; dsimp only [Act.put]; rw [List.nil_append] at hS3; simp only [Nat.zero_add] at hS3 hc3 ⊢; have b1 : w3.cell? ⟨g, 1, none⟩ = some (.int .i64 (n : Int)) := (hb3.cell hgl).trans b1)
  clear b2
  go_loopw [1, 5, 6] (fun v5 v6 v7 wr => ∃ (j q k c5 : Nat) (A5 : Option Addr) (L : List ByteArray) (leaf : ByteArray), v5 = .string leaf ∧ v6 = .slice A5 k c5 ∧ v7 = .int .i64 q ∧ L.length = k ∧ k ≤ c5 ∧ k ≤ 17 ∧
    GInv d l x j q L leaf ∧ SL wr W.heap.size 9 (.slice A5 k c5) (L.map Value.string) ∧ leaf.size = d ∧ (∀ s ∈ L, s.size = d) ∧ Below W.heap.size W wr) (fun _ _ q _ => (intOf q).toNat)
  case atStart => exact ⟨0, n, m, c3, A3, ps, x, rfl, rfl, rfl, HM.out, hc3, hpl, HST.out, hS3, hx, HPZ.out, hb3⟩
  case round =>
    clear b1
    obtain ⟨j, q, k, c5, A5, L, leaf, rfl, rfl, rfl, hk, hkc, hk17, hG, hS, hlz, hLz, hB⟩ := hrel
    have hqn := HLEN.out _ _ _ _ hG
    have HG := Lib.hid hG
    have HSL := Lib.hid hS
    have HLZ := Lib.hid hLz
    have hqI : (q : Int) ≤ 100000 := by omega
    have b0 : wr.cell? ⟨g, 0, none⟩ = some (.int .i64 (d : Int)) := (hB.cell hgl).trans b0
    have b1 : wr.cell? ⟨g, 1, none⟩ = some (.int .i64 (n : Int)) := (hB.cell hgl).trans ((HBK.out.cell 1).trans rfl)
    clear hG hS hLz
    by_cases ho : q % 2 = 1
    · have hand := and_1odd q ho
      obtain ⟨L', t, rfl, hG'⟩ := HODD.out j q L leaf HG.out ho
      have HG' := Lib.hid hG'
      clear hG' HG
      obtain ⟨k', rfl⟩ : ∃ k', k = k' + 1 := ⟨L'.length, by rw [← hk]; simp⟩
      have hk' : L'.length = k' := by simp at hk; omega
      obtain ⟨g5, o5, rfl, c1⟩ := (Strs.of_sl HSL.out).cell_ k' (by rw [hk]; omega)
      have hg5 : g5 < wr.heap.size := by
        obtain ⟨g', o', e1, e2, _⟩ := (Strs.of_sl HSL.out) (by rw [hk]; omega)
        injection e1 with e1; injection e1 with e1 _ _; omega
      have et : (L' ++ [t]).getD k' ByteArray.empty = t := by rw [List.getD_eq_getElem?_getD, List.getElem?_append_right (by omega), hk']; simp
      rw [et] at c1
      have hzt := HLZ.out t (by simp)
      have hS2 := HSL.out
      rw [List.map_append] at hS2
      have HS2 := Lib.hid (SL.pop hS2)
      have hm5 := fun W => H4.out t leaf W (by omega) (by omega)
      have hms := mnode_size d t leaf h2
      have hg' := HG'.out
      obtain ⟨y, HY⟩ : ∃ y, Hid (mnode d t leaf = y) := ⟨_, Lib.hid rfl⟩
      rw [HY.out] at hms hg'
      simp only [HY.out] at hm5
      have HN5 := Lib.hid hm5
      have HG5 := Lib.hid hg'
      have c0 : wr.drew.cell? ⟨g, 0, none⟩ = some (.int .i64 (d : Int)) := b0
      have c1 : wr.drew.cell? ⟨g5, o5 + k', none⟩ = some (.string t) := c1
      have hgd : g < wr.drew.heap.size := Nat.lt_of_lt_of_le hgl hB.size
      have hg5d : g5 < wr.drew.heap.size := hg5
      have hBd := hB.drew
      have hkI : (k' : Int) ≤ (c5 : Int) := by omega
      have hkJ : (k' : Int) ≤ (k' : Int) + 1 := by omega
      clear hm5 hg' hS2 et hk b0 b1
      go_wp2_with fail
      have hS0 := Below.refl wr.drew.heap.size wr.drew
      refine wp_region_lexS (fun w' => Below wr.drew.heap.size wr.drew w') 0 [] (by kernel_rfl) (by kernel_rfl) hS0 ?_
      repeat (first
        | (refine wpX_load0 rfl rfl _ _ rfl _ rfl _ rfl Try.underlying3 _ (fun w' h => (h.cell hgd).trans c0) hS0 ?_; simp only [Act.put, List.setIfInBounds_toArray, List.set_cons_zero, List.set_cons_succ, List.getElem_toArray, List.getElem_cons_zero, List.getElem_cons_succ])
        | (refine wpX_load0 rfl rfl _ _ rfl _ rfl _ rfl Try.underlying9 _ (fun w' h => (h.cell hg5d).trans c1) hS0 ?_; simp only [Act.put, List.setIfInBounds_toArray, List.set_cons_zero, List.set_cons_succ, List.getElem_toArray, List.getElem_cons_zero, List.getElem_cons_succ])
        | (refine wpX_pure rfl rfl rfl ?_; intro K hK; go_big_quiet_op; refine hK _ ?_; clear hK K))
      refine wpX_eff rfl rfl ?_; intro K hK; go_wp2_with fail
      (with_reducible refine (HN5.out _).mono ?_); rintro e w5 ⟨rfl, hb5⟩
      go_wp2_with fail
      refine hK _ _ hb5 ?_; clear hK K
      refine wpX_pure rfl rfl rfl ?_; intro K hK; go_big_quiet_op; refine hK _ ?_; clear hK K
      refine wpX_nil ?_
      go_wp2_with fail
      go_roundw
      case rel => exact ⟨j + 1, q / 2, k', c5, _, L', y, rfl, by go_num, by go_num, hk', by omega, by omega, HG5.out, SL.below (w := wr.drew) HS2.out hb5 (Nat.le_refl _), hms, fun s hs => HLZ.out s (by simp [hs]), hBd.trans (hb5.mono hBd.size)⟩
      case measure => simp [intOf]; omega
    · have hand := and_1even q (by omega)
      have hev := HEVEN.out j q L leaf HG.out (by omega)
      have HEV := Lib.hid hev
      clear hev
      have f1 : wr.frozen? ⟨g, 1, none⟩ = false := (HBK.out.below hB hgl).frozen 1
      have hBK0 := ((HBK.out.below hB hgl).set_ 1 (.int .i64 ((n : Int) + 1)))
      have HBK0 := Lib.hid hBK0
      have HO0 := Lib.hid (((Only.of_below hB (fun k hk hk2 => absurd hk2 (by omega)) : Only (fun k => k = g) W wr)).setCell (p := ⟨g, 1, none⟩) (fun _ => rfl) (.int .i64 ((n : Int) + 1)))
      have HSL0 := Lib.hid (HSL.out.set_far (p := ⟨g, 1, none⟩) hgl (.int .i64 ((n : Int) + 1)))
      have hbs := hB.size
      clear hBK0 hB
      go_wp2_with (refine wpList_app1 Value.string (fun _ => rfl) str_elem rfl (.tmp 57) (.tmp 59) rfl W.heap.size A5 k c5 L leaf _ hk rfl HSL0.out rfl _ (by simp) rfl (by omega) (by decide) (by simp; omega) ?_; intro A6 c6 w6 hS6 hc6 hb6; dsimp only [Act.put]; have hBK6 := HBK0.out.below hb6 hgl; have b2 : w6.cell? ⟨g, 2, none⟩ = some (.slice A m c) := (hBK6.cell 2).trans rfl; have f2 : w6.frozen? ⟨g, 2, none⟩ = false := hBK6.frozen 2)
      go_ret
      have hl6 : (L ++ [leaf]).length = k + 1 := by rw [List.length_append, hk]; rfl
      have hbk7 := hBK6.set_ 2 (.slice A6 (k + 1) c6)
      have ho6 : Only (fun k => k = g) W (w6.setCell ⟨g, 2, none⟩ (.slice A6 (k + 1) c6)) := (HO0.out.trans (Only.of_below hb6 (S := fun k => k = g ∨ W.heap.size ≤ k) (fun k _ h => .inr h)) (fun k hk h => h.elim id (fun h => absurd h (by omega)))).setCell (fun _ => rfl) _
      refine ⟨rfl, ⟨A6, c6, ?_, by rw [HEV.out, hl6]; exact hc6, ?_⟩, ho6⟩
      · rw [HEV.out, hl6]
        exact hbk7
      · rw [HEV.out]
        exact (Strs.of_sl hS6).far (w' := w6.setCell ⟨g, 2, none⟩ (.slice A6 (k + 1) c6)) (g := g) (a := (d : Int)) (b := (n : Int) + 1) (B := A) (n := m) (c := c) hBK6 ((Only.refl (fun k => k = g) w6).setCell (p := ⟨g, 2, none⟩) (fun _ => rfl) _)
end Go.Proofs.Ytgkjpemgfbkejaa
