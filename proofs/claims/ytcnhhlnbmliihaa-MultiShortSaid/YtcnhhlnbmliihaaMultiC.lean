/- The leaves of which a bit is 1: the law's chosen. -/
import Derived.Test.YtcnhhlnbmliihaaMultiAll
import Derived.Test.YtcnhhlnbmliihaaApp1g
import Derived.Test.YtcnhhlnbmliihaaAnd
namespace Go.Proofs.Ytcnhhlnbmliihaa
open Go.RowKit
set_option linter.unusedVariables false
set_option linter.unusedSimpArgs false

/-- A bit of a number, of 62. -/
def bitI (z : Int) (q : Nat) : Bool := bits .and .i64 (z / 2 ^ (q % 62)) 1 == 1
/-- Which of n leaves are chosen. -/
def chB (z : Int) (n : Nat) : List Bool := (List.range n).map (bitI z)
theorem chB_length (z : Int) (n : Nat) : (chB z n).length = n := by unfold chB; simp
theorem chB_zero (z : Int) : chB z 0 = [] := rfl
theorem chB_succ (z : Int) (q : Nat) : chB z (q + 1) = chB z q ++ [bitI z q] := by
  unfold chB; rw [List.range_succ, List.map_append]; rfl
theorem idxI_snoc (a : List Bool) (b : Bool) : idxI (a ++ [b]) = idxI a ++ (if b then [(a.length : Int)] else []) := by
  unfold idxI
  rw [idx_snoc, List.map_append]
  cases b <;> rfl
theorem bitI_all (q : Nat) : bitI (-1) q = true := by
  unfold bitI
  rw [and_1]
  have h : (-1 : Int) / 2 ^ (q % 62) = -1 := by
    have hp : (0 : Int) < 2 ^ (q % 62) := by
      have := Nat.one_le_two_pow (n := q % 62)
      have e : ((2 : Int) ^ (q % 62)) = ((2 ^ (q % 62) : Nat) : Int) := by simp
      rw [e]; omega
    obtain ⟨p, hpp⟩ : ∃ p, (2 : Int) ^ (q % 62) = p := ⟨_, rfl⟩
    rw [hpp] at hp ⊢
    have h1 := Int.ediv_neg_of_neg_of_pos (show (-1 : Int) < 0 by decide) hp
    have h2 : (-1 : Int) ≤ -1 / p := Int.le_ediv_of_mul_le hp (by omega)
    omega
  rw [h]; rfl
theorem chB_all (n : Nat) : ∀ x ∈ chB (-1) n, x = true := by
  intro x hx
  unfold chB at hx
  obtain ⟨q, _, rfl⟩ := List.mem_map.1 hx
  exact bitI_all q
attribute [irreducible] chB
theorem SL.own_at {w : World} {B : Nat} {e : TypeId} {A : Option Addr} {n c : Nat} {xs : List Value} (h : SL w B e (.slice A n c) xs) : ∀ k, (Value.slice A n c).ownBlock = some k → ∃ o, A = some ⟨k, o, none⟩ := by
  intro k hk2
  rcases h.2 with ⟨h1, h2⟩ | ⟨g, cap, cur, h1, h2, h3, _⟩
  · injection h1 with h1 _ _; subst h1; simp [Value.ownBlock] at hk2
  · injection h1 with h1 _ _; subst h1
    have : g = k := by simpa [Value.ownBlock] using hk2
    subst this; exact ⟨0, rfl⟩
theorem SL.addr_lt {w : World} {B : Nat} {e : TypeId} {A : Option Addr} {n c : Nat} {xs : List Value} (h : SL w B e (.slice A n c) xs) : ∀ g o, A = some ⟨g, o, none⟩ → g < w.heap.size := by
  intro g o e1
  subst e1
  exact (h.own_lt g rfl).1
/-- Two slices lie in blocks of their own. -/
def Apart (A1 A2 : Option Addr) : Prop := ∀ g o o', A1 = some ⟨g, o, none⟩ → A2 = some ⟨g, o', none⟩ → False
set_option maxRecDepth 100000 in
set_option maxHeartbeats 4000000 in
theorem cChosen (z : Int) (A : Option Addr) (n c : Nat) (l : List ByteArray) (W : World) (hl : l.length = n) (hs : Strs W A l) (hnc : n ≤ c) (hn6 : n ≤ 1000000) :
    Calls Try.prog 20 #[.slice A n c, .int .i64 z] W fun e W' => ∃ A1 c1 A2 c2, e = .returned (.tuple #[.slice A1 (idxI (chB z n)).length c1, .slice A2 (idxI (chB z n)).length c2]) ∧ (idxI (chB z n)).length ≤ c1 ∧ (idxI (chB z n)).length ≤ c2 ∧ Ints W' A1 (idxI (chB z n)) ∧ Strs W' A2 (sel (chB z n) l) ∧ Below W.heap.size W W' := by
  have HN := Lib.hid hl
  have HS := Lib.hid hs
  have hmI : (n : Int) ≤ (c : Int) := by omega
  have hm6I : (n : Int) ≤ 1000000 := by omega
  have hB0 := Below.refl W.heap.size W
  have hst1 := fun q => (chB_succ z q ▸ idxI_snoc (chB z q) (bitI z q) : idxI (chB z (q + 1)) = _)
  have hst2 := fun q (h : q < n) => (show sel (chB z (q + 1)) (l.take (q + 1)) = sel (chB z q) (l.take q) ++ (if bitI z q then [l.getD q ByteArray.empty] else []) by
    rw [chB_succ, List.take_succ_eq_append_getElem (by omega), sel_snoc _ _ _ _ (by rw [chB_length, List.length_take]; omega), List.getD_eq_getElem?_getD, List.getElem?_eq_getElem (by omega)]; rfl)
  have hle := fun q => idx_length_le (chB z q)
  have hsl := fun q (h : q ≤ n) => (show (sel (chB z q) (l.take q)).length = (idxI (chB z q)).length by
    rw [sel_length _ _ (by rw [chB_length, List.length_take]; omega), idxI_length])
  simp only [chB_length] at hst1 hle
  simp only [← idxI_length] at hle
  have HST1 := Lib.hid hst1
  have HST2 := Lib.hid hst2
  have HLE := Lib.hid hle
  have HSL := Lib.hid hsl
  clear hl hs hst1 hst2 hle hsl
  go_enter Try.func20, Try.ntmps20
  go_wp2_with fail
  go_loopw [6, 7, 8] (fun u1 u2 v wr => ∃ (q m : Nat) (A1 A2 : Option Addr) (c1 c2 : Nat), q ≤ n ∧ u1 = .slice A1 m c1 ∧ u2 = .slice A2 m c2 ∧ v = .int .i64 q ∧ Hid ((idxI (chB z q)).length = m) ∧ m ≤ c1 ∧ m ≤ c2 ∧ Hid (SL wr W.heap.size 3 (.slice A1 m c1) ((idxI (chB z q)).map vInt)) ∧ Hid (SL wr W.heap.size 9 (.slice A2 m c2) ((sel (chB z q) (l.take q)).map Value.string)) ∧ Hid (Apart A1 A2) ∧ Below W.heap.size W wr) (fun _ _ v _ => n - (intOf v).toNat)
  case atStart => exact ⟨0, 0, none, none, 0, 0, by omega, rfl, rfl, rfl, Lib.hid (by rw [chB_zero]; rfl), by omega, by omega, Lib.hid (by rw [chB_zero]; exact SL.nil _ _ _), Lib.hid (by rw [chB_zero, sel_nil]; exact SL.nil _ _ _), Lib.hid (fun g o o' h => by cases h), hB0⟩
  case round =>
    clear hB0
    obtain ⟨q, m, A1, A2, c1, c2, hq, rfl, rfl, rfl, HM, hc1, hc2, HS1, HS2, HAP, hb⟩ := hrel
    have hbs := hb.size
    have hmq : m ≤ q := by have := HLE.out q; have := HM.out; omega
    by_cases hlt : q < n
    · have hqI : (q : Int) < (n : Int) := by omega
      have hs1 := HST1.out q
      have hs2 := HST2.out q hlt
      obtain ⟨g, o, rfl, hgl, hcell⟩ := HS.out (by rw [HN.out]; omega)
      have c0 := hcell q (by rw [HN.out]; exact hlt)
      obtain ⟨s, HSS⟩ : ∃ s, Hid (l.getD q ByteArray.empty = s) := ⟨_, Lib.hid rfl⟩
      rw [HSS.out] at c0 hs2
      have C0 := Lib.hid c0
      clear hcell c0
      cases hbit : bitI z q with
      | false =>
        rw [hbit, if_neg (by decide), List.append_nil] at hs1 hs2
        have hbi : (bits .and .i64 (z / 2 ^ (q % 62)) 1 == 1) = false := hbit
        have E1 := Lib.hid hs1
        have E2 := Lib.hid hs2
        clear hbit hs1 hs2
        go_wp2_with fail
        go_roundw
        case rel => exact ⟨q + 1, m, A1, A2, c1, c2, by omega, rfl, rfl, by go_num, Lib.hid (by rw [E1.out]; exact HM.out), hc1, hc2, Lib.hid (by rw [E1.out]; exact HS1.out), Lib.hid (by rw [E2.out]; exact HS2.out), HAP, hb⟩
        case measure => simp [intOf]; omega
      | true =>
        rw [hbit, if_pos rfl] at hs1 hs2
        have hbi : (bits .and .i64 (z / 2 ^ (q % 62)) 1 == 1) = true := hbit
        have hl2 := HSL.out q (by omega)
        rw [HM.out] at hl2
        have HL2 := Lib.hid hl2
        have E1 := Lib.hid hs1
        have E2 := Lib.hid hs2
        clear hbit hs1 hs2 hl2
        go_wp2_with (first
          | (refine wpList_app1g vInt (fun _ => rfl) int_elem Try.underlying22 rfl (.tmp 21) (.tmp 23) rfl W.heap.size A1 m c1 (idxI (chB z q)) (q : Int) _ HM.out rfl HS1.out rfl _ rfl rfl (by omega) (by decide) hbs ?_; intro A3 c3 w3 hS3 hc3 hO3 hA3; dsimp only [Act.put]
             have hO3b := hb.trans (hO3.below hbs (fun k hk => by
               rcases hk with ⟨o', e⟩ | hk
               · exact HS1.out.own_ge k o' e
               · omega))
             have hs3 := hO3b.size
             have c9 : w3.cell? ⟨g, o + q, none⟩ = some (.string s) := (hO3b.cell hgl).trans C0.out
             have hS4 : SL w3 W.heap.size 9 (.slice A2 m c2) ((sel (chB z q) (l.take q)).map Value.string) := hO3.sl HS2.out (fun k hk hbad => by
               obtain ⟨o2, e2⟩ := HS2.out.own_at k hk
               have hlt2 := HS2.out.addr_lt k o2 e2
               rcases hbad with ⟨o1, e1⟩ | h1
               · exact HAP.out k o1 o2 e1 e2
               · omega)
             have HS4 := Lib.hid hS4
             have HS3 := Lib.hid hS3
             have HO3 := Lib.hid hO3
             have HA3 := Lib.hid hA3
             clear hS4 hS3 hO3 hA3)
          | (refine wpList_app1g Value.string (fun _ => rfl) str_elem Try.underlying23 rfl (.tmp 25) (.tmp 30) rfl W.heap.size A2 m c2 (sel (chB z q) (l.take q)) s _ HL2.out rfl HS4.out rfl _ rfl rfl (by omega) (by decide) hs3 ?_; intro A4 c4 w4 hS5 hc4 hO4 hA4; dsimp only [Act.put]))
        go_roundw
        case rel =>
          have hlt3 := HS3.out.addr_lt
          have hlt2 := HS2.out.addr_lt
          have hlt1 := HS1.out.addr_lt
          have hO3s := HO3.out.size
          refine ⟨q + 1, m + 1, A3, A4, c3, c4, by omega, rfl, rfl, by go_num, Lib.hid (by rw [E1.out, List.length_append, HM.out]; rfl), hc3, hc4, Lib.hid ?_, Lib.hid ?_, Lib.hid ?_, ?_⟩
          · rw [E1.out]
            refine hO4.sl HS3.out (fun k hk hbad => ?_)
            obtain ⟨o3, e3⟩ := HS3.out.own_at k hk
            have h3 := hlt3 k o3 e3
            rcases hbad with ⟨o2, e2⟩ | h1
            · have h2 := hlt2 k o2 e2
              rcases HA3.out k o3 e3 with ⟨o1, e1⟩ | h1
              · exact HAP.out k o1 o2 e1 e2
              · omega
            · omega
          · rw [E2.out]; exact hS5
          · intro k o3 o4 e3 e4
            have h3 := hlt3 k o3 e3
            rcases hA4 k o4 e4 with ⟨o2, e2⟩ | h1
            · have h2 := hlt2 k o2 e2
              rcases HA3.out k o3 e3 with ⟨o1, e1⟩ | h1
              · exact HAP.out k o1 o2 e1 e2
              · omega
            · omega
          · exact hO3b.trans (hO4.below hs3 (fun k hk => by
              rcases hk with ⟨o', e⟩ | hk
              · exact HS2.out.own_ge k o' e
              · omega))
        case measure => simp [intOf]; omega
    · have e : q = n := by omega
      subst e
      have hfull : l.take q = l := List.take_of_length_le (by rw [HN.out]; omega)
      have hs2 := HS2.out
      rw [hfull] at hs2
      have HS3 := Lib.hid hs2
      clear hfull hs2
      go_wp2_with fail
      go_ret2
      refine ⟨A1, c1, A2, c2, by rw [HM.out]; rfl, by rw [HM.out]; exact hc1, by rw [HM.out]; exact hc2, Ints.of_sl HS1.out, Strs.of_sl HS3.out, hb⟩
end Go.Proofs.Ytcnhhlnbmliihaa
