/- block.right, nonce, tag, Seal, Open, and the reference's. -/
import Derived.Test.YtbofmfocnbennaaRefXor
import Derived.Test.YtbofmfocnbennaaRefMac
import Derived.Test.YtbofmfocnbennaaMacEq
import Derived.Test.YtbofmfocnbennaaMacOne
import Derived.Test.YtbofmfocnbennaaRefFixed
import Derived.Test.YtbofmfocnbennaaOnly
namespace Go.Proofs.Ytbofmfocnbennaa
open Go.RowKit
set_option maxRecDepth 100000
set_option linter.unusedVariables false
set_option linter.unusedSimpArgs false

/-- Keys. -/
structure Ks where
  enc : ByteArray
  mac : ByteArray
  head : ByteArray
def nonceB (i : Int) : ByteArray := ⟨#[83, 76, 68, 71]⟩ ++ str (be i 8)
theorem nonceB_size (i : Int) : (nonceB i).size = 12 := by
  unfold nonceB
  rw [ByteArray.size_append, str_size, be_length]; rfl
def tagB (m : ByteArray) (i : Int) (s : ByteArray) : ByteArray := str (tagL m.data.toList (str (be i 4) ++ s).data.toList)
theorem tagB_size (m : ByteArray) (i : Int) (s : ByteArray) : (tagB m i s).size = 32 := by unfold tagB; rw [str_size, tagL_length]
section
variable {P : Program} {ops : Array Oper} {kf : Nat → Nat} {S : World → Prop} {Q : Act → World → Prop} {k : Nat} {o : Oper} {l : List Oper} {a : Act} {w : World}
theorem wpX_loadK (hk : kf k = 0) (hw : Region.wanted o (yielded ops a.tmps) = true) (ty : TypeId) (x : Operand) (ho : o.op = .load ty x) (g : Nat) (hx : a.eval x = .pointer (some ⟨g, 0, none⟩)) (cs : List Value) (t : TypeId) (d : TypeDesc)
    (hc : ∀ w', S w' → Blk w' g t cs.toArray) (hu : P.underlying ty = some d) (hd : d.isRow = true) (hi : (P.info? ty).map (·.size) = some cs.length) (hS : S w)
    (h : wpX P ops S kf Q (k + 1) l (a.put o.dst (.agg cs.toArray)) w) : wpX P ops S kf Q k (o :: l) a w :=
  wpX_load_mid hk hw ty x ho g 0 hx cs d (fun w' h => fun j v hj => by rw [Nat.zero_add, (hc w' h).cell j]; simpa using hj) hu hd hi hS h
end
theorem keys_info : (Try.prog.info? 34).map (·.size) = some 3 := by kernel_rfl
theorem cFixed8 (n : Int) (w : World) : Calls Try.prog 54 #[.int .i64 n, .int .i64 8] w fun e w' => e = .returned (.string (str (be n 8))) ∧ Below w.heap.size w w' := cFixed n 8 w (by omega) (by omega)
theorem crFixed8 (n : Int) (w : World) : Calls Try.prog 46 #[.int .i64 n, .int .i64 8] w fun e w' => e = .returned (.string (str (be n 8))) ∧ Below w.heap.size w w' := crFixed n 8 w (by omega)
theorem cbright_yes (k : Ks) (i : Int) (w : World) (h : k.enc.size = 32 ∧ 0 ≤ i ∧ i < 256) : Calls Try.prog 48 #[.agg #[.string k.enc, .string k.mac, .string k.head], .int .i64 i] w fun e w' => e = .returned (.bool true) ∧ Below w.heap.size w w' := by
  obtain ⟨enc, mac, head⟩ := k
  dsimp only at h ⊢
  have hB := (Below.refl w.heap.size w).alloc (Nat.le_refl _) (.cells #[.string enc, .string mac, .string head] 34)
  have HB := Lib.hid hB
  clear hB
  obtain ⟨h1, h2, h3⟩ := h
  have e1 : ((enc.size : Int) == 32) = true := by simp; omega
  go_enter Try.func48, Try.ntmps48
  go_wp2_with fail
  go_ret
  exact ⟨rfl, HB.out⟩
theorem cbright_no (k : Ks) (i : Int) (w : World) (h : ¬ (k.enc.size = 32 ∧ 0 ≤ i ∧ i < 256)) : Calls Try.prog 48 #[.agg #[.string k.enc, .string k.mac, .string k.head], .int .i64 i] w fun e w' => e = .returned (.bool false) ∧ Below w.heap.size w w' := by
  obtain ⟨enc, mac, head⟩ := k
  dsimp only at h ⊢
  have hB := (Below.refl w.heap.size w).alloc (Nat.le_refl _) (.cells #[.string enc, .string mac, .string head] 34)
  have HB := Lib.hid hB
  clear hB
  have H := Lib.hid h
  clear h
  by_cases h1 : enc.size = 32
  · have e1 : ((enc.size : Int) == 32) = true := by simp; omega
    rcases Int.lt_or_le i 0 with h2 | h2
    · have e2 : decide ((0 : Int) ≤ i) = false := decide_eq_false (by omega)
      go_enter Try.func48, Try.ntmps48
      go_wp2_with fail
      go_ret
      exact ⟨rfl, HB.out⟩
    · have h3 : 256 ≤ i := by have := H.out; omega
      have e3 : decide (i < 256) = false := decide_eq_false (by omega)
      go_enter Try.func48, Try.ntmps48
      go_wp2_with fail
      go_ret
      exact ⟨rfl, HB.out⟩
  · have e1 : ((enc.size : Int) == 32) = false := by simp; omega
    go_enter Try.func48, Try.ntmps48
    go_wp2_with fail
    go_ret
    exact ⟨rfl, HB.out⟩
theorem crbright_yes (k : Ks) (i : Int) (w : World) (h : k.enc.size = 32 ∧ 0 ≤ i ∧ i < 256) : Calls Try.prog 52 #[.agg #[.string k.enc, .string k.mac, .string k.head], .int .i64 i] w fun e w' => e = .returned (.bool true) ∧ Below w.heap.size w w' := by
  obtain ⟨enc, mac, head⟩ := k
  dsimp only at h ⊢
  have hB := (Below.refl w.heap.size w).alloc (Nat.le_refl _) (.cells #[.string enc, .string mac, .string head] 34)
  have HB := Lib.hid hB
  clear hB
  obtain ⟨h1, h2, h3⟩ := h
  have e1 : ((enc.size : Int) == 32) = true := by simp; omega
  go_enter Try.func52, Try.ntmps52
  go_wp2_with fail
  go_ret
  exact ⟨rfl, HB.out⟩
theorem crbright_no (k : Ks) (i : Int) (w : World) (h : ¬ (k.enc.size = 32 ∧ 0 ≤ i ∧ i < 256)) : Calls Try.prog 52 #[.agg #[.string k.enc, .string k.mac, .string k.head], .int .i64 i] w fun e w' => e = .returned (.bool false) ∧ Below w.heap.size w w' := by
  obtain ⟨enc, mac, head⟩ := k
  dsimp only at h ⊢
  have hB := (Below.refl w.heap.size w).alloc (Nat.le_refl _) (.cells #[.string enc, .string mac, .string head] 34)
  have HB := Lib.hid hB
  clear hB
  have H := Lib.hid h
  clear h
  by_cases h1 : enc.size = 32
  · have e1 : ((enc.size : Int) == 32) = true := by simp; omega
    rcases Int.lt_or_le i 0 with h2 | h2
    · have e2 : decide ((0 : Int) ≤ i) = false := decide_eq_false (by omega)
      go_enter Try.func52, Try.ntmps52
      go_wp2_with fail
      go_ret
      exact ⟨rfl, HB.out⟩
    · have h3 : 256 ≤ i := by have := H.out; omega
      have e3 : decide (i < 256) = false := decide_eq_false (by omega)
      go_enter Try.func52, Try.ntmps52
      go_wp2_with fail
      go_ret
      exact ⟨rfl, HB.out⟩
  · have e1 : ((enc.size : Int) == 32) = false := by simp; omega
    go_enter Try.func52, Try.ntmps52
    go_wp2_with fail
    go_ret
    exact ⟨rfl, HB.out⟩
theorem cbnonce (i : Int) (w : World) : Calls Try.prog 50 #[.int .i64 i] w fun e w' => e = .returned (.string (nonceB i)) ∧ Below w.heap.size w w' := by
  have hz : (str (be i 8)).size = 8 := by rw [str_size, be_length]
  have h1 := fun W => cFixed8 i W
  unfold nonceB
  obtain ⟨X, HX⟩ : ∃ x, Hid (str (be i 8) = x) := ⟨_, Lib.hid rfl⟩
  simp only [HX.out] at h1 hz ⊢
  have H1 := Lib.hid h1
  clear h1
  go_enter Try.func50, Try.ntmps50
  go_wp2_with fail
  (with_reducible refine (H1.out _).mono ?_); rintro e w1 ⟨rfl, hb1⟩
  go_wp2_with fail
  go_ret
  exact ⟨rfl, hb1⟩

set_option maxRecDepth 100000 in
theorem cbtag (k : Ks) (i : Int) (s : ByteArray) (w : World) (hm : k.mac.size ≤ 1000000) (hs : s.size ≤ 1000000) : Calls Try.prog 51 #[.agg #[.string k.enc, .string k.mac, .string k.head], .int .i64 i, .string s] w fun e w' => e = .returned (.string (tagB k.mac i s)) ∧ Below w.heap.size w w' := by
  obtain ⟨enc, mac, head⟩ := k
  dsimp only at hm ⊢
  have hz : (str (be i 4)).size = 4 := by rw [str_size, be_length]
  have h1 := fun W => cFixed4 i W
  have h2 := fun W => cTag2 mac (str (be i 4)) s W (by omega) (by omega)
  have e1 : str (tagL mac.data.toList (str (be i 4) ++ s).data.toList) = tagB mac i s := rfl
  rw [e1] at h2
  clear e1
  obtain ⟨X, HX⟩ : ∃ x, Hid (str (be i 4) = x) := ⟨_, Lib.hid rfl⟩
  obtain ⟨Y, HY⟩ : ∃ x, Hid (tagB mac i s = x) := ⟨_, Lib.hid rfl⟩
  simp only [HX.out] at h1 h2 hz
  simp only [HY.out] at h2 ⊢
  have H1 := Lib.hid h1
  have H2 := Lib.hid h2
  clear h1 h2
  have hS := Blk.new w 34 #[.string enc, .string mac, .string head]
  have hB : Below w.heap.size w (w.alloc (.cells #[.string enc, .string mac, .string head] 34)) := (Below.refl _ _).alloc (Nat.le_refl _) _
  go_enter Try.func51, Try.ntmps51
  go_wp2_with fail
  refine wp_region_lexS (fun w' => Blk w' w.heap.size 34 #[.string enc, .string mac, .string head]) 0 [] (by kernel_rfl) (by kernel_rfl) hS.drew ?_
  replace hS := hS.drew
  replace hB := below_drewN hB 1
  repeat (first
    | (refine wpX_load0 rfl rfl _ _ rfl _ rfl _ rfl Try.underlying9 _ (fun w' h => (Blk.cell h _).trans rfl) hS ?_; simp only [Act.put, List.setIfInBounds_toArray, List.set_cons_zero, List.set_cons_succ, List.getElem_toArray, List.getElem_cons_zero, List.getElem_cons_succ])
    | (refine wpX_loadK rfl rfl _ _ rfl w.heap.size rfl [.string enc, .string mac, .string head] 34 _ (fun w' h => h) Try.underlying34 rfl keys_info hS ?_; simp only [Act.put, List.setIfInBounds_toArray, List.set_cons_zero, List.set_cons_succ])
    | (refine wpX_pure rfl rfl rfl ?_; intro K hK; go_big_quiet_op; refine hK _ ?_; clear hK K))
  refine wpX_eff rfl rfl ?_; intro K hK; go_wp2_with fail
  (with_reducible refine (H1.out _).mono ?_); rintro e w5 ⟨rfl, hb⟩
  go_wp2_with fail
  refine hK _ _ (hS.below hb hS.lt) ?_; clear hK K; replace hB := hB.trans (hb.mono hB.size); replace hS := hS.below hb hS.lt
  clear hb
  repeat (first
    | (refine wpX_load0 rfl rfl _ _ rfl _ rfl _ rfl Try.underlying9 _ (fun w' h => (Blk.cell h _).trans rfl) hS ?_; simp only [Act.put, List.setIfInBounds_toArray, List.set_cons_zero, List.set_cons_succ, List.getElem_toArray, List.getElem_cons_zero, List.getElem_cons_succ])
    | (refine wpX_loadK rfl rfl _ _ rfl w.heap.size rfl [.string enc, .string mac, .string head] 34 _ (fun w' h => h) Try.underlying34 rfl keys_info hS ?_; simp only [Act.put, List.setIfInBounds_toArray, List.set_cons_zero, List.set_cons_succ])
    | (refine wpX_pure rfl rfl rfl ?_; intro K hK; go_big_quiet_op; refine hK _ ?_; clear hK K))
  refine wpX_eff rfl rfl ?_; intro K hK; go_wp2_with fail
  refine hK _ _ (hS.alloc _) ?_; clear hK K
  refine wpX_eff rfl rfl ?_; intro K hK; go_wp2_with fail
  (with_reducible refine (H2.out _).mono ?_); rintro e w6 ⟨rfl, hb⟩
  go_wp2_with fail
  refine hK _ _ (hS.below hb hS.lt) ?_; clear hK K; replace hB := hB.trans (hb.mono hB.size); replace hS := hS.below hb hS.lt
  repeat (first
    | (refine wpX_load0 rfl rfl _ _ rfl _ rfl _ rfl Try.underlying9 _ (fun w' h => (Blk.cell h _).trans rfl) hS ?_; simp only [Act.put, List.setIfInBounds_toArray, List.set_cons_zero, List.set_cons_succ, List.getElem_toArray, List.getElem_cons_zero, List.getElem_cons_succ])
    | (refine wpX_loadK rfl rfl _ _ rfl w.heap.size rfl [.string enc, .string mac, .string head] 34 _ (fun w' h => h) Try.underlying34 rfl keys_info hS ?_; simp only [Act.put, List.setIfInBounds_toArray, List.set_cons_zero, List.set_cons_succ])
    | (refine wpX_pure rfl rfl rfl ?_; intro K hK; go_big_quiet_op; refine hK _ ?_; clear hK K))
  refine wpX_nil ?_
  go_wp2_with fail
  go_ret
  exact ⟨rfl, hB⟩

/-- What 'Seal' makes. -/
def sealB (k : Ks) (i : Int) (c : ByteArray) : ByteArray := xorS k.enc (nonceB i) 1 c ++ tagB k.mac i (xorS k.enc (nonceB i) 1 c)
end Go.Proofs.Ytbofmfocnbennaa
