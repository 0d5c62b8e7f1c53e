/- mac.at, mac.pad, mac.Tag. -/
import Derived.Test.YtbofmfocnbennaaShaOne
import Derived.Test.YtbofmfocnbennaaMacS
namespace Go.Proofs.Ytbofmfocnbennaa
open Go.RowKit
set_option linter.unusedVariables false
set_option linter.unusedSimpArgs false

theorem byteAt_out (s : ByteArray) (i : Nat) (h : s.size ≤ i) : byteAt s i = 0 := by
  unfold byteAt
  rw [List.getD_eq_getElem?_getD, List.getElem?_eq_none (by rw [data_length]; exact h)]
  rfl
theorem cmat (s : ByteArray) (i : Nat) (w : World) (hs : s.size ≤ 1000000000) (hi : i ≤ 1000000000) :
    Calls Try.prog 66 #[.string s, .int .i64 i] w fun e w' => e = .returned (.int .u8 (((byteAt s i).toNat : Nat) : Int)) ∧ w = w' := by
  have hs9 : (s.size : Int) ≤ 1000000000 := by omega
  by_cases h : i < s.size
  · have hI : (i : Int) < (s.size : Int) := by omega
    go_enter Try.func66, Try.ntmps66
    go_wp2_with fail
    go_ret
    exact ⟨rfl, rfl⟩
  · have hI : ¬ (i : Int) < (s.size : Int) := by omega
    have hb := byteAt_out s i (by omega)
    have HB := Lib.hid hb
    clear hb
    go_enter Try.func66, Try.ntmps66
    go_wp2_with fail
    go_ret
    exact ⟨by rw [HB.out]; rfl, rfl⟩

/-- The first k bytes turned by a mark. -/
def xorF (l : List UInt8) (m : UInt8) (k : Nat) : List UInt8 := (l.take k).map (· ^^^ m) ++ l.drop k
theorem xorF_zero (l : List UInt8) (m : UInt8) : xorF l m 0 = l := by unfold xorF; simp
theorem xorF_all (l : List UInt8) (m : UInt8) (k : Nat) (h : l.length ≤ k) : xorF l m k = l.map (· ^^^ m) := by
  unfold xorF; rw [List.take_of_length_le h, List.drop_of_length_le h, List.append_nil]
theorem xorF_length (l : List UInt8) (m : UInt8) (k : Nat) : (xorF l m k).length = l.length := by unfold xorF; simp; omega
theorem xorF_get (l : List UInt8) (m : UInt8) (k : Nat) (h : k < l.length) : (xorF l m k).getD k 0 = l.getD k 0 := by
  have e : ((l.take k).map (· ^^^ m)).length = k := by simp; omega
  unfold xorF
  rw [List.getD_eq_getElem?_getD, List.getD_eq_getElem?_getD, List.getElem?_append_right (by omega), e, Nat.sub_self, List.getElem?_drop]
  rfl
theorem xorF_succ (l : List UInt8) (m : UInt8) (k : Nat) (h : k < l.length) : (xorF l m k).set k (l.getD k 0 ^^^ m) = xorF l m (k + 1) := by
  have e : ((l.take k).map (· ^^^ m)).length = k := by simp; omega
  have hl : l.drop k = l[k] :: l.drop (k + 1) := List.drop_eq_getElem_cons h
  unfold xorF
  rw [List.set_append_right _ _ (by omega), e, Nat.sub_self, hl, List.set_cons_zero, List.take_succ_eq_append_getElem h, List.map_append, List.append_assoc]
  simp [List.getD_eq_getElem?_getD, h]
attribute [irreducible] xorF

section
variable {P : Program} {w : World}
/-- A text copied to the head of a row. -/
theorem wpList_copy_text {ops : Array Oper} {rest : List Oper} {o : Oper} {a : Act} {Q : Exit → Act → World → Prop} (hgd : o.guard = none) (d s : Operand) (dT sT : TypeId)
    (ho : o.op = .call { callee := .builtin .copy, args := #[d, s], argTypes := #[dT, sT] }) (elem : TypeId) (hu : P.underlying dT = some (.slice elem)) (hsz : (P.info? elem).map (·.size) = some 1)
    (g n c : Nat) (x : ByteArray) (hd : a.eval d = .slice (some ⟨g, 0, none⟩) n c) (hs : a.eval s = .string x) (t : TypeId) (l : List UInt8) (hg : Blk w g t (bcells l)) (hx : x.size ≤ n) (hl : l.length = n)
    (h : wpList P ops Q rest (a.put o.dst (goInt x.size)) (w.setRow g (bcells (x.data.toList ++ l.drop x.size)))) : wpList P ops Q (o :: rest) a w := by
  refine wpList_plain hgd fun K hK => ?_
  have hrun : (Builtin.copy_ #[dT, sT] o.type #[.slice (some ⟨g, 0, none⟩) n c, .string x]).run P w = .ok (goInt x.size) (w.setRow g (bcells (x.data.toList ++ l.drop x.size))) := by
    have hst := run_storeCells_at P g 0 t (x.data.toList.map bv) 0 (bcells l) w hg (by rw [List.length_map, data_length, size_bcells]; omega) (by intro u hu; obtain ⟨y, _, rfl⟩ := List.mem_map.1 hu; rfl)
    have he : ((bcells l).toList.take (0 + 0) ++ x.data.toList.map bv ++ (bcells l).toList.drop (0 + 0 + (x.data.toList.map bv).length)).toArray = bcells (x.data.toList ++ l.drop x.size) := by
      simp [bcells]
    rw [he] at hst
    have hm : Nat.min x.size n = x.size := by show min x.size n = x.size; omega
    cases hq : P.info? elem with
    | none => simp [hq] at hsz
    | some i =>
      have hi : i.size = 1 := by simpa [hq] using hsz
      have hf := firstCells_string (P := P) x w
      have hf2 : (Builtin.firstCells 1 x.size (.string x)).run P w = .ok (x.data.toList.map bv).toArray w := hf
      simp [Builtin.copy_, run_underlying hu, Builtin.lenOf, sizeOf, typeInfo, hq, hi, hm, hf2, hst]
  unfold Oper.wp
  simp [execOp, ho, resolve, invoke, builtin, hd, hs, hrun, Result.andThen]
  exact hK _ _ h
end
end Go.Proofs.Ytbofmfocnbennaa
