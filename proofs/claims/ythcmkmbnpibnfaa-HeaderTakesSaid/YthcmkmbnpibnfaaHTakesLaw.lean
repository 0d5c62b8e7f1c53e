/- The walk of HeaderTakes. -/
import Derived.Test.YthcmkmbnpibnfaaRefHTake
import Derived.Laws.StructEq
namespace Go.Proofs.Ythcmkmbnpibnfaa
open Go.RowKit

theorem hdr_guard : Try.prog.eqGuardType Try.prog.depth 27 = false := by kernel_rfl
abbrev tcells (h : Hd) : Array Value := #[.int .i64 h.id, .string h.salt, .int .i64 h.n, .int .i64 h.bytes, .int .i64 h.raw, .string h.root, .string h.tag]
set_option maxRecDepth 100000 in
theorem header_eq (id : Int) (salt : ByteArray) (n bytes raw : Int) (root tag : ByteArray) (W : World) :
    (Op.equalIn 10000 27 (.agg #[.int .i64 id, .string salt, .int .i64 n, .int .i64 bytes, .int .i64 raw, .string root, .string tag]) (.agg #[.int .i64 id, .string salt, .int .i64 n, .int .i64 bytes, .int .i64 raw, .string root, .string tag])).run Try.prog W = .ok true W := by
  obtain ⟨d, hd⟩ : ∃ d, 10000 = d + 1 + 1 := ⟨9998, rfl⟩
  rw [hd, run_equalIn_agg _ _ _ _ _ (by kernel_rfl) (by kernel_rfl)]
  simp only [Program.fieldsOf, Try.underlying27]
  go_simp
theorem wpList_eql_agg {P : Program} {w : World} {ops : Array Oper} {rest : List Oper} {o : Oper} {a : Act} {Q : Exit → Act → World → Prop} (hgd : o.guard = none) (ty rt : TypeId) (x y : Operand) (ho : o.op = .binOp .eql ty x y rt) (xs : Array Value) (hx : a.eval x = .agg xs) (hy : a.eval y = .agg xs)
    (hm : P.eqGuardType P.depth ty = false) (he : ∀ W, (Op.equalIn 10000 ty (.agg xs) (.agg xs)).run P W = .ok true W) (h : wpList P ops Q rest (a.put o.dst (.bool true)) w) : wpList P ops Q (o :: rest) a w := by
  refine wpList_plain hgd fun K hK => ?_
  unfold Oper.wp execOp
  simp only [ho, hx, hy, Sem.run_bind, run_eqGuard_agg w _ _ _ _ _ _ hm, Result.andThen_ok, run_eql_struct, he, Sem.run_pure]
  exact hK _ _ h
/-- Both tell the same of any bytes. -/
theorem take_both (s : ByteArray) : ∃ (h : Hd) (n : Int), (∀ W : World, Calls Try.prog 23 #[.string s] W fun e w' => e = .returned (.tuple #[.agg #[.int .i64 h.id, .string h.salt, .int .i64 h.n, .int .i64 h.bytes, .int .i64 h.raw, .string h.root, .string h.tag], .int .i64 n]) ∧ Below W.heap.size W w') ∧
    (∀ W : World, Calls Try.prog 24 #[.string s] W fun e w' => e = .returned (.tuple #[.agg #[.int .i64 h.id, .string h.salt, .int .i64 h.n, .int .i64 h.bytes, .int .i64 h.raw, .string h.root, .string h.tag], .int .i64 n]) ∧ Below W.heap.size W w') := by
  by_cases hg : (s.size : Int) = 98 ∧ ((s.extract 0 4).toList == [83, 76, 71, 49]) = true
  · by_cases hm : (took s).may
    · exact ⟨took s, 0, fun W => cHTake_good s W hg.1 hg.2 0 _ (.inl ⟨hm, rfl, rfl⟩), fun W => crHTake_good s W hg.1 hg.2 0 _ (.inl ⟨hm, rfl, rfl⟩)⟩
    · exact ⟨⟨0, ⟨#[]⟩, 0, 0, 0, ⟨#[]⟩, ⟨#[]⟩⟩, 2, fun W => cHTake_good s W hg.1 hg.2 2 _ (.inr ⟨hm, rfl, rfl⟩), fun W => crHTake_good s W hg.1 hg.2 2 _ (.inr ⟨hm, rfl, rfl⟩)⟩
  · have hb : ¬ (s.size : Int) = 98 ∨ ((s.size : Int) = 98 ∧ ((s.extract 0 4).toList == [83, 76, 71, 49]) = false) := by
      by_cases h1 : (s.size : Int) = 98
      · refine .inr ⟨h1, ?_⟩
        cases h2 : ((s.extract 0 4).toList == [83, 76, 71, 49]) with
        | false => rfl
        | true => exact absurd ⟨h1, h2⟩ hg
      · exact .inl h1
    exact ⟨⟨0, ⟨#[]⟩, 0, 0, 0, ⟨#[]⟩, ⟨#[]⟩⟩, 2, fun W => cHTake_bad s W hb, fun W => crHTake_bad s W hb⟩

set_option maxRecDepth 100000 in
set_option maxHeartbeats 1000000 in
theorem headerTakes_fit (s t : ByteArray) (w : World) (hs : (s.size ≤ 1000 ∧ t = s) ∨ (1000 < s.size ∧ s.size ≤ 9223372036854775807 ∧ t = s.extract 0 1000)) : Calls Try.prog 7 #[.string s] w fun e w' => e = .returned (.bool true) ∧ Below w.heap.size w w' := by
  obtain ⟨h, n, k1, k2⟩ := take_both t
  obtain ⟨id, salt, m, bytes, raw, root, tag⟩ := h
  dsimp only at k1 k2
  have heq := header_eq id salt m bytes raw root tag
  obtain ⟨cs, HC⟩ : ∃ cs, Hid ((#[.int .i64 id, .string salt, .int .i64 m, .int .i64 bytes, .int .i64 raw, .string root, .string tag] : Array Value) = cs) := ⟨_, Lib.hid rfl⟩
  have hsz : cs.size = 7 := by rw [← HC.out]; rfl
  have hone : ∀ v ∈ cs.toList, v.oneCell' = true := by rw [← HC.out]; intro v hv; simp at hv; rcases hv with rfl | rfl | rfl | rfl | rfl | rfl | rfl <;> rfl
  have hi : Hid ((Try.prog.info? 27).map (·.size) = some cs.size) := Lib.hid (by rw [hsz]; exact header_size)
  have HS : Hid (7 = cs.size) := Lib.hid hsz.symm
  rw [HC.out] at heq
  simp only [HC.out] at k1 k2
  have K1 := Lib.hid k1
  have K2 := Lib.hid k2
  have HEQ := Lib.hid heq
  have HONE := Lib.hid hone
  clear k1 k2 heq hsz hone
  rcases hs with ⟨h1, rfl⟩ | ⟨h1, h2, rfl⟩
  · have hI : (t.size : Int) ≤ 1000 := by omega
    go_enter Try.func7, Try.ntmps7
    go_wp2_with fail
    (with_reducible refine (K1.out _).mono ?_); rintro e w1 ⟨rfl, b1⟩
    go_wp2_with ((refine wpList_store_new rfl 27 (.tmp 3) (.tmp 15) rfl w1.heap.size cs _ 27 rfl rfl rfl rfl hi.out HS.out HONE.out ?_); dsimp only [Act.put])
    have q1 := Blk.new w1 27 cs
    have n1 := b1.alloc b1.size (.cells cs 27)
    (with_reducible refine (K2.out _).mono ?_); rintro e w2 ⟨rfl, b2⟩
    replace q1 := q1.below b2 q1.lt
    replace n1 := n1.trans (b2.mono n1.size)
    clear b1 b2
    have q2 := Blk.new w2 27 cs
    replace q1 := q1.alloc (.cells cs 27)
    have n2 := n1.alloc n1.size (.cells cs 27)
    clear n1
    go_wp2_with (first
      | ((refine wpList_store_new rfl 27 (.tmp 5) (.tmp 20) rfl w2.heap.size cs _ 27 rfl rfl rfl rfl hi.out HS.out HONE.out ?_); dsimp only [Act.put])
      | ((refine wpList_load_row (o := ⟨some 22, _, _, _, _, _⟩) rfl 27 (.tmp 3) rfl w1.heap.size rfl 27 _ (0, 0) _ q1 Try.underlying27 rfl hi.out ?_); simp only [Act.put, List.setIfInBounds_toArray, List.set_cons_zero, List.set_cons_succ])
      | ((refine wpList_load_row (o := ⟨some 23, _, _, _, _, _⟩) rfl 27 (.tmp 5) rfl w2.heap.size rfl 27 _ (0, 0) _ q2 Try.underlying27 rfl hi.out ?_); simp only [Act.put, List.setIfInBounds_toArray, List.set_cons_zero, List.set_cons_succ]; (refine wpList_eql_agg rfl 27 _ (.tmp 22) (.tmp 23) rfl cs rfl rfl hdr_guard HEQ.out ?_); dsimp only [Act.put]))
    (with_reducible refine (cAwake18 _).mono ?_); rintro e w3 ⟨rfl, b3⟩
    go_wp2_with fail
    go_ret
    exact ⟨rfl, n2.trans (b3.mono n2.size)⟩
  · have hI : (1000 : Int) < (s.size : Int) := by omega
    go_enter Try.func7, Try.ntmps7
    go_wp2_with fail
    (with_reducible refine (K1.out _).mono ?_); rintro e w1 ⟨rfl, b1⟩
    go_wp2_with ((refine wpList_store_new rfl 27 (.tmp 3) (.tmp 15) rfl w1.heap.size cs _ 27 rfl rfl rfl rfl hi.out HS.out HONE.out ?_); dsimp only [Act.put])
    have q1 := Blk.new w1 27 cs
    have n1 := b1.alloc b1.size (.cells cs 27)
    (with_reducible refine (K2.out _).mono ?_); rintro e w2 ⟨rfl, b2⟩
    replace q1 := q1.below b2 q1.lt
    replace n1 := n1.trans (b2.mono n1.size)
    clear b1 b2
    have q2 := Blk.new w2 27 cs
    replace q1 := q1.alloc (.cells cs 27)
    have n2 := n1.alloc n1.size (.cells cs 27)
    clear n1
    go_wp2_with (first
      | ((refine wpList_store_new rfl 27 (.tmp 5) (.tmp 20) rfl w2.heap.size cs _ 27 rfl rfl rfl rfl hi.out HS.out HONE.out ?_); dsimp only [Act.put])
      | ((refine wpList_load_row (o := ⟨some 22, _, _, _, _, _⟩) rfl 27 (.tmp 3) rfl w1.heap.size rfl 27 _ (0, 0) _ q1 Try.underlying27 rfl hi.out ?_); simp only [Act.put, List.setIfInBounds_toArray, List.set_cons_zero, List.set_cons_succ])
      | ((refine wpList_load_row (o := ⟨some 23, _, _, _, _, _⟩) rfl 27 (.tmp 5) rfl w2.heap.size rfl 27 _ (0, 0) _ q2 Try.underlying27 rfl hi.out ?_); simp only [Act.put, List.setIfInBounds_toArray, List.set_cons_zero, List.set_cons_succ]; (refine wpList_eql_agg rfl 27 _ (.tmp 22) (.tmp 23) rfl cs rfl rfl hdr_guard HEQ.out ?_); dsimp only [Act.put]))
    (with_reducible refine (cAwake18 _).mono ?_); rintro e w3 ⟨rfl, b3⟩
    go_wp2_with fail
    go_ret
    exact ⟨rfl, n2.trans (b3.mono n2.size)⟩
theorem headerTakes_walk (s : ByteArray) (hs : s.size ≤ reachBytes) (w : World) : Calls Try.prog 7 #[.string s] w fun e w' => e = .returned (.bool true) ∧ Below w.heap.size w w' := by
  rcases Nat.lt_or_ge 1000 s.size with h | h
  · exact headerTakes_fit s _ w (.inr ⟨h, by unfold reachBytes at hs; omega, rfl⟩)
  · exact headerTakes_fit s _ w (.inl ⟨h, rfl⟩)
end Go.Proofs.Ythcmkmbnpibnfaa
