/- A region that draws its order, walked once, in the order of the text: every order that the edges leave open comes to the same end.
   Each operation has a kind: 0: it yields one value in whatever world and writes nothing · 1: it yields a value in the world at hand and writes nothing (a load) · 2: whatever else (a store, a call, an append).
   What the edges leave open must be harmless: a 0 may change places with anything, a 1 with a 1; a 2 with a 0 alone. The program's own table is asked for that by 'lexX', a Bool. -/
import Derived.WalkKit
import Derived.Still
import Derived.StillTail
import Derived.Deep.Quiet
import Derived.Deep.QuietTactic
import Derived.BigQuiet
import Derived.KernelRfl
namespace Go.Proofs.Ytcnhhlnbmliihaa
set_option linter.unusedVariables false
set_option linter.unusedSimpArgs false

section
variable {P : Program} {ops : Array Oper} {kf : Nat → Nat} {md : Region.Mode} {S : World → Prop}

def noX : Exit → Act → World → Prop := fun _ _ _ => False

def YldX (P : Program) (ops : Array Oper) (S : World → Prop) (k : Nat) (o : Oper) (v : Value) (a : Act) (w : World) : Prop :=
  (Region.wanted o (yielded ops a.tmps) = true ∧ ∀ w', ((k = 0 ∧ S w') ∨ w' = w) → (execOp a.eval o).run P w' = .ok (.value v) w') ∨
  (Region.wanted o (yielded ops a.tmps) = false ∧ v = undef)

def effX (P : Program) (ops : Array Oper) (S : World → Prop) (o : Oper) (K : Act → World → Prop) (a : Act) (w : World) : Prop :=
  if Region.wanted o (yielded ops a.tmps) then o.wp P a w (fun a' w' => S w' ∧ K a' w') noX else K (a.put o.dst undef) w

def opX (P : Program) (ops : Array Oper) (S : World → Prop) (k : Nat) (o : Oper) (K : Act → World → Prop) (a : Act) (w : World) : Prop :=
  if k = 2 then effX P ops S o K a w else ∃ v, YldX P ops S k o v a w ∧ K (a.put o.dst v) w

theorem wpX_mono {o : Oper} {a : Act} {w : World} {K K' : Act → World → Prop} (h : ∀ a w, K a w → K' a w) (hh : o.wp P a w K noX) {Q : Exit → Act → World → Prop} : o.wp P a w K' Q := by
  unfold Oper.wp at *
  generalize (execOp a.eval o).run P w = r at *
  cases r with
  | ok n w' =>
    cases n <;> simp only [Oper.upon] at hh ⊢
    case enter f args => exact Calls.mono hh (fun e w'' he => by cases e with | returned v => exact h _ _ he | panicked c => exact (show False from he).elim | outgrown => obtain ⟨_, _, hf⟩ := he; exact (show False from hf).elim)
    case row r args => exact Rows.mono hh (fun _ _ he => h _ _ he)
    all_goals exact h _ _ hh
  | halt x w' => cases x <;> simp only [Oper.upon] at hh; exact (show False from hh).elim

theorem opX_mono {k : Nat} {o : Oper} {a : Act} {w : World} {K K' : Act → World → Prop} (hS : S w) (h : ∀ a w, S w → K a w → K' a w) (hh : opX P ops S k o K a w) : opX P ops S k o K' a w := by
  unfold opX effX at *
  split
  · rename_i hk
    rw [if_pos hk] at hh
    split
    · rename_i hw; rw [if_pos hw] at hh; exact wpX_mono (fun a w hq => ⟨hq.1, h a w hq.1 hq.2⟩) hh
    · rename_i hw; rw [if_neg hw] at hh; exact h _ _ hS hh
  · rename_i hk
    rw [if_neg hk] at hh
    obtain ⟨v, h1, h2⟩ := hh
    exact ⟨v, h1, h _ _ hS h2⟩

theorem wp_of_opX {k : Nat} {i : Nat} {o : Oper} {a : Act} {w : World} {K K' : Act → World → Prop} {Q : Exit → Act → World → Prop} (hi : ops[i]? = some o) (hS : S w) (h : ∀ a w, S w → K a w → K' a w)
    (hh : opX P ops S k o K a w) : wpOp P ops Q i K' a w := by
  unfold wpOp
  rw [hi]
  unfold opX effX at hh
  dsimp only
  split
  · rename_i hw
    refine .inl ?_
    rw [if_pos hw] at hh
    split at hh
    · exact wpX_mono (fun a w hq => h a w hq.1 hq.2) hh
    · obtain ⟨v, hy, hK⟩ := hh
      rcases hy with ⟨_, hv⟩ | ⟨hn, _⟩
      · unfold Oper.wp; rw [hv w (.inr rfl)]; exact h _ _ hS hK
      · rw [hn] at hw; cases hw
  · rename_i hw
    rw [if_neg hw] at hh
    split at hh
    · exact h _ _ hS hh
    · obtain ⟨v, hy, hK⟩ := hh
      rcases hy with ⟨hn, _⟩ | ⟨_, rfl⟩
      · exact absurd hn hw
      · exact h _ _ hS hK

def dfX (a : Act) (d : Option Deferred) : Act := match d with | some d => { a with defers := d :: a.defers } | none => a
theorem dfX_eval (a : Act) (d : Option Deferred) : (dfX a d).eval = a.eval := by cases d <;> rfl
theorem dfX_tmps (a : Act) (d : Option Deferred) : (dfX a d).tmps = a.tmps := by cases d <;> rfl

/-- Something comes of it. -/
theorem effX_some {o : Oper} {a : Act} {w : World} {K : Act → World → Prop} (hS : S w) (hh : effX P ops S o K a w) :
    ∃ (d : Option Deferred) (u : Value) (w' : World), S w' ∧ K ((dfX a d).put o.dst u) w' := by
  unfold effX at hh
  split at hh
  · unfold Oper.wp at hh
    generalize (execOp a.eval o).run P w = r at *
    cases r with
    | ok n w' =>
      cases n <;> simp only [Oper.upon] at hh
      case value v => exact ⟨none, v, w', hh⟩
      case skip => exact ⟨none, undef, w', hh⟩
      case defer d => exact ⟨some d, undef, w', hh⟩
      case enter f args =>
        obtain ⟨e, w'', fr, hR, _⟩ := hh []
        cases e with
        | returned v => exact ⟨none, v, w'', hR⟩
        | panicked c => exact (show False from hR).elim
        | outgrown => obtain ⟨_, _, hf⟩ := hR; exact (show False from hf).elim
      case row r args =>
        obtain ⟨v, w'', hR, _⟩ := hh (default : Frame) []
        exact ⟨none, v, w'', hR⟩
    | halt x w' => cases x <;> simp only [Oper.upon] at hh; exact (show False from hh).elim
  · exact ⟨none, undef, w, hS, hh⟩

theorem YldX.det {k : Nat} {o : Oper} {v u : Value} {a : Act} {w w' : World} (h : YldX P ops S k o v a w) (h' : YldX P ops S k o u a w') (hk : k = 0) (hS : S w) : v = u := by
  rcases h with ⟨h1, h2⟩ | ⟨h1, h2⟩ <;> rcases h' with ⟨h3, h4⟩ | ⟨h3, h4⟩
  · have e1 := h2 w (.inl ⟨hk, hS⟩)
    have e2 := h4 w (.inl ⟨hk, hS⟩)
    rw [e1] at e2
    injection e2 with e2
    injection e2 with e2
  · rw [h1] at h3; cases h3
  · rw [h1] at h3; cases h3
  · rw [h2, h4]
theorem YldX.world {o : Oper} {v : Value} {a : Act} {w w' : World} (h : YldX P ops S 0 o v a w) (hS : S w') : YldX P ops S 0 o v a w' :=
  h.imp (fun ⟨h1, h2⟩ => ⟨h1, fun w'' hw => h2 w'' (.inl ⟨rfl, hw.elim (fun h => h.2) (fun e => e ▸ hS)⟩)⟩) id
theorem YldX.same {k : Nat} {o : Oper} {v : Value} {a a' : Act} {w : World} (h : YldX P ops S k o v a w) (he : execOp a'.eval o = execOp a.eval o)
    (hw : Region.wanted o (yielded ops a'.tmps) = Region.wanted o (yielded ops a.tmps)) : YldX P ops S k o v a' w := by
  unfold YldX at *
  rw [he, hw]
  exact h

/-- A 2 ahead of a 0. -/
theorem swap_eff {oi oj : Oper} (h1 : ∀ d, oi.dst = some d → d ∉ oj.looksAt ops) (h2 : ∀ d, oi.dst = some d → oj.dst ≠ some d) (h3 : ∀ d, oj.dst = some d → d ∉ oi.looksAt ops)
    (hsi : ∀ cs b, oi.op ≠ .select cs b) (hsj : ∀ cs b, oj.op ≠ .select cs b) {K : Act → World → Prop} {a : Act} {w : World} (hS : S w)
    (h : effX P ops S oi (fun a' w' => ∃ v, YldX P ops S 0 oj v a' w' ∧ K (a'.put oj.dst v) w') a w) :
    ∃ v, YldX P ops S 0 oj v a w ∧ effX P ops S oi K (a.put oj.dst v) w := by
  have back : ∀ (d : Option Deferred) (u : Value) (w' : World) (v : Value), YldX P ops S 0 oj v ((dfX a d).put oi.dst u) w' → YldX P ops S 0 oj v a w := by
    intro d u w' v hy
    have e : YldX P ops S 0 oj v (dfX a d) w' := hy.same (execOp_put oj hsj (dfX a d) oi.dst u h1).symm (wanted_put oj (dfX a d) oi.dst u h1).symm
    exact (e.same (a' := a) (by rw [dfX_eval]) (by rw [dfX_tmps])).world hS
  obtain ⟨d0, u0, w0, _, v, hv0, _⟩ := effX_some hS h
  have hv := back d0 u0 w0 v hv0
  refine ⟨v, hv, ?_⟩
  have same : ∀ (d : Option Deferred) (u : Value) (w' : World) (v' : Value), YldX P ops S 0 oj v' ((dfX a d).put oi.dst u) w' → v' = v :=
    fun d u w' v' hy => (back d u w' v' hy).det hv rfl hS
  unfold effX at *
  rw [wanted_put oi a oj.dst v h3]
  split
  · rename_i hw
    rw [if_pos hw] at h
    unfold Oper.wp at *
    rw [execOp_put oi hsi a oj.dst v h3]
    generalize (execOp a.eval oi).run P w = r at *
    cases r with
    | ok n w' =>
      cases n <;> simp only [Oper.upon] at h ⊢
      case value u =>
        obtain ⟨hS', v', hy, hK⟩ := h
        have e := same none u w' v' hy; subst e
        rw [← Act.put_comm a u v' h2]; exact ⟨hS', hK⟩
      case skip =>
        obtain ⟨hS', v', hy, hK⟩ := h
        have e := same none undef w' v' hy; subst e
        rw [← Act.put_comm a undef v' h2]; exact ⟨hS', hK⟩
      case defer d =>
        obtain ⟨hS', v', hy, hK⟩ := h
        have e := same (some d) undef w' v' hy; subst e
        rw [Act.put_defers, ← Act.put_comm _ undef v' h2]; exact ⟨hS', hK⟩
      case enter f args =>
        refine Calls.mono h fun e w'' he => ?_
        cases e with
        | returned u =>
          obtain ⟨hS', v', hy, hK⟩ := he
          have e := same none u w'' v' hy; subst e
          show S _ ∧ K _ _
          rw [← Act.put_comm a u v' h2]; exact ⟨hS', hK⟩
        | panicked c => exact (show False from he).elim
        | outgrown => obtain ⟨_, _, hf⟩ := he; exact (show False from hf).elim
      case row r args =>
        refine Rows.mono h fun u w'' he => ?_
        obtain ⟨hS', v', hy, hK⟩ := he
        have e := same none u w'' v' hy; subst e
        rw [← Act.put_comm a u v' h2]; exact ⟨hS', hK⟩
    | halt x w' => cases x <;> simp only [Oper.upon] at h ⊢; exact h
  · rename_i hw
    rw [if_neg hw] at h
    obtain ⟨v', hy, hK⟩ := h
    have e := same none undef w v' hy; subst e
    rw [← Act.put_comm a undef v' h2]; exact hK

/-- A 0 ahead of a 2. -/
theorem swap_pure {oi oj : Oper} {v : Value} (h1 : ∀ d, oi.dst = some d → d ∉ oj.looksAt ops) (h2 : ∀ d, oi.dst = some d → oj.dst ≠ some d) (h3 : ∀ d, oj.dst = some d → d ∉ oi.looksAt ops)
    (hsi : ∀ cs b, oi.op ≠ .select cs b) (hsj : ∀ cs b, oj.op ≠ .select cs b) {K : Act → World → Prop} {a : Act} {w : World} (hS : S w)
    (hy : YldX P ops S 0 oi v a w) (h : effX P ops S oj K (a.put oi.dst v) w) :
    effX P ops S oj (fun a' w' => ∃ v, YldX P ops S 0 oi v a' w' ∧ K (a'.put oi.dst v) w') a w := by
  have keep : ∀ (d : Option Deferred) (u : Value) (w' : World), S w' → YldX P ops S 0 oi v ((dfX a d).put oj.dst u) w' := by
    intro d u w' hS'
    have e : YldX P ops S 0 oi v (dfX a d) w := hy.same (by rw [dfX_eval]) (by rw [dfX_tmps])
    exact (e.same (execOp_put oi hsi (dfX a d) oj.dst u h3) (wanted_put oi (dfX a d) oj.dst u h3)).world hS'
  unfold effX at *
  rw [wanted_put oj a oi.dst v h1] at h
  split
  · rename_i hw
    rw [if_pos hw] at h
    unfold Oper.wp at *
    rw [execOp_put oj hsj a oi.dst v h1] at h
    generalize (execOp a.eval oj).run P w = r at *
    cases r with
    | ok n w' =>
      cases n <;> simp only [Oper.upon] at h ⊢
      case value u => exact ⟨h.1, v, keep none u w' h.1, by rw [← Act.put_comm a v u h2]; exact h.2⟩
      case skip => exact ⟨h.1, v, keep none undef w' h.1, by rw [← Act.put_comm a v undef h2]; exact h.2⟩
      case defer d => exact ⟨h.1, v, keep (some d) undef w' h.1, by rw [← Act.put_comm _ v undef h2, ← Act.put_defers]; exact h.2⟩
      case enter f args =>
        refine Calls.mono h fun e w'' he => ?_
        cases e with
        | returned u => exact ⟨he.1, v, keep none u w'' he.1, by rw [← Act.put_comm a v u h2]; exact he.2⟩
        | panicked c => exact he
        | outgrown => obtain ⟨_, _, hf⟩ := he; exact (show False from hf).elim
      case row r args => exact Rows.mono h fun u w'' he => ⟨he.1, v, keep none u w'' he.1, by rw [← Act.put_comm a v u h2]; exact he.2⟩
    | halt x w' => cases x <;> simp only [Oper.upon] at h ⊢; exact h
  · rename_i hw
    rw [if_neg hw] at h
    exact ⟨v, keep none undef w hS, by rw [← Act.put_comm a v undef h2]; exact h⟩

/-- Two that write nothing. -/
theorem swap_yld {ki kj : Nat} {oi oj : Oper} {v u : Value} (h1 : ∀ d, oi.dst = some d → d ∉ oj.looksAt ops) (h2 : ∀ d, oi.dst = some d → oj.dst ≠ some d) (h3 : ∀ d, oj.dst = some d → d ∉ oi.looksAt ops)
    (hsi : ∀ cs b, oi.op ≠ .select cs b) (hsj : ∀ cs b, oj.op ≠ .select cs b) {K : Act → World → Prop} {a : Act} {w : World}
    (hy : YldX P ops S ki oi v a w) (hy' : YldX P ops S kj oj u (a.put oi.dst v) w) (h : K ((a.put oi.dst v).put oj.dst u) w) :
    YldX P ops S kj oj u a w ∧ YldX P ops S ki oi v (a.put oj.dst u) w ∧ K ((a.put oj.dst u).put oi.dst v) w :=
  ⟨hy'.same (execOp_put oj hsj a oi.dst v h1).symm (wanted_put oj a oi.dst v h1).symm, hy.same (execOp_put oi hsi a oj.dst u h3) (wanted_put oi a oj.dst u h3), by rw [← Act.put_comm a v u h2]; exact h⟩

/-- Which two may change places. -/
def mayX (ki kj : Nat) : Bool := if ki = 0 then true else if ki = 2 then kj == 0 else kj != 2

theorem opX_swap {ki kj : Nat} {oi oj : Oper} (hap : oi.apart ops oj = true) (hm : mayX ki kj = true)
    (hsi : ∀ cs b, oi.op ≠ .select cs b) (hsj : ∀ cs b, oj.op ≠ .select cs b) {K : Act → World → Prop} {a : Act} {w : World} (hS : S w)
    (h : opX P ops S ki oi (fun a' w' => opX P ops S kj oj K a' w') a w) : opX P ops S kj oj (fun a' w' => opX P ops S ki oi K a' w') a w := by
  obtain ⟨h1, h2, h3⟩ := Oper.apart_spec hap
  unfold opX at *
  unfold mayX at hm
  by_cases ei : ki = 2
  · subst ei
    rw [if_neg (by decide), if_pos rfl] at hm
    have ej : kj = 0 := by simpa using hm
    subst ej
    simp only [if_true, show ¬ (0 : Nat) = 2 from by decide, if_false] at h ⊢
    exact swap_eff h1 h2 h3 hsi hsj hS h
  · by_cases ej : kj = 2
    · subst ej
      have e0 : ki = 0 := by
        by_cases e : ki = 0
        · exact e
        · rw [if_neg e, if_neg ei] at hm; simp at hm
      subst e0
      simp only [if_true, show ¬ (0 : Nat) = 2 from by decide, if_false] at h ⊢
      obtain ⟨v, hy, hK⟩ := h
      exact swap_pure h1 h2 h3 hsi hsj hS hy hK
    · simp only [ei, ej, if_false] at h ⊢
      obtain ⟨v, hy, u, hy', hK⟩ := h
      obtain ⟨g1, g2, g3⟩ := swap_yld (K := K) h1 h2 h3 hsi hsj hy hy' hK
      exact ⟨u, g1, v, g2, g3⟩

/-- Whatever order is picked from here on. -/
def anyX (P : Program) (md : Region.Mode) (ops : Array Oper) (S : World → Prop) (kf : Nat → Nat) (Q : Act → World → Prop) : Nat → Array Bool → Act → World → Prop
  | 0, listed, a, w => Region.ready md ops listed = [] ∧ Q a w
  | fuel + 1, listed, a, w => (Region.ready md ops listed = [] → Q a w) ∧
    ∀ i ∈ Region.ready md ops listed, ∀ o, ops[i]? = some o → opX P ops S (kf i) o (anyX P md ops S kf Q fuel (listed.setIfInBounds i true)) a w

theorem any_of_anyX {Q : Act → World → Prop} {Q' : Exit → Act → World → Prop} (hQ : ∀ a w, Q a w → Q' .normal a w) : ∀ (fuel : Nat) (listed : Array Bool) (a : Act) (w : World), S w →
    anyX P md ops S kf Q fuel listed a w → wpAny P md ops Q' fuel listed a w
  | 0, _, _, _, _, h => ⟨h.1, hQ _ _ h.2⟩
  | fuel + 1, _, _, _, hS, h => ⟨fun h0 => hQ _ _ (h.1 h0), fun i hi => by
      obtain ⟨_, o, ho, _⟩ := mem_ready.1 hi
      exact wp_of_opX ho hS (fun a' w' hS' => any_of_anyX hQ fuel _ a' w' hS') (h.2 i hi o ho)⟩

theorem opX_some {k : Nat} {o : Oper} {K : Act → World → Prop} {a : Act} {w : World} (hS : S w) (h : opX P ops S k o K a w) : ∃ a' w', K a' w' := by
  unfold opX at h
  split at h
  · obtain ⟨_, _, _, _, h⟩ := effX_some hS h; exact ⟨_, _, h⟩
  · obtain ⟨_, _, h⟩ := h; exact ⟨_, _, h⟩

theorem anyX_first {Q : Act → World → Prop} {i : Nat} {oi : Oper} {D : Nat → Bool} (hi : ops[i]? = some oi) (hsel : ∀ (j : Nat) (o : Oper) cs b, ops[j]? = some o → o.op ≠ .select cs b)
    (hD : ∀ j oj, ops[j]? = some oj → D j = true → j ≠ i → ∃ e ∈ oj.after, Region.binds md e = true ∧ D e.on = true) :
    ∀ (fuel : Nat) (listed : Array Bool) (a : Act) (w : World), S w → (∀ j, D j = true → listed.getD j false = false) →
      (∀ j oj, ops[j]? = some oj → j ≠ i → listed.getD j true = false → D j = false → oi.apart ops oj = true ∧ mayX (kf i) (kf j) = true) →
      i ∈ Region.ready md ops listed → opX P ops S (kf i) oi (anyX P md ops S kf Q fuel (listed.setIfInBounds i true)) a w → anyX P md ops S kf Q (fuel + 1) listed a w := by
  intro fuel
  induction fuel with
  | zero =>
    intro listed a w hS _ _ hr H
    refine ⟨fun h => (by rw [h] at hr; cases hr), fun j hj o ho => ?_⟩
    by_cases hji : j = i
    · subst hji; rw [hi] at ho; injection ho with ho; subst ho; exact H
    · obtain ⟨a', w', h0, _⟩ := opX_some hS H
      have := ready_mono hj hji
      rw [h0] at this
      cases this
  | succ fuel ih =>
    intro listed a w hS hun hfree hr H
    refine ⟨fun h => (by rw [h] at hr; cases hr), fun j hj oj hoj => ?_⟩
    by_cases hji : j = i
    · subst hji; rw [hi] at hoj; injection hoj with ho; subst ho; exact H
    · obtain ⟨hjun, oj', hoj', hall⟩ := mem_ready.1 hj
      rw [hoj] at hoj'; injection hoj' with e; subst e
      have hDj : D j = false := by
        cases hd : D j with
        | false => rfl
        | true =>
          obtain ⟨e, he, hb, hde⟩ := hD j oj hoj hd hji
          have g1 := hall e he hb
          rw [hun _ hde] at g1
          cases g1
      obtain ⟨hap, hmay⟩ := hfree j oj hoj hji hjun hDj
      have H2 : opX P ops S (kf i) oi (fun a' w' => opX P ops S (kf j) oj (anyX P md ops S kf Q fuel ((listed.setIfInBounds i true).setIfInBounds j true)) a' w') a w :=
        opX_mono hS (fun a' w' _ h' => h'.2 j (ready_mono hj hji) oj hoj) H
      have H3 := opX_swap hap hmay (fun cs b => hsel i oi cs b hi) (fun cs b => hsel j oj cs b hoj) hS H2
      refine opX_mono hS (fun a' w' hS' h' => ih (listed.setIfInBounds j true) a' w' hS' ?_ ?_ (ready_mono hr (Ne.symm hji)) ?_) H3
      · intro k hk
        have : j ≠ k := fun e => by subst e; rw [hDj] at hk; cases hk
        rw [getD_set_ne false this]; exact hun k hk
      · intro k ok hk hki hun' hDk
        refine hfree k ok hk hki ?_ hDk
        by_cases hjk : j = k
        · subst hjk; exact hjun
        · rw [getD_set_ne true hjk] at hun'; exact hun'
      · rw [Array.setIfInBounds_comm _ _ hji]
        exact h'

/-- What waits for number k, itself among it, as a mask: edges lead back. -/
def depX (md : Region.Mode) (ops : Array Oper) (k : Nat) : Nat :=
  (List.range ops.size).foldl (fun D j => if j == k then D ||| 1 <<< j else match ops[j]? with
    | some o => if o.after.any (fun e => Region.binds md e && D.testBit e.on) then D ||| 1 <<< j else D
    | none => D) 0

def condD (md : Region.Mode) (ops : Array Oper) (kf : Nat → Nat) (k : Nat) (ok : Oper) (D : Nat) : Bool :=
  (List.range ops.size).all (fun j => if D.testBit j then Nat.ble k j && (j == k || match ops[j]? with
      | some o => o.after.any (fun e => Region.binds md e && D.testBit e.on)
      | none => true)
    else Nat.ble j k || match ops[j]? with
      | some oj => ok.apart ops oj && mayX (kf k) (kf j)
      | none => true)

def lexX (md : Region.Mode) (ops : Array Oper) (kf : Nat → Nat) : Bool :=
  (List.range ops.size).all fun k => match ops[k]? with
    | none => false
    | some ok => ok.after.all (fun e => !Region.binds md e || Nat.blt e.on k) && condD md ops kf k ok (depX md ops k)

/-- The walk in the order of the text. -/
def wpX (P : Program) (ops : Array Oper) (S : World → Prop) (kf : Nat → Nat) (Q : Act → World → Prop) : Nat → List Oper → Act → World → Prop
  | _, [], a, w => Q a w
  | k, o :: l, a, w => opX P ops S (kf k) o (wpX P ops S kf Q (k + 1) l) a w

theorem lexX_spec (h : lexX md ops kf = true) {k : Nat} {ok : Oper} (hk : ops[k]? = some ok) : ∃ D : Nat → Bool,
    (∀ e ∈ ok.after, Region.binds md e = true → e.on < k) ∧ (∀ j, j < ops.size → D j = true → k ≤ j) ∧
    (∀ j oj, ops[j]? = some oj → D j = true → j ≠ k → ∃ e ∈ oj.after, Region.binds md e = true ∧ D e.on = true) ∧
    (∀ j oj, ops[j]? = some oj → k < j → D j = false → ok.apart ops oj = true ∧ mayX (kf k) (kf j) = true) := by
  have hlt : k < ops.size := (Array.getElem?_eq_some_iff.1 hk).1
  unfold lexX at h
  have h1 := List.all_eq_true.1 h k (List.mem_range.2 hlt)
  simp only [hk, Bool.and_eq_true] at h1
  obtain ⟨hb, hc⟩ := h1
  unfold condD at hc
  refine ⟨fun j => (depX md ops k).testBit j, ?_, ?_, ?_, ?_⟩
  · intro e he hbe
    have := Array.all_eq_true_iff_forall_mem.1 hb e he
    simpa [hbe] using this
  · intro j hj hD
    have := List.all_eq_true.1 hc j (List.mem_range.2 hj)
    rw [if_pos hD] at this
    simp only [Bool.and_eq_true] at this
    simpa using this.1
  · intro j oj hj hD hne
    have := List.all_eq_true.1 hc j (List.mem_range.2 (Array.getElem?_eq_some_iff.1 hj).1)
    rw [if_pos hD] at this
    simp only [Bool.and_eq_true, Bool.or_eq_true, beq_iff_eq, hne, false_or, hj] at this
    obtain ⟨e, he, hx⟩ := Array.any_eq_true'.1 this.2
    simp only [Bool.and_eq_true] at hx
    exact ⟨e, he, hx.1, hx.2⟩
  · intro j oj hj hkj hD
    have := List.all_eq_true.1 hc j (List.mem_range.2 (Array.getElem?_eq_some_iff.1 hj).1)
    have hD' : (depX md ops k).testBit j = false := hD
    rw [if_neg (by rw [hD']; decide)] at this
    have hn : Nat.ble j k = false := by rw [Bool.eq_false_iff]; intro e; have := Nat.le_of_ble_eq_true e; omega
    simp only [hn, Bool.false_or, hj, Bool.and_eq_true] at this
    exact this

theorem anyX_lex {Q : Act → World → Prop} (hs : Region.noSelect ops = true) (hB : lexX md ops kf = true) : ∀ (l : List Oper) (k : Nat) (listed : Array Bool) (a : Act) (w : World), (∀ j, l[j]? = ops[k + j]?) → k + l.length = ops.size →
    listed.size = ops.size → (∀ j, j < ops.size → listed.getD j false = decide (j < k)) → S w → wpX P ops S kf Q k l a w → anyX P md ops S kf Q l.length listed a w
  | [], k, listed, _, _, _, hk, hsz, hl, _, h => by
    refine ⟨?_, h⟩
    rcases hr : Region.ready md ops listed with _ | ⟨j, r⟩
    · rfl
    · obtain ⟨h0, o, ho, _⟩ := mem_ready.1 (by rw [hr]; exact List.mem_cons_self : j ∈ Region.ready md ops listed)
      have hj : j < ops.size := (Array.getElem?_eq_some_iff.1 ho).1
      have h1 := hl j hj
      have e : listed.getD j true = listed.getD j false := by simp [hsz, hj]
      rw [e, h1] at h0
      simp at h0 hk
      omega
  | o :: l, k, listed, a, w, hops, hk, hsz, hl, hS, h => by
    have h0 : ops[k]? = some o := by simpa using (hops 0).symm
    have hkn : k < ops.size := (Array.getElem?_eq_some_iff.1 h0).1
    have same : ∀ j, j < ops.size → listed.getD j true = listed.getD j false := fun j hj => by simp [hsz, hj]
    obtain ⟨D, d1, d2, d3, d4⟩ := lexX_spec hB h0
    have hr : k ∈ Region.ready md ops listed := by
      refine mem_ready.2 ⟨by rw [same k hkn, hl k hkn]; simp, o, h0, fun e he hb => ?_⟩
      have := d1 e he hb
      rw [hl _ (by omega)]
      simpa using this
    refine anyX_first (D := D) h0 (Region.noSelect_spec hs) d3 l.length listed a w hS ?_ ?_ hr ?_
    · intro j hD
      rcases Nat.lt_or_ge j ops.size with hj | hj
      · rw [hl j hj]; have := d2 j hj hD; simp; omega
      · simp [hsz, Nat.not_lt.2 hj]
    · intro j oj hj hne hun hD
      have hjn : j < ops.size := (Array.getElem?_eq_some_iff.1 hj).1
      refine d4 j oj hj ?_ hD
      rw [same j hjn, hl j hjn] at hun
      simp at hun
      omega
    · refine opX_mono hS (fun a' w' hS' h' => anyX_lex hs hB l (k + 1) _ a' w' (fun j => by have := hops (j + 1); simpa [Nat.add_assoc, Nat.add_comm 1 j] using this) (by simp at hk; omega) (by simp [hsz]) ?_ hS' h') h
      intro j hj
      by_cases hjk : k = j
      · subst hjk
        simp [hsz, hj]
      · rw [getD_set_ne false hjk, hl j hj]
        congr 1
        apply propext
        omega

/-! ### The steps of the walk -/
/-- Operations that yield a value or do not end. -/
def plainX (o : Oper) : Bool := match o.op with
  | .move _ | .assign _ | .load _ _ | .binOp _ _ _ _ _ | .unOp _ _ _ | .convert _ _ _ | .slice _ _ _ _ _ | .fieldAddr _ _ _ | .field _ _ _ | .indexAddr _ _ _ | .index _ _ _ | .extract _ _ | .build _ _ | .nilCheck _ => true
  | .call c => match c.callee with
    | .builtin .len | .builtin .min | .builtin .max | .builtin .cap => true
    | _ => false
  | _ => false
/-- The kinds, unless said otherwise: 'ov' has numbers of operations with other kinds. -/
def kindX (l : List Oper) (ld : Nat) (ov : List (Nat × Nat)) (i : Nat) : Nat :=
  match ov.lookup i with
  | some k => k
  | none => match l[i]? with
    | some o => match o.op with
      | .load _ _ => ld
      | _ => if plainX o then 0 else 2
    | none => 2

theorem wp_region_lexS {id : Nat} {Q : Exit → Act → World → Prop} {a : Act} {w : World} {l : List Oper} (S : World → Prop) (ld : Nat) (ov : List (Nat × Nat)) (hm : P.follows .mixedOrders = true)
    (hB : (Region.noSelect l.toArray && lexX .any l.toArray (kindX l ld ov)) = true) (hS : S w.drew)
    (h : wpX P l.toArray S (kindX l ld ov) (Q .normal) 0 l a w.drew) : (Code.region id l.toArray true).wp P Q a w := by
  simp only [Bool.and_eq_true] at hB
  refine wp_region_any hm (any_of_anyX (S := S) (kf := kindX l ld ov) (Q := Q .normal) (fun _ _ h => h) _ _ _ _ hS ?_)
  have := anyX_lex (md := .any) (S := S) (kf := kindX l ld ov) hB.1 hB.2 l 0 (Array.replicate l.length false) a w.drew (by simp) (by simp) (by simp) (by intro j hj; rw [getD_replicate_false]; simp) hS h
  simpa using this
theorem wp_region_lexX {id : Nat} {Q : Exit → Act → World → Prop} {a : Act} {w : World} {l : List Oper} (ov : List (Nat × Nat)) (hm : P.follows .mixedOrders = true)
    (hB : (Region.noSelect l.toArray && lexX .any l.toArray (kindX l 1 ov)) = true)
    (h : wpX P l.toArray (fun _ => True) (kindX l 1 ov) (Q .normal) 0 l a w.drew) : (Code.region id l.toArray true).wp P Q a w :=
  wp_region_lexS (fun _ => True) 1 ov hm hB trivial h

theorem value_of_bind {s : Sem Value} {n : Next} {w w' : World} (h : ((do pure (Next.value (← s))) : Sem Next).run P w = .ok n w') : ∃ v, n = .value v := by
  rw [Sem.run_bind] at h
  generalize s.run P w = r at h
  cases r with
  | ok v w1 => simp only [Result.andThen_ok, Sem.run_pure] at h; injection h with h; exact ⟨v, h.symm⟩
  | halt x w1 => simp [Result.andThen] at h

theorem plain_value {o : Oper} (hp : plainX o = true) {ρ : Operand → Value} {n : Next} {w w' : World} (h : (execOp ρ o).run P w = .ok n w') : ∃ v, n = .value v := by
  obtain ⟨dst, op, type, pos, after, guard⟩ := o
  cases op
  case move x => simp only [execOp, Sem.run_pure] at h; injection h with h; exact ⟨_, h.symm⟩
  case assign x => simp only [execOp, Sem.run_pure] at h; injection h with h; exact ⟨_, h.symm⟩
  case load => exact value_of_bind h
  case binOp => exact value_of_bind h
  case unOp => exact value_of_bind h
  case convert => exact value_of_bind h
  case slice => exact value_of_bind h
  case fieldAddr => exact value_of_bind h
  case field => exact value_of_bind h
  case indexAddr => exact value_of_bind h
  case index => exact value_of_bind h
  case extract => exact value_of_bind h
  case build => exact value_of_bind h
  case nilCheck x =>
    have hpan : (runtimePanic .nilDeref : Sem Next).run P w ≠ .ok n w' := by
      intro he
      simp [runtimePanic, goPanic] at he
    simp only [execOp] at h
    split at h
    · exact absurd h hpan
    · exact absurd h hpan
    · exact absurd h hpan
    · split at h
      · exact absurd h hpan
      · simp only [Sem.run_bind] at h
        revert h
        generalize Sem.run P program w = r1
        intro h
        cases r1 with
        | halt x w1 => simp only [Result.andThen_halt] at h; cases h
        | ok p1 w1 =>
          simp only [Result.andThen_ok] at h
          generalize Sem.run P _ w1 = r2 at h
          cases r2 with
          | halt x w2 => simp only [Result.andThen_halt] at h; cases h
          | ok b w2 =>
            simp only [Result.andThen_ok] at h
            split at h
            · simp [unsupported] at h
            · simp only [Sem.run_pure] at h
              injection h with h
              exact ⟨_, h.symm⟩
      · simp only [Sem.run_pure] at h; injection h with h; exact ⟨_, h.symm⟩
    · simp only [Sem.run_pure] at h; injection h with h; exact ⟨_, h.symm⟩
  case call c =>
    obtain ⟨callee, args, argTypes⟩ := c
    cases callee with
    | builtin b =>
      cases b <;> first | (exact value_of_bind h) | (simp [plainX] at hp; done)
    | value f => exact absurd hp (by simp [plainX])
    | invoke r m => exact absurd hp (by simp [plainX])
  all_goals exact absurd hp (by simp [plainX])

section
variable {Q : Act → World → Prop} {k : Nat} {o : Oper} {l : List Oper} {a : Act} {w : World}
theorem quiet_ok {C : World → Prop} (hp : plainX o = true) {v : Value} {w' : World} (h : o.quietAt P a C w' v) : (execOp a.eval o).run P w' = .ok (.value v) w' := by
  unfold Oper.quietAt at h
  cases hr : (execOp a.eval o).run P w' with
  | halt x w1 => rw [hr] at h; exact (show False from h).elim
  | ok n w1 =>
    obtain ⟨u, rfl⟩ := plain_value hp hr
    rw [hr] at h
    obtain ⟨h1, h2⟩ := h
    rw [h1, h2]

theorem wpX_nil (h : Q a w) : wpX P ops S kf Q k [] a w := h
theorem wpX_skip (hw : Region.wanted o (yielded ops a.tmps) = false) (h : wpX P ops S kf Q (k + 1) l (a.put o.dst undef) w) : wpX P ops S kf Q k (o :: l) a w := by
  show opX P ops S (kf k) o _ a w
  unfold opX effX
  split
  · rw [if_neg (by rw [hw]; decide)]; exact h
  · exact ⟨undef, .inr ⟨hw, rfl⟩, h⟩
theorem wpX_pure (hk : kf k = 0) (hp : plainX o = true) (hw : Region.wanted o (yielded ops a.tmps) = true)
    (h : ∀ K : Act → Prop, (∀ a, wpX P ops S kf Q (k + 1) l a w → K a) → o.quiet P a (fun _ => True) K) : wpX P ops S kf Q k (o :: l) a w := by
  obtain ⟨v, hv, hK⟩ := h _ (fun _ h => h)
  show opX P ops S (kf k) o _ a w
  unfold opX
  rw [hk, if_neg (by decide)]
  exact ⟨v, .inl ⟨hw, fun w' _ => quiet_ok hp (hv w' trivial)⟩, hK⟩
theorem wpX_load (hk : kf k = 1) (hp : plainX o = true) (hw : Region.wanted o (yielded ops a.tmps) = true)
    (h : ∀ K : Act → Prop, (∀ a, wpX P ops S kf Q (k + 1) l a w → K a) → o.quiet P a (fun w' => w' = w) K) : wpX P ops S kf Q k (o :: l) a w := by
  obtain ⟨v, hv, hK⟩ := h _ (fun _ h => h)
  show opX P ops S (kf k) o _ a w
  unfold opX
  rw [hk, if_neg (by decide)]
  refine ⟨v, .inl ⟨hw, fun w' hw' => ?_⟩, hK⟩
  rcases hw' with h0 | rfl
  · exact absurd h0.1 (by decide)
  · exact quiet_ok hp (hv _ rfl)
def endX (K : Act → World → Prop) : Exit → Act → World → Prop
  | .normal, a, w => K a w
  | _, _, _ => False
theorem wp_endX {K : Act → World → Prop} (h : o.wp P a w K (endX K)) : o.wp P a w K noX := by
  unfold Oper.wp at *
  generalize (execOp a.eval o).run P w = r at *
  cases r with
  | ok n w' =>
    cases n <;> simp only [Oper.upon] at h ⊢
    case enter f args => exact Calls.mono h (fun e w'' he => by cases e with | returned v => exact he | panicked c => exact (show False from he).elim | outgrown => obtain ⟨_, _, hf⟩ := he; exact (show False from hf).elim)
    all_goals exact h
  | halt x w' => cases x <;> simp only [Oper.upon] at h ⊢; exact h
theorem wpX_eff (hk : kf k = 2) (hw : Region.wanted o (yielded ops a.tmps) = true)
    (h : ∀ K : Act → World → Prop, (∀ a w, S w → wpX P ops S kf Q (k + 1) l a w → K a w) → wpList P ops (endX K) [o] a w) : wpX P ops S kf Q k (o :: l) a w := by
  have h' := h (fun a w => S w ∧ wpX P ops S kf Q (k + 1) l a w) (fun _ _ hs h => ⟨hs, h⟩)
  show opX P ops S (kf k) o _ a w
  unfold opX effX
  rw [hk, if_pos rfl, if_pos hw]
  unfold wpList at h'
  rw [if_pos hw] at h'
  rcases h' with h' | ⟨_, _, _, hf⟩
  · exact wp_endX h'
  · exact (show False from hf).elim
/-- A load of one cell that holds one value in every world that meets S. -/
theorem wpX_load0 (hk : kf k = 0) (hw : Region.wanted o (yielded ops a.tmps) = true) (t : TypeId) (x : Operand) (ho : o.op = .load t x) (p : Addr) (hx : a.eval x = .pointer (some p)) (d : TypeDesc) (hd : (match d with | .struct _ | .array _ _ => true | _ => false) = false)
    (hu : P.underlying t = some d) (v : Value) (hc : ∀ w', S w' → w'.cell? p = some v) (hS : S w) (h : wpX P ops S kf Q (k + 1) l (a.put o.dst v) w) : wpX P ops S kf Q k (o :: l) a w := by
  show opX P ops S (kf k) o _ a w
  unfold opX
  rw [hk, if_neg (by decide)]
  refine ⟨v, .inl ⟨hw, fun w' hw' => ?_⟩, h⟩
  have hS' : S w' := by rcases hw' with ⟨_, h⟩ | rfl; exact h; exact hS
  have hcell := hc w' hS'
  have hag : (isAgg t).run P w' = .ok false w' := by
    unfold isAgg
    rw [Sem.run_bind, run_underlying hu w']
    cases d <;> simp_all
  unfold execOp
  simp [ho, hx, Instr.loadAt, Instr.sureAddr, loadVar, hag, load, Sem.run, hcell]
end
end
end Go.Proofs.Ytcnhhlnbmliihaa
