/- header.Take (under way). -/
import Derived.Test.YtbofmfocnbennaaHeaderTake
import Derived.Deep.Cut
namespace Go.Proofs.Ytbofmfocnbennaa
open Go.RowKit
set_option linter.unusedVariables false
set_option linter.unusedSimpArgs false

/-- The boxes of header.Take: the text, the result, the header. -/
def St (w : World) (g : Nat) (W : World) (s : ByteArray) (cs : Array Value) : Prop :=
  Blk W g 9 #[.string s] ∧ Blk W (g + 1) 23 #[.int .i64 0, .string ⟨#[]⟩, .int .i64 0, .int .i64 0, .int .i64 0, .string ⟨#[]⟩, .string ⟨#[]⟩] ∧ Blk W (g + 1 + 1) 23 cs ∧ Below g w W
theorem St.box {w W : World} {g : Nat} {s : ByteArray} {cs : Array Value} (h : St w g W s cs) : Blk W g 9 #[.string s] := h.1
theorem St.step {w W w0 : World} {g i : Nat} {s s' : ByteArray} {cs : Array Value} {v : Value} (h : St w g W s cs) (hb : Below W.heap.size W w0) :
    St w g ((w0.setCell ⟨g, 0, none⟩ (.string s')).setCell ⟨g + 1 + 1, i, none⟩ v) s' (cs.setIfInBounds i v) := by
  obtain ⟨h1, h2, h3, h4⟩ := h
  have l1 := h1.lt
  have l2 := h2.lt
  have l3 := h3.lt
  refine ⟨((h1.below hb l1).set_ 0 (.string s')).far (by show g ≠ g + 1 + 1; omega) _, ((h2.below hb l2).far (by show g + 1 ≠ g; omega) _).far (by show g + 1 ≠ g + 1 + 1; omega) _, ((h3.below hb l3).far (by show g + 1 + 1 ≠ g; omega) _).set_ i v, ?_⟩
  exact ((h4.trans (hb.mono (by omega))).setCell (p := ⟨g, 0, none⟩) (Nat.le_refl _) _).setCell (p := ⟨g + 1 + 1, i, none⟩) (by show g ≤ g + 1 + 1; omega) _
theorem St.ready {w W w0 : World} {g i : Nat} {s s' : ByteArray} {cs : Array Value} {u : Value} (h : St w g W s cs) (hb : Below W.heap.size W w0) (hu : cs[i]? = some u) :
    (w0.setCell ⟨g, 0, none⟩ (.string s')).cell? ⟨g + 1 + 1, i, none⟩ = some u ∧ (w0.setCell ⟨g, 0, none⟩ (.string s')).frozen? ⟨g + 1 + 1, i, none⟩ = false := by
  obtain ⟨h1, h2, h3, h4⟩ := h
  have q : Blk (w0.setCell ⟨g, 0, none⟩ (.string s')) (g + 1 + 1) 23 cs := (h3.below hb h3.lt).far (by show g + 1 + 1 ≠ g; omega) _
  exact ⟨(q.cell i).trans hu, q.frozen i⟩

theorem cnum4 (g : Nat) (s : ByteArray) (w : World) (hs : 4 ≤ s.size) (hs2 : s.size ≤ 1000) (hg : Blk w g 9 #[.string s]) :
    Calls Try.prog 36 #[.int .i64 4, .pointer (some ⟨g, 0, none⟩)] w fun e w' => e = .returned (.int .i64 (num s 4 : Int)) ∧ ∃ w0, Below w.heap.size w w0 ∧ w' = w0.setCell ⟨g, 0, none⟩ (.string (s.extract 4 s.size)) := cnum g s 4 w (by omega) (by omega) hs hs2 hg
theorem cnum2 (g : Nat) (s : ByteArray) (w : World) (hs : 2 ≤ s.size) (hs2 : s.size ≤ 1000) (hg : Blk w g 9 #[.string s]) :
    Calls Try.prog 36 #[.int .i64 2, .pointer (some ⟨g, 0, none⟩)] w fun e w' => e = .returned (.int .i64 (num s 2 : Int)) ∧ ∃ w0, Below w.heap.size w w0 ∧ w' = w0.setCell ⟨g, 0, none⟩ (.string (s.extract 2 s.size)) := cnum g s 2 w (by omega) (by omega) hs hs2 hg
theorem ctext16 (g : Nat) (s : ByteArray) (w : World) (hs : 16 ≤ s.size) (hs2 : s.size ≤ 1000) (hg : Blk w g 9 #[.string s]) :
    Calls Try.prog 38 #[.int .i64 16, .pointer (some ⟨g, 0, none⟩)] w fun e w' => e = .returned (.string (s.extract 0 16)) ∧ w' = w.setCell ⟨g, 0, none⟩ (.string (s.extract 16 s.size)) := ctext g s 16 w hs hs2 hg
theorem ctext32 (g : Nat) (s : ByteArray) (w : World) (hs : 32 ≤ s.size) (hs2 : s.size ≤ 1000) (hg : Blk w g 9 #[.string s]) :
    Calls Try.prog 38 #[.int .i64 32, .pointer (some ⟨g, 0, none⟩)] w fun e w' => e = .returned (.string (s.extract 0 32)) ∧ w' = w.setCell ⟨g, 0, none⟩ (.string (s.extract 32 s.size)) := ctext g s 32 w hs hs2 hg
/-- A result in a box, and one in a slot. -/
theorem results_box {P : Program} {fn : Func} {p u : Tmp} {ty : TypeId} (h : fn.results = #[.cell p ty, .tmp u]) (tmps : Array Value) (w : World) (g : Nat) (t : TypeId) (cs : Array Value) (d : TypeDesc)
    (hp : tmps.getD p undef = .pointer (some ⟨g, 0, none⟩)) (hg : Blk w g t cs) (hu : P.underlying ty = some d) (hd : (match d with | .struct _ | .array _ _ => true | _ => false) = true) (hi : (P.info? ty).map (·.size) = some cs.size) :
    (results fn tmps).run P w = .ok (.tuple #[.agg cs, tmps.getD u undef]) w := by
  have hp' : tmps[p]?.getD undef = .pointer (some ⟨g, 0, none⟩) := by simpa using hp
  rw [results_cell_tmp h]
  simp [hp', asAddr, run_loadVar_row w g t ty cs (0, 0) d hg hu hd hi]

set_option maxRecDepth 100000 in
theorem cHTake_bad (s : ByteArray) (w : World) (h : ¬ (s.size : Int) = 98 ∨ ((s.size : Int) = 98 ∧ ((s.extract 0 4).toList == [83, 76, 71, 49]) = false)) :
    Calls Try.prog 15 #[.string s] w fun e w' => e = .returned (.tuple #[.agg #[.int .i64 0, .string ⟨#[]⟩, .int .i64 0, .int .i64 0, .int .i64 0, .string ⟨#[]⟩, .string ⟨#[]⟩], .int .i64 2]) ∧ Below w.heap.size w w' := by
  rcases h with h1 | ⟨h1, h2⟩
  · have e1 : ((s.size : Int) == 98) = false := by simp; omega
    go_enter Try.func15, Try.ntmps15
    go_wp2_with fail
    refine bodyPost_ret (results_box rfl _ _ (w.heap.size + 1) 23 #[.int .i64 0, .string ⟨#[]⟩, .int .i64 0, .int .i64 0, .int .i64 0, .string ⟨#[]⟩, .string ⟨#[]⟩] _ rfl (by have := Blk.new (w.alloc (.cells #[.string s] 9)) 23 #[.int .i64 0, .string ⟨#[]⟩, .int .i64 0, .int .i64 0, .int .i64 0, .string ⟨#[]⟩, .string ⟨#[]⟩]; simpa using this) Try.underlying23 rfl header_size) rfl ⟨rfl, ((Below.refl _ _).alloc (Nat.le_refl _) _).alloc (by simp) _⟩
  · have e1 : ((s.size : Int) == 98) = true := by simp; omega
    go_enter Try.func15, Try.ntmps15
    go_wp2_with fail
    refine bodyPost_ret (results_box rfl _ _ (w.heap.size + 1) 23 #[.int .i64 0, .string ⟨#[]⟩, .int .i64 0, .int .i64 0, .int .i64 0, .string ⟨#[]⟩, .string ⟨#[]⟩] _ rfl (by have := Blk.new (w.alloc (.cells #[.string s] 9)) 23 #[.int .i64 0, .string ⟨#[]⟩, .int .i64 0, .int .i64 0, .int .i64 0, .string ⟨#[]⟩, .string ⟨#[]⟩]; simpa using this) Try.underlying23 rfl header_size) rfl ⟨rfl, ((Below.refl _ _).alloc (Nat.le_refl _) _).alloc (by simp) _⟩
def rst (s : ByteArray) (k : Nat) : ByteArray := s.extract k s.size
/-- The header that bytes tell. -/
def took (s : ByteArray) : Hd :=
  ⟨num (rst s 4) 4, (rst (rst s 4) 4).extract 0 16, num (rst (rst (rst s 4) 4) 16) 2, num (rst (rst (rst (rst s 4) 4) 16) 2) 4, num (rst (rst (rst (rst (rst s 4) 4) 16) 2) 4) 4,
    (rst (rst (rst (rst (rst (rst s 4) 4) 16) 2) 4) 4).extract 0 32, (rst (rst (rst (rst (rst (rst (rst s 4) 4) 16) 2) 4) 4) 32).extract 0 32⟩

set_option maxRecDepth 100000 in
set_option maxHeartbeats 4000000 in
theorem cHTake_good (s : ByteArray) (w : World) (h1 : (s.size : Int) = 98) (h2 : ((s.extract 0 4).toList == [83, 76, 71, 49]) = true) (e : Int) (h0 : Hd)
    (hcase : ((took s).may ∧ e = 0 ∧ h0 = took s) ∨ (¬ (took s).may ∧ e = 2 ∧ h0 = ⟨0, ⟨#[]⟩, 0, 0, 0, ⟨#[]⟩, ⟨#[]⟩⟩)) :
    Calls Try.prog 15 #[.string s] w fun e' w' => e' = .returned (.tuple #[.agg #[.int .i64 h0.id, .string h0.salt, .int .i64 h0.n, .int .i64 h0.bytes, .int .i64 h0.raw, .string h0.root, .string h0.tag], .int .i64 e]) ∧ Below w.heap.size w w' := by
  obtain ⟨s1, S1⟩ : ∃ x, Hid (s.extract 4 s.size = x) := ⟨_, Lib.hid rfl⟩
  have z1 : s1.size = 94 := by rw [← S1.out]; simp; omega
  obtain ⟨s2, S2⟩ : ∃ x, Hid (s1.extract 4 s1.size = x) := ⟨_, Lib.hid rfl⟩
  have z2 : s2.size = 90 := by rw [← S2.out]; simp; omega
  obtain ⟨s3, S3⟩ : ∃ x, Hid (s2.extract 16 s2.size = x) := ⟨_, Lib.hid rfl⟩
  have z3 : s3.size = 74 := by rw [← S3.out]; simp; omega
  obtain ⟨s4, S4⟩ : ∃ x, Hid (s3.extract 2 s3.size = x) := ⟨_, Lib.hid rfl⟩
  have z4 : s4.size = 72 := by rw [← S4.out]; simp; omega
  obtain ⟨s5, S5⟩ : ∃ x, Hid (s4.extract 4 s4.size = x) := ⟨_, Lib.hid rfl⟩
  have z5 : s5.size = 68 := by rw [← S5.out]; simp; omega
  obtain ⟨s6, S6⟩ : ∃ x, Hid (s5.extract 4 s5.size = x) := ⟨_, Lib.hid rfl⟩
  have z6 : s6.size = 64 := by rw [← S6.out]; simp; omega
  obtain ⟨s7, S7⟩ : ∃ x, Hid (s6.extract 32 s6.size = x) := ⟨_, Lib.hid rfl⟩
  have z7 : s7.size = 32 := by rw [← S7.out]; simp; omega
  obtain ⟨s8, S8⟩ : ∃ x, Hid (s7.extract 32 s7.size = x) := ⟨_, Lib.hid rfl⟩
  have z8 : s8.size = 0 := by rw [← S8.out]; simp; omega
  obtain ⟨x1, X1⟩ : ∃ x, Hid (s2.extract 0 16 = x) := ⟨_, Lib.hid rfl⟩
  obtain ⟨x2, X2⟩ : ∃ x, Hid (s6.extract 0 32 = x) := ⟨_, Lib.hid rfl⟩
  obtain ⟨x3, X3⟩ : ∃ x, Hid (s7.extract 0 32 = x) := ⟨_, Lib.hid rfl⟩
  have HT : Hid (took s = ⟨num s1 4, x1, num s3 2, num s4 4, num s5 4, x2, x3⟩) := by
    apply Lib.hid
    rw [← X1.out, ← X2.out, ← X3.out, ← S7.out, ← S6.out, ← S5.out, ← S4.out, ← S3.out, ← S2.out, ← S1.out]
    rfl
  have Z1 := Lib.hid z1
  have Z2 := Lib.hid z2
  have Z3 := Lib.hid z3
  have Z4 := Lib.hid z4
  have Z5 := Lib.hid z5
  have Z6 := Lib.hid z6
  have Z7 := Lib.hid z7
  have Z8 := Lib.hid z8
  clear z1 z2 z3 z4 z5 z6 z7 z8
  rw [HT.out] at hcase
  have HCs := Lib.hid hcase
  clear hcase
  go_enter Try.func15, Try.ntmps15
  go_wp2_with fail
  rw [S1.out]
  have hSt : St w w.heap.size (((w.alloc (.cells #[.string s1] 9)).alloc (.cells #[.int .i64 0, .string ⟨#[]⟩, .int .i64 0, .int .i64 0, .int .i64 0, .string ⟨#[]⟩, .string ⟨#[]⟩] 23)).alloc (.cells #[.int .i64 0, .string ⟨#[]⟩, .int .i64 0, .int .i64 0, .int .i64 0, .string ⟨#[]⟩, .string ⟨#[]⟩] 23)) s1 #[.int .i64 0, .string ⟨#[]⟩, .int .i64 0, .int .i64 0, .int .i64 0, .string ⟨#[]⟩, .string ⟨#[]⟩] := by
    refine ⟨((Blk.new _ _ _).alloc _).alloc _, ?_, ?_, ?_⟩
    · have := (Blk.new (w.alloc (.cells #[.string s1] 9)) 23 #[.int .i64 0, .string ⟨#[]⟩, .int .i64 0, .int .i64 0, .int .i64 0, .string ⟨#[]⟩, .string ⟨#[]⟩]).alloc (.cells #[.int .i64 0, .string ⟨#[]⟩, .int .i64 0, .int .i64 0, .int .i64 0, .string ⟨#[]⟩, .string ⟨#[]⟩] 23)
      simpa using this
    · have := Blk.new ((w.alloc (.cells #[.string s1] 9)).alloc (.cells #[.int .i64 0, .string ⟨#[]⟩, .int .i64 0, .int .i64 0, .int .i64 0, .string ⟨#[]⟩, .string ⟨#[]⟩] 23)) 23 #[.int .i64 0, .string ⟨#[]⟩, .int .i64 0, .int .i64 0, .int .i64 0, .string ⟨#[]⟩, .string ⟨#[]⟩]
      simpa using this
    · exact (((Below.refl _ _).alloc (Nat.le_refl _) _).alloc (by simp) _).alloc (by simp; omega) _
  (with_reducible refine (cnum4 _ s1 _ (by have := Z1.out; omega) (by have := Z1.out; omega) hSt.box).mono ?_); rw [S2.out]; rintro e' w' ⟨rfl, w10, hb, rfl⟩
  obtain ⟨c1, f1⟩ := hSt.ready (i := 0) (s' := s2) hb rfl
  replace hSt := hSt.step (i := 0) (s' := s2) (v := .int .i64 (num s1 4)) hb
  clear hb
  go_wp2_with fail
  clear c1 f1
  (with_reducible refine (ctext16 _ s2 _ (by have := Z2.out; omega) (by have := Z2.out; omega) hSt.box).mono ?_); rw [S3.out, X1.out]; rintro e' w' ⟨rfl, rfl⟩
  obtain ⟨c2, f2⟩ := hSt.ready (i := 1) (s' := s3) (Below.refl _ _) rfl
  replace hSt := hSt.step (i := 1) (s' := s3) (v := .string x1) (Below.refl _ _)
  go_wp2_with fail
  clear c2 f2
  (with_reducible refine (cnum2 _ s3 _ (by have := Z3.out; omega) (by have := Z3.out; omega) hSt.box).mono ?_); rw [S4.out]; rintro e' w' ⟨rfl, w30, hb, rfl⟩
  obtain ⟨c3, f3⟩ := hSt.ready (i := 2) (s' := s4) hb rfl
  replace hSt := hSt.step (i := 2) (s' := s4) (v := .int .i64 (num s3 2)) hb
  clear hb
  go_wp2_with fail
  clear c3 f3
  (with_reducible refine (cnum4 _ s4 _ (by have := Z4.out; omega) (by have := Z4.out; omega) hSt.box).mono ?_); rw [S5.out]; rintro e' w' ⟨rfl, w40, hb, rfl⟩
  obtain ⟨c4, f4⟩ := hSt.ready (i := 3) (s' := s5) hb rfl
  replace hSt := hSt.step (i := 3) (s' := s5) (v := .int .i64 (num s4 4)) hb
  clear hb
  go_wp2_with fail
  clear c4 f4
  (with_reducible refine (cnum4 _ s5 _ (by have := Z5.out; omega) (by have := Z5.out; omega) hSt.box).mono ?_); rw [S6.out]; rintro e' w' ⟨rfl, w50, hb, rfl⟩
  obtain ⟨c5, f5⟩ := hSt.ready (i := 4) (s' := s6) hb rfl
  replace hSt := hSt.step (i := 4) (s' := s6) (v := .int .i64 (num s5 4)) hb
  clear hb
  go_wp2_with fail
  clear c5 f5
  (with_reducible refine (ctext32 _ s6 _ (by have := Z6.out; omega) (by have := Z6.out; omega) hSt.box).mono ?_); rw [S7.out, X2.out]; rintro e' w' ⟨rfl, rfl⟩
  obtain ⟨c6, f6⟩ := hSt.ready (i := 5) (s' := s7) (Below.refl _ _) rfl
  replace hSt := hSt.step (i := 5) (s' := s7) (v := .string x2) (Below.refl _ _)
  go_wp2_with fail
  clear c6 f6
  (with_reducible refine (ctext32 _ s7 _ (by have := Z7.out; omega) (by have := Z7.out; omega) hSt.box).mono ?_); rw [S8.out, X3.out]; rintro e' w' ⟨rfl, rfl⟩
  obtain ⟨c7, f7⟩ := hSt.ready (i := 6) (s' := s8) (Below.refl _ _) rfl
  replace hSt := hSt.step (i := 6) (s' := s8) (v := .string x3) (Below.refl _ _)
  simp only [List.setIfInBounds_toArray, List.set_cons_zero, List.set_cons_succ] at hSt
  obtain ⟨hG, hR, hH, hB⟩ := hSt
  go_upto_region 14 with (fail)
  obtain ⟨WW, HWW⟩ : ∃ x, Hid ((((((w50.setCell ⟨w.heap.size, 0, none⟩ (.string s6)).setCell ⟨w.heap.size + 1 + 1, 4, none⟩ (.int .i64 (num s5 4 : Int))).setCell ⟨w.heap.size, 0, none⟩ (.string s7)).setCell ⟨w.heap.size + 1 + 1, 5, none⟩ (.string x2)).setCell ⟨w.heap.size, 0, none⟩ (.string s8)).setCell ⟨w.heap.size + 1 + 1, 6, none⟩ (.string x3) = x) := ⟨_, Lib.hid rfl⟩
  rw [HWW.out] at hR hH hB ⊢
  have hHs := hB.size
  clear hG c7 f7
  go_wp2_with ((refine wpList_load_row (o := ⟨some 41, _, _, _, _, _⟩) rfl 23 (.tmp 4) rfl (w.heap.size + 1 + 1) rfl 23 #[.int .i64 (num s1 4), .string x1, .int .i64 (num s3 2), .int .i64 (num s4 4), .int .i64 (num s5 4), .string x2, .string x3] (0, 0) _ hH Try.underlying23 rfl header_size ?_); simp only [Act.put, List.setIfInBounds_toArray, List.set_cons_zero, List.set_cons_succ])
  rcases HCs.out with ⟨hm, rfl, rfl⟩ | ⟨hm, rfl, rfl⟩
  · have HM := Lib.hid hm
    clear hm HCs
    (with_reducible refine (cCheck_yes ⟨num s1 4, x1, num s3 2, num s4 4, num s5 4, x2, x3⟩ _ HM.out).mono ?_); rintro e' w' ⟨rfl, hb⟩
    have hH1 := hH.below hb hH.lt
    have hR1 := hR.below hb hR.lt
    have hB1 := hB.trans (hb.mono hHs)
    clear hH hR hB hb
    go_wp2_with (first
      | ((refine wpList_load_row (o := ⟨some 45, _, _, _, _, _⟩) rfl 23 (.tmp 4) rfl (w.heap.size + 1 + 1) rfl 23 #[.int .i64 (num s1 4), .string x1, .int .i64 (num s3 2), .int .i64 (num s4 4), .int .i64 (num s5 4), .string x2, .string x3] (0, 0) _ hH1 Try.underlying23 rfl header_size ?_); simp only [Act.put, List.setIfInBounds_toArray, List.set_cons_zero, List.set_cons_succ])
      | ((refine wpList_store_blk rfl 23 (.tmp 2) (.tmp 45) rfl (w.heap.size + 1) #[.int .i64 (num s1 4), .string x1, .int .i64 (num s3 2), .int .i64 (num s4 4), .int .i64 (num s5 4), .string x2, .string x3] _ 23 rfl rfl hR1 header_size rfl (by intro v hv; simp at hv; rcases hv with rfl | rfl | rfl | rfl | rfl | rfl | rfl <;> rfl) ?_); simp only [Act.put, List.setIfInBounds_toArray, List.set_cons_zero, List.set_cons_succ]))
    refine bodyPost_ret (results_box rfl _ _ (w.heap.size + 1) 23 _ _ rfl (hR1.row _) Try.underlying23 rfl header_size) rfl ⟨rfl, below_row hB1 (by omega) _⟩
  · have HM := Lib.hid hm
    clear hm HCs
    (with_reducible refine (cCheck_no ⟨num s1 4, x1, num s3 2, num s4 4, num s5 4, x2, x3⟩ _ HM.out).mono ?_); rintro e' w' ⟨rfl, hb⟩
    have hR1 := hR.below hb hR.lt
    have hB1 := hB.trans (hb.mono hHs)
    clear hH hR hB hb
    go_wp2_with ((refine wpList_store_blk rfl 23 (.tmp 2) (.tmp 44) rfl (w.heap.size + 1) #[.int .i64 0, .string ⟨#[]⟩, .int .i64 0, .int .i64 0, .int .i64 0, .string ⟨#[]⟩, .string ⟨#[]⟩] _ 23 rfl rfl hR1 header_size rfl (by intro v hv; simp at hv; rcases hv with rfl | rfl | rfl | rfl | rfl | rfl | rfl <;> rfl) ?_); simp only [Act.put, List.setIfInBounds_toArray, List.set_cons_zero, List.set_cons_succ])
    refine bodyPost_ret (results_box rfl _ _ (w.heap.size + 1) 23 _ _ rfl (hR1.row _) Try.underlying23 rfl header_size) rfl ⟨rfl, below_row hB1 (by omega) _⟩
end Go.Proofs.Ytbofmfocnbennaa
