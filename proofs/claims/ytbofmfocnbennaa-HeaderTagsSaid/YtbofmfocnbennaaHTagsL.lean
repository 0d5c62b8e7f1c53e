/- The law HeaderTags, walked. -/
import Derived.Test.YtbofmfocnbennaaHSignsL
import Derived.Test.YtbofmfocnbennaaAnd
import Derived.Test.YtbofmfocnbennaaApp1
namespace Go.Proofs.Ytbofmfocnbennaa
open Go.RowKit
set_option linter.unusedVariables false
set_option linter.unusedSimpArgs false

/-- A text of which one byte is turned. -/
def turnB (s : ByteArray) (j : Nat) (z : UInt8) : ByteArray := str (s.data.toList.set j (s.data.toList.getD j 0 ^^^ z))
theorem turnB_size (s : ByteArray) (j : Nat) (z : UInt8) : (turnB s j z).size = s.size := by unfold turnB; rw [str_size, List.length_set, data_length]
theorem turnB_ne (s : ByteArray) (j : Nat) (z : UInt8) (hj : j < s.size) (hz : z ≠ 0) : ¬ s = turnB s j z := by
  intro e
  have h1 := congrArg (fun x : ByteArray => x.data.toList.getD j 0) e
  have hl : j < s.data.toList.length := by rw [data_length]; exact hj
  unfold turnB at h1
  try dsimp only at h1
  rw [bytes_str] at h1
  simp only [List.getD_eq_getElem?_getD, List.getElem?_set_self hl, List.getElem?_eq_getElem hl, Option.getD_some] at h1
  apply hz
  have h2 : s.data.toList[j] ^^^ s.data.toList[j] = s.data.toList[j] ^^^ (s.data.toList[j] ^^^ z) := congrArg _ h1
  rw [UInt8.xor_self, ← UInt8.xor_assoc, UInt8.xor_self, UInt8.zero_xor] at h2
  exact h2.symm
/-- One of whose tag a byte is turned is not verified. -/
theorem verify_turned (key : ByteArray) (h : Hd) (N : ByteArray) (hk : key.size ≤ 1000000) (hN : ¬ htag key h = N) : ((∀ W : World, Calls Try.prog 23 #[.string key, .agg #[.int .i64 h.id, .string h.salt, .int .i64 h.n, .int .i64 h.bytes, .int .i64 h.raw, .string h.root, .string N]] W fun e w' => e = .returned (.int .i64 4) ∧ Below W.heap.size W w') ∧ (∀ W : World, Calls Try.prog 25 #[.agg #[.int .i64 h.id, .string h.salt, .int .i64 h.n, .int .i64 h.bytes, .int .i64 h.raw, .string h.root, .string N]] W fun e w' => e = .returned (.bool true) ∧ Below W.heap.size W w')) ∨
    ((∀ W : World, Calls Try.prog 23 #[.string key, .agg #[.int .i64 h.id, .string h.salt, .int .i64 h.n, .int .i64 h.bytes, .int .i64 h.raw, .string h.root, .string N]] W fun e w' => e = .returned (.int .i64 1) ∧ Below W.heap.size W w') ∧ (∀ W : World, Calls Try.prog 25 #[.agg #[.int .i64 h.id, .string h.salt, .int .i64 h.n, .int .i64 h.bytes, .int .i64 h.raw, .string h.root, .string N]] W fun e w' => e = .returned (.bool false) ∧ Below W.heap.size W w')) := by
  by_cases hm : (⟨h.id, h.salt, h.n, h.bytes, h.raw, h.root, N⟩ : Hd).may
  · have e : htag key (⟨h.id, h.salt, h.n, h.bytes, h.raw, h.root, N⟩ : Hd) = htag key h := htag_of key _ _ (by unfold Hd.fields; rfl)
    have a1 := fun W => cVerify_yes key (⟨h.id, h.salt, h.n, h.bytes, h.raw, h.root, N⟩ : Hd) W hk hm
    have a2 := fun W => cMay_yes (⟨h.id, h.salt, h.n, h.bytes, h.raw, h.root, N⟩ : Hd) W hm
    rw [e] at a1
    dsimp only at a1 a2
    simp only [if_neg hN] at a1
    exact .inl ⟨a1, a2⟩
  · have a1 := fun W => cVerify_no key (⟨h.id, h.salt, h.n, h.bytes, h.raw, h.root, N⟩ : Hd) W hm
    have a2 := fun W => cMay_no (⟨h.id, h.salt, h.n, h.bytes, h.raw, h.root, N⟩ : Hd) W hm
    dsimp only at a1 a2
    exact .inr ⟨a1, a2⟩
set_option maxRecDepth 100000 in
set_option maxHeartbeats 8000000 in
theorem headerTags_walk (key : ByteArray) (hkey : key.size ≤ reachBytes) (h : Hd) (at_ : Int) (hat : (Lit.int .i64 at_).wf = true) (by_ : Int) (hby : (Lit.int .u8 by_).wf = true) {w : World} :
    Calls Try.prog 6 #[.string key, .agg #[.int .i64 h.id, .string h.salt, .int .i64 h.n, .int .i64 h.bytes, .int .i64 h.raw, .string h.root, .string h.tag], .int .i64 at_, .int .u8 by_] w fun e w' => e = .returned (.bool true) ∧ Below w.heap.size w w' := by
  have hci := wf_byte hby
  obtain ⟨z, rfl⟩ : ∃ c : UInt8, by_ = ((c.toNat : Nat) : Int) := ⟨UInt8.ofNat by_.toNat, by simp; omega⟩
  clear hci hby hat
  have hS := Blk.new w 23 #[.int .i64 h.id, .string h.salt, .int .i64 h.n, .int .i64 h.bytes, .int .i64 h.raw, .string h.root, .string h.tag]
  have hB : Below w.heap.size w (w.alloc (.cells #[.int .i64 h.id, .string h.salt, .int .i64 h.n, .int .i64 h.bytes, .int .i64 h.raw, .string h.root, .string h.tag] 23)) := (Below.refl _ _).alloc (Nat.le_refl _) _
  have hsr : key.size ≤ 140737488355328 := Nat.le_trans hkey (by decide)
  clear hkey
  by_cases hl : h.light
  · have hsalt : h.salt.size ≤ 1000 := by have := hl.1; omega
    have hroot : h.root.size ≤ 1000 := by have := hl.2.1; omega
    have HL := Lib.hid hl
    clear hl
    by_cases h1000 : key.size ≤ 1000
    · have hsI : (key.size : Int) ≤ 1000 := by omega
      have hsD : decide ((1000 : Int) < (key.size : Int)) = false := decide_eq_false (by omega)
      have c0 : (w.alloc (.cells #[.int .i64 h.id, .string h.salt, .int .i64 h.n, .int .i64 h.bytes, .int .i64 h.raw, .string h.root, .string h.tag] 23)).cell? ⟨w.heap.size, 0, none⟩ = some (.int .i64 h.id) := (hS.cell 0).trans rfl
      have c1 : (w.alloc (.cells #[.int .i64 h.id, .string h.salt, .int .i64 h.n, .int .i64 h.bytes, .int .i64 h.raw, .string h.root, .string h.tag] 23)).cell? ⟨w.heap.size, 1, none⟩ = some (.string h.salt) := (hS.cell 1).trans rfl
      have c2 : (w.alloc (.cells #[.int .i64 h.id, .string h.salt, .int .i64 h.n, .int .i64 h.bytes, .int .i64 h.raw, .string h.root, .string h.tag] 23)).cell? ⟨w.heap.size, 2, none⟩ = some (.int .i64 h.n) := (hS.cell 2).trans rfl
      have c3 : (w.alloc (.cells #[.int .i64 h.id, .string h.salt, .int .i64 h.n, .int .i64 h.bytes, .int .i64 h.raw, .string h.root, .string h.tag] 23)).cell? ⟨w.heap.size, 3, none⟩ = some (.int .i64 h.bytes) := (hS.cell 3).trans rfl
      have c4 : (w.alloc (.cells #[.int .i64 h.id, .string h.salt, .int .i64 h.n, .int .i64 h.bytes, .int .i64 h.raw, .string h.root, .string h.tag] 23)).cell? ⟨w.heap.size, 4, none⟩ = some (.int .i64 h.raw) := (hS.cell 4).trans rfl
      have c5 : (w.alloc (.cells #[.int .i64 h.id, .string h.salt, .int .i64 h.n, .int .i64 h.bytes, .int .i64 h.raw, .string h.root, .string h.tag] 23)).cell? ⟨w.heap.size, 5, none⟩ = some (.string h.root) := (hS.cell 5).trans rfl
      have c6 : (w.alloc (.cells #[.int .i64 h.id, .string h.salt, .int .i64 h.n, .int .i64 h.bytes, .int .i64 h.raw, .string h.root, .string h.tag] 23)).cell? ⟨w.heap.size, 6, none⟩ = some (.string h.tag) := (hS.cell 6).trans rfl
      by_cases hz : z = 0
      · subst hz
        have hz0 : (((UInt8.toNat 0 : Nat) : Int) == 0) = true := by decide
        go_enter Try.func6, Try.ntmps6
        go_wp2_with fail
        (with_reducible refine (clight_yes h _ HL.out).mono ?_); rintro e w1 ⟨rfl, hb⟩
        replace hB := hB.trans (hb.mono hB.size)
        clear hb c0 c1 c2 c3 c4 c5 c6
        go_wp2_with fail
        (with_reducible refine (cAwake18 _).mono ?_); rintro e w2 ⟨rfl, hb⟩
        go_wp2_with fail
        go_ret
        exact ⟨rfl, hB.trans (hb.mono hB.size)⟩
      have hzn : ((z.toNat : Int) == 0) = false := by
        have : z.toNat ≠ 0 := fun e => hz (UInt8.toNat_inj.1 e)
        simp; omega
      have hzs := htag_size key h
      have hand : bits .and .i64 at_ 31 = ((at_ % 32).toNat : Int) := by
        rw [bits_and_mask 5 (by decide) at_ 31 (by decide)]
        have := Int.emod_nonneg at_ (show (32 : Int) ≠ 0 by decide)
        have e : ((2 ^ 5 : Nat) : Int) = 32 := by decide
        rw [e]; omega
      have hj : (at_ % 32).toNat < 32 := by have := Int.emod_lt_of_pos at_ (show (0 : Int) < 32 by decide); omega
      obtain ⟨j, HJ⟩ : ∃ x, Hid ((at_ % 32).toNat = x) := ⟨_, Lib.hid rfl⟩
      rw [HJ.out] at hand hj
      have k1 := fun W => cSign key h W (by omega) hsalt hroot
      have sg := verify_turned key h (turnB (htag key h) j z) (by omega) (turnB_ne _ j z (by omega) hz)
      obtain ⟨G, HGG⟩ : ∃ x, Hid (htag key h = x) := ⟨_, Lib.hid rfl⟩
      simp only [HGG.out] at k1 sg
      rw [HGG.out] at hzs
      have htn : turnB G j z = str (G.data.toList.set j (G.data.toList.getD j 0 ^^^ z)) := rfl
      obtain ⟨N, HNN⟩ : ∃ x, Hid (turnB G j z = x) := ⟨_, Lib.hid rfl⟩
      simp only [HNN.out] at sg
      rw [HNN.out] at htn
      have hgl : G.data.toList.length = 32 := by rw [data_length]; exact hzs
      obtain ⟨x, HX⟩ : ∃ x, Hid (G.data.toList.getD j 0 = x) := ⟨_, Lib.hid rfl⟩
      rw [HX.out] at htn
      have hxor := b_xor8 x z
      have hxI : ((G.size : Int) != 32) = false := by simp; omega
      obtain ⟨y, HY⟩ : ∃ y, Hid (x ^^^ z = y) := ⟨_, Lib.hid rfl⟩
      rw [HY.out] at htn hxor
      have hjI : (j : Int) < 32 := by omega
      have K1 := Lib.hid k1
      have SG := Lib.hid sg
      have HTN := Lib.hid htn
      have ONEG := Lib.hid (hd_one ⟨h.id, h.salt, h.n, h.bytes, h.raw, h.root, G⟩)
      clear k1 sg hsalt hroot htn
      go_enter Try.func6, Try.ntmps6
      go_wp2_with fail
      (with_reducible refine (clight_yes h _ HL.out).mono ?_); rintro e w1 ⟨rfl, hb⟩
      replace hS := hS.below hb hS.lt
      replace hB := hB.trans (hb.mono hB.size)
      clear hb c0 c1 c2 c3 c4 c5 c6
      have c0 : w1.cell? ⟨w.heap.size, 0, none⟩ = some (.int .i64 h.id) := (hS.cell 0).trans rfl
      have c1 : w1.cell? ⟨w.heap.size, 1, none⟩ = some (.string h.salt) := (hS.cell 1).trans rfl
      have c2 : w1.cell? ⟨w.heap.size, 2, none⟩ = some (.int .i64 h.n) := (hS.cell 2).trans rfl
      have c3 : w1.cell? ⟨w.heap.size, 3, none⟩ = some (.int .i64 h.bytes) := (hS.cell 3).trans rfl
      have c4 : w1.cell? ⟨w.heap.size, 4, none⟩ = some (.int .i64 h.raw) := (hS.cell 4).trans rfl
      have c5 : w1.cell? ⟨w.heap.size, 5, none⟩ = some (.string h.root) := (hS.cell 5).trans rfl
      have c6 : w1.cell? ⟨w.heap.size, 6, none⟩ = some (.string h.tag) := (hS.cell 6).trans rfl
      go_wp2_with fail
      (with_reducible refine (K1.out _).mono ?_); rintro e w2 ⟨rfl, hb⟩
      replace hB := hB.trans (hb.mono hB.size)
      clear hb hS c0 c1 c2 c3 c4 c5 c6
      have q5 := Blk.new w2 23 #[.int .i64 h.id, .string h.salt, .int .i64 h.n, .int .i64 h.bytes, .int .i64 h.raw, .string h.root, .string G]
      have hB5 := hB.alloc hB.size (.cells #[.int .i64 h.id, .string h.salt, .int .i64 h.n, .int .i64 h.bytes, .int .i64 h.raw, .string h.root, .string G] 23)
      have hgw : w.heap.size ≤ w2.heap.size := hB.size
      obtain ⟨c3, w3, hc3, hcv, hR, hb3⟩ := conv_rowM G (w2.alloc (.cells #[.int .i64 h.id, .string h.salt, .int .i64 h.n, .int .i64 h.bytes, .int .i64 h.raw, .string h.root, .string G] 23))
      obtain ⟨gb, cap, he, hlc, hbg, hTx⟩ := hR.form
      injection he with he1 he2 he3
      injection he1 with he1; injection he1 with he1 _ _
      subst he1
      have hsz2 : (w2.alloc (.cells #[.int .i64 h.id, .string h.salt, .int .i64 h.n, .int .i64 h.bytes, .int .i64 h.raw, .string h.root, .string G] 23)).heap.size = w2.heap.size + 1 := by simp
      rw [hsz2] at hcv hTx
      have q6 := q5.below hb3 (by simp)
      have hB6 := hB5.trans (hb3.mono hB5.size)
      have cj := hTx.cell j (by rw [hgl]; exact hj)
      have fj := hTx.frozen j (by rw [hgl]; exact hj)
      rw [HX.out] at cj
      have hTx2 := hTx.set_ j y
      have q7 := q6.far (p := ⟨w2.heap.size + 1, j, none⟩) (by show w2.heap.size ≠ w2.heap.size + 1; omega) (.int .u8 ((y.toNat : Nat) : Int))
      have hB7 := hB6.setCell (p := ⟨w2.heap.size + 1, j, none⟩) (by show w.heap.size ≤ w2.heap.size + 1; omega) (.int .u8 ((y.toNat : Nat) : Int))
      have hcv2 := conv_bytes (P := Try.prog) Try.underlying43 Try.underlying5 Try.underlying9 (w3.setCell ⟨w2.heap.size + 1, j, none⟩ (.int .u8 ((y.toNat : Nat) : Int))) ⟨w2.heap.size + 1, 0, none⟩ 32 c3 (G.data.toList.set j y) (by rw [List.length_set, hgl]) (fun i hi => by have := hTx2.bytes i (by rw [List.length_set, hgl]; exact hi); rw [add0] at this ⊢; exact this)
      rw [← HTN.out] at hcv2
      rw [hzs] at hcv
      have hc3I : (32 : Int) ≤ (c3 : Int) := by omega
      have c6 : (w3.setCell ⟨w2.heap.size + 1, j, none⟩ (.int .u8 ((y.toNat : Nat) : Int))).cell? ⟨w2.heap.size, 6, none⟩ = some (.string G) := (q7.cell 6).trans rfl
      have f6 : (w3.setCell ⟨w2.heap.size + 1, j, none⟩ (.int .u8 ((y.toNat : Nat) : Int))).frozen? ⟨w2.heap.size, 6, none⟩ = false := q7.frozen 6
      have g6 : (w2.alloc (.cells #[.int .i64 h.id, .string h.salt, .int .i64 h.n, .int .i64 h.bytes, .int .i64 h.raw, .string h.root, .string G] 23)).cell? ⟨w2.heap.size, 6, none⟩ = some (.string G) := (q5.cell 6).trans rfl
      have q8 : Blk ((w3.setCell ⟨w2.heap.size + 1, j, none⟩ (.int .u8 ((y.toNat : Nat) : Int))).setCell ⟨w2.heap.size, 6, none⟩ (.string N)) w2.heap.size 23 #[.int .i64 h.id, .string h.salt, .int .i64 h.n, .int .i64 h.bytes, .int .i64 h.raw, .string h.root, .string N] := q7.set_ 6 (.string N)
      have hB8 := hB7.setCell (p := ⟨w2.heap.size, 6, none⟩) hgw (.string N)
      clear hR hTx hTx2 hB5 hB6 hB7 q5 q6 q7 hb3 hB he2 he3
      have d0 : ((w3.setCell ⟨w2.heap.size + 1, j, none⟩ (.int .u8 ((y.toNat : Nat) : Int))).setCell ⟨w2.heap.size, 6, none⟩ (.string N)).cell? ⟨w2.heap.size, 0, none⟩ = some (.int .i64 h.id) := (q8.cell 0).trans rfl
      have d1 : ((w3.setCell ⟨w2.heap.size + 1, j, none⟩ (.int .u8 ((y.toNat : Nat) : Int))).setCell ⟨w2.heap.size, 6, none⟩ (.string N)).cell? ⟨w2.heap.size, 1, none⟩ = some (.string h.salt) := (q8.cell 1).trans rfl
      have d2 : ((w3.setCell ⟨w2.heap.size + 1, j, none⟩ (.int .u8 ((y.toNat : Nat) : Int))).setCell ⟨w2.heap.size, 6, none⟩ (.string N)).cell? ⟨w2.heap.size, 2, none⟩ = some (.int .i64 h.n) := (q8.cell 2).trans rfl
      have d3 : ((w3.setCell ⟨w2.heap.size + 1, j, none⟩ (.int .u8 ((y.toNat : Nat) : Int))).setCell ⟨w2.heap.size, 6, none⟩ (.string N)).cell? ⟨w2.heap.size, 3, none⟩ = some (.int .i64 h.bytes) := (q8.cell 3).trans rfl
      have d4 : ((w3.setCell ⟨w2.heap.size + 1, j, none⟩ (.int .u8 ((y.toNat : Nat) : Int))).setCell ⟨w2.heap.size, 6, none⟩ (.string N)).cell? ⟨w2.heap.size, 4, none⟩ = some (.int .i64 h.raw) := (q8.cell 4).trans rfl
      have d5 : ((w3.setCell ⟨w2.heap.size + 1, j, none⟩ (.int .u8 ((y.toNat : Nat) : Int))).setCell ⟨w2.heap.size, 6, none⟩ (.string N)).cell? ⟨w2.heap.size, 5, none⟩ = some (.string h.root) := (q8.cell 5).trans rfl
      have d6 : ((w3.setCell ⟨w2.heap.size + 1, j, none⟩ (.int .u8 ((y.toNat : Nat) : Int))).setCell ⟨w2.heap.size, 6, none⟩ (.string N)).cell? ⟨w2.heap.size, 6, none⟩ = some (.string N) := (q8.cell 6).trans rfl
      go_wp2_with (refine wpList_store_new rfl 23 (.tmp 9) (.tmp 27) rfl w2.heap.size #[.int .i64 h.id, .string h.salt, .int .i64 h.n, .int .i64 h.bytes, .int .i64 h.raw, .string h.root, .string G] _ 23 rfl rfl rfl rfl header_size rfl ONEG.out ?_; dsimp only [Act.put])
      rcases SG.out with ⟨g1, g2⟩ | ⟨g1, g2⟩
      · have G1 := Lib.hid g1
        have G2 := Lib.hid g2
        clear g1 g2
        (with_reducible refine (G1.out _).mono ?_); rintro e w7 ⟨rfl, hb⟩
        have p7 := q8.below hb q8.lt
        have hBf := hB8.trans (hb.mono hB8.size)
        clear hb d0 d1 d2 d3 d4 d5 d6
        have d0 : w7.cell? ⟨w2.heap.size, 0, none⟩ = some (.int .i64 h.id) := (p7.cell 0).trans rfl
        have d1 : w7.cell? ⟨w2.heap.size, 1, none⟩ = some (.string h.salt) := (p7.cell 1).trans rfl
        have d2 : w7.cell? ⟨w2.heap.size, 2, none⟩ = some (.int .i64 h.n) := (p7.cell 2).trans rfl
        have d3 : w7.cell? ⟨w2.heap.size, 3, none⟩ = some (.int .i64 h.bytes) := (p7.cell 3).trans rfl
        have d4 : w7.cell? ⟨w2.heap.size, 4, none⟩ = some (.int .i64 h.raw) := (p7.cell 4).trans rfl
        have d5 : w7.cell? ⟨w2.heap.size, 5, none⟩ = some (.string h.root) := (p7.cell 5).trans rfl
        have d6 : w7.cell? ⟨w2.heap.size, 6, none⟩ = some (.string N) := (p7.cell 6).trans rfl
        go_wp2_with fail
        (with_reducible refine (G2.out _).mono ?_); rintro e w8 ⟨rfl, hb⟩
        have hBg := hBf.trans (hb.mono hBf.size)
        clear hb
        go_wp2_with fail
        (with_reducible refine (cAwake18 _).mono ?_); rintro e w9 ⟨rfl, hb⟩
        go_wp2_with fail
        go_ret
        exact ⟨rfl, hBg.trans (hb.mono hBg.size)⟩
      · have G1 := Lib.hid g1
        have G2 := Lib.hid g2
        clear g1 g2
        (with_reducible refine (G1.out _).mono ?_); rintro e w7 ⟨rfl, hb⟩
        have p7 := q8.below hb q8.lt
        have hBf := hB8.trans (hb.mono hB8.size)
        clear hb d0 d1 d2 d3 d4 d5 d6
        have d0 : w7.cell? ⟨w2.heap.size, 0, none⟩ = some (.int .i64 h.id) := (p7.cell 0).trans rfl
        have d1 : w7.cell? ⟨w2.heap.size, 1, none⟩ = some (.string h.salt) := (p7.cell 1).trans rfl
        have d2 : w7.cell? ⟨w2.heap.size, 2, none⟩ = some (.int .i64 h.n) := (p7.cell 2).trans rfl
        have d3 : w7.cell? ⟨w2.heap.size, 3, none⟩ = some (.int .i64 h.bytes) := (p7.cell 3).trans rfl
        have d4 : w7.cell? ⟨w2.heap.size, 4, none⟩ = some (.int .i64 h.raw) := (p7.cell 4).trans rfl
        have d5 : w7.cell? ⟨w2.heap.size, 5, none⟩ = some (.string h.root) := (p7.cell 5).trans rfl
        have d6 : w7.cell? ⟨w2.heap.size, 6, none⟩ = some (.string N) := (p7.cell 6).trans rfl
        go_wp2_with fail
        (with_reducible refine (G2.out _).mono ?_); rintro e w8 ⟨rfl, hb⟩
        have hBg := hBf.trans (hb.mono hBf.size)
        clear hb
        go_wp2_with fail
        (with_reducible refine (cAwake18 _).mono ?_); rintro e w9 ⟨rfl, hb⟩
        go_wp2_with fail
        go_ret
        exact ⟨rfl, hBg.trans (hb.mono hBg.size)⟩
    · have hsI : (1000 : Int) < (key.size : Int) := by omega
      have hsD : decide ((1000 : Int) < (key.size : Int)) = true := decide_eq_true (by omega)
      have c0 : (w.alloc (.cells #[.int .i64 h.id, .string h.salt, .int .i64 h.n, .int .i64 h.bytes, .int .i64 h.raw, .string h.root, .string h.tag] 23)).cell? ⟨w.heap.size, 0, none⟩ = some (.int .i64 h.id) := (hS.cell 0).trans rfl
      have c1 : (w.alloc (.cells #[.int .i64 h.id, .string h.salt, .int .i64 h.n, .int .i64 h.bytes, .int .i64 h.raw, .string h.root, .string h.tag] 23)).cell? ⟨w.heap.size, 1, none⟩ = some (.string h.salt) := (hS.cell 1).trans rfl
      have c2 : (w.alloc (.cells #[.int .i64 h.id, .string h.salt, .int .i64 h.n, .int .i64 h.bytes, .int .i64 h.raw, .string h.root, .string h.tag] 23)).cell? ⟨w.heap.size, 2, none⟩ = some (.int .i64 h.n) := (hS.cell 2).trans rfl
      have c3 : (w.alloc (.cells #[.int .i64 h.id, .string h.salt, .int .i64 h.n, .int .i64 h.bytes, .int .i64 h.raw, .string h.root, .string h.tag] 23)).cell? ⟨w.heap.size, 3, none⟩ = some (.int .i64 h.bytes) := (hS.cell 3).trans rfl
      have c4 : (w.alloc (.cells #[.int .i64 h.id, .string h.salt, .int .i64 h.n, .int .i64 h.bytes, .int .i64 h.raw, .string h.root, .string h.tag] 23)).cell? ⟨w.heap.size, 4, none⟩ = some (.int .i64 h.raw) := (hS.cell 4).trans rfl
      have c5 : (w.alloc (.cells #[.int .i64 h.id, .string h.salt, .int .i64 h.n, .int .i64 h.bytes, .int .i64 h.raw, .string h.root, .string h.tag] 23)).cell? ⟨w.heap.size, 5, none⟩ = some (.string h.root) := (hS.cell 5).trans rfl
      have c6 : (w.alloc (.cells #[.int .i64 h.id, .string h.salt, .int .i64 h.n, .int .i64 h.bytes, .int .i64 h.raw, .string h.root, .string h.tag] 23)).cell? ⟨w.heap.size, 6, none⟩ = some (.string h.tag) := (hS.cell 6).trans rfl
      go_enter Try.func6, Try.ntmps6
      go_wp2_with fail
      (with_reducible refine (clight_yes h _ HL.out).mono ?_); rintro e w1 ⟨rfl, hb⟩
      replace hB := hB.trans (hb.mono hB.size)
      clear hb c0 c1 c2 c3 c4 c5 c6
      go_wp2_with fail
      (with_reducible refine (cAwake18 _).mono ?_); rintro e w2 ⟨rfl, hb⟩
      go_wp2_with fail
      go_ret
      exact ⟨rfl, hB.trans (hb.mono hB.size)⟩
  · have HL := Lib.hid hl
    clear hl
    have c0 : (w.alloc (.cells #[.int .i64 h.id, .string h.salt, .int .i64 h.n, .int .i64 h.bytes, .int .i64 h.raw, .string h.root, .string h.tag] 23)).cell? ⟨w.heap.size, 0, none⟩ = some (.int .i64 h.id) := (hS.cell 0).trans rfl
    have c1 : (w.alloc (.cells #[.int .i64 h.id, .string h.salt, .int .i64 h.n, .int .i64 h.bytes, .int .i64 h.raw, .string h.root, .string h.tag] 23)).cell? ⟨w.heap.size, 1, none⟩ = some (.string h.salt) := (hS.cell 1).trans rfl
    have c2 : (w.alloc (.cells #[.int .i64 h.id, .string h.salt, .int .i64 h.n, .int .i64 h.bytes, .int .i64 h.raw, .string h.root, .string h.tag] 23)).cell? ⟨w.heap.size, 2, none⟩ = some (.int .i64 h.n) := (hS.cell 2).trans rfl
    have c3 : (w.alloc (.cells #[.int .i64 h.id, .string h.salt, .int .i64 h.n, .int .i64 h.bytes, .int .i64 h.raw, .string h.root, .string h.tag] 23)).cell? ⟨w.heap.size, 3, none⟩ = some (.int .i64 h.bytes) := (hS.cell 3).trans rfl
    have c4 : (w.alloc (.cells #[.int .i64 h.id, .string h.salt, .int .i64 h.n, .int .i64 h.bytes, .int .i64 h.raw, .string h.root, .string h.tag] 23)).cell? ⟨w.heap.size, 4, none⟩ = some (.int .i64 h.raw) := (hS.cell 4).trans rfl
    have c5 : (w.alloc (.cells #[.int .i64 h.id, .string h.salt, .int .i64 h.n, .int .i64 h.bytes, .int .i64 h.raw, .string h.root, .string h.tag] 23)).cell? ⟨w.heap.size, 5, none⟩ = some (.string h.root) := (hS.cell 5).trans rfl
    have c6 : (w.alloc (.cells #[.int .i64 h.id, .string h.salt, .int .i64 h.n, .int .i64 h.bytes, .int .i64 h.raw, .string h.root, .string h.tag] 23)).cell? ⟨w.heap.size, 6, none⟩ = some (.string h.tag) := (hS.cell 6).trans rfl
    go_enter Try.func6, Try.ntmps6
    go_wp2_with fail
    (with_reducible refine (clight_no h _ HL.out).mono ?_); rintro e w1 ⟨rfl, hb⟩
    replace hB := hB.trans (hb.mono hB.size)
    clear hb c0 c1 c2 c3 c4 c5 c6
    go_wp2_with fail
    (with_reducible refine (cAwake18 _).mono ?_); rintro e w2 ⟨rfl, hb⟩
    go_wp2_with fail
    go_ret
    exact ⟨rfl, hB.trans (hb.mono hB.size)⟩
end Go.Proofs.Ytbofmfocnbennaa
