/- The law HeaderSigns, walked. -/
import Derived.Test.YtbofmfocnbennaaHSign
namespace Go.Proofs.Ytbofmfocnbennaa
open Go.RowKit
set_option linter.unusedVariables false
set_option linter.unusedSimpArgs false

theorem htag_of (key : ByteArray) (h h' : Hd) (e : h.fields = h'.fields) : htag key h = htag key h' := by unfold htag; rw [e]
/-- Both tell the same of any header. -/
theorem verify_both (key : ByteArray) (h : Hd) (hk : key.size ≤ 1000000) : ∃ n : Int, (∀ W : World, Calls Try.prog 23 #[.string key, .agg #[.int .i64 h.id, .string h.salt, .int .i64 h.n, .int .i64 h.bytes, .int .i64 h.raw, .string h.root, .string h.tag]] W fun e w' => e = .returned (.int .i64 n) ∧ Below W.heap.size W w') ∧
    (∀ W : World, Calls Try.prog 24 #[.string key, .agg #[.int .i64 h.id, .string h.salt, .int .i64 h.n, .int .i64 h.bytes, .int .i64 h.raw, .string h.root, .string h.tag]] W fun e w' => e = .returned (.int .i64 n) ∧ Below W.heap.size W w') := by
  by_cases hm : h.may
  · exact ⟨_, fun W => cVerify_yes key h W hk hm, fun W => crVerify_yes key h W hk hm⟩
  · exact ⟨1, fun W => cVerify_no key h W hm, fun W => crVerify_no key h W hm⟩
/-- One that is signed is verified, if it may be. -/
theorem verify_signed (key : ByteArray) (h : Hd) (hk : key.size ≤ 1000000) : (∃ (_ : (⟨h.id, h.salt, h.n, h.bytes, h.raw, h.root, htag key h⟩ : Hd).may), (∀ W : World, Calls Try.prog 23 #[.string key, .agg #[.int .i64 h.id, .string h.salt, .int .i64 h.n, .int .i64 h.bytes, .int .i64 h.raw, .string h.root, .string (htag key h)]] W fun e w' => e = .returned (.int .i64 0) ∧ Below W.heap.size W w') ∧ (∀ W : World, Calls Try.prog 25 #[.agg #[.int .i64 h.id, .string h.salt, .int .i64 h.n, .int .i64 h.bytes, .int .i64 h.raw, .string h.root, .string (htag key h)]] W fun e w' => e = .returned (.bool true) ∧ Below W.heap.size W w')) ∨
    ((∀ W : World, Calls Try.prog 23 #[.string key, .agg #[.int .i64 h.id, .string h.salt, .int .i64 h.n, .int .i64 h.bytes, .int .i64 h.raw, .string h.root, .string (htag key h)]] W fun e w' => e = .returned (.int .i64 1) ∧ Below W.heap.size W w') ∧ (∀ W : World, Calls Try.prog 25 #[.agg #[.int .i64 h.id, .string h.salt, .int .i64 h.n, .int .i64 h.bytes, .int .i64 h.raw, .string h.root, .string (htag key h)]] W fun e w' => e = .returned (.bool false) ∧ Below W.heap.size W w')) := by
  by_cases hm : (⟨h.id, h.salt, h.n, h.bytes, h.raw, h.root, htag key h⟩ : Hd).may
  · have e : htag key (⟨h.id, h.salt, h.n, h.bytes, h.raw, h.root, htag key h⟩ : Hd) = htag key h := htag_of key _ _ (by unfold Hd.fields; rfl)
    have a1 := fun W => cVerify_yes key (⟨h.id, h.salt, h.n, h.bytes, h.raw, h.root, htag key h⟩ : Hd) W hk hm
    have a2 := fun W => cMay_yes (⟨h.id, h.salt, h.n, h.bytes, h.raw, h.root, htag key h⟩ : Hd) W hm
    rw [e] at a1
    dsimp only at a1 a2
    simp only [if_true] at a1
    exact .inl ⟨hm, a1, a2⟩
  · have a1 := fun W => cVerify_no key (⟨h.id, h.salt, h.n, h.bytes, h.raw, h.root, htag key h⟩ : Hd) W hm
    have a2 := fun W => cMay_no (⟨h.id, h.salt, h.n, h.bytes, h.raw, h.root, htag key h⟩ : Hd) W hm
    dsimp only at a1 a2
    exact .inr ⟨a1, a2⟩
set_option maxRecDepth 100000 in
set_option maxHeartbeats 8000000 in
theorem headerSigns_walk (key : ByteArray) (hkey : key.size ≤ reachBytes) (h : Hd) {w : World} :
    Calls Try.prog 5 #[.string key, .agg #[.int .i64 h.id, .string h.salt, .int .i64 h.n, .int .i64 h.bytes, .int .i64 h.raw, .string h.root, .string h.tag]] w fun e w' => e = .returned (.bool true) ∧ Below w.heap.size w w' := by
  have hS := Blk.new w 23 #[.int .i64 h.id, .string h.salt, .int .i64 h.n, .int .i64 h.bytes, .int .i64 h.raw, .string h.root, .string h.tag]
  have hB : Below w.heap.size w (w.alloc (.cells #[.int .i64 h.id, .string h.salt, .int .i64 h.n, .int .i64 h.bytes, .int .i64 h.raw, .string h.root, .string h.tag] 23)) := (Below.refl _ _).alloc (Nat.le_refl _) _
  have hsr : key.size ≤ 140737488355328 := Nat.le_trans hkey (by decide)
  clear hkey
  by_cases hl : h.light
  · have hsalt : h.salt.size ≤ 1000 := by have := hl.1; omega
    have hroot : h.root.size ≤ 1000 := by have := hl.2.1; omega
    have HL := Lib.hid hl
    clear hl
    by_cases h1000 : key.size ≤ 1000
    · have hsI : (key.size : Int) ≤ 1000 := by omega
      have hsD : decide ((1000 : Int) < (key.size : Int)) = false := decide_eq_false (by omega)
      have k1 := fun W => cSign key h W (by omega) hsalt hroot
      have f1 := fun W => crFields h W hsalt hroot
      have t1 := fun W => crTagH key h W (by omega) hsalt hroot
      obtain ⟨vn, v1, v2⟩ := verify_both key h (by omega)
      have sg := verify_signed key h (by omega)
      obtain ⟨F, HF⟩ : ∃ x, Hid (h.fields = x) := ⟨_, Lib.hid rfl⟩
      obtain ⟨G, HGG⟩ : ∃ x, Hid (htag key h = x) := ⟨_, Lib.hid rfl⟩
      simp only [HGG.out] at k1 t1 sg
      simp only [HF.out] at f1 t1
      have K1 := Lib.hid k1
      have F1 := Lib.hid f1
      have T1 := Lib.hid t1
      have V1 := Lib.hid v1
      have V2 := Lib.hid v2
      have SG := Lib.hid sg
      have ONEH := Lib.hid (hd_one h)
      have ONEG := Lib.hid (hd_one ⟨h.id, h.salt, h.n, h.bytes, h.raw, h.root, G⟩)
      have heq := header_eq h.id h.salt h.n h.bytes h.raw h.root G
      have hgd := hdr_guard
      have hvv : (vn != vn) = false := by simp
      clear k1 f1 t1 v1 v2 sg hsalt hroot
      have c0 : (w.alloc (.cells #[.int .i64 h.id, .string h.salt, .int .i64 h.n, .int .i64 h.bytes, .int .i64 h.raw, .string h.root, .string h.tag] 23)).cell? ⟨w.heap.size, 0, none⟩ = some (.int .i64 h.id) := (hS.cell 0).trans rfl
      have c1 : (w.alloc (.cells #[.int .i64 h.id, .string h.salt, .int .i64 h.n, .int .i64 h.bytes, .int .i64 h.raw, .string h.root, .string h.tag] 23)).cell? ⟨w.heap.size, 1, none⟩ = some (.string h.salt) := (hS.cell 1).trans rfl
      have c2 : (w.alloc (.cells #[.int .i64 h.id, .string h.salt, .int .i64 h.n, .int .i64 h.bytes, .int .i64 h.raw, .string h.root, .string h.tag] 23)).cell? ⟨w.heap.size, 2, none⟩ = some (.int .i64 h.n) := (hS.cell 2).trans rfl
      have c3 : (w.alloc (.cells #[.int .i64 h.id, .string h.salt, .int .i64 h.n, .int .i64 h.bytes, .int .i64 h.raw, .string h.root, .string h.tag] 23)).cell? ⟨w.heap.size, 3, none⟩ = some (.int .i64 h.bytes) := (hS.cell 3).trans rfl
      have c4 : (w.alloc (.cells #[.int .i64 h.id, .string h.salt, .int .i64 h.n, .int .i64 h.bytes, .int .i64 h.raw, .string h.root, .string h.tag] 23)).cell? ⟨w.heap.size, 4, none⟩ = some (.int .i64 h.raw) := (hS.cell 4).trans rfl
      have c5 : (w.alloc (.cells #[.int .i64 h.id, .string h.salt, .int .i64 h.n, .int .i64 h.bytes, .int .i64 h.raw, .string h.root, .string h.tag] 23)).cell? ⟨w.heap.size, 5, none⟩ = some (.string h.root) := (hS.cell 5).trans rfl
      have c6 : (w.alloc (.cells #[.int .i64 h.id, .string h.salt, .int .i64 h.n, .int .i64 h.bytes, .int .i64 h.raw, .string h.root, .string h.tag] 23)).cell? ⟨w.heap.size, 6, none⟩ = some (.string h.tag) := (hS.cell 6).trans rfl
      go_enter Try.func5, Try.ntmps5
      go_wp2_with fail
      (with_reducible refine (clight_yes h _ HL.out).mono ?_); rintro e w1 ⟨rfl, hb⟩
      replace hS := hS.below hb hS.lt
      replace hB := hB.trans (hb.mono hB.size)
      clear hb c0 c1 c2 c3 c4 c5 c6
      have c0 : w1.cell? ⟨w.heap.size, 0, none⟩ = some (.int .i64 h.id) := (hS.cell 0).trans rfl
      have c1 : w1.cell? ⟨w.heap.size, 1, none⟩ = some (.string h.salt) := (hS.cell 1).trans rfl
      have c2 : w1.cell? ⟨w.heap.size, 2, none⟩ = some (.int .i64 h.n) := (hS.cell 2).trans rfl
      have c3 : w1.cell? ⟨w.heap.size, 3, none⟩ = some (.int .i64 h.bytes) := (hS.cell 3).trans rfl
      have c4 : w1.cell? ⟨w.heap.size, 4, none⟩ = some (.int .i64 h.raw) := (hS.cell 4).trans rfl
      have c5 : w1.cell? ⟨w.heap.size, 5, none⟩ = some (.string h.root) := (hS.cell 5).trans rfl
      have c6 : w1.cell? ⟨w.heap.size, 6, none⟩ = some (.string h.tag) := (hS.cell 6).trans rfl
      go_wp2_with fail
      (with_reducible refine (K1.out _).mono ?_); rintro e w2 ⟨rfl, hb⟩
      replace hS := hS.below hb hS.lt
      replace hB := hB.trans (hb.mono hB.size)
      clear hb c0 c1 c2 c3 c4 c5 c6
      have q5 := (Blk.new w2 23 #[.int .i64 h.id, .string h.salt, .int .i64 h.n, .int .i64 h.bytes, .int .i64 h.raw, .string h.root, .string G]).alloc (.cells #[.int .i64 h.id, .string h.salt, .int .i64 h.n, .int .i64 h.bytes, .int .i64 h.raw, .string h.root, .string h.tag] 23)
      have hS4 := hS.alloc (.cells #[.int .i64 h.id, .string h.salt, .int .i64 h.n, .int .i64 h.bytes, .int .i64 h.raw, .string h.root, .string G] 23)
      have hS5 := hS4.alloc (.cells #[.int .i64 h.id, .string h.salt, .int .i64 h.n, .int .i64 h.bytes, .int .i64 h.raw, .string h.root, .string h.tag] 23)
      have hsz : (w2.alloc (.cells #[.int .i64 h.id, .string h.salt, .int .i64 h.n, .int .i64 h.bytes, .int .i64 h.raw, .string h.root, .string G] 23)).heap.size = w2.heap.size + 1 := by simp
      have q6 := Blk.new (w2.alloc (.cells #[.int .i64 h.id, .string h.salt, .int .i64 h.n, .int .i64 h.bytes, .int .i64 h.raw, .string h.root, .string G] 23)) 23 #[.int .i64 h.id, .string h.salt, .int .i64 h.n, .int .i64 h.bytes, .int .i64 h.raw, .string h.root, .string h.tag]
      rw [hsz] at q6
      have hB5 : Below w.heap.size w ((w2.alloc (.cells #[.int .i64 h.id, .string h.salt, .int .i64 h.n, .int .i64 h.bytes, .int .i64 h.raw, .string h.root, .string G] 23)).alloc (.cells #[.int .i64 h.id, .string h.salt, .int .i64 h.n, .int .i64 h.bytes, .int .i64 h.raw, .string h.root, .string h.tag] 23)) := (hB.alloc hB.size _).alloc (by rw [hsz]; have := hB.size; omega) _
      have hlt : w.heap.size < w2.heap.size := hS.lt
      have c0 : (w2.alloc (.cells #[.int .i64 h.id, .string h.salt, .int .i64 h.n, .int .i64 h.bytes, .int .i64 h.raw, .string h.root, .string G] 23)).cell? ⟨w.heap.size, 0, none⟩ = some (.int .i64 h.id) := (hS4.cell 0).trans rfl
      have c1 : (w2.alloc (.cells #[.int .i64 h.id, .string h.salt, .int .i64 h.n, .int .i64 h.bytes, .int .i64 h.raw, .string h.root, .string G] 23)).cell? ⟨w.heap.size, 1, none⟩ = some (.string h.salt) := (hS4.cell 1).trans rfl
      have c2 : (w2.alloc (.cells #[.int .i64 h.id, .string h.salt, .int .i64 h.n, .int .i64 h.bytes, .int .i64 h.raw, .string h.root, .string G] 23)).cell? ⟨w.heap.size, 2, none⟩ = some (.int .i64 h.n) := (hS4.cell 2).trans rfl
      have c3 : (w2.alloc (.cells #[.int .i64 h.id, .string h.salt, .int .i64 h.n, .int .i64 h.bytes, .int .i64 h.raw, .string h.root, .string G] 23)).cell? ⟨w.heap.size, 3, none⟩ = some (.int .i64 h.bytes) := (hS4.cell 3).trans rfl
      have c4 : (w2.alloc (.cells #[.int .i64 h.id, .string h.salt, .int .i64 h.n, .int .i64 h.bytes, .int .i64 h.raw, .string h.root, .string G] 23)).cell? ⟨w.heap.size, 4, none⟩ = some (.int .i64 h.raw) := (hS4.cell 4).trans rfl
      have c5 : (w2.alloc (.cells #[.int .i64 h.id, .string h.salt, .int .i64 h.n, .int .i64 h.bytes, .int .i64 h.raw, .string h.root, .string G] 23)).cell? ⟨w.heap.size, 5, none⟩ = some (.string h.root) := (hS4.cell 5).trans rfl
      have c6 : (w2.alloc (.cells #[.int .i64 h.id, .string h.salt, .int .i64 h.n, .int .i64 h.bytes, .int .i64 h.raw, .string h.root, .string G] 23)).cell? ⟨w.heap.size, 6, none⟩ = some (.string h.tag) := (hS4.cell 6).trans rfl
      have d0 : ((w2.alloc (.cells #[.int .i64 h.id, .string h.salt, .int .i64 h.n, .int .i64 h.bytes, .int .i64 h.raw, .string h.root, .string G] 23)).alloc (.cells #[.int .i64 h.id, .string h.salt, .int .i64 h.n, .int .i64 h.bytes, .int .i64 h.raw, .string h.root, .string h.tag] 23)).cell? ⟨w.heap.size, 0, none⟩ = some (.int .i64 h.id) := (hS5.cell 0).trans rfl
      have d1 : ((w2.alloc (.cells #[.int .i64 h.id, .string h.salt, .int .i64 h.n, .int .i64 h.bytes, .int .i64 h.raw, .string h.root, .string G] 23)).alloc (.cells #[.int .i64 h.id, .string h.salt, .int .i64 h.n, .int .i64 h.bytes, .int .i64 h.raw, .string h.root, .string h.tag] 23)).cell? ⟨w.heap.size, 1, none⟩ = some (.string h.salt) := (hS5.cell 1).trans rfl
      have d2 : ((w2.alloc (.cells #[.int .i64 h.id, .string h.salt, .int .i64 h.n, .int .i64 h.bytes, .int .i64 h.raw, .string h.root, .string G] 23)).alloc (.cells #[.int .i64 h.id, .string h.salt, .int .i64 h.n, .int .i64 h.bytes, .int .i64 h.raw, .string h.root, .string h.tag] 23)).cell? ⟨w.heap.size, 2, none⟩ = some (.int .i64 h.n) := (hS5.cell 2).trans rfl
      have d3 : ((w2.alloc (.cells #[.int .i64 h.id, .string h.salt, .int .i64 h.n, .int .i64 h.bytes, .int .i64 h.raw, .string h.root, .string G] 23)).alloc (.cells #[.int .i64 h.id, .string h.salt, .int .i64 h.n, .int .i64 h.bytes, .int .i64 h.raw, .string h.root, .string h.tag] 23)).cell? ⟨w.heap.size, 3, none⟩ = some (.int .i64 h.bytes) := (hS5.cell 3).trans rfl
      have d4 : ((w2.alloc (.cells #[.int .i64 h.id, .string h.salt, .int .i64 h.n, .int .i64 h.bytes, .int .i64 h.raw, .string h.root, .string G] 23)).alloc (.cells #[.int .i64 h.id, .string h.salt, .int .i64 h.n, .int .i64 h.bytes, .int .i64 h.raw, .string h.root, .string h.tag] 23)).cell? ⟨w.heap.size, 4, none⟩ = some (.int .i64 h.raw) := (hS5.cell 4).trans rfl
      have d5 : ((w2.alloc (.cells #[.int .i64 h.id, .string h.salt, .int .i64 h.n, .int .i64 h.bytes, .int .i64 h.raw, .string h.root, .string G] 23)).alloc (.cells #[.int .i64 h.id, .string h.salt, .int .i64 h.n, .int .i64 h.bytes, .int .i64 h.raw, .string h.root, .string h.tag] 23)).cell? ⟨w.heap.size, 5, none⟩ = some (.string h.root) := (hS5.cell 5).trans rfl
      have d6 : ((w2.alloc (.cells #[.int .i64 h.id, .string h.salt, .int .i64 h.n, .int .i64 h.bytes, .int .i64 h.raw, .string h.root, .string G] 23)).alloc (.cells #[.int .i64 h.id, .string h.salt, .int .i64 h.n, .int .i64 h.bytes, .int .i64 h.raw, .string h.root, .string h.tag] 23)).cell? ⟨w.heap.size, 6, none⟩ = some (.string h.tag) := (hS5.cell 6).trans rfl
      clear hS hB hS4
      go_wp2_with (first
        | (refine wpList_store_new rfl 23 (.tmp 5) (.tmp 19) rfl w2.heap.size #[.int .i64 h.id, .string h.salt, .int .i64 h.n, .int .i64 h.bytes, .int .i64 h.raw, .string h.root, .string G] _ 23 rfl rfl rfl rfl header_size rfl ONEG.out ?_; dsimp only [Act.put])
        | (refine wpList_store_new rfl 23 (.tmp 6) (.tmp 20) rfl (w2.heap.size + 1) #[.int .i64 h.id, .string h.salt, .int .i64 h.n, .int .i64 h.bytes, .int .i64 h.raw, .string h.root, .string h.tag] _ 23 rfl rfl rfl hsz header_size rfl ONEH.out ?_; dsimp only [Act.put]))
      (with_reducible refine (F1.out _).mono ?_); rintro e w3 ⟨rfl, hb⟩
      replace hS5 := hS5.below hb hS5.lt
      replace q5 := q5.below hb q5.lt
      replace q6 := q6.below hb q6.lt
      replace hB5 := hB5.trans (hb.mono hB5.size)
      clear hb hsz c0 c1 c2 c3 c4 c5 c6 d0 d1 d2 d3 d4 d5 d6
      go_wp2_with fail
      (with_reducible refine (T1.out _).mono ?_); rintro e w4 ⟨rfl, hb⟩
      replace hS5 := hS5.below hb hS5.lt
      replace q5 := q5.below hb q5.lt
      replace q6 := q6.below hb q6.lt
      replace hB5 := hB5.trans (hb.mono hB5.size)
      clear hb
      have c6 : w4.cell? ⟨w2.heap.size + 1, 6, none⟩ = some (.string h.tag) := (q6.cell 6).trans rfl
      have f6 : w4.frozen? ⟨w2.heap.size + 1, 6, none⟩ = false := q6.frozen 6
      have p6 : Blk (w4.setCell ⟨w2.heap.size + 1, 6, none⟩ (.string G)) (w2.heap.size + 1) 23 #[.int .i64 h.id, .string h.salt, .int .i64 h.n, .int .i64 h.bytes, .int .i64 h.raw, .string h.root, .string G] := q6.set_ 6 (.string G)
      have p5 := q5.far (p := ⟨w2.heap.size + 1, 6, none⟩) (by show w2.heap.size ≠ w2.heap.size + 1; omega) (.string G)
      have pS := hS5.far (p := ⟨w2.heap.size + 1, 6, none⟩) (by show w.heap.size ≠ w2.heap.size + 1; omega) (.string G)
      have hB6 := hB5.setCell (p := ⟨w2.heap.size + 1, 6, none⟩) (by show w.heap.size ≤ w2.heap.size + 1; omega) (.string G)
      clear hS5 q5 q6 hB5
      go_wp2_with fail
      obtain ⟨u, HU⟩ : ∃ u, Hid (w4.setCell ⟨w2.heap.size + 1, 6, none⟩ (.string G) = u) := ⟨_, Lib.hid rfl⟩
      rw [HU.out] at p6 p5 pS hB6
      rw [HU.out]
      have l6 : w2.heap.size + 1 < u.drew.heap.size := p6.lt
      have l5 : w2.heap.size < u.drew.heap.size := p5.lt
      have lS : w.heap.size < u.drew.heap.size := pS.lt
      have r6 : u.drew.rangeAt (w2.heap.size + 1) 0 [.int .i64 h.id, .string h.salt, .int .i64 h.n, .int .i64 h.bytes, .int .i64 h.raw, .string h.root, .string G] := Blk.range' p6.drew
      have r5 : u.drew.rangeAt w2.heap.size 0 [.int .i64 h.id, .string h.salt, .int .i64 h.n, .int .i64 h.bytes, .int .i64 h.raw, .string h.root, .string G] := Blk.range' p5.drew
      have rS : u.drew.rangeAt w.heap.size 0 [.int .i64 h.id, .string h.salt, .int .i64 h.n, .int .i64 h.bytes, .int .i64 h.raw, .string h.root, .string h.tag] := Blk.range' pS.drew
      have hBd := hB6.drew
      have hS0 := Below.refl u.drew.heap.size u.drew
      refine wp_region_lexS (fun w' => Below u.drew.heap.size u.drew w') 0 [] (by kernel_rfl) (by kernel_rfl) hS0 ?_
      repeat (first
        | (refine wpX_load_mid rfl rfl 23 (.tmp 5) rfl w2.heap.size 0 rfl [.int .i64 h.id, .string h.salt, .int .i64 h.n, .int .i64 h.bytes, .int .i64 h.raw, .string h.root, .string G] _ (fun w' h j x hj => (h.cell l5).trans (r5 j x hj)) Try.underlying23 rfl header_size hS0 ?_; simp only [Act.put, List.setIfInBounds_toArray, List.set_cons_zero, List.set_cons_succ, List.getElem_toArray, List.getElem_cons_zero, List.getElem_cons_succ])
        | (refine wpX_load_mid rfl rfl 23 (.tmp 6) rfl (w2.heap.size + 1) 0 rfl [.int .i64 h.id, .string h.salt, .int .i64 h.n, .int .i64 h.bytes, .int .i64 h.raw, .string h.root, .string G] _ (fun w' h j x hj => (h.cell l6).trans (r6 j x hj)) Try.underlying23 rfl header_size hS0 ?_; simp only [Act.put, List.setIfInBounds_toArray, List.set_cons_zero, List.set_cons_succ, List.getElem_toArray, List.getElem_cons_zero, List.getElem_cons_succ])
        | (refine wpX_load_mid rfl rfl 23 (.tmp 3) rfl w.heap.size 0 rfl [.int .i64 h.id, .string h.salt, .int .i64 h.n, .int .i64 h.bytes, .int .i64 h.raw, .string h.root, .string h.tag] _ (fun w' h j x hj => (h.cell lS).trans (rS j x hj)) Try.underlying23 rfl header_size hS0 ?_; simp only [Act.put, List.setIfInBounds_toArray, List.set_cons_zero, List.set_cons_succ, List.getElem_toArray, List.getElem_cons_zero, List.getElem_cons_succ])
        | (refine wpX_pure rfl rfl rfl ?_; intro K hK; go_big_quiet_op; refine hK _ ?_; clear hK K)
        | (refine wpX_eff rfl rfl ?_; intro K hK; go_wp2_with fail; refine hK _ _ hS0 ?_; clear hK K))
      refine wpX_eff rfl rfl ?_; intro K hK; go_wp2_with fail
      (with_reducible refine (V1.out _).mono ?_); rintro e w5 ⟨rfl, hb⟩
      go_wp2_with fail
      refine hK _ _ (hS0.trans (hb.mono hS0.size)) ?_; clear hK K
      replace hS0 := hS0.trans (hb.mono hS0.size)
      clear hb
      repeat (first
        | (refine wpX_load_mid rfl rfl 23 (.tmp 5) rfl w2.heap.size 0 rfl [.int .i64 h.id, .string h.salt, .int .i64 h.n, .int .i64 h.bytes, .int .i64 h.raw, .string h.root, .string G] _ (fun w' h j x hj => (h.cell l5).trans (r5 j x hj)) Try.underlying23 rfl header_size hS0 ?_; simp only [Act.put, List.setIfInBounds_toArray, List.set_cons_zero, List.set_cons_succ, List.getElem_toArray, List.getElem_cons_zero, List.getElem_cons_succ])
        | (refine wpX_load_mid rfl rfl 23 (.tmp 6) rfl (w2.heap.size + 1) 0 rfl [.int .i64 h.id, .string h.salt, .int .i64 h.n, .int .i64 h.bytes, .int .i64 h.raw, .string h.root, .string G] _ (fun w' h j x hj => (h.cell l6).trans (r6 j x hj)) Try.underlying23 rfl header_size hS0 ?_; simp only [Act.put, List.setIfInBounds_toArray, List.set_cons_zero, List.set_cons_succ, List.getElem_toArray, List.getElem_cons_zero, List.getElem_cons_succ])
        | (refine wpX_load_mid rfl rfl 23 (.tmp 3) rfl w.heap.size 0 rfl [.int .i64 h.id, .string h.salt, .int .i64 h.n, .int .i64 h.bytes, .int .i64 h.raw, .string h.root, .string h.tag] _ (fun w' h j x hj => (h.cell lS).trans (rS j x hj)) Try.underlying23 rfl header_size hS0 ?_; simp only [Act.put, List.setIfInBounds_toArray, List.set_cons_zero, List.set_cons_succ, List.getElem_toArray, List.getElem_cons_zero, List.getElem_cons_succ])
        | (refine wpX_pure rfl rfl rfl ?_; intro K hK; go_big_quiet_op; refine hK _ ?_; clear hK K)
        | (refine wpX_eff rfl rfl ?_; intro K hK; go_wp2_with fail; refine hK _ _ hS0 ?_; clear hK K))
      refine wpX_eff rfl rfl ?_; intro K hK; go_wp2_with fail
      (with_reducible refine (V2.out _).mono ?_); rintro e w6 ⟨rfl, hb⟩
      go_wp2_with fail
      refine hK _ _ (hS0.trans (hb.mono hS0.size)) ?_; clear hK K
      replace hS0 := hS0.trans (hb.mono hS0.size)
      clear hb
      repeat (first
        | (refine wpX_load_mid rfl rfl 23 (.tmp 5) rfl w2.heap.size 0 rfl [.int .i64 h.id, .string h.salt, .int .i64 h.n, .int .i64 h.bytes, .int .i64 h.raw, .string h.root, .string G] _ (fun w' h j x hj => (h.cell l5).trans (r5 j x hj)) Try.underlying23 rfl header_size hS0 ?_; simp only [Act.put, List.setIfInBounds_toArray, List.set_cons_zero, List.set_cons_succ, List.getElem_toArray, List.getElem_cons_zero, List.getElem_cons_succ])
        | (refine wpX_load_mid rfl rfl 23 (.tmp 6) rfl (w2.heap.size + 1) 0 rfl [.int .i64 h.id, .string h.salt, .int .i64 h.n, .int .i64 h.bytes, .int .i64 h.raw, .string h.root, .string G] _ (fun w' h j x hj => (h.cell l6).trans (r6 j x hj)) Try.underlying23 rfl header_size hS0 ?_; simp only [Act.put, List.setIfInBounds_toArray, List.set_cons_zero, List.set_cons_succ, List.getElem_toArray, List.getElem_cons_zero, List.getElem_cons_succ])
        | (refine wpX_load_mid rfl rfl 23 (.tmp 3) rfl w.heap.size 0 rfl [.int .i64 h.id, .string h.salt, .int .i64 h.n, .int .i64 h.bytes, .int .i64 h.raw, .string h.root, .string h.tag] _ (fun w' h j x hj => (h.cell lS).trans (rS j x hj)) Try.underlying23 rfl header_size hS0 ?_; simp only [Act.put, List.setIfInBounds_toArray, List.set_cons_zero, List.set_cons_succ, List.getElem_toArray, List.getElem_cons_zero, List.getElem_cons_succ])
        | (refine wpX_pure rfl rfl rfl ?_; intro K hK; go_big_quiet_op; refine hK _ ?_; clear hK K)
        | (refine wpX_eff rfl rfl ?_; intro K hK; go_wp2_with fail; refine hK _ _ hS0 ?_; clear hK K))
      refine wpX_nil ?_
      have p5 := p5.drew.below hS0 l5
      have hBe := hBd.trans (hS0.mono hBd.size)
      clear pS p6 hS0 hBd hB6 c6 f6
      have c0 : w6.cell? ⟨w2.heap.size, 0, none⟩ = some (.int .i64 h.id) := (p5.cell 0).trans rfl
      have c1 : w6.cell? ⟨w2.heap.size, 1, none⟩ = some (.string h.salt) := (p5.cell 1).trans rfl
      have c2 : w6.cell? ⟨w2.heap.size, 2, none⟩ = some (.int .i64 h.n) := (p5.cell 2).trans rfl
      have c3 : w6.cell? ⟨w2.heap.size, 3, none⟩ = some (.int .i64 h.bytes) := (p5.cell 3).trans rfl
      have c4 : w6.cell? ⟨w2.heap.size, 4, none⟩ = some (.int .i64 h.raw) := (p5.cell 4).trans rfl
      have c5 : w6.cell? ⟨w2.heap.size, 5, none⟩ = some (.string h.root) := (p5.cell 5).trans rfl
      have c6 : w6.cell? ⟨w2.heap.size, 6, none⟩ = some (.string G) := (p5.cell 6).trans rfl
      rcases SG.out with ⟨_, g1, g2⟩ | ⟨g1, g2⟩
      · have G1 := Lib.hid g1
        have G2 := Lib.hid g2
        clear g1 g2
        go_wp2_with fail
        (with_reducible refine (G1.out _).mono ?_); rintro e w7 ⟨rfl, hb⟩
        have p7 := p5.below hb p5.lt
        have hBf := hBe.trans (hb.mono hBe.size)
        clear hb c0 c1 c2 c3 c4 c5 c6
        have d0 : w7.cell? ⟨w2.heap.size, 0, none⟩ = some (.int .i64 h.id) := (p7.cell 0).trans rfl
        have d1 : w7.cell? ⟨w2.heap.size, 1, none⟩ = some (.string h.salt) := (p7.cell 1).trans rfl
        have d2 : w7.cell? ⟨w2.heap.size, 2, none⟩ = some (.int .i64 h.n) := (p7.cell 2).trans rfl
        have d3 : w7.cell? ⟨w2.heap.size, 3, none⟩ = some (.int .i64 h.bytes) := (p7.cell 3).trans rfl
        have d4 : w7.cell? ⟨w2.heap.size, 4, none⟩ = some (.int .i64 h.raw) := (p7.cell 4).trans rfl
        have d5 : w7.cell? ⟨w2.heap.size, 5, none⟩ = some (.string h.root) := (p7.cell 5).trans rfl
        have d6 : w7.cell? ⟨w2.heap.size, 6, none⟩ = some (.string G) := (p7.cell 6).trans rfl
        go_wp2_with fail
        (with_reducible refine (G2.out _).mono ?_); rintro e w8 ⟨rfl, hb⟩
        have hBg := hBf.trans (hb.mono hBf.size)
        clear hb
        go_wp2_with fail
        (with_reducible refine (cAwake18 _).mono ?_); rintro e w9 ⟨rfl, hb⟩
        go_wp2_with fail
        go_ret
        exact ⟨rfl, hBg.trans (hb.mono hBg.size)⟩
      · have G1 := Lib.hid g1
        have G2 := Lib.hid g2
        clear g1 g2
        go_wp2_with fail
        (with_reducible refine (G1.out _).mono ?_); rintro e w7 ⟨rfl, hb⟩
        have p7 := p5.below hb p5.lt
        have hBf := hBe.trans (hb.mono hBe.size)
        clear hb c0 c1 c2 c3 c4 c5 c6
        have d0 : w7.cell? ⟨w2.heap.size, 0, none⟩ = some (.int .i64 h.id) := (p7.cell 0).trans rfl
        have d1 : w7.cell? ⟨w2.heap.size, 1, none⟩ = some (.string h.salt) := (p7.cell 1).trans rfl
        have d2 : w7.cell? ⟨w2.heap.size, 2, none⟩ = some (.int .i64 h.n) := (p7.cell 2).trans rfl
        have d3 : w7.cell? ⟨w2.heap.size, 3, none⟩ = some (.int .i64 h.bytes) := (p7.cell 3).trans rfl
        have d4 : w7.cell? ⟨w2.heap.size, 4, none⟩ = some (.int .i64 h.raw) := (p7.cell 4).trans rfl
        have d5 : w7.cell? ⟨w2.heap.size, 5, none⟩ = some (.string h.root) := (p7.cell 5).trans rfl
        have d6 : w7.cell? ⟨w2.heap.size, 6, none⟩ = some (.string G) := (p7.cell 6).trans rfl
        go_wp2_with fail
        (with_reducible refine (G2.out _).mono ?_); rintro e w8 ⟨rfl, hb⟩
        have hBg := hBf.trans (hb.mono hBf.size)
        clear hb
        go_wp2_with fail
        (with_reducible refine (cAwake18 _).mono ?_); rintro e w9 ⟨rfl, hb⟩
        go_wp2_with fail
        go_ret
        exact ⟨rfl, hBg.trans (hb.mono hBg.size)⟩
    · have hsI : (1000 : Int) < (key.size : Int) := by omega
      have hsD : decide ((1000 : Int) < (key.size : Int)) = true := decide_eq_true (by omega)
      have c0 : (w.alloc (.cells #[.int .i64 h.id, .string h.salt, .int .i64 h.n, .int .i64 h.bytes, .int .i64 h.raw, .string h.root, .string h.tag] 23)).cell? ⟨w.heap.size, 0, none⟩ = some (.int .i64 h.id) := (hS.cell 0).trans rfl
      have c1 : (w.alloc (.cells #[.int .i64 h.id, .string h.salt, .int .i64 h.n, .int .i64 h.bytes, .int .i64 h.raw, .string h.root, .string h.tag] 23)).cell? ⟨w.heap.size, 1, none⟩ = some (.string h.salt) := (hS.cell 1).trans rfl
      have c2 : (w.alloc (.cells #[.int .i64 h.id, .string h.salt, .int .i64 h.n, .int .i64 h.bytes, .int .i64 h.raw, .string h.root, .string h.tag] 23)).cell? ⟨w.heap.size, 2, none⟩ = some (.int .i64 h.n) := (hS.cell 2).trans rfl
      have c3 : (w.alloc (.cells #[.int .i64 h.id, .string h.salt, .int .i64 h.n, .int .i64 h.bytes, .int .i64 h.raw, .string h.root, .string h.tag] 23)).cell? ⟨w.heap.size, 3, none⟩ = some (.int .i64 h.bytes) := (hS.cell 3).trans rfl
      have c4 : (w.alloc (.cells #[.int .i64 h.id, .string h.salt, .int .i64 h.n, .int .i64 h.bytes, .int .i64 h.raw, .string h.root, .string h.tag] 23)).cell? ⟨w.heap.size, 4, none⟩ = some (.int .i64 h.raw) := (hS.cell 4).trans rfl
      have c5 : (w.alloc (.cells #[.int .i64 h.id, .string h.salt, .int .i64 h.n, .int .i64 h.bytes, .int .i64 h.raw, .string h.root, .string h.tag] 23)).cell? ⟨w.heap.size, 5, none⟩ = some (.string h.root) := (hS.cell 5).trans rfl
      have c6 : (w.alloc (.cells #[.int .i64 h.id, .string h.salt, .int .i64 h.n, .int .i64 h.bytes, .int .i64 h.raw, .string h.root, .string h.tag] 23)).cell? ⟨w.heap.size, 6, none⟩ = some (.string h.tag) := (hS.cell 6).trans rfl
      go_enter Try.func5, Try.ntmps5
      go_wp2_with fail
      (with_reducible refine (clight_yes h _ HL.out).mono ?_); rintro e w1 ⟨rfl, hb⟩
      replace hB := hB.trans (hb.mono hB.size)
      clear hb c0 c1 c2 c3 c4 c5 c6
      go_wp2_with fail
      (with_reducible refine (cAwake18 _).mono ?_); rintro e w2 ⟨rfl, hb⟩
      go_wp2_with fail
      go_ret
      exact ⟨rfl, hB.trans (hb.mono hB.size)⟩
  · have HL := Lib.hid hl
    clear hl
    have c0 : (w.alloc (.cells #[.int .i64 h.id, .string h.salt, .int .i64 h.n, .int .i64 h.bytes, .int .i64 h.raw, .string h.root, .string h.tag] 23)).cell? ⟨w.heap.size, 0, none⟩ = some (.int .i64 h.id) := (hS.cell 0).trans rfl
    have c1 : (w.alloc (.cells #[.int .i64 h.id, .string h.salt, .int .i64 h.n, .int .i64 h.bytes, .int .i64 h.raw, .string h.root, .string h.tag] 23)).cell? ⟨w.heap.size, 1, none⟩ = some (.string h.salt) := (hS.cell 1).trans rfl
    have c2 : (w.alloc (.cells #[.int .i64 h.id, .string h.salt, .int .i64 h.n, .int .i64 h.bytes, .int .i64 h.raw, .string h.root, .string h.tag] 23)).cell? ⟨w.heap.size, 2, none⟩ = some (.int .i64 h.n) := (hS.cell 2).trans rfl
    have c3 : (w.alloc (.cells #[.int .i64 h.id, .string h.salt, .int .i64 h.n, .int .i64 h.bytes, .int .i64 h.raw, .string h.root, .string h.tag] 23)).cell? ⟨w.heap.size, 3, none⟩ = some (.int .i64 h.bytes) := (hS.cell 3).trans rfl
    have c4 : (w.alloc (.cells #[.int .i64 h.id, .string h.salt, .int .i64 h.n, .int .i64 h.bytes, .int .i64 h.raw, .string h.root, .string h.tag] 23)).cell? ⟨w.heap.size, 4, none⟩ = some (.int .i64 h.raw) := (hS.cell 4).trans rfl
    have c5 : (w.alloc (.cells #[.int .i64 h.id, .string h.salt, .int .i64 h.n, .int .i64 h.bytes, .int .i64 h.raw, .string h.root, .string h.tag] 23)).cell? ⟨w.heap.size, 5, none⟩ = some (.string h.root) := (hS.cell 5).trans rfl
    have c6 : (w.alloc (.cells #[.int .i64 h.id, .string h.salt, .int .i64 h.n, .int .i64 h.bytes, .int .i64 h.raw, .string h.root, .string h.tag] 23)).cell? ⟨w.heap.size, 6, none⟩ = some (.string h.tag) := (hS.cell 6).trans rfl
    go_enter Try.func5, Try.ntmps5
    go_wp2_with fail
    (with_reducible refine (clight_no h _ HL.out).mono ?_); rintro e w1 ⟨rfl, hb⟩
    replace hB := hB.trans (hb.mono hB.size)
    clear hb c0 c1 c2 c3 c4 c5 c6
    go_wp2_with fail
    (with_reducible refine (cAwake18 _).mono ?_); rintro e w2 ⟨rfl, hb⟩
    go_wp2_with fail
    go_ret
    exact ⟨rfl, hB.trans (hb.mono hB.size)⟩
end Go.Proofs.Ytbofmfocnbennaa
