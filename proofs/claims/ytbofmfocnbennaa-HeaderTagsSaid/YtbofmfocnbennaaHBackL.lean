/- The law HeaderBack, walked. -/
import Derived.Test.YtbofmfocnbennaaHBack
import Derived.Test.YtbofmfocnbennaaHTakesLaw
import Derived.Test.YtbofmfocnbennaaHeaderLaw
namespace Go.Proofs.Ytbofmfocnbennaa
open Go.RowKit
set_option linter.unusedVariables false
set_option linter.unusedSimpArgs false

theorem hd_one (h : Hd) : ∀ v ∈ (#[.int .i64 h.id, .string h.salt, .int .i64 h.n, .int .i64 h.bytes, .int .i64 h.raw, .string h.root, .string h.tag] : Array Value).toList, v.oneCell' = true := by
  intro v hv
  simp at hv
  rcases hv with rfl | rfl | rfl | rfl | rfl | rfl | rfl <;> rfl
set_option maxRecDepth 100000 in
set_option maxHeartbeats 8000000 in
theorem headerBack_walk (h : Hd) (s : ByteArray) (hs : s.size ≤ reachBytes) {w : World} :
    Calls Try.prog 3 #[.agg #[.int .i64 h.id, .string h.salt, .int .i64 h.n, .int .i64 h.bytes, .int .i64 h.raw, .string h.root, .string h.tag], .string s] w fun e w' => e = .returned (.bool true) ∧ Below w.heap.size w w' := by
  have hS := Blk.new w 23 #[.int .i64 h.id, .string h.salt, .int .i64 h.n, .int .i64 h.bytes, .int .i64 h.raw, .string h.root, .string h.tag]
  have hB : Below w.heap.size w (w.alloc (.cells #[.int .i64 h.id, .string h.salt, .int .i64 h.n, .int .i64 h.bytes, .int .i64 h.raw, .string h.root, .string h.tag] 23)) := (Below.refl _ _).alloc (Nat.le_refl _) _
  have hsr : s.size ≤ 140737488355328 := Nat.le_trans hs (by decide)
  clear hs
  by_cases hl : h.light
  · have HL := Lib.hid hl
    clear hl
    by_cases h1000 : s.size ≤ 1000
    · have hsI : (s.size : Int) ≤ 1000 := by omega
      have hsD : decide ((1000 : Int) < (s.size : Int)) = false := decide_eq_false (by omega)
      have c0 : (w.alloc (.cells #[.int .i64 h.id, .string h.salt, .int .i64 h.n, .int .i64 h.bytes, .int .i64 h.raw, .string h.root, .string h.tag] 23)).cell? ⟨w.heap.size, 0, none⟩ = some (.int .i64 h.id) := (hS.cell 0).trans rfl
      have c1 : (w.alloc (.cells #[.int .i64 h.id, .string h.salt, .int .i64 h.n, .int .i64 h.bytes, .int .i64 h.raw, .string h.root, .string h.tag] 23)).cell? ⟨w.heap.size, 1, none⟩ = some (.string h.salt) := (hS.cell 1).trans rfl
      have c2 : (w.alloc (.cells #[.int .i64 h.id, .string h.salt, .int .i64 h.n, .int .i64 h.bytes, .int .i64 h.raw, .string h.root, .string h.tag] 23)).cell? ⟨w.heap.size, 2, none⟩ = some (.int .i64 h.n) := (hS.cell 2).trans rfl
      have c3 : (w.alloc (.cells #[.int .i64 h.id, .string h.salt, .int .i64 h.n, .int .i64 h.bytes, .int .i64 h.raw, .string h.root, .string h.tag] 23)).cell? ⟨w.heap.size, 3, none⟩ = some (.int .i64 h.bytes) := (hS.cell 3).trans rfl
      have c4 : (w.alloc (.cells #[.int .i64 h.id, .string h.salt, .int .i64 h.n, .int .i64 h.bytes, .int .i64 h.raw, .string h.root, .string h.tag] 23)).cell? ⟨w.heap.size, 4, none⟩ = some (.int .i64 h.raw) := (hS.cell 4).trans rfl
      have c5 : (w.alloc (.cells #[.int .i64 h.id, .string h.salt, .int .i64 h.n, .int .i64 h.bytes, .int .i64 h.raw, .string h.root, .string h.tag] 23)).cell? ⟨w.heap.size, 5, none⟩ = some (.string h.root) := (hS.cell 5).trans rfl
      have c6 : (w.alloc (.cells #[.int .i64 h.id, .string h.salt, .int .i64 h.n, .int .i64 h.bytes, .int .i64 h.raw, .string h.root, .string h.tag] 23)).cell? ⟨w.heap.size, 6, none⟩ = some (.string h.tag) := (hS.cell 6).trans rfl
      go_enter Try.func3, Try.ntmps3
      go_wp2_with fail
      (with_reducible refine (clight_yes h _ HL.out).mono ?_); rintro e w1 ⟨rfl, hb⟩
      replace hS := hS.below hb hS.lt
      replace hB := hB.trans (hb.mono hB.size)
      clear hb c0 c1 c2 c3 c4 c5 c6
      have c0 : w1.cell? ⟨w.heap.size, 0, none⟩ = some (.int .i64 h.id) := (hS.cell 0).trans rfl
      have c1 : w1.cell? ⟨w.heap.size, 1, none⟩ = some (.string h.salt) := (hS.cell 1).trans rfl
      have c2 : w1.cell? ⟨w.heap.size, 2, none⟩ = some (.int .i64 h.n) := (hS.cell 2).trans rfl
      have c3 : w1.cell? ⟨w.heap.size, 3, none⟩ = some (.int .i64 h.bytes) := (hS.cell 3).trans rfl
      have c4 : w1.cell? ⟨w.heap.size, 4, none⟩ = some (.int .i64 h.raw) := (hS.cell 4).trans rfl
      have c5 : w1.cell? ⟨w.heap.size, 5, none⟩ = some (.string h.root) := (hS.cell 5).trans rfl
      have c6 : w1.cell? ⟨w.heap.size, 6, none⟩ = some (.string h.tag) := (hS.cell 6).trans rfl
      by_cases hm : h.may
      · obtain ⟨x, hx1, hx2⟩ := put_again h hm
        have HX1 := Lib.hid hx1
        have HX2 := Lib.hid hx2
        have HONE := Lib.hid (hd_one h)
        have heq := header_eq h.id h.salt h.n h.bytes h.raw h.root h.tag
        have HM := Lib.hid hm
        clear hx1 hx2 hm
        go_wp2_with fail
        (with_reducible refine (HX1.out _).mono ?_); rintro e w2 ⟨rfl, hb⟩
        replace hS := hS.below hb hS.lt
        replace hB := hB.trans (hb.mono hB.size)
        clear hb c0 c1 c2 c3 c4 c5 c6
        go_wp2_with fail
        (with_reducible refine (HX2.out _).mono ?_); rintro e w3 ⟨rfl, hb⟩
        replace hS := hS.below hb hS.lt
        replace hB := hB.trans (hb.mono hB.size)
        clear hb
        have q1 := Blk.new w3 23 #[.int .i64 h.id, .string h.salt, .int .i64 h.n, .int .i64 h.bytes, .int .i64 h.raw, .string h.root, .string h.tag]
        have hS4 := hS.alloc (.cells #[.int .i64 h.id, .string h.salt, .int .i64 h.n, .int .i64 h.bytes, .int .i64 h.raw, .string h.root, .string h.tag] 23)
        have hB4 := hB.alloc hB.size (.cells #[.int .i64 h.id, .string h.salt, .int .i64 h.n, .int .i64 h.bytes, .int .i64 h.raw, .string h.root, .string h.tag] 23)
        have c0 : (w3.alloc (.cells #[.int .i64 h.id, .string h.salt, .int .i64 h.n, .int .i64 h.bytes, .int .i64 h.raw, .string h.root, .string h.tag] 23)).cell? ⟨w.heap.size, 0, none⟩ = some (.int .i64 h.id) := (hS4.cell 0).trans rfl
        have c1 : (w3.alloc (.cells #[.int .i64 h.id, .string h.salt, .int .i64 h.n, .int .i64 h.bytes, .int .i64 h.raw, .string h.root, .string h.tag] 23)).cell? ⟨w.heap.size, 1, none⟩ = some (.string h.salt) := (hS4.cell 1).trans rfl
        have c2 : (w3.alloc (.cells #[.int .i64 h.id, .string h.salt, .int .i64 h.n, .int .i64 h.bytes, .int .i64 h.raw, .string h.root, .string h.tag] 23)).cell? ⟨w.heap.size, 2, none⟩ = some (.int .i64 h.n) := (hS4.cell 2).trans rfl
        have c3 : (w3.alloc (.cells #[.int .i64 h.id, .string h.salt, .int .i64 h.n, .int .i64 h.bytes, .int .i64 h.raw, .string h.root, .string h.tag] 23)).cell? ⟨w.heap.size, 3, none⟩ = some (.int .i64 h.bytes) := (hS4.cell 3).trans rfl
        have c4 : (w3.alloc (.cells #[.int .i64 h.id, .string h.salt, .int .i64 h.n, .int .i64 h.bytes, .int .i64 h.raw, .string h.root, .string h.tag] 23)).cell? ⟨w.heap.size, 4, none⟩ = some (.int .i64 h.raw) := (hS4.cell 4).trans rfl
        have c5 : (w3.alloc (.cells #[.int .i64 h.id, .string h.salt, .int .i64 h.n, .int .i64 h.bytes, .int .i64 h.raw, .string h.root, .string h.tag] 23)).cell? ⟨w.heap.size, 5, none⟩ = some (.string h.root) := (hS4.cell 5).trans rfl
        have c6 : (w3.alloc (.cells #[.int .i64 h.id, .string h.salt, .int .i64 h.n, .int .i64 h.bytes, .int .i64 h.raw, .string h.root, .string h.tag] 23)).cell? ⟨w.heap.size, 6, none⟩ = some (.string h.tag) := (hS4.cell 6).trans rfl
        have d0 : (w3.alloc (.cells #[.int .i64 h.id, .string h.salt, .int .i64 h.n, .int .i64 h.bytes, .int .i64 h.raw, .string h.root, .string h.tag] 23)).cell? ⟨w3.heap.size, 0, none⟩ = some (.int .i64 h.id) := (q1.cell 0).trans rfl
        have d1 : (w3.alloc (.cells #[.int .i64 h.id, .string h.salt, .int .i64 h.n, .int .i64 h.bytes, .int .i64 h.raw, .string h.root, .string h.tag] 23)).cell? ⟨w3.heap.size, 1, none⟩ = some (.string h.salt) := (q1.cell 1).trans rfl
        have d2 : (w3.alloc (.cells #[.int .i64 h.id, .string h.salt, .int .i64 h.n, .int .i64 h.bytes, .int .i64 h.raw, .string h.root, .string h.tag] 23)).cell? ⟨w3.heap.size, 2, none⟩ = some (.int .i64 h.n) := (q1.cell 2).trans rfl
        have d3 : (w3.alloc (.cells #[.int .i64 h.id, .string h.salt, .int .i64 h.n, .int .i64 h.bytes, .int .i64 h.raw, .string h.root, .string h.tag] 23)).cell? ⟨w3.heap.size, 3, none⟩ = some (.int .i64 h.bytes) := (q1.cell 3).trans rfl
        have d4 : (w3.alloc (.cells #[.int .i64 h.id, .string h.salt, .int .i64 h.n, .int .i64 h.bytes, .int .i64 h.raw, .string h.root, .string h.tag] 23)).cell? ⟨w3.heap.size, 4, none⟩ = some (.int .i64 h.raw) := (q1.cell 4).trans rfl
        have d5 : (w3.alloc (.cells #[.int .i64 h.id, .string h.salt, .int .i64 h.n, .int .i64 h.bytes, .int .i64 h.raw, .string h.root, .string h.tag] 23)).cell? ⟨w3.heap.size, 5, none⟩ = some (.string h.root) := (q1.cell 5).trans rfl
        have d6 : (w3.alloc (.cells #[.int .i64 h.id, .string h.salt, .int .i64 h.n, .int .i64 h.bytes, .int .i64 h.raw, .string h.root, .string h.tag] 23)).cell? ⟨w3.heap.size, 6, none⟩ = some (.string h.tag) := (q1.cell 6).trans rfl
        go_wp2_with ((refine wpList_store_new rfl 23 (.tmp 7) (.tmp 32) rfl w3.heap.size #[.int .i64 h.id, .string h.salt, .int .i64 h.n, .int .i64 h.bytes, .int .i64 h.raw, .string h.root, .string h.tag] _ 23 rfl rfl rfl rfl header_size rfl HONE.out ?_); dsimp only [Act.put])
        clear c0 c1 c2 c3 c4 c5 c6 d0 d1 d2 d3 d4 d5 d6 hS4 q1 hS hB
        rcases take_again s with ⟨h2, hm2, hs2, ht2⟩ | ht2
        · have HT2 := Lib.hid ht2
          have hp2 := fun W => cPut_yes h2 W hm2
          rw [hs2] at hp2
          have HP2 := Lib.hid hp2
          have hss : (s.toList == s.toList) = true := beq_self_eq_true _
          have HONE2 := Lib.hid (hd_one h2)
          clear ht2 hp2
          go_wp2_with fail
          (with_reducible refine (HT2.out _).mono ?_); rintro e v1 ⟨rfl, hb1⟩
          have B1 := hB4.trans (hb1.mono hB4.size)
          clear hb1
          have q1 := Blk.new v1 23 #[.int .i64 h2.id, .string h2.salt, .int .i64 h2.n, .int .i64 h2.bytes, .int .i64 h2.raw, .string h2.root, .string h2.tag]
          have B2 := B1.alloc B1.size (.cells #[.int .i64 h2.id, .string h2.salt, .int .i64 h2.n, .int .i64 h2.bytes, .int .i64 h2.raw, .string h2.root, .string h2.tag] 23)
          have d0 : (v1.alloc (.cells #[.int .i64 h2.id, .string h2.salt, .int .i64 h2.n, .int .i64 h2.bytes, .int .i64 h2.raw, .string h2.root, .string h2.tag] 23)).cell? ⟨v1.heap.size, 0, none⟩ = some (.int .i64 h2.id) := (q1.cell 0).trans rfl
          have d1 : (v1.alloc (.cells #[.int .i64 h2.id, .string h2.salt, .int .i64 h2.n, .int .i64 h2.bytes, .int .i64 h2.raw, .string h2.root, .string h2.tag] 23)).cell? ⟨v1.heap.size, 1, none⟩ = some (.string h2.salt) := (q1.cell 1).trans rfl
          have d2 : (v1.alloc (.cells #[.int .i64 h2.id, .string h2.salt, .int .i64 h2.n, .int .i64 h2.bytes, .int .i64 h2.raw, .string h2.root, .string h2.tag] 23)).cell? ⟨v1.heap.size, 2, none⟩ = some (.int .i64 h2.n) := (q1.cell 2).trans rfl
          have d3 : (v1.alloc (.cells #[.int .i64 h2.id, .string h2.salt, .int .i64 h2.n, .int .i64 h2.bytes, .int .i64 h2.raw, .string h2.root, .string h2.tag] 23)).cell? ⟨v1.heap.size, 3, none⟩ = some (.int .i64 h2.bytes) := (q1.cell 3).trans rfl
          have d4 : (v1.alloc (.cells #[.int .i64 h2.id, .string h2.salt, .int .i64 h2.n, .int .i64 h2.bytes, .int .i64 h2.raw, .string h2.root, .string h2.tag] 23)).cell? ⟨v1.heap.size, 4, none⟩ = some (.int .i64 h2.raw) := (q1.cell 4).trans rfl
          have d5 : (v1.alloc (.cells #[.int .i64 h2.id, .string h2.salt, .int .i64 h2.n, .int .i64 h2.bytes, .int .i64 h2.raw, .string h2.root, .string h2.tag] 23)).cell? ⟨v1.heap.size, 5, none⟩ = some (.string h2.root) := (q1.cell 5).trans rfl
          have d6 : (v1.alloc (.cells #[.int .i64 h2.id, .string h2.salt, .int .i64 h2.n, .int .i64 h2.bytes, .int .i64 h2.raw, .string h2.root, .string h2.tag] 23)).cell? ⟨v1.heap.size, 6, none⟩ = some (.string h2.tag) := (q1.cell 6).trans rfl
          go_wp2_with ((refine wpList_store_new rfl 23 (.tmp 9) (.tmp 44) rfl v1.heap.size #[.int .i64 h2.id, .string h2.salt, .int .i64 h2.n, .int .i64 h2.bytes, .int .i64 h2.raw, .string h2.root, .string h2.tag] _ 23 rfl rfl rfl rfl header_size rfl HONE2.out ?_); dsimp only [Act.put])
          (with_reducible refine (HP2.out _).mono ?_); rintro e v2 ⟨rfl, hb2⟩
          have B3 := B2.trans (hb2.mono B2.size)
          clear hb2
          go_wp2_with fail
          (with_reducible refine (cAwake18 _).mono ?_); rintro e v3 ⟨rfl, hb3⟩
          go_wp2_with fail
          go_ret
          exact ⟨rfl, B3.trans (hb3.mono B3.size)⟩
        · have HT2 := Lib.hid ht2
          have HONEZ : Hid (∀ v ∈ (#[.int .i64 0, .string ⟨#[]⟩, .int .i64 0, .int .i64 0, .int .i64 0, .string ⟨#[]⟩, .string ⟨#[]⟩] : Array Value).toList, v.oneCell' = true) := Lib.hid (hd_one ⟨0, ⟨#[]⟩, 0, 0, 0, ⟨#[]⟩, ⟨#[]⟩⟩)
          have heqz := header_eq 0 ⟨#[]⟩ 0 0 0 ⟨#[]⟩ ⟨#[]⟩
          clear ht2
          go_wp2_with fail
          (with_reducible refine (HT2.out _).mono ?_); rintro e v1 ⟨rfl, hb1⟩
          have B1 := hB4.trans (hb1.mono hB4.size)
          clear hb1
          have q1 := Blk.new v1 23 #[.int .i64 0, .string ⟨#[]⟩, .int .i64 0, .int .i64 0, .int .i64 0, .string ⟨#[]⟩, .string ⟨#[]⟩]
          have B2 := B1.alloc B1.size (.cells #[.int .i64 0, .string ⟨#[]⟩, .int .i64 0, .int .i64 0, .int .i64 0, .string ⟨#[]⟩, .string ⟨#[]⟩] 23)
          have d0 : (v1.alloc (.cells #[.int .i64 0, .string ⟨#[]⟩, .int .i64 0, .int .i64 0, .int .i64 0, .string ⟨#[]⟩, .string ⟨#[]⟩] 23)).cell? ⟨v1.heap.size, 0, none⟩ = some (.int .i64 0) := (q1.cell 0).trans rfl
          have d1 : (v1.alloc (.cells #[.int .i64 0, .string ⟨#[]⟩, .int .i64 0, .int .i64 0, .int .i64 0, .string ⟨#[]⟩, .string ⟨#[]⟩] 23)).cell? ⟨v1.heap.size, 1, none⟩ = some (.string ⟨#[]⟩) := (q1.cell 1).trans rfl
          have d2 : (v1.alloc (.cells #[.int .i64 0, .string ⟨#[]⟩, .int .i64 0, .int .i64 0, .int .i64 0, .string ⟨#[]⟩, .string ⟨#[]⟩] 23)).cell? ⟨v1.heap.size, 2, none⟩ = some (.int .i64 0) := (q1.cell 2).trans rfl
          have d3 : (v1.alloc (.cells #[.int .i64 0, .string ⟨#[]⟩, .int .i64 0, .int .i64 0, .int .i64 0, .string ⟨#[]⟩, .string ⟨#[]⟩] 23)).cell? ⟨v1.heap.size, 3, none⟩ = some (.int .i64 0) := (q1.cell 3).trans rfl
          have d4 : (v1.alloc (.cells #[.int .i64 0, .string ⟨#[]⟩, .int .i64 0, .int .i64 0, .int .i64 0, .string ⟨#[]⟩, .string ⟨#[]⟩] 23)).cell? ⟨v1.heap.size, 4, none⟩ = some (.int .i64 0) := (q1.cell 4).trans rfl
          have d5 : (v1.alloc (.cells #[.int .i64 0, .string ⟨#[]⟩, .int .i64 0, .int .i64 0, .int .i64 0, .string ⟨#[]⟩, .string ⟨#[]⟩] 23)).cell? ⟨v1.heap.size, 5, none⟩ = some (.string ⟨#[]⟩) := (q1.cell 5).trans rfl
          have d6 : (v1.alloc (.cells #[.int .i64 0, .string ⟨#[]⟩, .int .i64 0, .int .i64 0, .int .i64 0, .string ⟨#[]⟩, .string ⟨#[]⟩] 23)).cell? ⟨v1.heap.size, 6, none⟩ = some (.string ⟨#[]⟩) := (q1.cell 6).trans rfl
          go_wp2_with ((refine wpList_store_new rfl 23 (.tmp 9) (.tmp 44) rfl v1.heap.size #[.int .i64 0, .string ⟨#[]⟩, .int .i64 0, .int .i64 0, .int .i64 0, .string ⟨#[]⟩, .string ⟨#[]⟩] _ 23 rfl rfl rfl rfl header_size rfl HONEZ.out ?_); dsimp only [Act.put])
          (with_reducible refine (cAwake18 _).mono ?_); rintro e v3 ⟨rfl, hb3⟩
          go_wp2_with fail
          go_ret
          exact ⟨rfl, B2.trans (hb3.mono B2.size)⟩
      · have HP := Lib.hid (fun W => cPut_no h W hm)
        clear hm
        go_wp2_with fail
        (with_reducible refine (HP.out _).mono ?_); rintro e w2 ⟨rfl, hb⟩
        replace hB := hB.trans (hb.mono hB.size)
        clear hb c0 c1 c2 c3 c4 c5 c6 hS
        go_wp2_with fail
        rcases take_again s with ⟨h2, hm2, hs2, ht2⟩ | ht2
        · have HT2 := Lib.hid ht2
          have hp2 := fun W => cPut_yes h2 W hm2
          rw [hs2] at hp2
          have HP2 := Lib.hid hp2
          have hss : (s.toList == s.toList) = true := beq_self_eq_true _
          have HONE2 := Lib.hid (hd_one h2)
          clear ht2 hp2
          (with_reducible refine (HT2.out _).mono ?_); rintro e v1 ⟨rfl, hb1⟩
          have B1 := hB.trans (hb1.mono hB.size)
          clear hb1
          have q1 := Blk.new v1 23 #[.int .i64 h2.id, .string h2.salt, .int .i64 h2.n, .int .i64 h2.bytes, .int .i64 h2.raw, .string h2.root, .string h2.tag]
          have B2 := B1.alloc B1.size (.cells #[.int .i64 h2.id, .string h2.salt, .int .i64 h2.n, .int .i64 h2.bytes, .int .i64 h2.raw, .string h2.root, .string h2.tag] 23)
          have d0 : (v1.alloc (.cells #[.int .i64 h2.id, .string h2.salt, .int .i64 h2.n, .int .i64 h2.bytes, .int .i64 h2.raw, .string h2.root, .string h2.tag] 23)).cell? ⟨v1.heap.size, 0, none⟩ = some (.int .i64 h2.id) := (q1.cell 0).trans rfl
          have d1 : (v1.alloc (.cells #[.int .i64 h2.id, .string h2.salt, .int .i64 h2.n, .int .i64 h2.bytes, .int .i64 h2.raw, .string h2.root, .string h2.tag] 23)).cell? ⟨v1.heap.size, 1, none⟩ = some (.string h2.salt) := (q1.cell 1).trans rfl
          have d2 : (v1.alloc (.cells #[.int .i64 h2.id, .string h2.salt, .int .i64 h2.n, .int .i64 h2.bytes, .int .i64 h2.raw, .string h2.root, .string h2.tag] 23)).cell? ⟨v1.heap.size, 2, none⟩ = some (.int .i64 h2.n) := (q1.cell 2).trans rfl
          have d3 : (v1.alloc (.cells #[.int .i64 h2.id, .string h2.salt, .int .i64 h2.n, .int .i64 h2.bytes, .int .i64 h2.raw, .string h2.root, .string h2.tag] 23)).cell? ⟨v1.heap.size, 3, none⟩ = some (.int .i64 h2.bytes) := (q1.cell 3).trans rfl
          have d4 : (v1.alloc (.cells #[.int .i64 h2.id, .string h2.salt, .int .i64 h2.n, .int .i64 h2.bytes, .int .i64 h2.raw, .string h2.root, .string h2.tag] 23)).cell? ⟨v1.heap.size, 4, none⟩ = some (.int .i64 h2.raw) := (q1.cell 4).trans rfl
          have d5 : (v1.alloc (.cells #[.int .i64 h2.id, .string h2.salt, .int .i64 h2.n, .int .i64 h2.bytes, .int .i64 h2.raw, .string h2.root, .string h2.tag] 23)).cell? ⟨v1.heap.size, 5, none⟩ = some (.string h2.root) := (q1.cell 5).trans rfl
          have d6 : (v1.alloc (.cells #[.int .i64 h2.id, .string h2.salt, .int .i64 h2.n, .int .i64 h2.bytes, .int .i64 h2.raw, .string h2.root, .string h2.tag] 23)).cell? ⟨v1.heap.size, 6, none⟩ = some (.string h2.tag) := (q1.cell 6).trans rfl
          go_wp2_with ((refine wpList_store_new rfl 23 (.tmp 9) (.tmp 44) rfl v1.heap.size #[.int .i64 h2.id, .string h2.salt, .int .i64 h2.n, .int .i64 h2.bytes, .int .i64 h2.raw, .string h2.root, .string h2.tag] _ 23 rfl rfl rfl rfl header_size rfl HONE2.out ?_); dsimp only [Act.put])
          (with_reducible refine (HP2.out _).mono ?_); rintro e v2 ⟨rfl, hb2⟩
          have B3 := B2.trans (hb2.mono B2.size)
          clear hb2
          go_wp2_with fail
          (with_reducible refine (cAwake18 _).mono ?_); rintro e v3 ⟨rfl, hb3⟩
          go_wp2_with fail
          go_ret
          exact ⟨rfl, B3.trans (hb3.mono B3.size)⟩
        · have HT2 := Lib.hid ht2
          have HONEZ : Hid (∀ v ∈ (#[.int .i64 0, .string ⟨#[]⟩, .int .i64 0, .int .i64 0, .int .i64 0, .string ⟨#[]⟩, .string ⟨#[]⟩] : Array Value).toList, v.oneCell' = true) := Lib.hid (hd_one ⟨0, ⟨#[]⟩, 0, 0, 0, ⟨#[]⟩, ⟨#[]⟩⟩)
          have heqz := header_eq 0 ⟨#[]⟩ 0 0 0 ⟨#[]⟩ ⟨#[]⟩
          clear ht2
          (with_reducible refine (HT2.out _).mono ?_); rintro e v1 ⟨rfl, hb1⟩
          have B1 := hB.trans (hb1.mono hB.size)
          clear hb1
          have q1 := Blk.new v1 23 #[.int .i64 0, .string ⟨#[]⟩, .int .i64 0, .int .i64 0, .int .i64 0, .string ⟨#[]⟩, .string ⟨#[]⟩]
          have B2 := B1.alloc B1.size (.cells #[.int .i64 0, .string ⟨#[]⟩, .int .i64 0, .int .i64 0, .int .i64 0, .string ⟨#[]⟩, .string ⟨#[]⟩] 23)
          have d0 : (v1.alloc (.cells #[.int .i64 0, .string ⟨#[]⟩, .int .i64 0, .int .i64 0, .int .i64 0, .string ⟨#[]⟩, .string ⟨#[]⟩] 23)).cell? ⟨v1.heap.size, 0, none⟩ = some (.int .i64 0) := (q1.cell 0).trans rfl
          have d1 : (v1.alloc (.cells #[.int .i64 0, .string ⟨#[]⟩, .int .i64 0, .int .i64 0, .int .i64 0, .string ⟨#[]⟩, .string ⟨#[]⟩] 23)).cell? ⟨v1.heap.size, 1, none⟩ = some (.string ⟨#[]⟩) := (q1.cell 1).trans rfl
          have d2 : (v1.alloc (.cells #[.int .i64 0, .string ⟨#[]⟩, .int .i64 0, .int .i64 0, .int .i64 0, .string ⟨#[]⟩, .string ⟨#[]⟩] 23)).cell? ⟨v1.heap.size, 2, none⟩ = some (.int .i64 0) := (q1.cell 2).trans rfl
          have d3 : (v1.alloc (.cells #[.int .i64 0, .string ⟨#[]⟩, .int .i64 0, .int .i64 0, .int .i64 0, .string ⟨#[]⟩, .string ⟨#[]⟩] 23)).cell? ⟨v1.heap.size, 3, none⟩ = some (.int .i64 0) := (q1.cell 3).trans rfl
          have d4 : (v1.alloc (.cells #[.int .i64 0, .string ⟨#[]⟩, .int .i64 0, .int .i64 0, .int .i64 0, .string ⟨#[]⟩, .string ⟨#[]⟩] 23)).cell? ⟨v1.heap.size, 4, none⟩ = some (.int .i64 0) := (q1.cell 4).trans rfl
          have d5 : (v1.alloc (.cells #[.int .i64 0, .string ⟨#[]⟩, .int .i64 0, .int .i64 0, .int .i64 0, .string ⟨#[]⟩, .string ⟨#[]⟩] 23)).cell? ⟨v1.heap.size, 5, none⟩ = some (.string ⟨#[]⟩) := (q1.cell 5).trans rfl
          have d6 : (v1.alloc (.cells #[.int .i64 0, .string ⟨#[]⟩, .int .i64 0, .int .i64 0, .int .i64 0, .string ⟨#[]⟩, .string ⟨#[]⟩] 23)).cell? ⟨v1.heap.size, 6, none⟩ = some (.string ⟨#[]⟩) := (q1.cell 6).trans rfl
          go_wp2_with ((refine wpList_store_new rfl 23 (.tmp 9) (.tmp 44) rfl v1.heap.size #[.int .i64 0, .string ⟨#[]⟩, .int .i64 0, .int .i64 0, .int .i64 0, .string ⟨#[]⟩, .string ⟨#[]⟩] _ 23 rfl rfl rfl rfl header_size rfl HONEZ.out ?_); dsimp only [Act.put])
          (with_reducible refine (cAwake18 _).mono ?_); rintro e v3 ⟨rfl, hb3⟩
          go_wp2_with fail
          go_ret
          exact ⟨rfl, B2.trans (hb3.mono B2.size)⟩
    · have hsI : (1000 : Int) < (s.size : Int) := by omega
      have hsD : decide ((1000 : Int) < (s.size : Int)) = true := decide_eq_true (by omega)
      have c0 : (w.alloc (.cells #[.int .i64 h.id, .string h.salt, .int .i64 h.n, .int .i64 h.bytes, .int .i64 h.raw, .string h.root, .string h.tag] 23)).cell? ⟨w.heap.size, 0, none⟩ = some (.int .i64 h.id) := (hS.cell 0).trans rfl
      have c1 : (w.alloc (.cells #[.int .i64 h.id, .string h.salt, .int .i64 h.n, .int .i64 h.bytes, .int .i64 h.raw, .string h.root, .string h.tag] 23)).cell? ⟨w.heap.size, 1, none⟩ = some (.string h.salt) := (hS.cell 1).trans rfl
      have c2 : (w.alloc (.cells #[.int .i64 h.id, .string h.salt, .int .i64 h.n, .int .i64 h.bytes, .int .i64 h.raw, .string h.root, .string h.tag] 23)).cell? ⟨w.heap.size, 2, none⟩ = some (.int .i64 h.n) := (hS.cell 2).trans rfl
      have c3 : (w.alloc (.cells #[.int .i64 h.id, .string h.salt, .int .i64 h.n, .int .i64 h.bytes, .int .i64 h.raw, .string h.root, .string h.tag] 23)).cell? ⟨w.heap.size, 3, none⟩ = some (.int .i64 h.bytes) := (hS.cell 3).trans rfl
      have c4 : (w.alloc (.cells #[.int .i64 h.id, .string h.salt, .int .i64 h.n, .int .i64 h.bytes, .int .i64 h.raw, .string h.root, .string h.tag] 23)).cell? ⟨w.heap.size, 4, none⟩ = some (.int .i64 h.raw) := (hS.cell 4).trans rfl
      have c5 : (w.alloc (.cells #[.int .i64 h.id, .string h.salt, .int .i64 h.n, .int .i64 h.bytes, .int .i64 h.raw, .string h.root, .string h.tag] 23)).cell? ⟨w.heap.size, 5, none⟩ = some (.string h.root) := (hS.cell 5).trans rfl
      have c6 : (w.alloc (.cells #[.int .i64 h.id, .string h.salt, .int .i64 h.n, .int .i64 h.bytes, .int .i64 h.raw, .string h.root, .string h.tag] 23)).cell? ⟨w.heap.size, 6, none⟩ = some (.string h.tag) := (hS.cell 6).trans rfl
      go_enter Try.func3, Try.ntmps3
      go_wp2_with fail
      (with_reducible refine (clight_yes h _ HL.out).mono ?_); rintro e w1 ⟨rfl, hb⟩
      replace hB := hB.trans (hb.mono hB.size)
      clear hb c0 c1 c2 c3 c4 c5 c6
      go_wp2_with fail
      (with_reducible refine (cAwake18 _).mono ?_); rintro e w2 ⟨rfl, hb⟩
      go_wp2_with fail
      go_ret
      exact ⟨rfl, hB.trans (hb.mono hB.size)⟩
  · have HL := Lib.hid hl
    clear hl
    have c0 : (w.alloc (.cells #[.int .i64 h.id, .string h.salt, .int .i64 h.n, .int .i64 h.bytes, .int .i64 h.raw, .string h.root, .string h.tag] 23)).cell? ⟨w.heap.size, 0, none⟩ = some (.int .i64 h.id) := (hS.cell 0).trans rfl
    have c1 : (w.alloc (.cells #[.int .i64 h.id, .string h.salt, .int .i64 h.n, .int .i64 h.bytes, .int .i64 h.raw, .string h.root, .string h.tag] 23)).cell? ⟨w.heap.size, 1, none⟩ = some (.string h.salt) := (hS.cell 1).trans rfl
    have c2 : (w.alloc (.cells #[.int .i64 h.id, .string h.salt, .int .i64 h.n, .int .i64 h.bytes, .int .i64 h.raw, .string h.root, .string h.tag] 23)).cell? ⟨w.heap.size, 2, none⟩ = some (.int .i64 h.n) := (hS.cell 2).trans rfl
    have c3 : (w.alloc (.cells #[.int .i64 h.id, .string h.salt, .int .i64 h.n, .int .i64 h.bytes, .int .i64 h.raw, .string h.root, .string h.tag] 23)).cell? ⟨w.heap.size, 3, none⟩ = some (.int .i64 h.bytes) := (hS.cell 3).trans rfl
    have c4 : (w.alloc (.cells #[.int .i64 h.id, .string h.salt, .int .i64 h.n, .int .i64 h.bytes, .int .i64 h.raw, .string h.root, .string h.tag] 23)).cell? ⟨w.heap.size, 4, none⟩ = some (.int .i64 h.raw) := (hS.cell 4).trans rfl
    have c5 : (w.alloc (.cells #[.int .i64 h.id, .string h.salt, .int .i64 h.n, .int .i64 h.bytes, .int .i64 h.raw, .string h.root, .string h.tag] 23)).cell? ⟨w.heap.size, 5, none⟩ = some (.string h.root) := (hS.cell 5).trans rfl
    have c6 : (w.alloc (.cells #[.int .i64 h.id, .string h.salt, .int .i64 h.n, .int .i64 h.bytes, .int .i64 h.raw, .string h.root, .string h.tag] 23)).cell? ⟨w.heap.size, 6, none⟩ = some (.string h.tag) := (hS.cell 6).trans rfl
    go_enter Try.func3, Try.ntmps3
    go_wp2_with fail
    (with_reducible refine (clight_no h _ HL.out).mono ?_); rintro e w1 ⟨rfl, hb⟩
    replace hB := hB.trans (hb.mono hB.size)
    clear hb c0 c1 c2 c3 c4 c5 c6
    go_wp2_with fail
    (with_reducible refine (cAwake18 _).mono ?_); rintro e w2 ⟨rfl, hb⟩
    go_wp2_with fail
    go_ret
    exact ⟨rfl, hB.trans (hb.mono hB.size)⟩
end Go.Proofs.Ytbofmfocnbennaa
