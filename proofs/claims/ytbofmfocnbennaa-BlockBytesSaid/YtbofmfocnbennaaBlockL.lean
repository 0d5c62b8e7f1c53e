/- The laws BlockSeals, BlockOpens, BlockBack, walked. -/
import Derived.Test.YtbofmfocnbennaaBlock4
namespace Go.Proofs.Ytbofmfocnbennaa
open Go.RowKit
set_option maxRecDepth 100000
set_option linter.unusedVariables false
set_option linter.unusedSimpArgs false

set_option maxHeartbeats 4000000 in
theorem blockSeals_walk (k : Ks) (i : Int) (hi : (Lit.int .i64 i).wf = true) (c : ByteArray) (hc : c.size ≤ reachBytes) {w : World} :
    Calls Try.prog 7 #[.agg #[.string k.enc, .string k.mac, .string k.head], .int .i64 i, .string c] w fun e w' => e = .returned (.bool true) ∧ Below w.heap.size w w' := by
  obtain ⟨enc, mac, head⟩ := k
  clear hi
  by_cases hsh : (⟨enc, mac, head⟩ : Ks).short c
  · have h1 := fun W => cshort14_yes ⟨enc, mac, head⟩ c W hsh
    obtain ⟨x, n, h2⟩ := seal_same ⟨enc, mac, head⟩ i c (Nat.le_trans hsh.2.1 (by decide))
    dsimp only at h1 h2 ⊢
    have hxx : (x.toList == x.toList) = true := beq_self_eq_true _
    have hnn : (n == n) = true := beq_self_eq_true _
    have H1 := Lib.hid h1
    have H2 := Lib.hid fun W => (h2 W).1
    have H3 := Lib.hid fun W => (h2 W).2
    clear h1 h2 hsh
    have hS := Blk.new w 34 #[.string enc, .string mac, .string head]
    have hB : Below w.heap.size w (w.alloc (.cells #[.string enc, .string mac, .string head] 34)) := (Below.refl _ _).alloc (Nat.le_refl _) _
    have c0 : (w.alloc (.cells #[.string enc, .string mac, .string head] 34)).cell? ⟨w.heap.size, 0, none⟩ = some (.string enc) := (hS.cell 0).trans rfl
    have c1 : (w.alloc (.cells #[.string enc, .string mac, .string head] 34)).cell? ⟨w.heap.size, 1, none⟩ = some (.string mac) := (hS.cell 1).trans rfl
    have c2 : (w.alloc (.cells #[.string enc, .string mac, .string head] 34)).cell? ⟨w.heap.size, 2, none⟩ = some (.string head) := (hS.cell 2).trans rfl
    go_enter Try.func7, Try.ntmps7
    go_wp2_with fail
    (with_reducible refine (H1.out _).mono ?_); rintro e w1 ⟨rfl, hb⟩
    replace hB := hB.trans (hb.mono hB.size)
    replace hS := hS.below hb hS.lt
    clear hb c0 c1 c2
    have c0 : w1.cell? ⟨w.heap.size, 0, none⟩ = some (.string enc) := (hS.cell 0).trans rfl
    have c1 : w1.cell? ⟨w.heap.size, 1, none⟩ = some (.string mac) := (hS.cell 1).trans rfl
    have c2 : w1.cell? ⟨w.heap.size, 2, none⟩ = some (.string head) := (hS.cell 2).trans rfl
    go_wp2_with fail
    (with_reducible refine (H2.out _).mono ?_); rintro e w2 ⟨rfl, hb⟩
    replace hB := hB.trans (hb.mono hB.size)
    replace hS := hS.below hb hS.lt
    clear hb c0 c1 c2
    have c0 : w2.cell? ⟨w.heap.size, 0, none⟩ = some (.string enc) := (hS.cell 0).trans rfl
    have c1 : w2.cell? ⟨w.heap.size, 1, none⟩ = some (.string mac) := (hS.cell 1).trans rfl
    have c2 : w2.cell? ⟨w.heap.size, 2, none⟩ = some (.string head) := (hS.cell 2).trans rfl
    go_wp2_with fail
    (with_reducible refine (H3.out _).mono ?_); rintro e w3 ⟨rfl, hb⟩
    replace hB := hB.trans (hb.mono hB.size)
    clear hb c0 c1 c2 hS
    go_wp2_with fail
    (with_reducible refine (cAwake14 _).mono ?_); rintro e w9 ⟨rfl, hb⟩
    go_wp2_with fail
    go_ret
    exact ⟨rfl, hB.trans (hb.mono hB.size)⟩
  · have h1 := fun W => cshort14_no ⟨enc, mac, head⟩ c W hsh
    dsimp only at h1 ⊢
    have H1 := Lib.hid h1
    clear h1 hsh
    have hS := Blk.new w 34 #[.string enc, .string mac, .string head]
    have hB : Below w.heap.size w (w.alloc (.cells #[.string enc, .string mac, .string head] 34)) := (Below.refl _ _).alloc (Nat.le_refl _) _
    have c0 : (w.alloc (.cells #[.string enc, .string mac, .string head] 34)).cell? ⟨w.heap.size, 0, none⟩ = some (.string enc) := (hS.cell 0).trans rfl
    have c1 : (w.alloc (.cells #[.string enc, .string mac, .string head] 34)).cell? ⟨w.heap.size, 1, none⟩ = some (.string mac) := (hS.cell 1).trans rfl
    have c2 : (w.alloc (.cells #[.string enc, .string mac, .string head] 34)).cell? ⟨w.heap.size, 2, none⟩ = some (.string head) := (hS.cell 2).trans rfl
    go_enter Try.func7, Try.ntmps7
    go_wp2_with fail
    (with_reducible refine (H1.out _).mono ?_); rintro e w1 ⟨rfl, hb⟩
    replace hB := hB.trans (hb.mono hB.size)
    clear hb c0 c1 c2 hS
    go_wp2_with fail
    (with_reducible refine (cAwake14 _).mono ?_); rintro e w9 ⟨rfl, hb⟩
    go_wp2_with fail
    go_ret
    exact ⟨rfl, hB.trans (hb.mono hB.size)⟩
set_option maxHeartbeats 4000000 in
theorem blockOpens_walk (k : Ks) (i : Int) (hi : (Lit.int .i64 i).wf = true) (c : ByteArray) (hc : c.size ≤ reachBytes) {w : World} :
    Calls Try.prog 8 #[.agg #[.string k.enc, .string k.mac, .string k.head], .int .i64 i, .string c] w fun e w' => e = .returned (.bool true) ∧ Below w.heap.size w w' := by
  obtain ⟨enc, mac, head⟩ := k
  clear hi
  by_cases hsh : (⟨enc, mac, head⟩ : Ks).short c
  · have h1 := fun W => cshort14_yes ⟨enc, mac, head⟩ c W hsh
    obtain ⟨x, n, h2⟩ := open_same ⟨enc, mac, head⟩ i c (Nat.le_trans hsh.2.1 (by decide))
    dsimp only at h1 h2 ⊢
    have hxx : (x.toList == x.toList) = true := beq_self_eq_true _
    have hnn : (n == n) = true := beq_self_eq_true _
    have H1 := Lib.hid h1
    have H2 := Lib.hid fun W => (h2 W).1
    have H3 := Lib.hid fun W => (h2 W).2
    clear h1 h2 hsh
    have hS := Blk.new w 34 #[.string enc, .string mac, .string head]
    have hB : Below w.heap.size w (w.alloc (.cells #[.string enc, .string mac, .string head] 34)) := (Below.refl _ _).alloc (Nat.le_refl _) _
    have c0 : (w.alloc (.cells #[.string enc, .string mac, .string head] 34)).cell? ⟨w.heap.size, 0, none⟩ = some (.string enc) := (hS.cell 0).trans rfl
    have c1 : (w.alloc (.cells #[.string enc, .string mac, .string head] 34)).cell? ⟨w.heap.size, 1, none⟩ = some (.string mac) := (hS.cell 1).trans rfl
    have c2 : (w.alloc (.cells #[.string enc, .string mac, .string head] 34)).cell? ⟨w.heap.size, 2, none⟩ = some (.string head) := (hS.cell 2).trans rfl
    go_enter Try.func8, Try.ntmps8
    go_wp2_with fail
    (with_reducible refine (H1.out _).mono ?_); rintro e w1 ⟨rfl, hb⟩
    replace hB := hB.trans (hb.mono hB.size)
    replace hS := hS.below hb hS.lt
    clear hb c0 c1 c2
    have c0 : w1.cell? ⟨w.heap.size, 0, none⟩ = some (.string enc) := (hS.cell 0).trans rfl
    have c1 : w1.cell? ⟨w.heap.size, 1, none⟩ = some (.string mac) := (hS.cell 1).trans rfl
    have c2 : w1.cell? ⟨w.heap.size, 2, none⟩ = some (.string head) := (hS.cell 2).trans rfl
    go_wp2_with fail
    (with_reducible refine (H2.out _).mono ?_); rintro e w2 ⟨rfl, hb⟩
    replace hB := hB.trans (hb.mono hB.size)
    replace hS := hS.below hb hS.lt
    clear hb c0 c1 c2
    have c0 : w2.cell? ⟨w.heap.size, 0, none⟩ = some (.string enc) := (hS.cell 0).trans rfl
    have c1 : w2.cell? ⟨w.heap.size, 1, none⟩ = some (.string mac) := (hS.cell 1).trans rfl
    have c2 : w2.cell? ⟨w.heap.size, 2, none⟩ = some (.string head) := (hS.cell 2).trans rfl
    go_wp2_with fail
    (with_reducible refine (H3.out _).mono ?_); rintro e w3 ⟨rfl, hb⟩
    replace hB := hB.trans (hb.mono hB.size)
    clear hb c0 c1 c2 hS
    go_wp2_with fail
    (with_reducible refine (cAwake14 _).mono ?_); rintro e w9 ⟨rfl, hb⟩
    go_wp2_with fail
    go_ret
    exact ⟨rfl, hB.trans (hb.mono hB.size)⟩
  · have h1 := fun W => cshort14_no ⟨enc, mac, head⟩ c W hsh
    dsimp only at h1 ⊢
    have H1 := Lib.hid h1
    clear h1 hsh
    have hS := Blk.new w 34 #[.string enc, .string mac, .string head]
    have hB : Below w.heap.size w (w.alloc (.cells #[.string enc, .string mac, .string head] 34)) := (Below.refl _ _).alloc (Nat.le_refl _) _
    have c0 : (w.alloc (.cells #[.string enc, .string mac, .string head] 34)).cell? ⟨w.heap.size, 0, none⟩ = some (.string enc) := (hS.cell 0).trans rfl
    have c1 : (w.alloc (.cells #[.string enc, .string mac, .string head] 34)).cell? ⟨w.heap.size, 1, none⟩ = some (.string mac) := (hS.cell 1).trans rfl
    have c2 : (w.alloc (.cells #[.string enc, .string mac, .string head] 34)).cell? ⟨w.heap.size, 2, none⟩ = some (.string head) := (hS.cell 2).trans rfl
    go_enter Try.func8, Try.ntmps8
    go_wp2_with fail
    (with_reducible refine (H1.out _).mono ?_); rintro e w1 ⟨rfl, hb⟩
    replace hB := hB.trans (hb.mono hB.size)
    clear hb c0 c1 c2 hS
    go_wp2_with fail
    (with_reducible refine (cAwake14 _).mono ?_); rintro e w9 ⟨rfl, hb⟩
    go_wp2_with fail
    go_ret
    exact ⟨rfl, hB.trans (hb.mono hB.size)⟩
set_option maxHeartbeats 8000000 in
theorem blockBack_walk (k : Ks) (i : Int) (hi : (Lit.int .i64 i).wf = true) (c : ByteArray) (hc : c.size ≤ reachBytes) {w : World} :
    Calls Try.prog 9 #[.agg #[.string k.enc, .string k.mac, .string k.head], .int .i64 i, .string c] w fun e w' => e = .returned (.bool true) ∧ Below w.heap.size w w' := by
  obtain ⟨enc, mac, head⟩ := k
  clear hi
  by_cases hsh : (⟨enc, mac, head⟩ : Ks).short c
  · have h1 := fun W => cshort14_yes ⟨enc, mac, head⟩ c W hsh
    have he1 : enc.size ≤ 100 := hsh.1
    have hc1 : c.size ≤ 1000 := hsh.2.2
    have k1 := fun W => csz32 enc W (by omega)
    have k2 := fun W => csz192 c W (by omega)
    have z1 := szd_size enc 32
    have z2 := szd_size c 192
    obtain ⟨E, HE⟩ : ∃ x, Hid (szd enc 32 = x) := ⟨_, Lib.hid rfl⟩
    obtain ⟨C, HC⟩ : ∃ x, Hid (szd c 192 = x) := ⟨_, Lib.hid rfl⟩
    rw [HE.out] at z1
    simp only [HE.out] at k1
    rw [HC.out] at z2
    simp only [HC.out] at k2
    have hmac : mac.size ≤ 1000000 := Nat.le_trans hsh.2.1 (by decide)
    dsimp only at h1 ⊢
    have H1 := Lib.hid h1
    have K1 := Lib.hid k1
    have K2 := Lib.hid k2
    clear h1 k1 k2
    rcases Int.lt_or_le i 0 with hi0 | hi0
    · have hr : ¬ ((⟨E, mac, head⟩ : Ks).right i ∧ C.size = 192) := fun h => by have := h.1.2; omega
      have k3 := fun W => cSeal_no ⟨E, mac, head⟩ i C W hr
      dsimp only at k3
      clear hr hmac hsh
      have K3 := Lib.hid k3
      clear k3
      have i1 : decide (i < 0) = true := decide_eq_true (by omega)
      have hS := Blk.new w 34 #[.string enc, .string mac, .string head]
      have hB : Below w.heap.size w (w.alloc (.cells #[.string enc, .string mac, .string head] 34)) := (Below.refl _ _).alloc (Nat.le_refl _) _
      have c0 : (w.alloc (.cells #[.string enc, .string mac, .string head] 34)).cell? ⟨w.heap.size, 0, none⟩ = some (.string enc) := (hS.cell 0).trans rfl
      have c1 : (w.alloc (.cells #[.string enc, .string mac, .string head] 34)).cell? ⟨w.heap.size, 1, none⟩ = some (.string mac) := (hS.cell 1).trans rfl
      have c2 : (w.alloc (.cells #[.string enc, .string mac, .string head] 34)).cell? ⟨w.heap.size, 2, none⟩ = some (.string head) := (hS.cell 2).trans rfl
      go_enter Try.func9, Try.ntmps9
      go_wp2_with fail
      (with_reducible refine (H1.out _).mono ?_); rintro e w1 ⟨rfl, hb⟩
      replace hB := hB.trans (hb.mono hB.size)
      replace hS := hS.below hb hS.lt
      clear hb c0 c1 c2
      have c0 : w1.cell? ⟨w.heap.size, 0, none⟩ = some (.string enc) := (hS.cell 0).trans rfl
      have c1 : w1.cell? ⟨w.heap.size, 1, none⟩ = some (.string mac) := (hS.cell 1).trans rfl
      have c2 : w1.cell? ⟨w.heap.size, 2, none⟩ = some (.string head) := (hS.cell 2).trans rfl
      go_wp2_with fail
      (with_reducible refine (K1.out _).mono ?_); rintro e w2 ⟨rfl, hb⟩
      replace hB := hB.trans (hb.mono hB.size)
      replace hS := hS.below hb hS.lt
      clear hb c0 c1 c2
      have f0 : w2.frozen? ⟨w.heap.size, 0, none⟩ = false := hS.frozen 0
      have c0 : w2.cell? ⟨w.heap.size, 0, none⟩ = some (.string enc) := (hS.cell 0).trans rfl
      have hS2 : Blk (w2.setCell ⟨w.heap.size, 0, none⟩ (.string E)) w.heap.size 34 #[.string E, .string mac, .string head] := hS.set_ 0 (.string E)
      replace hB := hB.setCell (p := ⟨w.heap.size, 0, none⟩) (Nat.le_refl _) (.string E)
      clear hS
      have hS := hS2
      clear hS2
      have c0 : (w2.setCell ⟨w.heap.size, 0, none⟩ (.string E)).cell? ⟨w.heap.size, 0, none⟩ = some (.string E) := (hS.cell 0).trans rfl
      have c1 : (w2.setCell ⟨w.heap.size, 0, none⟩ (.string E)).cell? ⟨w.heap.size, 1, none⟩ = some (.string mac) := (hS.cell 1).trans rfl
      have c2 : (w2.setCell ⟨w.heap.size, 0, none⟩ (.string E)).cell? ⟨w.heap.size, 2, none⟩ = some (.string head) := (hS.cell 2).trans rfl
      go_wp2_with fail
      (with_reducible refine (K2.out _).mono ?_); rintro e w3 ⟨rfl, hb⟩
      replace hB := hB.trans (hb.mono hB.size)
      replace hS := hS.below hb hS.lt
      clear hb c0 c1 c2
      have c0 : w3.cell? ⟨w.heap.size, 0, none⟩ = some (.string E) := (hS.cell 0).trans rfl
      have c1 : w3.cell? ⟨w.heap.size, 1, none⟩ = some (.string mac) := (hS.cell 1).trans rfl
      have c2 : w3.cell? ⟨w.heap.size, 2, none⟩ = some (.string head) := (hS.cell 2).trans rfl
      go_wp2_with fail
      (with_reducible refine (K3.out _).mono ?_); rintro e w4 ⟨rfl, hb⟩
      replace hB := hB.trans (hb.mono hB.size)
      clear hb c0 c1 c2 hS
      go_wp2_with fail
      (with_reducible refine (cAwake14 _).mono ?_); rintro e w9 ⟨rfl, hb⟩
      go_wp2_with fail
      go_ret
      exact ⟨rfl, hB.trans (hb.mono hB.size)⟩
    rcases Int.lt_or_le i 256 with hi1 | hi1
    · have hr : (⟨E, mac, head⟩ : Ks).right i := ⟨z1, by omega, by omega⟩
      have k3 := fun W => cSeal_yes ⟨E, mac, head⟩ i C W hr z2 hmac
      have k4 := fun W => cOpen_seal ⟨E, mac, head⟩ i C W hr z2 hmac
      have sz := sealB_size ⟨E, mac, head⟩ i C
      rw [z2] at sz
      dsimp only at k3 k4
      clear hr hmac hsh
      obtain ⟨S, HSS⟩ : ∃ x, Hid (sealB ⟨E, mac, head⟩ i C = x) := ⟨_, Lib.hid rfl⟩
      simp only [HSS.out] at k3 k4 sz
      have hcc : (C.toList == C.toList) = true := beq_self_eq_true _
      have hszI : ((S.size : Int) == 224) = true := by simp; omega
      have K3 := Lib.hid k3
      have K4 := Lib.hid k4
      clear k3 k4
      have i1 : decide (i < 0) = false := decide_eq_false (by omega)
      have i2 : decide ((256 : Int) ≤ i) = false := decide_eq_false (by omega)
      have hS := Blk.new w 34 #[.string enc, .string mac, .string head]
      have hB : Below w.heap.size w (w.alloc (.cells #[.string enc, .string mac, .string head] 34)) := (Below.refl _ _).alloc (Nat.le_refl _) _
      have c0 : (w.alloc (.cells #[.string enc, .string mac, .string head] 34)).cell? ⟨w.heap.size, 0, none⟩ = some (.string enc) := (hS.cell 0).trans rfl
      have c1 : (w.alloc (.cells #[.string enc, .string mac, .string head] 34)).cell? ⟨w.heap.size, 1, none⟩ = some (.string mac) := (hS.cell 1).trans rfl
      have c2 : (w.alloc (.cells #[.string enc, .string mac, .string head] 34)).cell? ⟨w.heap.size, 2, none⟩ = some (.string head) := (hS.cell 2).trans rfl
      go_enter Try.func9, Try.ntmps9
      go_wp2_with fail
      (with_reducible refine (H1.out _).mono ?_); rintro e w1 ⟨rfl, hb⟩
      replace hB := hB.trans (hb.mono hB.size)
      replace hS := hS.below hb hS.lt
      clear hb c0 c1 c2
      have c0 : w1.cell? ⟨w.heap.size, 0, none⟩ = some (.string enc) := (hS.cell 0).trans rfl
      have c1 : w1.cell? ⟨w.heap.size, 1, none⟩ = some (.string mac) := (hS.cell 1).trans rfl
      have c2 : w1.cell? ⟨w.heap.size, 2, none⟩ = some (.string head) := (hS.cell 2).trans rfl
      go_wp2_with fail
      (with_reducible refine (K1.out _).mono ?_); rintro e w2 ⟨rfl, hb⟩
      replace hB := hB.trans (hb.mono hB.size)
      replace hS := hS.below hb hS.lt
      clear hb c0 c1 c2
      have f0 : w2.frozen? ⟨w.heap.size, 0, none⟩ = false := hS.frozen 0
      have c0 : w2.cell? ⟨w.heap.size, 0, none⟩ = some (.string enc) := (hS.cell 0).trans rfl
      have hS2 : Blk (w2.setCell ⟨w.heap.size, 0, none⟩ (.string E)) w.heap.size 34 #[.string E, .string mac, .string head] := hS.set_ 0 (.string E)
      replace hB := hB.setCell (p := ⟨w.heap.size, 0, none⟩) (Nat.le_refl _) (.string E)
      clear hS
      have hS := hS2
      clear hS2
      have c0 : (w2.setCell ⟨w.heap.size, 0, none⟩ (.string E)).cell? ⟨w.heap.size, 0, none⟩ = some (.string E) := (hS.cell 0).trans rfl
      have c1 : (w2.setCell ⟨w.heap.size, 0, none⟩ (.string E)).cell? ⟨w.heap.size, 1, none⟩ = some (.string mac) := (hS.cell 1).trans rfl
      have c2 : (w2.setCell ⟨w.heap.size, 0, none⟩ (.string E)).cell? ⟨w.heap.size, 2, none⟩ = some (.string head) := (hS.cell 2).trans rfl
      go_wp2_with fail
      (with_reducible refine (K2.out _).mono ?_); rintro e w3 ⟨rfl, hb⟩
      replace hB := hB.trans (hb.mono hB.size)
      replace hS := hS.below hb hS.lt
      clear hb c0 c1 c2
      have c0 : w3.cell? ⟨w.heap.size, 0, none⟩ = some (.string E) := (hS.cell 0).trans rfl
      have c1 : w3.cell? ⟨w.heap.size, 1, none⟩ = some (.string mac) := (hS.cell 1).trans rfl
      have c2 : w3.cell? ⟨w.heap.size, 2, none⟩ = some (.string head) := (hS.cell 2).trans rfl
      go_wp2_with fail
      (with_reducible refine (K3.out _).mono ?_); rintro e w4 ⟨rfl, hb⟩
      replace hB := hB.trans (hb.mono hB.size)
      replace hS := hS.below hb hS.lt
      clear hb c0 c1 c2
      have c0 : w4.cell? ⟨w.heap.size, 0, none⟩ = some (.string E) := (hS.cell 0).trans rfl
      have c1 : w4.cell? ⟨w.heap.size, 1, none⟩ = some (.string mac) := (hS.cell 1).trans rfl
      have c2 : w4.cell? ⟨w.heap.size, 2, none⟩ = some (.string head) := (hS.cell 2).trans rfl
    
      go_wp2_with fail
      (with_reducible refine (K4.out _).mono ?_); rintro e w5 ⟨rfl, hb⟩
      replace hB := hB.trans (hb.mono hB.size)
      clear hb c0 c1 c2 hS
      go_wp2_with fail
      (with_reducible refine (cAwake14 _).mono ?_); rintro e w9 ⟨rfl, hb⟩
      go_wp2_with fail
      go_ret
      exact ⟨rfl, hB.trans (hb.mono hB.size)⟩
    · have hr : ¬ ((⟨E, mac, head⟩ : Ks).right i ∧ C.size = 192) := fun h => by have := h.1.2; omega
      have k3 := fun W => cSeal_no ⟨E, mac, head⟩ i C W hr
      dsimp only at k3
      clear hr hmac hsh
      have K3 := Lib.hid k3
      clear k3
      have i1 : decide (i < 0) = false := decide_eq_false (by omega)
      have i2 : decide ((256 : Int) ≤ i) = true := decide_eq_true (by omega)
      have hS := Blk.new w 34 #[.string enc, .string mac, .string head]
      have hB : Below w.heap.size w (w.alloc (.cells #[.string enc, .string mac, .string head] 34)) := (Below.refl _ _).alloc (Nat.le_refl _) _
      have c0 : (w.alloc (.cells #[.string enc, .string mac, .string head] 34)).cell? ⟨w.heap.size, 0, none⟩ = some (.string enc) := (hS.cell 0).trans rfl
      have c1 : (w.alloc (.cells #[.string enc, .string mac, .string head] 34)).cell? ⟨w.heap.size, 1, none⟩ = some (.string mac) := (hS.cell 1).trans rfl
      have c2 : (w.alloc (.cells #[.string enc, .string mac, .string head] 34)).cell? ⟨w.heap.size, 2, none⟩ = some (.string head) := (hS.cell 2).trans rfl
      go_enter Try.func9, Try.ntmps9
      go_wp2_with fail
      (with_reducible refine (H1.out _).mono ?_); rintro e w1 ⟨rfl, hb⟩
      replace hB := hB.trans (hb.mono hB.size)
      replace hS := hS.below hb hS.lt
      clear hb c0 c1 c2
      have c0 : w1.cell? ⟨w.heap.size, 0, none⟩ = some (.string enc) := (hS.cell 0).trans rfl
      have c1 : w1.cell? ⟨w.heap.size, 1, none⟩ = some (.string mac) := (hS.cell 1).trans rfl
      have c2 : w1.cell? ⟨w.heap.size, 2, none⟩ = some (.string head) := (hS.cell 2).trans rfl
      go_wp2_with fail
      (with_reducible refine (K1.out _).mono ?_); rintro e w2 ⟨rfl, hb⟩
      replace hB := hB.trans (hb.mono hB.size)
      replace hS := hS.below hb hS.lt
      clear hb c0 c1 c2
      have f0 : w2.frozen? ⟨w.heap.size, 0, none⟩ = false := hS.frozen 0
      have c0 : w2.cell? ⟨w.heap.size, 0, none⟩ = some (.string enc) := (hS.cell 0).trans rfl
      have hS2 : Blk (w2.setCell ⟨w.heap.size, 0, none⟩ (.string E)) w.heap.size 34 #[.string E, .string mac, .string head] := hS.set_ 0 (.string E)
      replace hB := hB.setCell (p := ⟨w.heap.size, 0, none⟩) (Nat.le_refl _) (.string E)
      clear hS
      have hS := hS2
      clear hS2
      have c0 : (w2.setCell ⟨w.heap.size, 0, none⟩ (.string E)).cell? ⟨w.heap.size, 0, none⟩ = some (.string E) := (hS.cell 0).trans rfl
      have c1 : (w2.setCell ⟨w.heap.size, 0, none⟩ (.string E)).cell? ⟨w.heap.size, 1, none⟩ = some (.string mac) := (hS.cell 1).trans rfl
      have c2 : (w2.setCell ⟨w.heap.size, 0, none⟩ (.string E)).cell? ⟨w.heap.size, 2, none⟩ = some (.string head) := (hS.cell 2).trans rfl
      go_wp2_with fail
      (with_reducible refine (K2.out _).mono ?_); rintro e w3 ⟨rfl, hb⟩
      replace hB := hB.trans (hb.mono hB.size)
      replace hS := hS.below hb hS.lt
      clear hb c0 c1 c2
      have c0 : w3.cell? ⟨w.heap.size, 0, none⟩ = some (.string E) := (hS.cell 0).trans rfl
      have c1 : w3.cell? ⟨w.heap.size, 1, none⟩ = some (.string mac) := (hS.cell 1).trans rfl
      have c2 : w3.cell? ⟨w.heap.size, 2, none⟩ = some (.string head) := (hS.cell 2).trans rfl
      go_wp2_with fail
      (with_reducible refine (K3.out _).mono ?_); rintro e w4 ⟨rfl, hb⟩
      replace hB := hB.trans (hb.mono hB.size)
      clear hb c0 c1 c2 hS
      go_wp2_with fail
      (with_reducible refine (cAwake14 _).mono ?_); rintro e w9 ⟨rfl, hb⟩
      go_wp2_with fail
      go_ret
      exact ⟨rfl, hB.trans (hb.mono hB.size)⟩
  · have h1 := fun W => cshort14_no ⟨enc, mac, head⟩ c W hsh
    dsimp only at h1 ⊢
    have H1 := Lib.hid h1
    clear h1 hsh
    have hS := Blk.new w 34 #[.string enc, .string mac, .string head]
    have hB : Below w.heap.size w (w.alloc (.cells #[.string enc, .string mac, .string head] 34)) := (Below.refl _ _).alloc (Nat.le_refl _) _
    have c0 : (w.alloc (.cells #[.string enc, .string mac, .string head] 34)).cell? ⟨w.heap.size, 0, none⟩ = some (.string enc) := (hS.cell 0).trans rfl
    have c1 : (w.alloc (.cells #[.string enc, .string mac, .string head] 34)).cell? ⟨w.heap.size, 1, none⟩ = some (.string mac) := (hS.cell 1).trans rfl
    have c2 : (w.alloc (.cells #[.string enc, .string mac, .string head] 34)).cell? ⟨w.heap.size, 2, none⟩ = some (.string head) := (hS.cell 2).trans rfl
    go_enter Try.func9, Try.ntmps9
    go_wp2_with fail
    (with_reducible refine (H1.out _).mono ?_); rintro e w1 ⟨rfl, hb⟩
    replace hB := hB.trans (hb.mono hB.size)
    clear hb c0 c1 c2 hS
    go_wp2_with fail
    (with_reducible refine (cAwake14 _).mono ?_); rintro e w9 ⟨rfl, hb⟩
    go_wp2_with fail
    go_ret
    exact ⟨rfl, hB.trans (hb.mono hB.size)⟩
end Go.Proofs.Ytbofmfocnbennaa
