/- sledgelaw14's short and awake; what both packages answer. -/
import Derived.Test.YtbofmfocnbennaaBlock3
import Derived.Test.YtbofmfocnbennaaSized14
namespace Go.Proofs.Ytbofmfocnbennaa
open Go.RowKit
set_option maxRecDepth 100000
set_option linter.unusedVariables false
set_option linter.unusedSimpArgs false

theorem extract_left (a b : ByteArray) (n : Nat) (h : a.size = n) : (a ++ b).extract 0 n = a := by
  subst h
  apply ByteArray.ext
  simp
theorem extract_right (a b : ByteArray) (n : Nat) (h : a.size = n) : (a ++ b).extract n (a ++ b).size = b := by
  exact ByteArray.extract_append_eq_right h.symm (by rw [ByteArray.size_append])
theorem seal_left (k : Ks) (i : Int) (c : ByteArray) (hc : c.size = 192) : (sealB k i c).extract 0 192 = xorS k.enc (nonceB i) 1 c := by
  unfold sealB
  exact extract_left _ _ 192 (by rw [xorS_size, hc])
theorem seal_right (k : Ks) (i : Int) (c : ByteArray) (hc : c.size = 192) : (sealB k i c).extract 192 (sealB k i c).size = tagB k.mac i (xorS k.enc (nonceB i) 1 c) := by
  unfold sealB
  exact extract_right _ _ 192 (by rw [xorS_size, hc])
/-- What was sealed is opened. -/
theorem cOpen_seal (k : Ks) (i : Int) (c : ByteArray) (w : World) (h : k.right i) (hc : c.size = 192) (hm : k.mac.size ≤ 1000000) : Calls Try.prog 30 #[.agg #[.string k.enc, .string k.mac, .string k.head], .int .i64 i, .string (sealB k i c)] w fun e w' => e = .returned (.tuple #[.string c, .int .i64 0]) ∧ Below w.heap.size w w' := by
  have h1 := cOpen_yes k i (sealB k i c) w h (by rw [sealB_size, hc]) hm (by rw [seal_left k i c hc, seal_right k i c hc])
  rw [seal_left k i c hc, xorS_xorS] at h1
  exact h1
theorem seal_same (k : Ks) (i : Int) (c : ByteArray) (hm : k.mac.size ≤ 1000000) : ∃ (x : ByteArray) (n : Int), ∀ W : World,
    (Calls Try.prog 28 #[.agg #[.string k.enc, .string k.mac, .string k.head], .int .i64 i, .string c] W fun e w' => e = .returned (.tuple #[.string x, .int .i64 n]) ∧ Below W.heap.size W w') ∧
    (Calls Try.prog 29 #[.agg #[.string k.enc, .string k.mac, .string k.head], .int .i64 i, .string c] W fun e w' => e = .returned (.tuple #[.string x, .int .i64 n]) ∧ Below W.heap.size W w') := by
  by_cases h : k.right i ∧ c.size = 192
  · exact ⟨_, _, fun W => ⟨cSeal_yes k i c W h.1 h.2 hm, crSeal_yes k i c W h.1 h.2 hm⟩⟩
  · exact ⟨_, _, fun W => ⟨cSeal_no k i c W h, crSeal_no k i c W h⟩⟩
theorem open_same (k : Ks) (i : Int) (s : ByteArray) (hm : k.mac.size ≤ 1000000) : ∃ (x : ByteArray) (n : Int), ∀ W : World,
    (Calls Try.prog 30 #[.agg #[.string k.enc, .string k.mac, .string k.head], .int .i64 i, .string s] W fun e w' => e = .returned (.tuple #[.string x, .int .i64 n]) ∧ Below W.heap.size W w') ∧
    (Calls Try.prog 31 #[.agg #[.string k.enc, .string k.mac, .string k.head], .int .i64 i, .string s] W fun e w' => e = .returned (.tuple #[.string x, .int .i64 n]) ∧ Below W.heap.size W w') := by
  by_cases h : k.right i
  · by_cases hs : s.size = 224
    · by_cases ht : tagB k.mac i (s.extract 0 192) = s.extract 192 s.size
      · exact ⟨_, _, fun W => ⟨cOpen_yes k i s W h hs hm ht, crOpen_yes k i s W h hs hm ht⟩⟩
      · exact ⟨_, _, fun W => ⟨cOpen_tag k i s W h hs hm ht, crOpen_tag k i s W h hs hm ht⟩⟩
    · exact ⟨_, _, fun W => ⟨cOpen_form k i s W h hs, crOpen_form k i s W h hs⟩⟩
  · exact ⟨_, _, fun W => ⟨cOpen_arg k i s W h, crOpen_arg k i s W h⟩⟩
abbrev Ks.short (k : Ks) (s : ByteArray) : Prop := k.enc.size ≤ 100 ∧ k.mac.size ≤ 1000 ∧ s.size ≤ 1000
theorem cshort14_yes (k : Ks) (s : ByteArray) (w : World) (h : k.short s) : Calls Try.prog 26 #[.agg #[.string k.enc, .string k.mac, .string k.head], .string s] w fun e w' => e = .returned (.bool true) ∧ Below w.heap.size w w' := by
  obtain ⟨enc, mac, head⟩ := k
  dsimp only [Ks.short] at h ⊢
  have hB := (Below.refl w.heap.size w).alloc (Nat.le_refl _) (.cells #[.string enc, .string mac, .string head] 34)
  have HB := Lib.hid hB
  clear hB
  obtain ⟨h1, h2, h3⟩ := h
  have e1 : (enc.size : Int) ≤ 100 := by omega
  have e2 : (mac.size : Int) ≤ 1000 := by omega
  have e3 : (s.size : Int) ≤ 1000 := by omega
  go_enter Try.func26, Try.ntmps26
  go_wp2_with fail
  go_ret
  exact ⟨rfl, HB.out⟩
theorem cshort14_no (k : Ks) (s : ByteArray) (w : World) (h : ¬ k.short s) : Calls Try.prog 26 #[.agg #[.string k.enc, .string k.mac, .string k.head], .string s] w fun e w' => e = .returned (.bool false) ∧ Below w.heap.size w w' := by
  obtain ⟨enc, mac, head⟩ := k
  dsimp only [Ks.short] at h ⊢
  have hB := (Below.refl w.heap.size w).alloc (Nat.le_refl _) (.cells #[.string enc, .string mac, .string head] 34)
  have HB := Lib.hid hB
  clear hB
  have H := Lib.hid h
  clear h
  by_cases h1 : enc.size ≤ 100
  · have e1 : (enc.size : Int) ≤ 100 := by omega
    by_cases h2 : mac.size ≤ 1000
    · have e2 : (mac.size : Int) ≤ 1000 := by omega
      have h3 : 1000 < s.size := by have := H.out; omega
      have e3 : decide ((s.size : Int) ≤ 1000) = false := decide_eq_false (by omega)
      go_enter Try.func26, Try.ntmps26
      go_wp2_with fail
      go_ret
      exact ⟨rfl, HB.out⟩
    · have e2 : decide ((mac.size : Int) ≤ 1000) = false := decide_eq_false (by omega)
      go_enter Try.func26, Try.ntmps26
      go_wp2_with fail
      go_ret
      exact ⟨rfl, HB.out⟩
  · have e1 : decide ((enc.size : Int) ≤ 100) = false := decide_eq_false (by omega)
    go_enter Try.func26, Try.ntmps26
    go_wp2_with fail
    go_ret
    exact ⟨rfl, HB.out⟩
theorem stream_3 : ¬ (strm (szd ⟨#[107]⟩ 32) (nonceB 3) (.ofInt 32 (1 + ((0 / 64 : Nat) : Int)))).getD (0 % 64) 0 = 0 := by decide +kernel
theorem xor_moves (key nonce : ByteArray) (c : ByteArray) (h1 : 0 < c.size) (h : ¬ (strm key nonce (.ofInt 32 (1 + ((0 / 64 : Nat) : Int)))).getD (0 % 64) 0 = 0) : ¬ xorS key nonce 1 c = c := by
  intro e
  have e2 : (xorS key nonce 1 c).data.toList.getD 0 0 = c.data.toList.getD 0 0 := by rw [e]
  rw [xorS_bytes, xorN_getD _ _ _ _ _ _ (by rw [data_length]; exact h1), if_pos h1, ksb_eq] at e2
  apply h
  have e3 := congrArg (fun z => c.data.toList.getD 0 0 ^^^ z) e2
  rw [← UInt8.xor_assoc, UInt8.xor_self, UInt8.zero_xor] at e3
  exact e3
set_option maxHeartbeats 4000000 in
theorem cAwake14 (w : World) : Calls Try.prog 27 #[] w fun e w' => e = .returned (.bool true) ∧ Below w.heap.size w w' := by
  have k1 := fun W => csz32 ⟨#[107]⟩ W (by decide)
  have k2 := fun W => csz192 ⟨#[99]⟩ W (by decide)
  have z1 := szd_size ⟨#[107]⟩ 32
  have z2 := szd_size ⟨#[99]⟩ 192
  have hst := stream_3
  obtain ⟨enc, HE⟩ : ∃ x, Hid (szd ⟨#[107]⟩ 32 = x) := ⟨_, Lib.hid rfl⟩
  obtain ⟨c, HC⟩ : ∃ x, Hid (szd ⟨#[99]⟩ 192 = x) := ⟨_, Lib.hid rfl⟩
  rw [HE.out] at z1 hst
  simp only [HE.out] at k1
  rw [HC.out] at z2
  simp only [HC.out] at k2
  have hr : (⟨enc, ⟨#[109]⟩, ⟨#[]⟩⟩ : Ks).right 3 := ⟨z1, by omega, by omega⟩
  have k3 := fun W => cSeal_yes ⟨enc, ⟨#[109]⟩, ⟨#[]⟩⟩ 3 c W hr z2 (show (1 : Nat) ≤ 1000000 by decide)
  have k4 := fun W => cOpen_seal ⟨enc, ⟨#[109]⟩, ⟨#[]⟩⟩ 3 c W hr z2 (show (1 : Nat) ≤ 1000000 by decide)
  have sz := sealB_size ⟨enc, ⟨#[109]⟩, ⟨#[]⟩⟩ 3 c
  have sl := seal_left ⟨enc, ⟨#[109]⟩, ⟨#[]⟩⟩ 3 c z2
  have mv := xor_moves enc (nonceB 3) c (by omega) hst
  dsimp only at k3 k4 sl
  rw [← sl] at mv
  have hne := beq_text_ne mv
  rw [z2] at sz
  clear sl mv hst hr
  obtain ⟨S, HSS⟩ : ∃ x, Hid (sealB ⟨enc, ⟨#[109]⟩, ⟨#[]⟩⟩ 3 c = x) := ⟨_, Lib.hid rfl⟩
  simp only [HSS.out] at k3 k4 sz hne
  have hcc : (c.toList == c.toList) = true := beq_self_eq_true _
  have hszI : ((S.size : Int) == 224) = true := by simp; omega
  have K1 := Lib.hid k1
  have K2 := Lib.hid k2
  have K3 := Lib.hid k3
  have K4 := Lib.hid k4
  have ONE : Hid (∀ v ∈ (#[.string enc, .string ⟨#[109]⟩, .string ⟨#[]⟩] : Array Value).toList, v.oneCell' = true) := Lib.hid (by intro v hv; simp at hv; rcases hv with rfl | rfl | rfl <;> rfl)
  clear k1 k2 k3 k4
  go_enter Try.func27, Try.ntmps27
  go_wp2_with fail
  (with_reducible refine (K1.out _).mono ?_); rintro e w1 ⟨rfl, hb⟩
  have hS := Blk.new w1 34 #[.string enc, .string ⟨#[109]⟩, .string ⟨#[]⟩]
  have hB : Below w.heap.size w (w1.alloc (.cells #[.string enc, .string ⟨#[109]⟩, .string ⟨#[]⟩] 34)) := hb.alloc hb.size _
  clear hb
  go_wp2_with (refine wpList_store_new rfl 34 (.tmp 1) (.tmp 8) rfl w1.heap.size #[.string enc, .string ⟨#[109]⟩, .string ⟨#[]⟩] _ 34 rfl rfl rfl rfl keys_info rfl ONE.out ?_; dsimp only [Act.put])
  (with_reducible refine (K2.out _).mono ?_); rintro e w2 ⟨rfl, hb⟩
  replace hB := hB.trans (hb.mono hB.size)
  replace hS := hS.below hb hS.lt
  clear hb
  have c0 : w2.cell? ⟨w1.heap.size, 0, none⟩ = some (.string enc) := (hS.cell 0).trans rfl
  have c1 : w2.cell? ⟨w1.heap.size, 1, none⟩ = some (.string ⟨#[109]⟩) := (hS.cell 1).trans rfl
  have c2 : w2.cell? ⟨w1.heap.size, 2, none⟩ = some (.string ⟨#[]⟩) := (hS.cell 2).trans rfl
  go_wp2_with fail
  (with_reducible refine (K3.out _).mono ?_); rintro e w3 ⟨rfl, hb⟩
  replace hB := hB.trans (hb.mono hB.size)
  replace hS := hS.below hb hS.lt
  clear hb c0 c1 c2
  have c0 : w3.cell? ⟨w1.heap.size, 0, none⟩ = some (.string enc) := (hS.cell 0).trans rfl
  have c1 : w3.cell? ⟨w1.heap.size, 1, none⟩ = some (.string ⟨#[109]⟩) := (hS.cell 1).trans rfl
  have c2 : w3.cell? ⟨w1.heap.size, 2, none⟩ = some (.string ⟨#[]⟩) := (hS.cell 2).trans rfl
  go_wp2_with fail
  (with_reducible refine (K4.out _).mono ?_); rintro e w4 ⟨rfl, hb⟩
  replace hB := hB.trans (hb.mono hB.size)
  clear hb c0 c1 c2 hS
  go_wp2_with fail
  go_ret
  exact ⟨rfl, hB⟩
end Go.Proofs.Ytbofmfocnbennaa
