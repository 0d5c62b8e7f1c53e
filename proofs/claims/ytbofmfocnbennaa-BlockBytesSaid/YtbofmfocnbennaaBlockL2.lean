/- The laws BlockTags, BlockBytes, walked. -/
import Derived.Test.YtbofmfocnbennaaBlockL
import Derived.Test.YtbofmfocnbennaaAnd
import Derived.Test.YtbofmfocnbennaaApp1
namespace Go.Proofs.Ytbofmfocnbennaa
open Go.RowKit
set_option maxRecDepth 100000
set_option linter.unusedVariables false
set_option linter.unusedSimpArgs false

/-- A text of which one byte is turned. -/
def turnK (s : ByteArray) (j : Nat) (z : UInt8) : ByteArray := str (s.data.toList.set j (s.data.toList.getD j 0 ^^^ z))
theorem turnK_bytes (s : ByteArray) (j : Nat) (z : UInt8) : (turnK s j z).data.toList = s.data.toList.set j (s.data.toList.getD j 0 ^^^ z) := by unfold turnK; rw [bytes_str]
theorem turnK_size (s : ByteArray) (j : Nat) (z : UInt8) : (turnK s j z).size = s.size := by unfold turnK; rw [str_size, List.length_set, data_length]
theorem turnK_left (s : ByteArray) (j : Nat) (z : UInt8) (hs : s.size = 224) (hj : 192 ≤ j) : (turnK s j z).extract 0 192 = s.extract 0 192 := by
  apply ba_ext
  have hz := turnK_size s j z
  refine list_ext_getD (by rw [data_length, data_length, ByteArray.size_extract, ByteArray.size_extract, hz]) (fun i hi => ?_)
  rw [data_length, ByteArray.size_extract, hz] at hi
  rw [extract_getD _ 0 192 i (by omega) (by omega), extract_getD _ 0 192 i (by omega) (by omega), turnK_bytes, getD_set_bytes _ _ _ _ (by rw [data_length]; omega), if_neg (by omega)]
theorem turnK_right (s : ByteArray) (j : Nat) (z : UInt8) (hs : s.size = 224) (hj : 192 ≤ j) (hj2 : j < 224) (hz0 : z ≠ 0) : ¬ s.extract 192 s.size = (turnK s j z).extract 192 (turnK s j z).size := by
  intro e
  have hz := turnK_size s j z
  have e2 : (s.extract 192 s.size).data.toList.getD (j - 192) 0 = ((turnK s j z).extract 192 (turnK s j z).size).data.toList.getD (j - 192) 0 := by rw [e]
  rw [extract_getD _ 192 s.size (j - 192) (by omega) (by omega), extract_getD _ 192 (turnK s j z).size (j - 192) (by omega) (by omega), turnK_bytes, getD_set_bytes _ _ _ _ (by rw [data_length]; omega), if_pos (by omega)] at e2
  have e3 : 192 + (j - 192) = j := by omega
  rw [e3] at e2
  apply hz0
  have e4 : s.data.toList.getD j 0 ^^^ s.data.toList.getD j 0 = s.data.toList.getD j 0 ^^^ (s.data.toList.getD j 0 ^^^ z) := congrArg _ e2
  rw [UInt8.xor_self, ← UInt8.xor_assoc, UInt8.xor_self, UInt8.zero_xor] at e4
  exact e4.symm
/-- What was sealed and turned in its tag is not opened. -/
theorem cOpen_turned (k : Ks) (i : Int) (c : ByteArray) (j : Nat) (z : UInt8) (w : World) (h : k.right i) (hc : c.size = 192) (hm : k.mac.size ≤ 1000000) (hj : 192 ≤ j) (hj2 : j < 224) (hz : z ≠ 0) : Calls Try.prog 30 #[.agg #[.string k.enc, .string k.mac, .string k.head], .int .i64 i, .string (turnK (sealB k i c) j z)] w fun e w' => e = .returned (.tuple #[.string ⟨#[]⟩, .int .i64 4]) ∧ Below w.heap.size w w' := by
  have hs : (sealB k i c).size = 224 := by rw [sealB_size, hc]
  refine cOpen_tag k i (turnK (sealB k i c) j z) w h (by rw [turnK_size, hs]) hm ?_
  rw [turnK_left _ _ _ hs hj, seal_left k i c hc, ← seal_right k i c hc]
  exact turnK_right _ _ _ hs hj hj2 hz
/-- What two sealed texts differ by is what the texts differ by. -/
theorem seal_xor (k : Ks) (i : Int) (a b : ByteArray) (ha : a.size = 192) (hb : b.size = 192) (n : Nat) (hn : n < 192) :
    (sealB k i a).data.toList.getD n 0 ^^^ (sealB k i b).data.toList.getD n 0 = a.data.toList.getD n 0 ^^^ b.data.toList.getD n 0 := by
  have h : ∀ c : ByteArray, c.size = 192 → (sealB k i c).data.toList.getD n 0 = c.data.toList.getD n 0 ^^^ ksb k.enc (nonceB i) 1 n := fun c hc => by
    have e1 := extract_getD (sealB k i c) 0 192 n (by rw [sealB_size]; omega) (by omega)
    rw [seal_left k i c hc, xorS_bytes, xorN_getD _ _ _ _ _ _ (by rw [data_length]; omega), if_pos (by omega), Nat.zero_add] at e1
    exact e1.symm
  rw [h a ha, h b hb]
  generalize ksb k.enc (nonceB i) 1 n = x
  generalize a.data.toList.getD n 0 = y
  generalize b.data.toList.getD n 0 = z
  rw [UInt8.xor_assoc, UInt8.xor_comm x, UInt8.xor_assoc z, UInt8.xor_self, UInt8.xor_zero]

set_option maxHeartbeats 8000000 in
theorem blockTags_walk (k : Ks) (i : Int) (hi : (Lit.int .i64 i).wf = true) (c : ByteArray) (hc : c.size ≤ reachBytes) (at_ : Int) (hat : (Lit.int .i64 at_).wf = true) (by_ : Int) (hby : (Lit.int .u8 by_).wf = true) {w : World} :
    Calls Try.prog 10 #[.agg #[.string k.enc, .string k.mac, .string k.head], .int .i64 i, .string c, .int .i64 at_, .int .u8 by_] w fun e w' => e = .returned (.bool true) ∧ Below w.heap.size w w' := by
  obtain ⟨enc, mac, head⟩ := k
  have hci := wf_byte hby
  obtain ⟨z, rfl⟩ : ∃ c : UInt8, by_ = ((c.toNat : Nat) : Int) := ⟨UInt8.ofNat by_.toNat, by simp; omega⟩
  clear hci hby hat hi
  by_cases hsh : (⟨enc, mac, head⟩ : Ks).short c
  · have h1 := fun W => cshort14_yes ⟨enc, mac, head⟩ c W hsh
    dsimp only at h1 ⊢
    by_cases hz : z = 0
    · subst hz
      have hz0 : (((UInt8.toNat 0 : Nat) : Int) == 0) = true := by decide
      have H1 := Lib.hid h1
      clear h1 hsh
      have hS := Blk.new w 34 #[.string enc, .string mac, .string head]
      have hB : Below w.heap.size w (w.alloc (.cells #[.string enc, .string mac, .string head] 34)) := (Below.refl _ _).alloc (Nat.le_refl _) _
      have c0 : (w.alloc (.cells #[.string enc, .string mac, .string head] 34)).cell? ⟨w.heap.size, 0, none⟩ = some (.string enc) := (hS.cell 0).trans rfl
      have c1 : (w.alloc (.cells #[.string enc, .string mac, .string head] 34)).cell? ⟨w.heap.size, 1, none⟩ = some (.string mac) := (hS.cell 1).trans rfl
      have c2 : (w.alloc (.cells #[.string enc, .string mac, .string head] 34)).cell? ⟨w.heap.size, 2, none⟩ = some (.string head) := (hS.cell 2).trans rfl
      go_enter Try.func10, Try.ntmps10
      go_wp2_with fail
      (with_reducible refine (H1.out _).mono ?_); rintro e w1 ⟨rfl, hb⟩
      replace hB := hB.trans (hb.mono hB.size)
      clear hb c0 c1 c2 hS
      go_wp2_with fail
      (with_reducible refine (cAwake14 _).mono ?_); rintro e w9 ⟨rfl, hb⟩
      go_wp2_with fail
      go_ret
      exact ⟨rfl, hB.trans (hb.mono hB.size)⟩
    have hzn : ((z.toNat : Int) == 0) = false := by
      have : z.toNat ≠ 0 := fun e => hz (UInt8.toNat_inj.1 e)
      simp; omega
    have he1 : enc.size ≤ 100 := hsh.1
    have hc1 : c.size ≤ 1000 := hsh.2.2
    have hmac : mac.size ≤ 1000000 := Nat.le_trans hsh.2.1 (by decide)
    have k1 := fun W => csz32 enc W (by omega)
    have k2 := fun W => csz192 c W (by omega)
    have z1 := szd_size enc 32
    have z2 := szd_size c 192
    obtain ⟨E, HE⟩ : ∃ x, Hid (szd enc 32 = x) := ⟨_, Lib.hid rfl⟩
    obtain ⟨C, HC⟩ : ∃ x, Hid (szd c 192 = x) := ⟨_, Lib.hid rfl⟩
    rw [HE.out] at z1
    simp only [HE.out] at k1
    rw [HC.out] at z2
    simp only [HC.out] at k2
    have handI : bits .and .i64 i 255 = i % 256 := by
      rw [bits_and_mask 8 (by decide) i 255 (by decide)]; rfl
    have hI1 := Int.emod_nonneg i (show (256 : Int) ≠ 0 by decide)
    have hI2 := Int.emod_lt_of_pos i (show (0 : Int) < 256 by decide)
    obtain ⟨I, HI⟩ : ∃ x, i % 256 = x := ⟨_, rfl⟩
    rw [HI] at handI hI1 hI2
    have hand : bits .and .i64 at_ 31 = ((at_ % 32).toNat : Int) := by
      rw [bits_and_mask 5 (by decide) at_ 31 (by decide)]
      have := Int.emod_nonneg at_ (show (32 : Int) ≠ 0 by decide)
      have e : ((2 ^ 5 : Nat) : Int) = 32 := by decide
      rw [e]; omega
    have hj : (at_ % 32).toNat < 32 := by have := Int.emod_lt_of_pos at_ (show (0 : Int) < 32 by decide); omega
    obtain ⟨j, HJ⟩ : ∃ x, Hid ((at_ % 32).toNat = x) := ⟨_, Lib.hid rfl⟩
    rw [HJ.out] at hand hj
    have hr : (⟨E, mac, head⟩ : Ks).right I := ⟨z1, hI1, hI2⟩
    have k3 := fun W => cSeal_yes ⟨E, mac, head⟩ I C W hr z2 hmac
    have k4 := fun W => cOpen_turned ⟨E, mac, head⟩ I C (192 + j) z W hr z2 hmac (by omega) (by omega) hz
    have sz := sealB_size ⟨E, mac, head⟩ I C
    rw [z2] at sz
    dsimp only at k3 k4
    obtain ⟨S, HSS⟩ : ∃ x, Hid (sealB ⟨E, mac, head⟩ I C = x) := ⟨_, Lib.hid rfl⟩
    simp only [HSS.out] at k3 k4 sz
    have htn : turnK S (192 + j) z = str (S.data.toList.set (192 + j) (S.data.toList.getD (192 + j) 0 ^^^ z)) := rfl
    obtain ⟨N, HNN⟩ : ∃ x, Hid (turnK S (192 + j) z = x) := ⟨_, Lib.hid rfl⟩
    simp only [HNN.out] at k4
    rw [HNN.out] at htn
    have hgl : S.data.toList.length = 224 := by rw [data_length]; exact sz
    obtain ⟨x, HX⟩ : ∃ x, Hid (S.data.toList.getD (192 + j) 0 = x) := ⟨_, Lib.hid rfl⟩
    rw [HX.out] at htn
    have hxor := b_xor8 x z
    have hszI : ((S.size : Int) != 224) = false := by simp; omega
    obtain ⟨y, HY⟩ : ∃ y, Hid (x ^^^ z = y) := ⟨_, Lib.hid rfl⟩
    rw [HY.out] at htn hxor
    have hjI : (j : Int) < 32 := by omega
    have H1 := Lib.hid h1
    have K1 := Lib.hid k1
    have K2 := Lib.hid k2
    have K3 := Lib.hid k3
    have K4 := Lib.hid k4
    have HTN := Lib.hid htn
    clear h1 k1 k2 k3 k4 hsh htn HI hr
    have hS := Blk.new w 34 #[.string enc, .string mac, .string head]
    have hB : Below w.heap.size w (w.alloc (.cells #[.string enc, .string mac, .string head] 34)) := (Below.refl _ _).alloc (Nat.le_refl _) _
    have c0 : (w.alloc (.cells #[.string enc, .string mac, .string head] 34)).cell? ⟨w.heap.size, 0, none⟩ = some (.string enc) := (hS.cell 0).trans rfl
    have c1 : (w.alloc (.cells #[.string enc, .string mac, .string head] 34)).cell? ⟨w.heap.size, 1, none⟩ = some (.string mac) := (hS.cell 1).trans rfl
    have c2 : (w.alloc (.cells #[.string enc, .string mac, .string head] 34)).cell? ⟨w.heap.size, 2, none⟩ = some (.string head) := (hS.cell 2).trans rfl
    go_enter Try.func10, Try.ntmps10
    go_wp2_with fail
    (with_reducible refine (H1.out _).mono ?_); rintro e w1 ⟨rfl, hb⟩
    replace hB := hB.trans (hb.mono hB.size)
    replace hS := hS.below hb hS.lt
    clear hb c0 c1 c2
    have c0 : w1.cell? ⟨w.heap.size, 0, none⟩ = some (.string enc) := (hS.cell 0).trans rfl
    have c1 : w1.cell? ⟨w.heap.size, 1, none⟩ = some (.string mac) := (hS.cell 1).trans rfl
    have c2 : w1.cell? ⟨w.heap.size, 2, none⟩ = some (.string head) := (hS.cell 2).trans rfl
    go_wp2_with fail
    (with_reducible refine (K1.out _).mono ?_); rintro e w2 ⟨rfl, hb⟩
    replace hB := hB.trans (hb.mono hB.size)
    replace hS := hS.below hb hS.lt
    clear hb c0 c1 c2
    have f0 : w2.frozen? ⟨w.heap.size, 0, none⟩ = false := hS.frozen 0
    have c0 : w2.cell? ⟨w.heap.size, 0, none⟩ = some (.string enc) := (hS.cell 0).trans rfl
    have hS2 : Blk (w2.setCell ⟨w.heap.size, 0, none⟩ (.string E)) w.heap.size 34 #[.string E, .string mac, .string head] := hS.set_ 0 (.string E)
    replace hB := hB.setCell (p := ⟨w.heap.size, 0, none⟩) (Nat.le_refl _) (.string E)
    clear hS
    have hS := hS2
    clear hS2
    go_wp2_with fail
    refine wp_region_lexS (fun w' => Blk w' w.heap.size 34 #[.string E, .string mac, .string head]) 0 [] (by kernel_rfl) (by kernel_rfl) hS.drew ?_
    replace hS := hS.drew
    replace hB := below_drewN hB 1
    clear c0 f0
    repeat (first | (refine wpX_load0 rfl rfl _ _ rfl _ rfl _ rfl Try.underlying9 _ (fun w' h => (Blk.cell h _).trans rfl) hS ?_; simp only [Act.put, List.setIfInBounds_toArray, List.set_cons_zero, List.set_cons_succ, List.getElem_toArray, List.getElem_cons_zero, List.getElem_cons_succ]) | (refine wpX_loadK rfl rfl _ _ rfl _ rfl _ 34 _ (fun w' h => h) Try.underlying34 rfl keys_info hS ?_; simp only [Act.put, List.setIfInBounds_toArray, List.set_cons_zero, List.set_cons_succ, List.getElem_toArray, List.getElem_cons_zero, List.getElem_cons_succ]) | (refine wpX_pure rfl rfl rfl ?_; intro K hK; go_big_quiet_op; refine hK _ ?_; clear hK K))
    refine wpX_eff rfl rfl ?_; intro K hK; go_wp2_with fail
    (with_reducible refine (K2.out _).mono ?_); rintro e w5 ⟨rfl, hb⟩
    go_wp2_with fail; refine hK _ _ (hS.below hb hS.lt) ?_; clear hK K; replace hB := hB.trans (hb.mono hB.size); replace hS := hS.below hb hS.lt; clear hb
    repeat (first | (refine wpX_load0 rfl rfl _ _ rfl _ rfl _ rfl Try.underlying9 _ (fun w' h => (Blk.cell h _).trans rfl) hS ?_; simp only [Act.put, List.setIfInBounds_toArray, List.set_cons_zero, List.set_cons_succ, List.getElem_toArray, List.getElem_cons_zero, List.getElem_cons_succ]) | (refine wpX_loadK rfl rfl _ _ rfl _ rfl _ 34 _ (fun w' h => h) Try.underlying34 rfl keys_info hS ?_; simp only [Act.put, List.setIfInBounds_toArray, List.set_cons_zero, List.set_cons_succ, List.getElem_toArray, List.getElem_cons_zero, List.getElem_cons_succ]) | (refine wpX_pure rfl rfl rfl ?_; intro K hK; go_big_quiet_op; refine hK _ ?_; clear hK K))
    refine wpX_eff rfl rfl ?_; intro K hK; go_wp2_with fail
    (with_reducible refine (K3.out _).mono ?_); rintro e w6 ⟨rfl, hb⟩
    go_wp2_with fail; refine hK _ _ (hS.below hb hS.lt) ?_; clear hK K; replace hB := hB.trans (hb.mono hB.size); replace hS := hS.below hb hS.lt; clear hb
    repeat (first | (refine wpX_load0 rfl rfl _ _ rfl _ rfl _ rfl Try.underlying9 _ (fun w' h => (Blk.cell h _).trans rfl) hS ?_; simp only [Act.put, List.setIfInBounds_toArray, List.set_cons_zero, List.set_cons_succ, List.getElem_toArray, List.getElem_cons_zero, List.getElem_cons_succ]) | (refine wpX_loadK rfl rfl _ _ rfl _ rfl _ 34 _ (fun w' h => h) Try.underlying34 rfl keys_info hS ?_; simp only [Act.put, List.setIfInBounds_toArray, List.set_cons_zero, List.set_cons_succ, List.getElem_toArray, List.getElem_cons_zero, List.getElem_cons_succ]) | (refine wpX_pure rfl rfl rfl ?_; intro K hK; go_big_quiet_op; refine hK _ ?_; clear hK K))
    refine wpX_nil ?_
    obtain ⟨c3, w3, hc3, hcv, hR, hb3⟩ := conv_rowM S w6
    obtain ⟨gb, cap, he, hlc, hbg, hTx⟩ := hR.form
    injection he with he1 he2 he3
    injection he1 with he1; injection he1 with he1 _ _
    subst he1
    have hl6 := hS.lt
    have q6 := hS.below hb3 hS.lt
    have hB6 := hB.trans (hb3.mono hB.size)
    have cj := hTx.cell (192 + j) (by rw [hgl]; omega)
    have fj := hTx.frozen (192 + j) (by rw [hgl]; omega)
    rw [HX.out] at cj
    have hTx2 := hTx.set_ (192 + j) y
    have q7 := q6.far (p := ⟨w6.heap.size, 192 + j, none⟩) (by show w.heap.size ≠ w6.heap.size; omega) (.int .u8 ((y.toNat : Nat) : Int))
    have hB7 := hB6.setCell (p := ⟨w6.heap.size, 192 + j, none⟩) (by show w.heap.size ≤ w6.heap.size; omega) (.int .u8 ((y.toNat : Nat) : Int))
    have hcv2 := conv_bytes (P := Try.prog) Try.underlying43 Try.underlying5 Try.underlying9 (w3.setCell ⟨w6.heap.size, 192 + j, none⟩ (.int .u8 ((y.toNat : Nat) : Int))) ⟨w6.heap.size, 0, none⟩ 224 c3 (S.data.toList.set (192 + j) y) (by rw [List.length_set, hgl]) (fun i hi => by have := hTx2.bytes i (by rw [List.length_set, hgl]; exact hi); rw [add0] at this ⊢; exact this)
    rw [← HTN.out] at hcv2
    rw [sz] at hcv
    have hc3I : (224 : Int) ≤ (c3 : Int) := by omega
    have c0 : (w3.setCell ⟨w6.heap.size, 192 + j, none⟩ (.int .u8 ((y.toNat : Nat) : Int))).cell? ⟨w.heap.size, 0, none⟩ = some (.string E) := (q7.cell 0).trans rfl
    have c1 : (w3.setCell ⟨w6.heap.size, 192 + j, none⟩ (.int .u8 ((y.toNat : Nat) : Int))).cell? ⟨w.heap.size, 1, none⟩ = some (.string mac) := (q7.cell 1).trans rfl
    have c2 : (w3.setCell ⟨w6.heap.size, 192 + j, none⟩ (.int .u8 ((y.toNat : Nat) : Int))).cell? ⟨w.heap.size, 2, none⟩ = some (.string head) := (q7.cell 2).trans rfl
    clear hR hTx hTx2 hB6 q6 q7 hb3 hB hS he2 he3
    go_wp2_with fail
    (with_reducible refine (K4.out _).mono ?_); rintro e w7 ⟨rfl, hb⟩
    have hB8 := hB7.trans (hb.mono hB7.size)
    clear hb hB7 c0 c1 c2
    go_wp2_with fail
    (with_reducible refine (cAwake14 _).mono ?_); rintro e w9 ⟨rfl, hb⟩
    go_wp2_with fail
    go_ret
    exact ⟨rfl, hB8.trans (hb.mono hB8.size)⟩
  · have h1 := fun W => cshort14_no ⟨enc, mac, head⟩ c W hsh
    dsimp only at h1 ⊢
    have H1 := Lib.hid h1
    clear h1 hsh
    have hS := Blk.new w 34 #[.string enc, .string mac, .string head]
    have hB : Below w.heap.size w (w.alloc (.cells #[.string enc, .string mac, .string head] 34)) := (Below.refl _ _).alloc (Nat.le_refl _) _
    have c0 : (w.alloc (.cells #[.string enc, .string mac, .string head] 34)).cell? ⟨w.heap.size, 0, none⟩ = some (.string enc) := (hS.cell 0).trans rfl
    have c1 : (w.alloc (.cells #[.string enc, .string mac, .string head] 34)).cell? ⟨w.heap.size, 1, none⟩ = some (.string mac) := (hS.cell 1).trans rfl
    have c2 : (w.alloc (.cells #[.string enc, .string mac, .string head] 34)).cell? ⟨w.heap.size, 2, none⟩ = some (.string head) := (hS.cell 2).trans rfl
    go_enter Try.func10, Try.ntmps10
    go_wp2_with fail
    (with_reducible refine (H1.out _).mono ?_); rintro e w1 ⟨rfl, hb⟩
    replace hB := hB.trans (hb.mono hB.size)
    clear hb c0 c1 c2 hS
    go_wp2_with fail
    (with_reducible refine (cAwake14 _).mono ?_); rintro e w9 ⟨rfl, hb⟩
    go_wp2_with fail
    go_ret
    exact ⟨rfl, hB.trans (hb.mono hB.size)⟩
set_option maxHeartbeats 8000000 in
theorem blockBytes_walk (k : Ks) (i : Int) (hi : (Lit.int .i64 i).wf = true) (a : ByteArray) (ha : a.size ≤ reachBytes) (b : ByteArray) (hb0 : b.size ≤ reachBytes) {w : World} :
    Calls Try.prog 11 #[.agg #[.string k.enc, .string k.mac, .string k.head], .int .i64 i, .string a, .string b] w fun e w' => e = .returned (.bool true) ∧ Below w.heap.size w w' := by
  obtain ⟨enc, mac, head⟩ := k
  clear hi
  by_cases hsh : (⟨enc, mac, head⟩ : Ks).short a
  · have h1 := fun W => cshort14_yes ⟨enc, mac, head⟩ a W hsh
    dsimp only at h1 ⊢
    by_cases hbs : b.size ≤ 1000
    · have hbI : (b.size : Int) ≤ 1000 := by omega
      have hbD : decide ((1000 : Int) < (b.size : Int)) = false := decide_eq_false (by omega)
      have he1 : enc.size ≤ 100 := hsh.1
      have hc1 : a.size ≤ 1000 := hsh.2.2
      have hmac : mac.size ≤ 1000000 := Nat.le_trans hsh.2.1 (by decide)
      have k1 := fun W => csz32 enc W (by omega)
      have ka := fun W => csz192 a W (by omega)
      have kb := fun W => csz192 b W (by omega)
      have z1 := szd_size enc 32
      have za := szd_size a 192
      have zb := szd_size b 192
      obtain ⟨E, HE⟩ : ∃ x, Hid (szd enc 32 = x) := ⟨_, Lib.hid rfl⟩
      obtain ⟨A, HA⟩ : ∃ x, Hid (szd a 192 = x) := ⟨_, Lib.hid rfl⟩
      obtain ⟨B, HB⟩ : ∃ x, Hid (szd b 192 = x) := ⟨_, Lib.hid rfl⟩
      rw [HE.out] at z1
      simp only [HE.out] at k1
      rw [HA.out] at za
      simp only [HA.out] at ka
      rw [HB.out] at zb
      simp only [HB.out] at kb
      have handI : bits .and .i64 i 255 = i % 256 := by
        rw [bits_and_mask 8 (by decide) i 255 (by decide)]; rfl
      have hI1 := Int.emod_nonneg i (show (256 : Int) ≠ 0 by decide)
      have hI2 := Int.emod_lt_of_pos i (show (0 : Int) < 256 by decide)
      obtain ⟨I, HI⟩ : ∃ x, i % 256 = x := ⟨_, rfl⟩
      rw [HI] at handI hI1 hI2
      have hr : (⟨E, mac, head⟩ : Ks).right I := ⟨z1, hI1, hI2⟩
      have k3 := fun W => cSeal_yes ⟨E, mac, head⟩ I A W hr za hmac
      have k4 := fun W => cSeal_yes ⟨E, mac, head⟩ I B W hr zb hmac
      have hx := fun n hn => seal_xor ⟨E, mac, head⟩ I A B za zb n hn
      have hst : A = B → sealB ⟨E, mac, head⟩ I A = sealB ⟨E, mac, head⟩ I B := fun e => by rw [e]
      have sz := sealB_size ⟨E, mac, head⟩ I A
      have tz := sealB_size ⟨E, mac, head⟩ I B
      rw [za] at sz
      rw [zb] at tz
      dsimp only at k3 k4
      obtain ⟨S, HSS⟩ : ∃ x, Hid (sealB ⟨E, mac, head⟩ I A = x) := ⟨_, Lib.hid rfl⟩
      obtain ⟨T, HTT⟩ : ∃ x, Hid (sealB ⟨E, mac, head⟩ I B = x) := ⟨_, Lib.hid rfl⟩
      simp only [HSS.out] at k3 sz hx hst
      simp only [HTT.out] at k4 tz hx hst
      have hszI : ((S.size : Int) != 224) = false := by simp; omega
      have htzI : ((T.size : Int) != 224) = false := by simp; omega
      have sI : (S.size : Int) = 224 := by omega
      have tI : (T.size : Int) = 224 := by omega
      have aI : (A.size : Int) = 192 := by omega
      have bI : (B.size : Int) = 192 := by omega
      have H1 := Lib.hid h1
      have K1 := Lib.hid k1
      have KA := Lib.hid ka
      have KB := Lib.hid kb
      have K3 := Lib.hid k3
      have K4 := Lib.hid k4
      have HX := Lib.hid hx
      have HST := Lib.hid hst
      have SZ := Lib.hid sz
      have TZ := Lib.hid tz
      have ZA := Lib.hid za
      have ZB := Lib.hid zb
      clear h1 k1 ka kb k3 k4 hsh HI hr hx hst sI tI aI bI
      have hS := Blk.new w 34 #[.string enc, .string mac, .string head]
      have hB : Below w.heap.size w (w.alloc (.cells #[.string enc, .string mac, .string head] 34)) := (Below.refl _ _).alloc (Nat.le_refl _) _
      have c0 : (w.alloc (.cells #[.string enc, .string mac, .string head] 34)).cell? ⟨w.heap.size, 0, none⟩ = some (.string enc) := (hS.cell 0).trans rfl
      have c1 : (w.alloc (.cells #[.string enc, .string mac, .string head] 34)).cell? ⟨w.heap.size, 1, none⟩ = some (.string mac) := (hS.cell 1).trans rfl
      have c2 : (w.alloc (.cells #[.string enc, .string mac, .string head] 34)).cell? ⟨w.heap.size, 2, none⟩ = some (.string head) := (hS.cell 2).trans rfl
      go_enter Try.func11, Try.ntmps11
      go_wp2_with fail
      (with_reducible refine (H1.out _).mono ?_); rintro e w1 ⟨rfl, hb⟩
      replace hB := hB.trans (hb.mono hB.size)
      replace hS := hS.below hb hS.lt
      clear hb c0 c1 c2
      have c0 : w1.cell? ⟨w.heap.size, 0, none⟩ = some (.string enc) := (hS.cell 0).trans rfl
      have c1 : w1.cell? ⟨w.heap.size, 1, none⟩ = some (.string mac) := (hS.cell 1).trans rfl
      have c2 : w1.cell? ⟨w.heap.size, 2, none⟩ = some (.string head) := (hS.cell 2).trans rfl
      go_wp2_with fail
      (with_reducible refine (K1.out _).mono ?_); rintro e w2 ⟨rfl, hb⟩
      replace hB := hB.trans (hb.mono hB.size)
      replace hS := hS.below hb hS.lt
      clear hb c0 c1 c2
      have f0 : w2.frozen? ⟨w.heap.size, 0, none⟩ = false := hS.frozen 0
      have c0 : w2.cell? ⟨w.heap.size, 0, none⟩ = some (.string enc) := (hS.cell 0).trans rfl
      have hS2 : Blk (w2.setCell ⟨w.heap.size, 0, none⟩ (.string E)) w.heap.size 34 #[.string E, .string mac, .string head] := hS.set_ 0 (.string E)
      replace hB := hB.setCell (p := ⟨w.heap.size, 0, none⟩) (Nat.le_refl _) (.string E)
      clear hS
      have hS := hS2
      clear hS2
      have c0 : (w2.setCell ⟨w.heap.size, 0, none⟩ (.string E)).cell? ⟨w.heap.size, 0, none⟩ = some (.string E) := (hS.cell 0).trans rfl
      have c1 : (w2.setCell ⟨w.heap.size, 0, none⟩ (.string E)).cell? ⟨w.heap.size, 1, none⟩ = some (.string mac) := (hS.cell 1).trans rfl
      have c2 : (w2.setCell ⟨w.heap.size, 0, none⟩ (.string E)).cell? ⟨w.heap.size, 2, none⟩ = some (.string head) := (hS.cell 2).trans rfl
      go_wp2_with fail
      (with_reducible refine (KA.out _).mono ?_); rintro e w3 ⟨rfl, hb⟩
      replace hB := hB.trans (hb.mono hB.size)
      replace hS := hS.below hb hS.lt
      clear hb c0 c1 c2
      have c0 : w3.cell? ⟨w.heap.size, 0, none⟩ = some (.string E) := (hS.cell 0).trans rfl
      have c1 : w3.cell? ⟨w.heap.size, 1, none⟩ = some (.string mac) := (hS.cell 1).trans rfl
      have c2 : w3.cell? ⟨w.heap.size, 2, none⟩ = some (.string head) := (hS.cell 2).trans rfl
      go_wp2_with fail
      (with_reducible refine (KB.out _).mono ?_); rintro e w4 ⟨rfl, hb⟩
      replace hB := hB.trans (hb.mono hB.size)
      replace hS := hS.below hb hS.lt
      clear hb c0 c1 c2
      have c0 : w4.cell? ⟨w.heap.size, 0, none⟩ = some (.string E) := (hS.cell 0).trans rfl
      have c1 : w4.cell? ⟨w.heap.size, 1, none⟩ = some (.string mac) := (hS.cell 1).trans rfl
      have c2 : w4.cell? ⟨w.heap.size, 2, none⟩ = some (.string head) := (hS.cell 2).trans rfl
      go_wp2_with fail
      (with_reducible refine (K3.out _).mono ?_); rintro e w5 ⟨rfl, hb⟩
      replace hB := hB.trans (hb.mono hB.size)
      replace hS := hS.below hb hS.lt
      clear hb c0 c1 c2
      have c0 : w5.cell? ⟨w.heap.size, 0, none⟩ = some (.string E) := (hS.cell 0).trans rfl
      have c1 : w5.cell? ⟨w.heap.size, 1, none⟩ = some (.string mac) := (hS.cell 1).trans rfl
      have c2 : w5.cell? ⟨w.heap.size, 2, none⟩ = some (.string head) := (hS.cell 2).trans rfl
      go_wp2_with fail
      (with_reducible refine (K4.out _).mono ?_); rintro e w6 ⟨rfl, hb⟩
      replace hB := hB.trans (hb.mono hB.size)
      clear hb c0 c1 c2 hS
      go_wp2_with fail
      go_loopw [13] (fun v wr => ∃ n : Nat, n ≤ 192 ∧ v = .int .i64 n ∧ Below w.heap.size w wr) (fun v _ => 192 - (intOf v).toNat)
      case atStart => exact ⟨0, by omega, rfl, hB⟩
      case round =>
        clear hB
        obtain ⟨n, hn, rfl, hB⟩ := hrel
        by_cases hlt : n < 192
        · have hnI : (n : Int) < 192 := by omega
          have hxn := HX.out n hlt
          have hBd := hB.drew
          have eb : ∀ x : ByteArray, byteAt x n = x.data.toList.getD n 0 := fun x => by
            have := byteAt_str x.data.toList n
            rw [str_bytes] at this
            exact this
          have hN : (byteAt S n).toNat ^^^ (byteAt T n).toNat = (byteAt A n).toNat ^^^ (byteAt B n).toNat := by rw [← UInt8.toNat_xor, ← UInt8.toNat_xor, eb, eb, eb, eb, hxn]
          have hxb : ((((byteAt S n).toNat ^^^ (byteAt T n).toNat : Nat) : Int) != (((byteAt A n).toNat ^^^ (byteAt B n).toNat : Nat) : Int)) = false := by rw [hN]; simp
          clear hN eb hxn
          go_wp2_with fail
          refine wp_region_lexX [] (by kernel_rfl) (by kernel_rfl) ?_
          repeat (refine wpX_pure rfl rfl rfl ?_; intro K hK; go_big_quiet_op; refine hK _ ?_; clear hK K)
          refine wpX_nil ?_
          go_wp2_with fail
          go_roundw
          case rel => exact ⟨n + 1, by omega, by go_num, hBd⟩
          case measure => simp [intOf]; omega
        · have e : n = 192 := by omega
          subst e
          by_cases hab : A = B
          · have hse : (S.toList == T.toList) = true := by rw [HST.out hab]; exact beq_self_eq_true _
            have hae : (A.toList == B.toList) = true := by rw [hab]; exact beq_self_eq_true _
            clear hab
            go_wp2_with fail
            (with_reducible refine (cAwake14 _).mono ?_); rintro e w9 ⟨rfl, hb⟩
            go_wp2_with fail
            go_ret
            exact ⟨rfl, hB.trans (hb.mono hB.size)⟩
          · have hae := beq_text_ne hab
            clear hab
            go_wp2_with fail
            (with_reducible refine (cAwake14 _).mono ?_); rintro e w9 ⟨rfl, hb⟩
            go_wp2_with fail
            go_ret
            exact ⟨rfl, hB.trans (hb.mono hB.size)⟩
    · have hbD : decide ((1000 : Int) < (b.size : Int)) = true := decide_eq_true (by omega)
      have H1 := Lib.hid h1
      clear h1 hsh
      have hS := Blk.new w 34 #[.string enc, .string mac, .string head]
      have hB : Below w.heap.size w (w.alloc (.cells #[.string enc, .string mac, .string head] 34)) := (Below.refl _ _).alloc (Nat.le_refl _) _
      have c0 : (w.alloc (.cells #[.string enc, .string mac, .string head] 34)).cell? ⟨w.heap.size, 0, none⟩ = some (.string enc) := (hS.cell 0).trans rfl
      have c1 : (w.alloc (.cells #[.string enc, .string mac, .string head] 34)).cell? ⟨w.heap.size, 1, none⟩ = some (.string mac) := (hS.cell 1).trans rfl
      have c2 : (w.alloc (.cells #[.string enc, .string mac, .string head] 34)).cell? ⟨w.heap.size, 2, none⟩ = some (.string head) := (hS.cell 2).trans rfl
      go_enter Try.func11, Try.ntmps11
      go_wp2_with fail
      (with_reducible refine (H1.out _).mono ?_); rintro e w1 ⟨rfl, hb⟩
      replace hB := hB.trans (hb.mono hB.size)
      clear hb c0 c1 c2 hS
      go_wp2_with fail
      (with_reducible refine (cAwake14 _).mono ?_); rintro e w9 ⟨rfl, hb⟩
      go_wp2_with fail
      go_ret
      exact ⟨rfl, hB.trans (hb.mono hB.size)⟩
  · have h1 := fun W => cshort14_no ⟨enc, mac, head⟩ a W hsh
    dsimp only at h1 ⊢
    have H1 := Lib.hid h1
    clear h1 hsh
    have hS := Blk.new w 34 #[.string enc, .string mac, .string head]
    have hB : Below w.heap.size w (w.alloc (.cells #[.string enc, .string mac, .string head] 34)) := (Below.refl _ _).alloc (Nat.le_refl _) _
    have c0 : (w.alloc (.cells #[.string enc, .string mac, .string head] 34)).cell? ⟨w.heap.size, 0, none⟩ = some (.string enc) := (hS.cell 0).trans rfl
    have c1 : (w.alloc (.cells #[.string enc, .string mac, .string head] 34)).cell? ⟨w.heap.size, 1, none⟩ = some (.string mac) := (hS.cell 1).trans rfl
    have c2 : (w.alloc (.cells #[.string enc, .string mac, .string head] 34)).cell? ⟨w.heap.size, 2, none⟩ = some (.string head) := (hS.cell 2).trans rfl
    go_enter Try.func11, Try.ntmps11
    go_wp2_with fail
    (with_reducible refine (H1.out _).mono ?_); rintro e w1 ⟨rfl, hb⟩
    replace hB := hB.trans (hb.mono hB.size)
    clear hb c0 c1 c2 hS
    go_wp2_with fail
    (with_reducible refine (cAwake14 _).mono ?_); rintro e w9 ⟨rfl, hb⟩
    go_wp2_with fail
    go_ret
    exact ⟨rfl, hB.trans (hb.mono hB.size)⟩
end Go.Proofs.Ytbofmfocnbennaa
