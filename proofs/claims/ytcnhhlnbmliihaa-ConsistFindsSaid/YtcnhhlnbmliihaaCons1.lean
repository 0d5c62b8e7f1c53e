/- Proofs of beginnings: sub and long of both packages. -/
import Derived.Test.YtcnhhlnbmliihaaConsS2
import Derived.Test.YtcnhhlnbmliihaaMerkRoot
import Derived.Test.YtcnhhlnbmliihaaRefMerk
import Derived.Test.YtcnhhlnbmliihaaTexts
import Derived.Test.YtcnhhlnbmliihaaWi
import Derived.Test.YtcnhhlnbmliihaaApp1
namespace Go.Proofs.Ytcnhhlnbmliihaa
open Go.RowKit
set_option linter.unusedVariables false
set_option linter.unusedSimpArgs false

set_option maxRecDepth 100000 in
set_option maxHeartbeats 4000000 in
theorem cSub (w : Int) : ∀ (n m : Nat) (wh : Bool) (A : Option Addr) (c : Nat) (l : List ByteArray) (W : World), l.length = n → Strs W A l → n ≤ c → n ≤ 1000000 → (∀ s ∈ l, s.size ≤ 300000000) → 1 ≤ m → m ≤ n →
    Calls Try.prog 49 #[.int .i64 w, .int .i64 m, .slice A n c, .bool wh] W fun e W' => ∃ A' c', e = .returned (.slice A' (sub (wd w) m l wh).length c') ∧ (sub (wd w) m l wh).length ≤ c' ∧ SL W' W.heap.size 9 (.slice A' (sub (wd w) m l wh).length c') ((sub (wd w) m l wh).map Value.string) ∧ Below W.heap.size W W' := by
  intro n
  induction n using Nat.strongRecOn with
  | _ n ih =>
    intro m wh A c l W hn hs hnc hn6 hz h1 hm
    by_cases hmn : m = n
    · have hsa := sub_all (wd w) m l wh h1 (by omega)
      have hmI : ((m : Int) == (n : Int)) = true := by simp; omega
      cases wh with
      | true =>
        rw [if_pos rfl] at hsa
        rw [hsa]
        clear ih hs hz hsa
        go_enter Try.func49, Try.ntmps49
        go_wp2_with fail
        go_ret
        exact ⟨none, 0, rfl, by simp, SL.nil _ _ _, Below.refl _ _⟩
      | false =>
        rw [if_neg (by decide)] at hsa
        rw [hsa]
        have r1 := fun W h => cRoot w n A c l W hn h hnc hn6 hz
        obtain ⟨X, HX⟩ : ∃ x, Hid (root (wd w) l = x) := ⟨_, Lib.hid rfl⟩
        simp only [HX.out] at r1 ⊢
        have R1 := Lib.hid r1
        have HS := Lib.hid hs
        clear ih hs hz hsa r1
        go_enter Try.func49, Try.ntmps49
        go_wp2_with fail
        (with_reducible refine (R1.out _ HS.out).mono ?_); rintro e w1 ⟨rfl, hb1⟩
        go_wp2_with fail
        go_ret
        exact ⟨some ⟨w1.heap.size, 0, none⟩, 1, rfl, by simp, SL.lit w1 W.heap.size 9 #[.string X] hb1.size (show (1 : Nat) ≤ maxLen by decide), hb1.alloc hb1.size _⟩
    · have hmI : ((m : Int) == (n : Int)) = false := by simp; omega
      have h2 : 2 ≤ n := by omega
      have hcl := cut_lt n h2
      have hcp := cut_pos n
      have h3 := fun W => cCut n W (by omega)
      obtain ⟨g, o, rfl, hg, _⟩ := hs (by omega)
      have hst := hs.take (cut n)
      have hsd := hs.from_ (cut n) (by omega) (c := c) (by omega)
      have ht : (l.take (cut n)).length = cut n := by rw [List.length_take]; omega
      have hd : (l.drop (cut n)).length = n - cut n := by rw [List.length_drop, hn]
      have i1 := fun W h h2 => ih (cut n) hcl m wh (some ⟨g, o, none⟩) c (l.take (cut n)) W ht h2 (by omega) (by omega) (mem_take_le hz) h1 h
      have i2 := fun W h h3 h2 => ih (n - cut n) (by omega) (m - cut n) false (some ⟨g, o + cut n, none⟩) (c - cut n) (l.drop (cut n)) W hd h2 (by omega) (by omega) (mem_drop_le hz) h h3
      have r1 := fun W h => cRoot w (n - cut n) (some ⟨g, o + cut n, none⟩) (c - cut n) (l.drop (cut n)) W hd h (by omega) (by omega) (mem_drop_le hz)
      have r2 := fun W h => cRoot w (cut n) (some ⟨g, o, none⟩) c (l.take (cut n)) W ht h (by omega) (by omega) (mem_take_le hz)
      have hpl := sub_left (wd w) m l wh h1 (by omega)
      have hpr := sub_right (wd w) m l wh (by omega)
      have hll := fun h => sub_length (wd w) (cut n) m (l.take (cut n)) wh ht h1 h ▸ long_le 61 (cut n) m wh (by omega) h1 h
      have hlr := fun h h3 => sub_length (wd w) (n - cut n) (m - cut n) (l.drop (cut n)) false hd h h3 ▸ long_le 61 (n - cut n) (m - cut n) false (by omega) h h3
      rw [hn] at hpl hpr
      obtain ⟨k, HK⟩ : ∃ k, Hid (cut n = k) := ⟨_, Lib.hid rfl⟩
      simp only [HK.out] at h3 hst hsd hpl hpr hcl hcp i1 i2 r1 r2 hll hlr
      obtain ⟨X, HX⟩ : ∃ x, Hid (root (wd w) (l.take k) = x) := ⟨_, Lib.hid rfl⟩
      obtain ⟨Y, HY⟩ : ∃ x, Hid (root (wd w) (l.drop k) = x) := ⟨_, Lib.hid rfl⟩
      simp only [HX.out] at r2
      simp only [HY.out] at r1
      have H3 := Lib.hid h3
      have HST := Lib.hid hst
      have HSD := Lib.hid hsd
      have HPL := Lib.hid hpl
      have HPR := Lib.hid hpr
      have I1 := Lib.hid i1
      have I2 := Lib.hid i2
      have R1 := Lib.hid r1
      have R2 := Lib.hid r2
      have HLL := Lib.hid hll
      have HLR := Lib.hid hlr
      have hkn : (k : Int) ≤ (n : Int) := by omega
      have hkn2 : (k : Int) < (n : Int) := by omega
      have hkc : (k : Int) ≤ (c : Int) := by omega
      have hnc2 : (n : Int) ≤ (c : Int) := by omega
      have hck : ¬ c = k := by omega
      clear h3 hst hsd hpl hpr i1 i2 r1 r2 hll hlr ih hs hz ht hd
      by_cases hjk : m ≤ k
      · have hd := HPL.out hjk
        have i3 := fun W h => I1.out W hjk h
        have hlen : (sub (wd w) m (l.take k) wh).length ≤ 62 := HLL.out hjk
        obtain ⟨q, HQ⟩ : ∃ x, Hid ((sub (wd w) m (l.take k) wh) = x) := ⟨_, Lib.hid rfl⟩
        simp only [HQ.out] at i3 hd hlen
        have hjI : (m : Int) ≤ (k : Int) := by omega
        have HD := Lib.hid hd
        have I3 := Lib.hid i3
        have hB0 : Below W.heap.size W W.drew := (Below.refl W.heap.size W).drew
        clear hd i3
        go_enter Try.func49, Try.ntmps49
        go_wp2_with fail
        (with_reducible refine (H3.out _).mono ?_); rintro e w1 ⟨rfl, rfl⟩
        go_wp2_with fail
        refine wp_region_lexX [] (by kernel_rfl) (by kernel_rfl) ?_
        repeat (refine wpX_pure rfl rfl rfl ?_; intro K hK; go_big_quiet_op; refine hK _ ?_; clear hK K)
        refine wpX_eff rfl rfl ?_; intro K hK; go_wp2_with fail
        (with_reducible refine (I3.out _ HST.out.drew).mono ?_); rintro e w1 ⟨A3, c3, rfl, hc3, hS1, hb1⟩
        go_wp2_with fail
        refine hK _ _ trivial ?_; clear hK K
        have HS1 := Lib.hid hS1
        have hBB1 := hB0.trans (hb1.mono hB0.size)
        have HB1 := Lib.hid hBB1
        have hsz1 : W.heap.size ≤ w1.heap.size := hBB1.size
        clear hS1 hb1 hBB1 hB0
        repeat (refine wpX_pure rfl rfl rfl ?_; intro K hK; go_big_quiet_op; refine hK _ ?_; clear hK K)
        refine wpX_eff rfl rfl ?_; intro K hK; go_wp2_with fail
        (with_reducible refine (R1.out _ (HSD.out.fresh HB1.out)).mono ?_); rintro e w2 ⟨rfl, hb2⟩
        go_wp2_with fail
        refine hK _ _ trivial ?_; clear hK K
        have HS2 := Lib.hid (HS1.out.below hb2 (Nat.le_refl _))
        have HB2 := Lib.hid (HB1.out.trans (hb2.mono HB1.out.size))
        have hsz2 : W.heap.size ≤ w2.heap.size := HB2.out.size
        clear hb2
        refine wpX_eff rfl rfl ?_; intro K hK; go_wp2_with fail
        refine hK _ _ trivial ?_; clear hK K
        refine wpX_eff rfl rfl ?_; intro K hK
        (refine wpList_app1 Value.string (fun _ => rfl) str_elem rfl (.tmp 32) (.tmp 38) rfl W.heap.size A3 q.length c3 _ Y _ rfl rfl HS2.out rfl _ rfl rfl (by omega) (by decide) hsz2 ?_; intro A4 c4 w3 hS3 hc4 hb3; dsimp only [Act.put])
        refine wpList_nil (hK _ _ trivial ?_); clear hK K
        simp only [Act.put, List.setIfInBounds_toArray, List.set_cons_zero, List.set_cons_succ]
        refine wpX_pure rfl rfl rfl ?_; intro K hK; go_big_quiet_op; refine hK _ ?_; clear hK K
        refine wpX_nil ?_
        go_wp2_with fail
        go_ret
        rw [HD.out, HY.out]
        exact ⟨A4, c4, by rw [List.length_append]; rfl, by rw [List.length_append]; exact hc4, by rw [List.length_append]; exact hS3, HB2.out.trans hb3⟩
      · have hd := HPR.out (by omega)
        have i3 := fun W h => I2.out W (by omega) (by omega) h
        have hlen : (sub (wd w) (m - k) (l.drop k) false).length ≤ 62 := HLR.out (by omega) (by omega)
        obtain ⟨q, HQ⟩ : ∃ x, Hid ((sub (wd w) (m - k) (l.drop k) false) = x) := ⟨_, Lib.hid rfl⟩
        simp only [HQ.out] at i3 hd hlen
        have E1 : ((m - k : Nat) : Int) = (m : Int) - (k : Int) := by omega
        simp only [E1] at i3
        clear E1
        have hjI : ¬ (m : Int) ≤ (k : Int) := by omega
        have HD := Lib.hid hd
        have I3 := Lib.hid i3
        have hB0 : Below W.heap.size W W.drew := (Below.refl W.heap.size W).drew
        clear hd i3
        go_enter Try.func49, Try.ntmps49
        go_wp2_with fail
        (with_reducible refine (H3.out _).mono ?_); rintro e w1 ⟨rfl, rfl⟩
        go_wp2_with fail
        refine wp_region_lexX [] (by kernel_rfl) (by kernel_rfl) ?_
        repeat (refine wpX_pure rfl rfl rfl ?_; intro K hK; go_big_quiet_op; refine hK _ ?_; clear hK K)
        refine wpX_eff rfl rfl ?_; intro K hK; go_wp2_with fail
        (with_reducible refine (I3.out _ HSD.out.drew).mono ?_); rintro e w1 ⟨A3, c3, rfl, hc3, hS1, hb1⟩
        go_wp2_with fail
        refine hK _ _ trivial ?_; clear hK K
        have HS1 := Lib.hid hS1
        have hBB1 := hB0.trans (hb1.mono hB0.size)
        have HB1 := Lib.hid hBB1
        have hsz1 : W.heap.size ≤ w1.heap.size := hBB1.size
        clear hS1 hb1 hBB1 hB0
        repeat (refine wpX_pure rfl rfl rfl ?_; intro K hK; go_big_quiet_op; refine hK _ ?_; clear hK K)
        refine wpX_eff rfl rfl ?_; intro K hK; go_wp2_with fail
        (with_reducible refine (R2.out _ (HST.out.fresh HB1.out)).mono ?_); rintro e w2 ⟨rfl, hb2⟩
        go_wp2_with fail
        refine hK _ _ trivial ?_; clear hK K
        have HS2 := Lib.hid (HS1.out.below hb2 (Nat.le_refl _))
        have HB2 := Lib.hid (HB1.out.trans (hb2.mono HB1.out.size))
        have hsz2 : W.heap.size ≤ w2.heap.size := HB2.out.size
        clear hb2
        refine wpX_eff rfl rfl ?_; intro K hK; go_wp2_with fail
        refine hK _ _ trivial ?_; clear hK K
        refine wpX_eff rfl rfl ?_; intro K hK
        (refine wpList_app1 Value.string (fun _ => rfl) str_elem rfl (.tmp 47) (.tmp 53) rfl W.heap.size A3 q.length c3 _ X _ rfl rfl HS2.out rfl _ rfl rfl (by omega) (by decide) hsz2 ?_; intro A4 c4 w3 hS3 hc4 hb3; dsimp only [Act.put])
        refine wpList_nil (hK _ _ trivial ?_); clear hK K
        simp only [Act.put, List.setIfInBounds_toArray, List.set_cons_zero, List.set_cons_succ]
        refine wpX_pure rfl rfl rfl ?_; intro K hK; go_big_quiet_op; refine hK _ ?_; clear hK K
        refine wpX_nil ?_
        go_wp2_with fail
        go_ret
        rw [HD.out, HX.out]
        exact ⟨A4, c4, by rw [List.length_append]; rfl, by rw [List.length_append]; exact hc4, by rw [List.length_append]; exact hS3, HB2.out.trans hb3⟩
set_option maxRecDepth 100000 in
set_option maxHeartbeats 4000000 in
theorem crSub (w : Int) : ∀ (n m : Nat) (wh : Bool) (A : Option Addr) (c : Nat) (l : List ByteArray) (W : World), l.length = n → Strs W A l → n ≤ c → n ≤ 1000000 → (∀ s ∈ l, s.size ≤ 300000000) → 1 ≤ m → m ≤ n →
    Calls Try.prog 26 #[.int .i64 w, .int .i64 m, .slice A n c, .bool wh] W fun e W' => ∃ A' c', e = .returned (.slice A' (sub (wd w) m l wh).length c') ∧ (sub (wd w) m l wh).length ≤ c' ∧ SL W' W.heap.size 9 (.slice A' (sub (wd w) m l wh).length c') ((sub (wd w) m l wh).map Value.string) ∧ Below W.heap.size W W' := by
  intro n
  induction n using Nat.strongRecOn with
  | _ n ih =>
    intro m wh A c l W hn hs hnc hn6 hz h1 hm
    by_cases hmn : m = n
    · have hsa := sub_all (wd w) m l wh h1 (by omega)
      have hmI : ((m : Int) == (n : Int)) = true := by simp; omega
      cases wh with
      | true =>
        rw [if_pos rfl] at hsa
        rw [hsa]
        clear ih hs hz hsa
        go_enter Try.func26, Try.ntmps26
        go_wp2_with fail
        go_ret
        exact ⟨none, 0, rfl, by simp, SL.nil _ _ _, Below.refl _ _⟩
      | false =>
        rw [if_neg (by decide)] at hsa
        rw [hsa]
        have r1 := fun W h => crRoot w n A c l W hn h hnc hn6 hz
        obtain ⟨X, HX⟩ : ∃ x, Hid (root (wd w) l = x) := ⟨_, Lib.hid rfl⟩
        simp only [HX.out] at r1 ⊢
        have R1 := Lib.hid r1
        have HS := Lib.hid hs
        clear ih hs hz hsa r1
        go_enter Try.func26, Try.ntmps26
        go_wp2_with fail
        (with_reducible refine (R1.out _ HS.out).mono ?_); rintro e w1 ⟨rfl, hb1⟩
        go_wp2_with fail
        go_ret
        exact ⟨some ⟨w1.heap.size, 0, none⟩, 1, rfl, by simp, SL.lit w1 W.heap.size 9 #[.string X] hb1.size (show (1 : Nat) ≤ maxLen by decide), hb1.alloc hb1.size _⟩
    · have hmI : ((m : Int) == (n : Int)) = false := by simp; omega
      have h2 : 2 ≤ n := by omega
      have hcl := cut_lt n h2
      have hcp := cut_pos n
      have h3 := fun W => crCut n W (by omega)
      obtain ⟨g, o, rfl, hg, _⟩ := hs (by omega)
      have hst := hs.take (cut n)
      have hsd := hs.from_ (cut n) (by omega) (c := c) (by omega)
      have ht : (l.take (cut n)).length = cut n := by rw [List.length_take]; omega
      have hd : (l.drop (cut n)).length = n - cut n := by rw [List.length_drop, hn]
      have i1 := fun W h h2 => ih (cut n) hcl m wh (some ⟨g, o, none⟩) c (l.take (cut n)) W ht h2 (by omega) (by omega) (mem_take_le hz) h1 h
      have i2 := fun W h h3 h2 => ih (n - cut n) (by omega) (m - cut n) false (some ⟨g, o + cut n, none⟩) (c - cut n) (l.drop (cut n)) W hd h2 (by omega) (by omega) (mem_drop_le hz) h h3
      have r1 := fun W h => crRoot w (n - cut n) (some ⟨g, o + cut n, none⟩) (c - cut n) (l.drop (cut n)) W hd h (by omega) (by omega) (mem_drop_le hz)
      have r2 := fun W h => crRoot w (cut n) (some ⟨g, o, none⟩) c (l.take (cut n)) W ht h (by omega) (by omega) (mem_take_le hz)
      have hpl := sub_left (wd w) m l wh h1 (by omega)
      have hpr := sub_right (wd w) m l wh (by omega)
      have hll := fun h => sub_length (wd w) (cut n) m (l.take (cut n)) wh ht h1 h ▸ long_le 61 (cut n) m wh (by omega) h1 h
      have hlr := fun h h3 => sub_length (wd w) (n - cut n) (m - cut n) (l.drop (cut n)) false hd h h3 ▸ long_le 61 (n - cut n) (m - cut n) false (by omega) h h3
      rw [hn] at hpl hpr
      obtain ⟨k, HK⟩ : ∃ k, Hid (cut n = k) := ⟨_, Lib.hid rfl⟩
      simp only [HK.out] at h3 hst hsd hpl hpr hcl hcp i1 i2 r1 r2 hll hlr
      obtain ⟨X, HX⟩ : ∃ x, Hid (root (wd w) (l.take k) = x) := ⟨_, Lib.hid rfl⟩
      obtain ⟨Y, HY⟩ : ∃ x, Hid (root (wd w) (l.drop k) = x) := ⟨_, Lib.hid rfl⟩
      simp only [HX.out] at r2
      simp only [HY.out] at r1
      have H3 := Lib.hid h3
      have HST := Lib.hid hst
      have HSD := Lib.hid hsd
      have HPL := Lib.hid hpl
      have HPR := Lib.hid hpr
      have I1 := Lib.hid i1
      have I2 := Lib.hid i2
      have R1 := Lib.hid r1
      have R2 := Lib.hid r2
      have HLL := Lib.hid hll
      have HLR := Lib.hid hlr
      have hkn : (k : Int) ≤ (n : Int) := by omega
      have hkn2 : (k : Int) < (n : Int) := by omega
      have hkc : (k : Int) ≤ (c : Int) := by omega
      have hnc2 : (n : Int) ≤ (c : Int) := by omega
      have hck : ¬ c = k := by omega
      clear h3 hst hsd hpl hpr i1 i2 r1 r2 hll hlr ih hs hz ht hd
      by_cases hjk : m ≤ k
      · have hd := HPL.out hjk
        have i3 := fun W h => I1.out W hjk h
        have hlen : (sub (wd w) m (l.take k) wh).length ≤ 62 := HLL.out hjk
        obtain ⟨q, HQ⟩ : ∃ x, Hid ((sub (wd w) m (l.take k) wh) = x) := ⟨_, Lib.hid rfl⟩
        simp only [HQ.out] at i3 hd hlen
        have hjI : (m : Int) ≤ (k : Int) := by omega
        have HD := Lib.hid hd
        have I3 := Lib.hid i3
        have hB0 : Below W.heap.size W W.drew := (Below.refl W.heap.size W).drew
        clear hd i3
        go_enter Try.func26, Try.ntmps26
        go_wp2_with fail
        (with_reducible refine (H3.out _).mono ?_); rintro e w1 ⟨rfl, rfl⟩
        go_wp2_with fail
        refine wp_region_lexX [] (by kernel_rfl) (by kernel_rfl) ?_
        repeat (refine wpX_pure rfl rfl rfl ?_; intro K hK; go_big_quiet_op; refine hK _ ?_; clear hK K)
        refine wpX_eff rfl rfl ?_; intro K hK; go_wp2_with fail
        (with_reducible refine (I3.out _ HST.out.drew).mono ?_); rintro e w1 ⟨A3, c3, rfl, hc3, hS1, hb1⟩
        go_wp2_with fail
        refine hK _ _ trivial ?_; clear hK K
        have HS1 := Lib.hid hS1
        have hBB1 := hB0.trans (hb1.mono hB0.size)
        have HB1 := Lib.hid hBB1
        have hsz1 : W.heap.size ≤ w1.heap.size := hBB1.size
        clear hS1 hb1 hBB1 hB0
        repeat (refine wpX_pure rfl rfl rfl ?_; intro K hK; go_big_quiet_op; refine hK _ ?_; clear hK K)
        refine wpX_eff rfl rfl ?_; intro K hK; go_wp2_with fail
        (with_reducible refine (R1.out _ (HSD.out.fresh HB1.out)).mono ?_); rintro e w2 ⟨rfl, hb2⟩
        go_wp2_with fail
        refine hK _ _ trivial ?_; clear hK K
        have HS2 := Lib.hid (HS1.out.below hb2 (Nat.le_refl _))
        have HB2 := Lib.hid (HB1.out.trans (hb2.mono HB1.out.size))
        have hsz2 : W.heap.size ≤ w2.heap.size := HB2.out.size
        clear hb2
        refine wpX_eff rfl rfl ?_; intro K hK; go_wp2_with fail
        refine hK _ _ trivial ?_; clear hK K
        refine wpX_eff rfl rfl ?_; intro K hK
        (refine wpList_app1 Value.string (fun _ => rfl) str_elem rfl (.tmp 37) (.tmp 43) rfl W.heap.size A3 q.length c3 _ Y _ rfl rfl HS2.out rfl _ rfl rfl (by omega) (by decide) hsz2 ?_; intro A4 c4 w3 hS3 hc4 hb3; dsimp only [Act.put])
        refine wpList_nil (hK _ _ trivial ?_); clear hK K
        simp only [Act.put, List.setIfInBounds_toArray, List.set_cons_zero, List.set_cons_succ]
        refine wpX_pure rfl rfl rfl ?_; intro K hK; go_big_quiet_op; refine hK _ ?_; clear hK K
        refine wpX_nil ?_
        go_wp2_with fail
        go_ret
        rw [HD.out, HY.out]
        exact ⟨A4, c4, by rw [List.length_append]; rfl, by rw [List.length_append]; exact hc4, by rw [List.length_append]; exact hS3, HB2.out.trans hb3⟩
      · have hd := HPR.out (by omega)
        have i3 := fun W h => I2.out W (by omega) (by omega) h
        have hlen : (sub (wd w) (m - k) (l.drop k) false).length ≤ 62 := HLR.out (by omega) (by omega)
        obtain ⟨q, HQ⟩ : ∃ x, Hid ((sub (wd w) (m - k) (l.drop k) false) = x) := ⟨_, Lib.hid rfl⟩
        simp only [HQ.out] at i3 hd hlen
        have E1 : ((m - k : Nat) : Int) = (m : Int) - (k : Int) := by omega
        simp only [E1] at i3
        clear E1
        have hjI : ¬ (m : Int) ≤ (k : Int) := by omega
        have HD := Lib.hid hd
        have I3 := Lib.hid i3
        have hB0 : Below W.heap.size W W.drew := (Below.refl W.heap.size W).drew
        clear hd i3
        go_enter Try.func26, Try.ntmps26
        go_wp2_with fail
        (with_reducible refine (H3.out _).mono ?_); rintro e w1 ⟨rfl, rfl⟩
        go_wp2_with fail
        refine wp_region_lexX [] (by kernel_rfl) (by kernel_rfl) ?_
        repeat (refine wpX_pure rfl rfl rfl ?_; intro K hK; go_big_quiet_op; refine hK _ ?_; clear hK K)
        refine wpX_eff rfl rfl ?_; intro K hK; go_wp2_with fail
        (with_reducible refine (I3.out _ HSD.out.drew).mono ?_); rintro e w1 ⟨A3, c3, rfl, hc3, hS1, hb1⟩
        go_wp2_with fail
        refine hK _ _ trivial ?_; clear hK K
        have HS1 := Lib.hid hS1
        have hBB1 := hB0.trans (hb1.mono hB0.size)
        have HB1 := Lib.hid hBB1
        have hsz1 : W.heap.size ≤ w1.heap.size := hBB1.size
        clear hS1 hb1 hBB1 hB0
        repeat (refine wpX_pure rfl rfl rfl ?_; intro K hK; go_big_quiet_op; refine hK _ ?_; clear hK K)
        refine wpX_eff rfl rfl ?_; intro K hK; go_wp2_with fail
        (with_reducible refine (R2.out _ (HST.out.fresh HB1.out)).mono ?_); rintro e w2 ⟨rfl, hb2⟩
        go_wp2_with fail
        refine hK _ _ trivial ?_; clear hK K
        have HS2 := Lib.hid (HS1.out.below hb2 (Nat.le_refl _))
        have HB2 := Lib.hid (HB1.out.trans (hb2.mono HB1.out.size))
        have hsz2 : W.heap.size ≤ w2.heap.size := HB2.out.size
        clear hb2
        refine wpX_eff rfl rfl ?_; intro K hK; go_wp2_with fail
        refine hK _ _ trivial ?_; clear hK K
        refine wpX_eff rfl rfl ?_; intro K hK
        (refine wpList_app1 Value.string (fun _ => rfl) str_elem rfl (.tmp 52) (.tmp 58) rfl W.heap.size A3 q.length c3 _ X _ rfl rfl HS2.out rfl _ rfl rfl (by omega) (by decide) hsz2 ?_; intro A4 c4 w3 hS3 hc4 hb3; dsimp only [Act.put])
        refine wpList_nil (hK _ _ trivial ?_); clear hK K
        simp only [Act.put, List.setIfInBounds_toArray, List.set_cons_zero, List.set_cons_succ]
        refine wpX_pure rfl rfl rfl ?_; intro K hK; go_big_quiet_op; refine hK _ ?_; clear hK K
        refine wpX_nil ?_
        go_wp2_with fail
        go_ret
        rw [HD.out, HX.out]
        exact ⟨A4, c4, by rw [List.length_append]; rfl, by rw [List.length_append]; exact hc4, by rw [List.length_append]; exact hS3, HB2.out.trans hb3⟩
set_option maxRecDepth 100000 in
theorem cLong : ∀ (n m : Nat) (wh : Bool) (W : World), n ≤ 2305843009213693952 → 1 ≤ m → m ≤ n →
    Calls Try.prog 53 #[.int .i64 m, .int .i64 n, .bool wh] W fun e W' => e = .returned (.int .i64 (long m n wh)) ∧ W = W' := by
  intro n
  induction n using Nat.strongRecOn with
  | _ n ih =>
    intro m wh W hn h1 hm
    by_cases hmn : m = n
    · have hsa := long_all m n wh h1 hmn
      have hmI : ((m : Int) == (n : Int)) = true := by simp; omega
      cases wh with
      | true =>
        rw [if_pos rfl] at hsa
        rw [hsa]
        clear ih hsa
        go_enter Try.func53, Try.ntmps53
        go_wp2_with fail
        go_ret
        exact ⟨rfl, rfl⟩
      | false =>
        rw [if_neg (by decide)] at hsa
        rw [hsa]
        clear ih hsa
        go_enter Try.func53, Try.ntmps53
        go_wp2_with fail
        go_ret
        exact ⟨rfl, rfl⟩
    · have hmI : ((m : Int) == (n : Int)) = false := by simp; omega
      have h2 : 2 ≤ n := by omega
      have hcl := cut_lt n h2
      have hcp := cut_pos n
      have h3 := fun W => cCut n W (by omega)
      have hll := long_left m n wh h1 (by omega)
      have hlr := long_right m n wh (by omega)
      have i1 := fun h W => ih (cut n) hcl m wh W (by omega) h1 h
      have i2 := fun h h3 W => ih (n - cut n) (by omega) (m - cut n) false W (by omega) h h3
      have ll := fun h => long_le 61 (cut n) m wh (by omega) h1 h
      have lr := fun h h3 => long_le 61 (n - cut n) (m - cut n) false (by omega) h h3
      obtain ⟨k, HK⟩ : ∃ k, Hid (cut n = k) := ⟨_, Lib.hid rfl⟩
      simp only [HK.out] at h3 hll hlr i1 i2 hcl hcp ll lr
      have H3 := Lib.hid h3
      clear h3 ih
      by_cases hjk : m ≤ k
      · have hjI : (m : Int) ≤ (k : Int) := by omega
        have i3 := fun W => i1 hjk W
        have l3 := ll hjk
        have hd := hll hjk
        rw [hd]
        obtain ⟨q, HQ⟩ : ∃ x, Hid (long m k wh = x) := ⟨_, Lib.hid rfl⟩
        simp only [HQ.out] at i3 l3 ⊢
        have I3 := Lib.hid i3
        have hq : (q : Int) ≤ 62 := by omega
        clear i1 i2 i3 hll hlr ll lr hd l3
        go_enter Try.func53, Try.ntmps53
        go_wp2_with fail
        (with_reducible refine (H3.out _).mono ?_); rintro e w1 ⟨rfl, rfl⟩
        go_wp2_with fail
        (with_reducible refine (I3.out _).mono ?_); rintro e w1 ⟨rfl, rfl⟩
        go_wp2_with fail
        go_ret
        exact ⟨by go_num, rfl⟩
      · have hjI : ¬ (m : Int) ≤ (k : Int) := by omega
        have i3 := fun W => i2 (by omega) (by omega) W
        have l3 := lr (by omega) (by omega)
        have hd := hlr (by omega)
        rw [hd]
        obtain ⟨q, HQ⟩ : ∃ x, Hid (long (m - k) (n - k) false = x) := ⟨_, Lib.hid rfl⟩
        simp only [HQ.out] at i3 l3 ⊢
        have E1 : ((m - k : Nat) : Int) = (m : Int) - (k : Int) := by omega
        have E2 : ((n - k : Nat) : Int) = (n : Int) - (k : Int) := by omega
        simp only [E1, E2] at i3
        have I3 := Lib.hid i3
        have hq : (q : Int) ≤ 62 := by omega
        clear i1 i2 i3 hll hlr ll lr hd l3 E1 E2
        go_enter Try.func53, Try.ntmps53
        go_wp2_with fail
        (with_reducible refine (H3.out _).mono ?_); rintro e w1 ⟨rfl, rfl⟩
        go_wp2_with fail
        (with_reducible refine (I3.out _).mono ?_); rintro e w1 ⟨rfl, rfl⟩
        go_wp2_with fail
        go_ret
        exact ⟨by go_num, rfl⟩
set_option maxRecDepth 100000 in
theorem crLong : ∀ (n m : Nat) (wh : Bool) (W : World), n ≤ 2305843009213693952 → 1 ≤ m → m ≤ n →
    Calls Try.prog 55 #[.int .i64 m, .int .i64 n, .bool wh] W fun e W' => e = .returned (.int .i64 (long m n wh)) ∧ W = W' := by
  intro n
  induction n using Nat.strongRecOn with
  | _ n ih =>
    intro m wh W hn h1 hm
    by_cases hmn : m = n
    · have hsa := long_all m n wh h1 hmn
      have hmI : ((m : Int) == (n : Int)) = true := by simp; omega
      cases wh with
      | true =>
        rw [if_pos rfl] at hsa
        rw [hsa]
        clear ih hsa
        go_enter Try.func55, Try.ntmps55
        go_wp2_with fail
        go_ret
        exact ⟨rfl, rfl⟩
      | false =>
        rw [if_neg (by decide)] at hsa
        rw [hsa]
        clear ih hsa
        go_enter Try.func55, Try.ntmps55
        go_wp2_with fail
        go_ret
        exact ⟨rfl, rfl⟩
    · have hmI : ((m : Int) == (n : Int)) = false := by simp; omega
      have h2 : 2 ≤ n := by omega
      have hcl := cut_lt n h2
      have hcp := cut_pos n
      have h3 := fun W => crCut n W (by omega)
      have hll := long_left m n wh h1 (by omega)
      have hlr := long_right m n wh (by omega)
      have i1 := fun h W => ih (cut n) hcl m wh W (by omega) h1 h
      have i2 := fun h h3 W => ih (n - cut n) (by omega) (m - cut n) false W (by omega) h h3
      have ll := fun h => long_le 61 (cut n) m wh (by omega) h1 h
      have lr := fun h h3 => long_le 61 (n - cut n) (m - cut n) false (by omega) h h3
      obtain ⟨k, HK⟩ : ∃ k, Hid (cut n = k) := ⟨_, Lib.hid rfl⟩
      simp only [HK.out] at h3 hll hlr i1 i2 hcl hcp ll lr
      have H3 := Lib.hid h3
      clear h3 ih
      by_cases hjk : m ≤ k
      · have hjI : (m : Int) ≤ (k : Int) := by omega
        have i3 := fun W => i1 hjk W
        have l3 := ll hjk
        have hd := hll hjk
        rw [hd]
        obtain ⟨q, HQ⟩ : ∃ x, Hid (long m k wh = x) := ⟨_, Lib.hid rfl⟩
        simp only [HQ.out] at i3 l3 ⊢
        have I3 := Lib.hid i3
        have hq : (q : Int) ≤ 62 := by omega
        clear i1 i2 i3 hll hlr ll lr hd l3
        go_enter Try.func55, Try.ntmps55
        go_wp2_with fail
        (with_reducible refine (H3.out _).mono ?_); rintro e w1 ⟨rfl, rfl⟩
        go_wp2_with fail
        (with_reducible refine (I3.out _).mono ?_); rintro e w1 ⟨rfl, rfl⟩
        go_wp2_with fail
        go_ret
        exact ⟨by go_num, rfl⟩
      · have hjI : ¬ (m : Int) ≤ (k : Int) := by omega
        have i3 := fun W => i2 (by omega) (by omega) W
        have l3 := lr (by omega) (by omega)
        have hd := hlr (by omega)
        rw [hd]
        obtain ⟨q, HQ⟩ : ∃ x, Hid (long (m - k) (n - k) false = x) := ⟨_, Lib.hid rfl⟩
        simp only [HQ.out] at i3 l3 ⊢
        have E1 : ((m - k : Nat) : Int) = (m : Int) - (k : Int) := by omega
        have E2 : ((n - k : Nat) : Int) = (n : Int) - (k : Int) := by omega
        simp only [E1, E2] at i3
        have I3 := Lib.hid i3
        have hq : (q : Int) ≤ 62 := by omega
        clear i1 i2 i3 hll hlr ll lr hd l3 E1 E2
        go_enter Try.func55, Try.ntmps55
        go_wp2_with fail
        (with_reducible refine (H3.out _).mono ?_); rintro e w1 ⟨rfl, rfl⟩
        go_wp2_with fail
        (with_reducible refine (I3.out _).mono ?_); rintro e w1 ⟨rfl, rfl⟩
        go_wp2_with fail
        go_ret
        exact ⟨by go_num, rfl⟩
end Go.Proofs.Ytcnhhlnbmliihaa
