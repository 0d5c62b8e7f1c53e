/- The laws' lists of leaves' sums. -/
import Derived.Test.YtcnhhlnbmliihaaRefMerk
import Derived.Test.YtcnhhlnbmliihaaMerkAwake
namespace Go.Proofs.Ytcnhhlnbmliihaa
open Go.RowKit
set_option linter.unusedVariables false
set_option linter.unusedSimpArgs false

theorem map_take_next (f : ByteArray → ByteArray) (l : List ByteArray) (k : Nat) (h : k < l.length) : (l.take (k + 1)).map f = (l.take k).map f ++ [f (l.getD k ByteArray.empty)] := by
  rw [List.take_succ_eq_append_getElem h, List.map_append, List.getD_eq_getElem?_getD, List.getElem?_eq_getElem h]; rfl
set_option maxRecDepth 100000 in
set_option maxHeartbeats 1000000 in
theorem cSumsP40 (k : Int) (P : List ByteArray → Prop) {v : Value} {w : World} (h0 : Calls Try.prog 12 #[v] w fun e w' => ∃ A m c l, e = .returned (.slice A m c) ∧ l.length = m ∧ Strs w A l ∧ m ≤ c ∧ m ≤ 70 ∧ (∀ s ∈ l, s.size ≤ 20000) ∧ P l ∧ w = w') :
    Calls Try.prog 22 #[.int .i64 k, v] w fun e w' => ∃ A n c L, e = .returned (.slice A n c) ∧ (L.map (mleaf (wd k))).length = n ∧ n ≤ c ∧ n ≤ 70 ∧ (∀ s ∈ L.map (mleaf (wd k)), s.size = wd k) ∧ Strs w' A (L.map (mleaf (wd k))) ∧ P L ∧ Below w.heap.size w w' := by
  have H0 := Lib.hid h0
  clear h0
  have hB0 := Below.refl w.heap.size w
  go_enter Try.func22, Try.ntmps22
  go_wp2_with fail
  (with_reducible refine H0.out.mono ?_); rintro e w1 ⟨A, n, c, l, rfl, hl, hs, hnc, hn, hz, hP, rfl⟩
  have HP := Lib.hid hP
  clear hP
  have HL := Lib.hid hl
  have HS := Lib.hid hs
  have HZ := Lib.hid hz
  clear hl hs hz H0
  go_wp2_with fail
  go_loopw [5, 6] (fun u v wr => ∃ (q : Nat), q ≤ n ∧ v = .int .i64 q ∧ SL wr w.heap.size 9 u (((l.take q).map (mleaf (wd k))).map Value.string) ∧ Below w.heap.size w wr) (fun _ v _ => n - (intOf v).toNat)
  case atStart => exact ⟨0, by omega, rfl, SL.nil _ _ _, hB0⟩
  case round =>
    clear hB0
    obtain ⟨q, hq, rfl, hS, hb⟩ := hrel
    have hbs := hb.size
    obtain ⟨A2, c2, rfl, hc2⟩ := hS.open_
    have hlen : ((l.take q).map (mleaf (wd k))).length = q := by rw [List.length_map, List.length_take, HL.out]; omega
    rw [hlen] at hS hc2 ⊢
    have HSR := Lib.hid hS
    have HB := Lib.hid hb
    clear hS hb
    by_cases hlt : q < n
    · have hdk : decide ((q : Int) < (n : Int)) = true := decide_eq_true (by omega)
      obtain ⟨g, o, rfl, c1⟩ := (HS.out.fresh HB.out).cell_ q (by rw [HL.out]; exact hlt)
      have hst := map_take_next (mleaf (wd k)) l q (by rw [HL.out]; exact hlt)
      have hsz := HZ.out _ (getD_mem (by rw [HL.out]; exact hlt : q < l.length))
      obtain ⟨s, HSS⟩ : ∃ s, Hid (l.getD q ByteArray.empty = s) := ⟨_, Lib.hid rfl⟩
      rw [HSS.out] at c1 hst hsz
      have h1 := fun W => crLeaf k s W (by omega)
      obtain ⟨t, HT⟩ : ∃ t, Hid (mleaf (wd k) s = t) := ⟨_, Lib.hid rfl⟩
      simp only [HT.out] at h1 hst
      have H1 := Lib.hid h1
      have HST := Lib.hid hst
      clear h1 hst
      go_wp2_with fail
      (with_reducible refine (H1.out _).mono ?_); rintro e w2 ⟨rfl, hb2⟩
      have HS2 := Lib.hid (HSR.out.below hb2 (Nat.le_refl _))
      have HB2 := Lib.hid (HB.out.trans (hb2.mono hbs))
      have hbs2 := HB2.out.size
      clear hb2
      go_wp2_with (refine wpList_app1 Value.string (fun _ => rfl) str_elem rfl (.tmp 15) (.tmp 22) rfl w.heap.size A2 q c2 _ t _ hlen rfl HS2.out rfl _ rfl rfl (by omega) (by decide) hbs2 ?_; intro A3 c3 w3 hS3 hc3 hb3; dsimp only [Act.put])
      go_roundw
      case rel => exact ⟨q + 1, by omega, by go_num, by rw [HST.out]; exact hS3, HB2.out.trans hb3⟩
      case measure => simp [intOf]; omega
    · have hdk : decide ((q : Int) < (n : Int)) = false := decide_eq_false (by omega)
      have e : q = n := by omega
      subst e
      have hfull : l.take q = l := List.take_of_length_le (by rw [HL.out]; omega)
      have hslr := HSR.out
      rw [hfull] at hslr hlen
      have hsz : ∀ s ∈ l.map (mleaf (wd k)), s.size = wd k := fun s hs => by
        obtain ⟨x, _, rfl⟩ := List.mem_map.1 hs
        exact mleaf_size _ _ (wd_hi k)
      have HSZ := Lib.hid hsz
      have HSLR := Lib.hid hslr
      clear hslr hsz hfull
      go_wp2_with fail
      go_ret
      exact ⟨A2, q, c2, l, rfl, hlen, hc2, hn, HSZ.out, Strs.of_sl HSLR.out, HP.out, HB.out⟩
theorem cSums40 (k : Int) {v : Value} {ss : List ByteArray} {w : World} (hv : StrsIn w v ss) :
    Calls Try.prog 22 #[.int .i64 k, v] w fun e w' => ∃ A n c l, e = .returned (.slice A n c) ∧ l.length = n ∧ n ≤ c ∧ n ≤ 70 ∧ (∀ s ∈ l, s.size = wd k) ∧ Strs w' A l ∧ Below w.heap.size w w' := by
  refine (cSumsP40 k (fun _ => True) ((cFewV hv).mono ?_)).mono ?_
  · rintro e w' ⟨A, m, c, l, h1, h2, h3, h4, h5, h6, h7⟩
    exact ⟨A, m, c, l, h1, h2, h3, h4, h5, h6, trivial, h7⟩
  · rintro e w' ⟨A, n, c, L, h1, h2, h3, h4, h5, h6, _, h7⟩
    exact ⟨A, n, c, _, h1, h2, h3, h4, h5, h6, h7⟩
set_option maxRecDepth 100000 in
set_option maxHeartbeats 1000000 in
theorem cSumsP41 (k : Int) (P : List ByteArray → Prop) {v : Value} {w : World} (h0 : Calls Try.prog 12 #[v] w fun e w' => ∃ A m c l, e = .returned (.slice A m c) ∧ l.length = m ∧ Strs w A l ∧ m ≤ c ∧ m ≤ 70 ∧ (∀ s ∈ l, s.size ≤ 20000) ∧ P l ∧ w = w') :
    Calls Try.prog 17 #[.int .i64 k, v] w fun e w' => ∃ A n c L, e = .returned (.slice A n c) ∧ (L.map (mleaf (wd k))).length = n ∧ n ≤ c ∧ n ≤ 70 ∧ (∀ s ∈ L.map (mleaf (wd k)), s.size = wd k) ∧ Strs w' A (L.map (mleaf (wd k))) ∧ P L ∧ Below w.heap.size w w' := by
  have H0 := Lib.hid h0
  clear h0
  have hB0 := Below.refl w.heap.size w
  go_enter Try.func17, Try.ntmps17
  go_wp2_with fail
  (with_reducible refine H0.out.mono ?_); rintro e w1 ⟨A, n, c, l, rfl, hl, hs, hnc, hn, hz, hP, rfl⟩
  have HP := Lib.hid hP
  clear hP
  have HL := Lib.hid hl
  have HS := Lib.hid hs
  have HZ := Lib.hid hz
  clear hl hs hz H0
  go_wp2_with fail
  go_loopw [5, 6] (fun u v wr => ∃ (q : Nat), q ≤ n ∧ v = .int .i64 q ∧ SL wr w.heap.size 9 u (((l.take q).map (mleaf (wd k))).map Value.string) ∧ Below w.heap.size w wr) (fun _ v _ => n - (intOf v).toNat)
  case atStart => exact ⟨0, by omega, rfl, SL.nil _ _ _, hB0⟩
  case round =>
    clear hB0
    obtain ⟨q, hq, rfl, hS, hb⟩ := hrel
    have hbs := hb.size
    obtain ⟨A2, c2, rfl, hc2⟩ := hS.open_
    have hlen : ((l.take q).map (mleaf (wd k))).length = q := by rw [List.length_map, List.length_take, HL.out]; omega
    rw [hlen] at hS hc2 ⊢
    have HSR := Lib.hid hS
    have HB := Lib.hid hb
    clear hS hb
    by_cases hlt : q < n
    · have hdk : decide ((q : Int) < (n : Int)) = true := decide_eq_true (by omega)
      obtain ⟨g, o, rfl, c1⟩ := (HS.out.fresh HB.out).cell_ q (by rw [HL.out]; exact hlt)
      have hst := map_take_next (mleaf (wd k)) l q (by rw [HL.out]; exact hlt)
      have hsz := HZ.out _ (getD_mem (by rw [HL.out]; exact hlt : q < l.length))
      obtain ⟨s, HSS⟩ : ∃ s, Hid (l.getD q ByteArray.empty = s) := ⟨_, Lib.hid rfl⟩
      rw [HSS.out] at c1 hst hsz
      have h1 := fun W => crLeaf k s W (by omega)
      obtain ⟨t, HT⟩ : ∃ t, Hid (mleaf (wd k) s = t) := ⟨_, Lib.hid rfl⟩
      simp only [HT.out] at h1 hst
      have H1 := Lib.hid h1
      have HST := Lib.hid hst
      clear h1 hst
      go_wp2_with fail
      (with_reducible refine (H1.out _).mono ?_); rintro e w2 ⟨rfl, hb2⟩
      have HS2 := Lib.hid (HSR.out.below hb2 (Nat.le_refl _))
      have HB2 := Lib.hid (HB.out.trans (hb2.mono hbs))
      have hbs2 := HB2.out.size
      clear hb2
      go_wp2_with (refine wpList_app1 Value.string (fun _ => rfl) str_elem rfl (.tmp 15) (.tmp 22) rfl w.heap.size A2 q c2 _ t _ hlen rfl HS2.out rfl _ rfl rfl (by omega) (by decide) hbs2 ?_; intro A3 c3 w3 hS3 hc3 hb3; dsimp only [Act.put])
      go_roundw
      case rel => exact ⟨q + 1, by omega, by go_num, by rw [HST.out]; exact hS3, HB2.out.trans hb3⟩
      case measure => simp [intOf]; omega
    · have hdk : decide ((q : Int) < (n : Int)) = false := decide_eq_false (by omega)
      have e : q = n := by omega
      subst e
      have hfull : l.take q = l := List.take_of_length_le (by rw [HL.out]; omega)
      have hslr := HSR.out
      rw [hfull] at hslr hlen
      have hsz : ∀ s ∈ l.map (mleaf (wd k)), s.size = wd k := fun s hs => by
        obtain ⟨x, _, rfl⟩ := List.mem_map.1 hs
        exact mleaf_size _ _ (wd_hi k)
      have HSZ := Lib.hid hsz
      have HSLR := Lib.hid hslr
      clear hslr hsz hfull
      go_wp2_with fail
      go_ret
      exact ⟨A2, q, c2, l, rfl, hlen, hc2, hn, HSZ.out, Strs.of_sl HSLR.out, HP.out, HB.out⟩
theorem cSums41 (k : Int) {v : Value} {ss : List ByteArray} {w : World} (hv : StrsIn w v ss) :
    Calls Try.prog 17 #[.int .i64 k, v] w fun e w' => ∃ A n c l, e = .returned (.slice A n c) ∧ l.length = n ∧ n ≤ c ∧ n ≤ 70 ∧ (∀ s ∈ l, s.size = wd k) ∧ Strs w' A l ∧ Below w.heap.size w w' := by
  refine (cSumsP41 k (fun _ => True) ((cFewV hv).mono ?_)).mono ?_
  · rintro e w' ⟨A, m, c, l, h1, h2, h3, h4, h5, h6, h7⟩
    exact ⟨A, m, c, l, h1, h2, h3, h4, h5, h6, trivial, h7⟩
  · rintro e w' ⟨A, n, c, L, h1, h2, h3, h4, h5, h6, _, h7⟩
    exact ⟨A, n, c, _, h1, h2, h3, h4, h5, h6, h7⟩
end Go.Proofs.Ytcnhhlnbmliihaa
