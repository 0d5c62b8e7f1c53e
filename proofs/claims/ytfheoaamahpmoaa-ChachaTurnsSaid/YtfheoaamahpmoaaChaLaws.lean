/- The walks of ChachaTwice and ChachaSeeks. -/
import Derived.Test.YtfheoaamahpmoaaChaXor
import Derived.Test.YtfheoaamahpmoaaSized
namespace Go.Proofs.Ytfheoaamahpmoaa
open Go.RowKit

theorem xorS_size (key nonce : ByteArray) (c : Int) (s : ByteArray) : (xorS key nonce c s).size = s.size := by
  unfold xorS; rw [str_size, xorN_length, data_length]
theorem xorS_bytes (key nonce : ByteArray) (c : Int) (s : ByteArray) : (xorS key nonce c s).data.toList = xorN key nonce c s.data.toList s.size := by
  unfold xorS; rw [bytes_str]
theorem ba_ext {s t : ByteArray} (h : s.data.toList = t.data.toList) : s = t := by
  rw [← str_bytes s, ← str_bytes t, h]
theorem xorS_xorS (key nonce : ByteArray) (c : Int) (s : ByteArray) : xorS key nonce c (xorS key nonce c s) = s := by
  apply ba_ext
  rw [xorS_bytes, xorS_bytes, xorS_size]
  apply list_ext_getD (by rw [xorN_length, xorN_length])
  intro i hi
  rw [xorN_length, xorN_length, data_length] at hi
  rw [xorN_getD _ _ _ _ _ _ (by rw [xorN_length, data_length]; exact hi), if_pos hi, xorN_getD _ _ _ _ _ _ (by rw [data_length]; exact hi), if_pos hi]
  rw [UInt8.xor_assoc, UInt8.xor_self, UInt8.xor_zero]
theorem extract_getD (s : ByteArray) (a b i : Nat) (hb : b ≤ s.size) (hi : i < b - a) : (s.extract a b).data.toList.getD i 0 = s.data.toList.getD (a + i) 0 := by
  have hsz : s.data.size = s.size := rfl
  rw [ByteArray.data_extract, List.getD_eq_getElem?_getD, List.getD_eq_getElem?_getD]
  have hm : min b s.data.size = b := by omega
  simp [Array.getElem?_extract, hm, hi]
theorem xorS_seek (key nonce : ByteArray) (c : Int) (s : ByteArray) (j : Nat) (h : 64 * j < s.size) : (xorS key nonce c s).extract (64 * j) s.size = xorS key nonce (c + (j : Int)) (s.extract (64 * j) s.size) := by
  apply ba_ext
  rw [xorS_bytes]
  have hz : (s.extract (64 * j) s.size).size = s.size - 64 * j := by simp
  apply list_ext_getD (by rw [data_length, xorN_length, data_length, hz]; simp [xorS_size])
  intro i hi
  rw [data_length] at hi
  have hi' : i < s.size - 64 * j := by simpa [xorS_size] using hi
  rw [extract_getD _ _ _ _ (by rw [xorS_size]; exact Nat.le_refl _) hi', xorS_bytes, xorN_getD _ _ _ _ _ _ (by rw [data_length]; omega), if_pos (by omega)]
  rw [xorN_getD _ _ _ _ _ _ (by rw [data_length, hz]; exact hi'), if_pos (by rw [hz]; exact hi'), extract_getD _ _ _ _ (Nat.le_refl _) hi']
  congr 1
  rw [ksb_eq, ksb_eq]
  have e1 : (64 * j + i) / 64 = j + i / 64 := by omega
  have e2 : (64 * j + i) % 64 = i % 64 := by omega
  rw [e1, e2]
  congr 3
  push_cast
  omega

set_option maxRecDepth 100000 in
theorem chachaTwice_walk (a0 : ByteArray) (w0 : a0.size ≤ reachBytes) (a1 : ByteArray) (w1 : a1.size ≤ reachBytes) (c : Int) (w2 : (Lit.int .i64 c).wf = true) (s : ByteArray) (w3 : s.size ≤ reachBytes) (w : World) :
    Calls Try.prog 7 #[.string a0, .string a1, .int .i64 c, .string s] w fun e w' => e = .returned (.bool true) ∧ Below w.heap.size w w' := by
  unfold reachBytes at w0 w1 w3
  have h0 : a0.size < 1000000000000000 := by omega
  have h1 : a1.size < 1000000000000000 := by omega
  have hts : ∃ t : ByteArray, t.size ≤ 5000 ∧ ((5000 < s.size ∧ Hid (s.extract 0 5000 = t)) ∨ (s.size ≤ 5000 ∧ t = s)) := by
    by_cases hs : 5000 < s.size
    · exact ⟨s.extract 0 5000, by simp; omega, .inl ⟨hs, Lib.hid rfl⟩⟩
    · exact ⟨s, by omega, .inr ⟨by omega, rfl⟩⟩
  clear w0 w1 w2
  obtain ⟨t, ht, hts⟩ := hts
  have hr : Hid (0 ≤ c ∧ c ≤ 4294967295 ∧ (t.size = 0 ∨ ((t.size : Int) - 1) / 64 ≤ 4294967295 - c)) ∨ (0 ≤ c ∧ c ≤ 4294967295 ∧ 0 < t.size ∧ 4294967295 - c < ((t.size : Int) - 1) / 64) ∨ Hid (¬ (0 ≤ c ∧ c ≤ 4294967295)) := by
    by_cases hc : 0 ≤ c ∧ c ≤ 4294967295
    · by_cases hz : t.size = 0
      · exact .inl (Lib.hid ⟨hc.1, hc.2, .inl hz⟩)
      · by_cases hx : ((t.size : Int) - 1) / 64 ≤ 4294967295 - c
        · exact .inl (Lib.hid ⟨hc.1, hc.2, .inr hx⟩)
        · exact .inr (.inl ⟨hc.1, hc.2, by omega, by omega⟩)
    · exact .inr (.inr (Lib.hid hc))
  obtain ⟨HS, HT⟩ | ⟨HS, rfl⟩ := hts
  all_goals
    go_enter Try.func7, Try.ntmps7
    go_wp2_with fail
    (with_reducible refine (csized32 _ _ h0).mono ?_); rintro e w1 ⟨k, hk, rfl, hb1⟩
    go_wp2_with fail
    (with_reducible refine (csized12 _ _ h1).mono ?_); rintro e w2 ⟨n, hn, rfl, hb2⟩
    go_wp2_with fail
    try rw [HT.out]
    have HK := Lib.hid hk
    have HN := Lib.hid hn
    clear hk hn
    have HB := hb1.trans (hb2.mono hb1.size)
    clear hb1 hb2
    rcases hr with hr | hr | hr
    · obtain ⟨x, HX⟩ : ∃ x, Hid (xorS k n c t = x) := ⟨_, Lib.hid rfl⟩
      have HY : Hid (xorS k n c x = t) := Lib.hid (by rw [← HX.out]; exact xorS_xorS _ _ _ _)
      have hx : x.size = t.size := by rw [← HX.out, xorS_size]
      (with_reducible refine (cXOR_yes _ _ _ _ _ HK.out HN.out hr.out.1 hr.out.2.1 (by omega) hr.out.2.2).mono ?_); rw [HX.out]; rintro e w3 ⟨rfl, hb3⟩
      go_wp2_with fail
      (with_reducible refine (cXOR_yes _ _ _ _ _ HK.out HN.out hr.out.1 hr.out.2.1 (by omega) (by rw [hx]; exact hr.out.2.2)).mono ?_); rw [HY.out]; rintro e w4 ⟨rfl, hb4⟩
      go_wp2_with (go_at_call 14; ((with_reducible refine (cAwake04 _).mono ?_); rintro e w' ⟨rfl, m, rfl⟩))
      go_ret
      exact ⟨rfl, below_drewN ((HB.trans (hb3.mono HB.size)).trans (hb4.mono (HB.trans (hb3.mono HB.size)).size)) _⟩
    · obtain ⟨q1, q2, q3, q4⟩ := hr
      (with_reducible refine (cXOR_range _ _ _ _ _ HK.out HN.out q1 q2 q3 (by omega) q4).mono ?_); rintro e w3 ⟨rfl, hb3⟩
      go_wp2_with (go_at_call 14; ((with_reducible refine (cAwake04 _).mono ?_); rintro e w' ⟨rfl, m, rfl⟩))
      go_ret
      exact ⟨rfl, below_drewN (HB.trans (hb3.mono HB.size)) _⟩
    · (with_reducible refine (cXOR_arg _ _ _ _ _ (fun h => absurd h.2.2 hr.out)).mono ?_); rintro e w3 ⟨rfl, hb3⟩
      go_wp2_with (go_at_call 14; ((with_reducible refine (cAwake04 _).mono ?_); rintro e w' ⟨rfl, m, rfl⟩))
      go_ret
      exact ⟨rfl, below_drewN (HB.trans (hb3.mono HB.size)) _⟩

theorem skip15 (n : Int) : ∃ j : Nat, j < 16 ∧ bits .and .i64 n 15 = (j : Int) := by
  have h := b_mask64 n
  refine ⟨(BitVec.ofInt 64 n &&& 15#64).toNat, ?_, ?_⟩
  · rw [BitVec.toNat_and]
    have := Nat.and_le_right (n := (BitVec.ofInt 64 n).toNat) (m := (15#64).toNat)
    have e : (15#64).toNat = 15 := rfl
    omega
  · rw [bits_and64]
    have e : BitVec.ofInt 64 15 = 15#64 := rfl
    rw [e, ← IntWalk.i64_left]
    have hb : (BitVec.ofInt 64 n &&& 15#64).toNat < 16 := by
      rw [BitVec.toNat_and]
      have := Nat.and_le_right (n := (BitVec.ofInt 64 n).toNat) (m := (15#64).toNat)
      have e : (15#64).toNat = 15 := rfl
      omega
    generalize (BitVec.ofInt 64 n &&& 15#64).toNat = m at *
    have hv := wrap64_V (BitVec.ofNat 32 m)
    unfold V at hv
    have e : (BitVec.ofNat 32 m).toNat = m := by simp; omega
    rw [e] at hv
    exact hv

set_option maxRecDepth 100000 in
theorem chachaSeeks_walk (a0 : ByteArray) (w0 : a0.size ≤ reachBytes) (a1 : ByteArray) (w1 : a1.size ≤ reachBytes) (c : Int) (w2 : (Lit.int .i64 c).wf = true) (skip : Int) (w4 : (Lit.int .i64 skip).wf = true) (s : ByteArray) (w3 : s.size ≤ reachBytes) (w : World) :
    Calls Try.prog 8 #[.string a0, .string a1, .int .i64 c, .int .i64 skip, .string s] w fun e w' => e = .returned (.bool true) ∧ Below w.heap.size w w' := by
  unfold reachBytes at w0 w1 w3
  have h0 : a0.size < 1000000000000000 := by omega
  have h1 : a1.size < 1000000000000000 := by omega
  have hts : ∃ t : ByteArray, t.size ≤ 5000 ∧ ((5000 < s.size ∧ Hid (s.extract 0 5000 = t)) ∨ (s.size ≤ 5000 ∧ t = s)) := by
    by_cases hs : 5000 < s.size
    · exact ⟨s.extract 0 5000, by simp; omega, .inl ⟨hs, Lib.hid rfl⟩⟩
    · exact ⟨s, by omega, .inr ⟨by omega, rfl⟩⟩
  clear w0 w1 w2 w4
  obtain ⟨t, ht, hts⟩ := hts
  obtain ⟨j, hj, hskip⟩ := skip15 skip
  have hr : Hid (0 ≤ c ∧ c ≤ 4294967295 ∧ (t.size = 0 ∨ ((t.size : Int) - 1) / 64 ≤ 4294967295 - c)) ∨ (0 ≤ c ∧ c ≤ 4294967295 ∧ 0 < t.size ∧ 4294967295 - c < ((t.size : Int) - 1) / 64) ∨ Hid (¬ (0 ≤ c ∧ c ≤ 4294967295)) := by
    by_cases hc : 0 ≤ c ∧ c ≤ 4294967295
    · by_cases hz : t.size = 0
      · exact .inl (Lib.hid ⟨hc.1, hc.2, .inl hz⟩)
      · by_cases hx : ((t.size : Int) - 1) / 64 ≤ 4294967295 - c
        · exact .inl (Lib.hid ⟨hc.1, hc.2, .inr hx⟩)
        · exact .inr (.inl ⟨hc.1, hc.2, by omega, by omega⟩)
    · exact .inr (.inr (Lib.hid hc))
  obtain ⟨HS, HT⟩ | ⟨HS, rfl⟩ := hts
  all_goals
    go_enter Try.func8, Try.ntmps8
    go_wp2_with fail
    (with_reducible refine (csized32 _ _ h0).mono ?_); rintro e w1 ⟨k, hk, rfl, hb1⟩
    go_wp2_with fail
    (with_reducible refine (csized12 _ _ h1).mono ?_); rintro e w2 ⟨n, hn, rfl, hb2⟩
    go_wp2_with fail
    try rw [HT.out]
    have HK := Lib.hid hk
    have HN := Lib.hid hn
    clear hk hn
    have HB := hb1.trans (hb2.mono hb1.size)
    clear hb1 hb2
    rcases hr with hr | hr | hr
    · obtain ⟨x, HX⟩ : ∃ x, Hid (xorS k n c t = x) := ⟨_, Lib.hid rfl⟩
      have hx : x.size = t.size := by rw [← HX.out, xorS_size]
      (with_reducible refine (cXOR_yes _ _ _ _ _ HK.out HN.out hr.out.1 hr.out.2.1 (by omega) hr.out.2.2).mono ?_); rw [HX.out]; rintro e w3 ⟨rfl, hb3⟩
      by_cases hjt : 64 * j < t.size
      · obtain ⟨q1, q2, q3⟩ := hr.out
        have q4 : c + j ≤ 4294967295 := by omega
        obtain ⟨u, HU⟩ : ∃ u, Hid (t.extract (64 * j) t.size = u) := ⟨_, Lib.hid rfl⟩
        have hu : u.size = t.size - 64 * j := by rw [← HU.out]; simp
        have HY : Hid (xorS k n (c + j) u = x.extract (64 * j) x.size) := Lib.hid (by rw [← HU.out, hx, ← HX.out]; exact (xorS_seek _ _ _ _ _ hjt).symm)
        go_wp2_with fail
        rw [HU.out]
        (with_reducible refine (cXOR_yes _ _ _ _ _ HK.out HN.out (by omega) q4 (by omega) (by omega)).mono ?_); rw [HY.out]; rintro e w4 ⟨rfl, hb4⟩
        go_wp2_with (go_at_call 14; ((with_reducible refine (cAwake04 _).mono ?_); rintro e w' ⟨rfl, m, rfl⟩))
        go_ret
        exact ⟨rfl, below_drewN ((HB.trans (hb3.mono HB.size)).trans (hb4.mono (HB.trans (hb3.mono HB.size)).size)) _⟩
      · go_wp2_with (go_at_call 14; ((with_reducible refine (cAwake04 _).mono ?_); rintro e w' ⟨rfl, m, rfl⟩))
        go_ret
        exact ⟨rfl, below_drewN (HB.trans (hb3.mono HB.size)) _⟩
    · obtain ⟨q1, q2, q3, q4⟩ := hr
      (with_reducible refine (cXOR_range _ _ _ _ _ HK.out HN.out q1 q2 q3 (by omega) q4).mono ?_); rintro e w3 ⟨rfl, hb3⟩
      go_wp2_with (go_at_call 14; ((with_reducible refine (cAwake04 _).mono ?_); rintro e w' ⟨rfl, m, rfl⟩))
      go_ret
      exact ⟨rfl, below_drewN (HB.trans (hb3.mono HB.size)) _⟩
    · (with_reducible refine (cXOR_arg _ _ _ _ _ (fun h => absurd h.2.2 hr.out)).mono ?_); rintro e w3 ⟨rfl, hb3⟩
      go_wp2_with (go_at_call 14; ((with_reducible refine (cAwake04 _).mono ?_); rintro e w' ⟨rfl, m, rfl⟩))
      go_ret
      exact ⟨rfl, below_drewN (HB.trans (hb3.mono HB.size)) _⟩
end Go.Proofs.Ytfheoaamahpmoaa
