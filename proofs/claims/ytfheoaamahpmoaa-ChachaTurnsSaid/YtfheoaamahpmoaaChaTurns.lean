/- The walks of ChachaBlocks and ChachaTurns. -/
import Derived.Test.YtfheoaamahpmoaaRefXor
import Derived.Test.YtfheoaamahpmoaaChaLaws
namespace Go.Proofs.Ytfheoaamahpmoaa
open Go.RowKit

set_option maxRecDepth 100000 in
theorem chachaBlocks_walk (key : ByteArray) (w0 : key.size ≤ reachBytes) (nonce : ByteArray) (w1 : nonce.size ≤ reachBytes) (c : Int) (w2 : (Lit.int .i64 c).wf = true) (w : World) :
    Calls Try.prog 5 #[.string key, .string nonce, .int .i64 c] w fun e w' => e = .returned (.bool true) ∧ Below w.heap.size w w' := by
  clear w0 w1 w2
  by_cases h : key.size = 32 ∧ nonce.size = 12 ∧ 0 ≤ c ∧ c ≤ 4294967295
  · have H := Lib.hid h
    clear h
    obtain ⟨x, HX⟩ : ∃ x, Hid (str (strm key nonce (.ofInt 32 c)) = x) := ⟨_, Lib.hid rfl⟩
    go_enter Try.func5, Try.ntmps5
    go_wp2_with fail
    (with_reducible refine (cBlock_yes _ _ _ _ H.out.1 H.out.2.1 H.out.2.2.1 H.out.2.2.2).mono ?_); rw [HX.out]; rintro e w1 ⟨rfl, hb1⟩
    go_wp2_with fail
    (with_reducible refine (crBlock_yes _ _ _ _ H.out.1 H.out.2.1 H.out.2.2.1 H.out.2.2.2).mono ?_); rw [HX.out]; rintro e w2 ⟨rfl, hb2⟩
    go_wp2_with (go_at_call 14; ((with_reducible refine (cAwake04 _).mono ?_); rintro e w' ⟨rfl, m, rfl⟩))
    go_ret
    exact ⟨rfl, below_drewN (hb1.trans (hb2.mono hb1.size)) _⟩
  · have H := Lib.hid h
    clear h
    go_enter Try.func5, Try.ntmps5
    go_wp2_with fail
    (with_reducible refine (cBlock_no _ _ _ _ H.out).mono ?_); rintro e w1 ⟨rfl, hb1⟩
    go_wp2_with fail
    (with_reducible refine (crBlock_no _ _ _ _ H.out).mono ?_); rintro e w2 ⟨rfl, hb2⟩
    go_wp2_with (go_at_call 14; ((with_reducible refine (cAwake04 _).mono ?_); rintro e w' ⟨rfl, m, rfl⟩))
    go_ret
    exact ⟨rfl, below_drewN (hb1.trans (hb2.mono hb1.size)) _⟩

set_option maxRecDepth 100000 in
theorem chachaTurns_walk (key : ByteArray) (w0 : key.size ≤ reachBytes) (nonce : ByteArray) (w1 : nonce.size ≤ reachBytes) (c : Int) (w2 : (Lit.int .i64 c).wf = true) (s : ByteArray) (w3 : s.size ≤ reachBytes) (w : World) :
    Calls Try.prog 6 #[.string key, .string nonce, .int .i64 c, .string s] w fun e w' => e = .returned (.bool true) ∧ Below w.heap.size w w' := by
  unfold reachBytes at w3
  have hts : ∃ t : ByteArray, t.size ≤ 5000 ∧ ((5000 < s.size ∧ Hid (s.extract 0 5000 = t)) ∨ (s.size ≤ 5000 ∧ t = s)) := by
    by_cases hs : 5000 < s.size
    · exact ⟨s.extract 0 5000, by simp; omega, .inl ⟨hs, Lib.hid rfl⟩⟩
    · exact ⟨s, by omega, .inr ⟨by omega, rfl⟩⟩
  clear w0 w1 w2
  obtain ⟨t, ht, hts⟩ := hts
  have hr : Hid ((key.size = 32 ∧ nonce.size = 12 ∧ 0 ≤ c ∧ c ≤ 4294967295) ∧ (t.size = 0 ∨ ((t.size : Int) - 1) / 64 ≤ 4294967295 - c)) ∨ Hid ((key.size = 32 ∧ nonce.size = 12 ∧ 0 ≤ c ∧ c ≤ 4294967295) ∧ 0 < t.size ∧ 4294967295 - c < ((t.size : Int) - 1) / 64) ∨ Hid (¬ (key.size = 32 ∧ nonce.size = 12 ∧ 0 ≤ c ∧ c ≤ 4294967295)) := by
    by_cases hc : key.size = 32 ∧ nonce.size = 12 ∧ 0 ≤ c ∧ c ≤ 4294967295
    · by_cases hz : t.size = 0
      · exact .inl (Lib.hid ⟨hc, .inl hz⟩)
      · by_cases hx : ((t.size : Int) - 1) / 64 ≤ 4294967295 - c
        · exact .inl (Lib.hid ⟨hc, .inr hx⟩)
        · exact .inr (.inl (Lib.hid ⟨hc, by omega, by omega⟩))
    · exact .inr (.inr (Lib.hid hc))
  obtain ⟨HS, HT⟩ | ⟨HS, rfl⟩ := hts
  all_goals
    go_enter Try.func6, Try.ntmps6
    go_wp2_with fail
    try rw [HT.out]
    rcases hr with hr | hr | hr
    · obtain ⟨x, HX⟩ : ∃ x, Hid (xorS key nonce c t = x) := ⟨_, Lib.hid rfl⟩
      (with_reducible refine (cXOR_yes _ _ _ _ _ hr.out.1.1 hr.out.1.2.1 hr.out.1.2.2.1 hr.out.1.2.2.2 (by omega) hr.out.2).mono ?_); rw [HX.out]; rintro e w1 ⟨rfl, hb1⟩
      go_wp2_with fail
      (with_reducible refine (crXOR_yes _ _ _ _ _ hr.out.1.1 hr.out.1.2.1 hr.out.1.2.2.1 hr.out.1.2.2.2 (by omega) hr.out.2).mono ?_); rw [HX.out]; rintro e w2 ⟨rfl, hb2⟩
      go_wp2_with (go_at_call 14; ((with_reducible refine (cAwake04 _).mono ?_); rintro e w' ⟨rfl, m, rfl⟩))
      go_ret
      exact ⟨rfl, below_drewN (hb1.trans (hb2.mono hb1.size)) _⟩
    · (with_reducible refine (cXOR_range _ _ _ _ _ hr.out.1.1 hr.out.1.2.1 hr.out.1.2.2.1 hr.out.1.2.2.2 hr.out.2.1 (by omega) hr.out.2.2).mono ?_); rintro e w1 ⟨rfl, hb1⟩
      go_wp2_with fail
      (with_reducible refine (crXOR_range _ _ _ _ _ hr.out.1.1 hr.out.1.2.1 hr.out.1.2.2.1 hr.out.1.2.2.2 hr.out.2.1 (by omega) hr.out.2.2).mono ?_); rintro e w2 ⟨rfl, hb2⟩
      go_wp2_with (go_at_call 14; ((with_reducible refine (cAwake04 _).mono ?_); rintro e w' ⟨rfl, m, rfl⟩))
      go_ret
      exact ⟨rfl, below_drewN (hb1.trans (hb2.mono hb1.size)) _⟩
    · (with_reducible refine (cXOR_arg _ _ _ _ _ hr.out).mono ?_); rintro e w1 ⟨rfl, hb1⟩
      go_wp2_with fail
      (with_reducible refine (crXOR_arg _ _ _ _ _ hr.out).mono ?_); rintro e w2 ⟨rfl, hb2⟩
      go_wp2_with (go_at_call 14; ((with_reducible refine (cAwake04 _).mono ?_); rintro e w' ⟨rfl, m, rfl⟩))
      go_ret
      exact ⟨rfl, below_drewN (hb1.trans (hb2.mono hb1.size)) _⟩
end Go.Proofs.Ytfheoaamahpmoaa
