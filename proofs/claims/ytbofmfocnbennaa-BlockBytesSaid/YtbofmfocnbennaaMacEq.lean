/- mac.Equal. -/
import Derived.Test.YtbofmfocnbennaaMac
namespace Go.Proofs.Ytbofmfocnbennaa
open Go.RowKit
set_option linter.unusedVariables false
set_option linter.unusedSimpArgs false

theorem b_xorN (x y : Nat) (hx : x < 2 ^ 62) (hy : y < 2 ^ 62) : bits .xor .i64 (x : Int) (y : Int) = ((x ^^^ y : Nat) : Int) := by
  rw [bits_xor64]
  have h := Nat.xor_lt_two_pow hx hy
  have e : (BitVec.ofInt 64 (x : Int) ^^^ BitVec.ofInt 64 (y : Int)).toNat = x ^^^ y := by
    rw [BitVec.toNat_xor, BitVec.ofInt_natCast, BitVec.ofInt_natCast, BitVec.toNat_ofNat, BitVec.toNat_ofNat, Nat.mod_eq_of_lt (by omega), Nat.mod_eq_of_lt (by omega)]
  rw [e]
  unfold wrap64
  omega
theorem b_orN (x y : Nat) (hx : x < 2 ^ 62) (hy : y < 2 ^ 62) : bits .or .i64 (x : Int) (y : Int) = ((x ||| y : Nat) : Int) := by
  rw [bits_or64]
  have h := Nat.or_lt_two_pow hx hy
  have e : (BitVec.ofInt 64 (x : Int) ||| BitVec.ofInt 64 (y : Int)).toNat = x ||| y := by
    rw [BitVec.toNat_or, BitVec.ofInt_natCast, BitVec.ofInt_natCast, BitVec.toNat_ofNat, BitVec.toNat_ofNat, Nat.mod_eq_of_lt (by omega), Nat.mod_eq_of_lt (by omega)]
  rw [e]
  unfold wrap64
  omega
theorem xor_zero (x y : Nat) : x ^^^ y = 0 ↔ x = y := by
  constructor
  · intro h
    have : x ^^^ y ^^^ y = y := by rw [h, Nat.zero_xor]
    rw [Nat.xor_assoc, Nat.xor_self, Nat.xor_zero] at this
    exact this
  · rintro rfl; exact Nat.xor_self x
theorem or_zero (x y : Nat) : x ||| y = 0 ↔ x = 0 ∧ y = 0 := by
  constructor
  · intro h
    have h1 : x ≤ x ||| y := Nat.left_le_or
    have h2 : y ≤ x ||| y := Nat.right_le_or
    omega
  · rintro ⟨rfl, rfl⟩; rfl
theorem xor8_zero (x y : UInt8) : (x ^^^ y).toNat = 0 ↔ x = y := by
  rw [UInt8.toNat_xor, xor_zero]; exact UInt8.toNat_inj
theorem texts_eq (a b : ByteArray) (n : Nat) (h1 : a.size ≤ n) (h2 : b.size ≤ n) : (a.size = b.size ∧ ∀ j, j < n → byteAt a j = byteAt b j) ↔ a = b := by
  constructor
  · rintro ⟨hs, hb⟩
    apply ba_ext
    apply List.ext_getElem
    · rw [data_length, data_length, hs]
    · intro i hi hj
      have := hb i (by rw [data_length] at hi; omega)
      unfold byteAt at this
      rw [List.getD_eq_getElem?_getD, List.getElem?_eq_getElem hi, List.getD_eq_getElem?_getD, List.getElem?_eq_getElem hj] at this
      exact this
  · rintro rfl; exact ⟨rfl, fun _ _ => rfl⟩

set_option maxRecDepth 100000 in
theorem cEqual (a b : ByteArray) (w : World) (ha : a.size ≤ 100000000) (hb : b.size ≤ 100000000) :
    Calls Try.prog 47 #[.string a, .string b] w fun e w' => e = .returned (.tuple #[.bool (decide (a = b)), .int .i64 ((max a.size b.size : Nat) : Int)]) ∧ w = w' := by
  have ha9 : (a.size : Int) ≤ 100000000 := by omega
  have hb9 : (b.size : Int) ≤ 100000000 := by omega
  have hx := b_xorN a.size b.size (by omega) (by omega)
  have hxl : a.size ^^^ b.size < 2 ^ 30 := Nat.xor_lt_two_pow (by omega) (by omega)
  have hx0 := xor_zero a.size b.size
  obtain ⟨D, HD⟩ : ∃ x, Hid (a.size ^^^ b.size = x) := ⟨_, Lib.hid rfl⟩
  rw [HD.out] at hx hxl hx0
  have HX0 := Lib.hid hx0
  clear hx0
  rcases Nat.lt_trichotomy a.size b.size with hI | hI | hI
  · have hI' : (a.size : Int) < (b.size : Int) := by omega
    have hmax : max (a.size : Int) (b.size : Int) = (b.size : Int) := by omega
    go_enter Try.func47, Try.ntmps47
    go_wp2_with fail
    all_goals clear hx
    all_goals
      go_loop [7, 20] (fun u i => ∃ k E : Nat, k ≤ b.size ∧ i = .int .i64 k ∧ u = .int .i64 E ∧ E < 1073741824 ∧ (E = 0 ↔ a.size = b.size ∧ ∀ j, j < k → byteAt a j = byteAt b j)) (fun _ i => b.size - (intOf i).toNat)
      case atStart => exact ⟨0, D, by omega, rfl, rfl, hxl, ⟨fun h => ⟨HX0.out.1 h, fun j hj => absurd hj (by omega)⟩, fun h => HX0.out.2 h.1⟩⟩
      case round =>
        obtain ⟨k, E, hk, rfl, rfl, hE, hiff⟩ := hrel
        have HIFF := Lib.hid hiff
        clear hiff
        by_cases hlk : k < b.size
        · have hdk : decide ((k : Int) < (b.size : Int)) = true := decide_eq_true (by omega)
          have h1 := fun W => cmat a k W (by omega) (by omega)
          have h2 := fun W => cmat b k W (by omega) (by omega)
          obtain ⟨x, HX⟩ : ∃ x, Hid (byteAt a k = x) := ⟨_, Lib.hid rfl⟩
          obtain ⟨y, HY⟩ : ∃ x, Hid (byteAt b k = x) := ⟨_, Lib.hid rfl⟩
          simp only [HX.out] at h1
          simp only [HY.out] at h2
          have hlt := (x ^^^ y).toNat_lt
          have hor := b_orN E (x ^^^ y).toNat (by omega) (by omega)
          have hol : E ||| (x ^^^ y).toNat < 2 ^ 30 := Nat.or_lt_two_pow (by omega) (by omega)
          have h0 := or_zero E (x ^^^ y).toNat
          have h8 := xor8_zero x y
          have H1 := Lib.hid h1
          have H2 := Lib.hid h2
          have HOR := Lib.hid hor
          have H0 := Lib.hid h0
          have H8 := Lib.hid h8
          have HOL := Lib.hid hol
          clear h1 h2 h0 h8 hlt hor hol
          go_wp2_with fail
          (with_reducible refine (H1.out _).mono ?_); rintro e w1 ⟨rfl, rfl⟩
          go_wp2_with fail
          (with_reducible refine (H2.out _).mono ?_); rintro e w1 ⟨rfl, rfl⟩
          go_wp2_with fail
          go_round
          case rel =>
            have hxy : wrap64 ((x.toNat ^^^ y.toNat : Nat) : Int) = ((x ^^^ y).toNat : Int) := by
              rw [UInt8.toNat_xor]
              have := Nat.xor_lt_two_pow (n := 8) x.toNat_lt y.toNat_lt
              unfold wrap64
              omega
            refine ⟨k + 1, E ||| (x ^^^ y).toNat, by omega, by go_num, ?_, HOL.out, ?_⟩
            · rw [hxy, HOR.out]
            · rw [H0.out, HIFF.out, H8.out]
              constructor
              · rintro ⟨⟨e1, e2⟩, e3⟩
                refine ⟨e1, fun j hj => ?_⟩
                by_cases hjk : j = k
                · rw [hjk, HX.out, HY.out]; exact e3
                · exact e2 j (by omega)
              · rintro ⟨e1, e2⟩
                refine ⟨⟨e1, fun j hj => e2 j (by omega)⟩, ?_⟩
                have := e2 k (by omega)
                rw [HX.out, HY.out] at this
                exact this
          case measure => simp [intOf]; omega
        · have hdk : decide ((k : Int) < (b.size : Int)) = false := decide_eq_false (by omega)
          go_wp2_with fail
          go_ret2
          have hkn : k = b.size := by omega
          have hmx : max a.size b.size = b.size := by omega
          have hte := texts_eq a b b.size (by omega) (by omega)
          have hEE : E = 0 ↔ a = b := HIFF.out.trans (texts_eq a b k (by omega) (by omega))
          have hE0 : ((E : Int) == 0) = decide (a = b) := by
            by_cases h : E = 0
            · rw [decide_eq_true (hEE.1 h), h]; rfl
            · rw [decide_eq_false (fun h2 => h (hEE.2 h2))]
              have : ¬ (E : Int) = 0 := by omega
              simpa using h
          exact ⟨by rw [hE0, hmx]; rfl, rfl⟩
  · have hle : (a.size : Int) ≤ (b.size : Int) := by omega
    have hge : (b.size : Int) ≤ (a.size : Int) := by omega
    have hmax : max (a.size : Int) (b.size : Int) = (b.size : Int) := by omega
    clear hI
    go_enter Try.func47, Try.ntmps47
    go_wp2_with fail
    all_goals clear hx
    all_goals
      go_loop [7, 20] (fun u i => ∃ k E : Nat, k ≤ b.size ∧ i = .int .i64 k ∧ u = .int .i64 E ∧ E < 1073741824 ∧ (E = 0 ↔ a.size = b.size ∧ ∀ j, j < k → byteAt a j = byteAt b j)) (fun _ i => b.size - (intOf i).toNat)
      case atStart => exact ⟨0, D, by omega, rfl, rfl, hxl, ⟨fun h => ⟨HX0.out.1 h, fun j hj => absurd hj (by omega)⟩, fun h => HX0.out.2 h.1⟩⟩
      case round =>
        obtain ⟨k, E, hk, rfl, rfl, hE, hiff⟩ := hrel
        have HIFF := Lib.hid hiff
        clear hiff
        by_cases hlk : k < b.size
        · have hdk : decide ((k : Int) < (b.size : Int)) = true := decide_eq_true (by omega)
          have h1 := fun W => cmat a k W (by omega) (by omega)
          have h2 := fun W => cmat b k W (by omega) (by omega)
          obtain ⟨x, HX⟩ : ∃ x, Hid (byteAt a k = x) := ⟨_, Lib.hid rfl⟩
          obtain ⟨y, HY⟩ : ∃ x, Hid (byteAt b k = x) := ⟨_, Lib.hid rfl⟩
          simp only [HX.out] at h1
          simp only [HY.out] at h2
          have hlt := (x ^^^ y).toNat_lt
          have hor := b_orN E (x ^^^ y).toNat (by omega) (by omega)
          have hol : E ||| (x ^^^ y).toNat < 2 ^ 30 := Nat.or_lt_two_pow (by omega) (by omega)
          have h0 := or_zero E (x ^^^ y).toNat
          have h8 := xor8_zero x y
          have H1 := Lib.hid h1
          have H2 := Lib.hid h2
          have HOR := Lib.hid hor
          have H0 := Lib.hid h0
          have H8 := Lib.hid h8
          have HOL := Lib.hid hol
          clear h1 h2 h0 h8 hlt hor hol
          go_wp2_with fail
          (with_reducible refine (H1.out _).mono ?_); rintro e w1 ⟨rfl, rfl⟩
          go_wp2_with fail
          (with_reducible refine (H2.out _).mono ?_); rintro e w1 ⟨rfl, rfl⟩
          go_wp2_with fail
          go_round
          case rel =>
            have hxy : wrap64 ((x.toNat ^^^ y.toNat : Nat) : Int) = ((x ^^^ y).toNat : Int) := by
              rw [UInt8.toNat_xor]
              have := Nat.xor_lt_two_pow (n := 8) x.toNat_lt y.toNat_lt
              unfold wrap64
              omega
            refine ⟨k + 1, E ||| (x ^^^ y).toNat, by omega, by go_num, ?_, HOL.out, ?_⟩
            · rw [hxy, HOR.out]
            · rw [H0.out, HIFF.out, H8.out]
              constructor
              · rintro ⟨⟨e1, e2⟩, e3⟩
                refine ⟨e1, fun j hj => ?_⟩
                by_cases hjk : j = k
                · rw [hjk, HX.out, HY.out]; exact e3
                · exact e2 j (by omega)
              · rintro ⟨e1, e2⟩
                refine ⟨⟨e1, fun j hj => e2 j (by omega)⟩, ?_⟩
                have := e2 k (by omega)
                rw [HX.out, HY.out] at this
                exact this
          case measure => simp [intOf]; omega
        · have hdk : decide ((k : Int) < (b.size : Int)) = false := decide_eq_false (by omega)
          go_wp2_with fail
          go_ret2
          have hkn : k = b.size := by omega
          have hmx : max a.size b.size = a.size := by omega
          have hte := texts_eq a b b.size (by omega) (by omega)
          have hEE : E = 0 ↔ a = b := HIFF.out.trans (texts_eq a b k (by omega) (by omega))
          have hE0 : ((E : Int) == 0) = decide (a = b) := by
            by_cases h : E = 0
            · rw [decide_eq_true (hEE.1 h), h]; rfl
            · rw [decide_eq_false (fun h2 => h (hEE.2 h2))]
              have : ¬ (E : Int) = 0 := by omega
              simpa using h
          exact ⟨by rw [hE0, hmx]; rfl, rfl⟩
  · have hI' : (b.size : Int) < (a.size : Int) := by omega
    have hmax : max (a.size : Int) (b.size : Int) = (a.size : Int) := by omega
    go_enter Try.func47, Try.ntmps47
    go_wp2_with fail
    all_goals clear hx
    all_goals
      go_loop [7, 20] (fun u i => ∃ k E : Nat, k ≤ a.size ∧ i = .int .i64 k ∧ u = .int .i64 E ∧ E < 1073741824 ∧ (E = 0 ↔ a.size = b.size ∧ ∀ j, j < k → byteAt a j = byteAt b j)) (fun _ i => a.size - (intOf i).toNat)
      case atStart => exact ⟨0, D, by omega, rfl, rfl, hxl, ⟨fun h => ⟨HX0.out.1 h, fun j hj => absurd hj (by omega)⟩, fun h => HX0.out.2 h.1⟩⟩
      case round =>
        obtain ⟨k, E, hk, rfl, rfl, hE, hiff⟩ := hrel
        have HIFF := Lib.hid hiff
        clear hiff
        by_cases hlk : k < a.size
        · have hdk : decide ((k : Int) < (a.size : Int)) = true := decide_eq_true (by omega)
          have h1 := fun W => cmat a k W (by omega) (by omega)
          have h2 := fun W => cmat b k W (by omega) (by omega)
          obtain ⟨x, HX⟩ : ∃ x, Hid (byteAt a k = x) := ⟨_, Lib.hid rfl⟩
          obtain ⟨y, HY⟩ : ∃ x, Hid (byteAt b k = x) := ⟨_, Lib.hid rfl⟩
          simp only [HX.out] at h1
          simp only [HY.out] at h2
          have hlt := (x ^^^ y).toNat_lt
          have hor := b_orN E (x ^^^ y).toNat (by omega) (by omega)
          have hol : E ||| (x ^^^ y).toNat < 2 ^ 30 := Nat.or_lt_two_pow (by omega) (by omega)
          have h0 := or_zero E (x ^^^ y).toNat
          have h8 := xor8_zero x y
          have H1 := Lib.hid h1
          have H2 := Lib.hid h2
          have HOR := Lib.hid hor
          have H0 := Lib.hid h0
          have H8 := Lib.hid h8
          have HOL := Lib.hid hol
          clear h1 h2 h0 h8 hlt hor hol
          go_wp2_with fail
          (with_reducible refine (H1.out _).mono ?_); rintro e w1 ⟨rfl, rfl⟩
          go_wp2_with fail
          (with_reducible refine (H2.out _).mono ?_); rintro e w1 ⟨rfl, rfl⟩
          go_wp2_with fail
          go_round
          case rel =>
            have hxy : wrap64 ((x.toNat ^^^ y.toNat : Nat) : Int) = ((x ^^^ y).toNat : Int) := by
              rw [UInt8.toNat_xor]
              have := Nat.xor_lt_two_pow (n := 8) x.toNat_lt y.toNat_lt
              unfold wrap64
              omega
            refine ⟨k + 1, E ||| (x ^^^ y).toNat, by omega, by go_num, ?_, HOL.out, ?_⟩
            · rw [hxy, HOR.out]
            · rw [H0.out, HIFF.out, H8.out]
              constructor
              · rintro ⟨⟨e1, e2⟩, e3⟩
                refine ⟨e1, fun j hj => ?_⟩
                by_cases hjk : j = k
                · rw [hjk, HX.out, HY.out]; exact e3
                · exact e2 j (by omega)
              · rintro ⟨e1, e2⟩
                refine ⟨⟨e1, fun j hj => e2 j (by omega)⟩, ?_⟩
                have := e2 k (by omega)
                rw [HX.out, HY.out] at this
                exact this
          case measure => simp [intOf]; omega
        · have hdk : decide ((k : Int) < (a.size : Int)) = false := decide_eq_false (by omega)
          go_wp2_with fail
          go_ret2
          have hkn : k = a.size := by omega
          have hmx : max a.size b.size = a.size := by omega
          have hte := texts_eq a b a.size (by omega) (by omega)
          have hEE : E = 0 ↔ a = b := HIFF.out.trans (texts_eq a b k (by omega) (by omega))
          have hE0 : ((E : Int) == 0) = decide (a = b) := by
            by_cases h : E = 0
            · rw [decide_eq_true (hEE.1 h), h]; rfl
            · rw [decide_eq_false (fun h2 => h (hEE.2 h2))]
              have : ¬ (E : Int) = 0 := by omega
              simpa using h
          exact ⟨by rw [hE0, hmx]; rfl, rfl⟩
end Go.Proofs.Ytbofmfocnbennaa
