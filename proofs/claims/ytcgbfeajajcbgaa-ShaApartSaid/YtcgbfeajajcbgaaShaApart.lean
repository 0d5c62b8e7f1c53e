/- The laws of chapter 2, walked: two texts side by side. -/
import Derived.Test.YtcgbfeajajcbgaaShaLaws
namespace Go.Proofs.Ytcgbfeajajcbgaa
open Go.RowKit

theorem shaApart_big (a b c : ByteArray) (w : World) (h : 5000 < a.size ∨ 5000 < b.size ∨ 5000 < c.size) :
    Calls Try.prog 6 #[.string a, .string b, .string c] w fun e w' => e = .returned (.bool true) ∧ Below w.heap.size w w' := by
  by_cases h1 : (5000 : Int) < (a.size : Int)
  · go_enter Try.func6, Try.ntmps6
    go_wp2_with fail
    (with_reducible refine (cAwake02 _).mono ?_); rintro e w3 ⟨rfl, hb3⟩
    go_wp2_with fail
    go_ret
    exact ⟨rfl, hb3⟩
  · by_cases h2 : (5000 : Int) < (b.size : Int)
    · go_enter Try.func6, Try.ntmps6
      go_wp2_with fail
      (with_reducible refine (cAwake02 _).mono ?_); rintro e w3 ⟨rfl, hb3⟩
      go_wp2_with fail
      go_ret
      exact ⟨rfl, hb3⟩
    · have h3 : (5000 : Int) < (c.size : Int) := by omega
      go_enter Try.func6, Try.ntmps6
      go_wp2_with fail
      (with_reducible refine (cAwake02 _).mono ?_); rintro e w3 ⟨rfl, hb3⟩
      go_wp2_with fail
      go_ret
      exact ⟨rfl, hb3⟩

set_option maxRecDepth 100000 in
theorem shaApart_fit (a b c : ByteArray) (w : World) (h1 : a.size ≤ 5000) (h2 : b.size ≤ 5000) (h3 : c.size ≤ 5000) :
    Calls Try.prog 6 #[.string a, .string b, .string c] w fun e w' => e = .returned (.bool true) ∧ Below w.heap.size w w' := by
  have i1 : (a.size : Int) ≤ 5000 := by omega
  have i2 : (b.size : Int) ≤ 5000 := by omega
  have i3 : (c.size : Int) ≤ 5000 := by omega
  go_enter Try.func6, Try.ntmps6
  go_wp2_with fail
  (with_reducible refine (cNew _).mono ?_); rintro e w1 ⟨rfl, x1, b1⟩
  go_wp2_with fail
  (with_reducible refine (cNew _).mono ?_); rintro e w2 ⟨rfl, y2, b2⟩
  have x2 := x1.fresh b2
  have hg1 := x1.lt
  have hg2 := y2.lt
  have X2 := Lib.hid x2
  have Y2 := Lib.hid y2
  have s1 := b1.size
  have s2 := b2.size
  clear x1 x2 y2
  go_wp2_with fail
  (with_reducible refine (cWrite _ _ _ _ a _ X2.out (by omega) (by simp; omega)).mono ?_); rintro e w3 ⟨rfl, v3, x3, f3, o3⟩
  have y3 := Y2.out.only o3 (by simp [Value.ownBlock]; omega) (by simp [Value.ownBlock])
  have s3 := o3.size
  have X3 := Lib.hid x3
  have Y3 := Lib.hid y3
  have F3 := Lib.hid f3
  have O3 := Lib.hid o3
  clear x3 y3 f3 o3
  go_wp2_with fail
  (with_reducible refine (cWrite _ _ _ _ b _ Y3.out (by omega) (by simp; omega)).mono ?_); rintro e w4 ⟨rfl, v4, y4, f4, o4⟩
  have x4 := X3.out.only o4 (by simp [Value.ownBlock]; omega) (fun k hk => by have := F3.out k hk; simp [Value.ownBlock]; omega)
  have s4 := o4.size
  have X4 := Lib.hid x4
  have Y4 := Lib.hid y4
  have F4 := Lib.hid f4
  have O4 := Lib.hid o4
  clear x4 y4 f4 o4
  go_wp2_with fail
  (with_reducible refine (cWrite _ _ _ _ c _ X4.out (by omega) (by simp [data_length]; omega)).mono ?_); rintro e w5 ⟨rfl, v5, x5, f5, o5⟩
  have y5 := Y4.out.only o5 (by
      intro e
      rcases e with e | e
      · omega
      · have := F3.out _ e; omega) (fun k hk e => by
      have h1 := F4.out k hk
      rcases e with e | e
      · omega
      · have := (X3.out.own k e).1; omega)
  have s5 := o5.size
  have X5 := Lib.hid x5
  have Y5 := Lib.hid y5
  have O5 := Lib.hid o5
  clear x5 y5 f5 o5
  have ea : [] ++ a.data.toList ++ c.data.toList = (a ++ c).data.toList := by simp
  have eb : [] ++ b.data.toList = b.data.toList := by simp
  have k1 := fun W (h : HSv W w.heap.size w.heap.size v5 ((a ++ c).data.toList)) => cHSum _ _ _ _ W h (by rw [data_length, ByteArray.size_append]; omega)
  have k2 := fun W (h : HSv W w1.heap.size w1.heap.size v4 b.data.toList) => cHSum _ _ _ _ W h (by rw [data_length]; omega)
  have k3 := fun W => cSum1 (a ++ c) W (by rw [ByteArray.size_append]; omega)
  have k4 := fun W => cSum1 b W (by omega)
  have hz1 : (str (sha (a ++ c).data.toList)).size = 32 := by rw [str_size, sha_length]
  have hz2 : (str (sha b.data.toList)).size = 32 := by rw [str_size, sha_length]
  obtain ⟨P, HP⟩ : ∃ X, Hid (str (sha (a ++ c).data.toList) = X) := ⟨_, Lib.hid rfl⟩
  obtain ⟨R, HR⟩ : ∃ X, Hid (str (sha b.data.toList) = X) := ⟨_, Lib.hid rfl⟩
  simp only [HP.out, HR.out] at k1 k2 k3 k4
  rw [HP.out] at hz1
  rw [HR.out] at hz2
  have K1 := Lib.hid k1
  have K2 := Lib.hid k2
  have K3 := Lib.hid k3
  have K4 := Lib.hid k4
  have Z1 : ((P.size : Int) == 32) = true := by simp [hz1]
  have Z2 : ((R.size : Int) == 32) = true := by simp [hz2]
  have hac : a.size + c.size ≤ 10000 := by omega
  clear k1 k2 k3 k4 hz1 hz2
  go_wp2_with fail
  (with_reducible refine (K1.out _ (by rw [← ea]; exact X5.out)).mono ?_); rintro e w6 ⟨rfl, b6⟩
  go_wp2_with fail
  (with_reducible refine (K2.out _ (by rw [← eb]; exact Y5.out.fresh b6)).mono ?_); rintro e w7 ⟨rfl, b7⟩
  go_wp2_with fail
  (with_reducible refine (K3.out _).mono ?_); rintro e w8 ⟨rfl, b8⟩
  go_wp2_with fail
  (with_reducible refine (K4.out _).mono ?_); rintro e w9 ⟨rfl, b9⟩
  go_wp2_with fail
  (with_reducible refine (cAwake02 _).mono ?_); rintro e w10 ⟨rfl, b10⟩
  go_wp2_with fail
  go_ret
  refine ⟨rfl, ?_⟩
  have n1 : Below w.heap.size w w2 := b1.trans (b2.mono s1)
  have n3 : Below w.heap.size w w3 := n1.trans (O3.out.below (B := w.heap.size) (by omega) (fun k e => by rcases e with e | e; omega; simp [Value.ownBlock] at e))
  have n4 : Below w.heap.size w w4 := n3.trans (O4.out.below (B := w.heap.size) (by omega) (fun k e => by rcases e with e | e; omega; simp [Value.ownBlock] at e))
  have n5 : Below w.heap.size w w5 := n4.trans (O5.out.below (B := w.heap.size) (by omega) (fun k e => by rcases e with e | e; omega; exact (X3.out.own k e).2))
  have n6 := n5.trans (b6.mono n5.size)
  have n7 := n6.trans (b7.mono n6.size)
  have n8 := n7.trans (b8.mono n7.size)
  have n9 := n8.trans (b9.mono n8.size)
  exact n9.trans (b10.mono n9.size)
theorem shaApart_walk (a : ByteArray) (ha : a.size ≤ reachBytes) (b : ByteArray) (hb : b.size ≤ reachBytes) (c : ByteArray) (hc : c.size ≤ reachBytes) (w : World) :
    Calls Try.prog 6 #[.string a, .string b, .string c] w fun e w' => e = .returned (.bool true) ∧ Below w.heap.size w w' := by
  by_cases h : 5000 < a.size ∨ 5000 < b.size ∨ 5000 < c.size
  · exact shaApart_big a b c w h
  · exact shaApart_fit a b c w (by omega) (by omega) (by omega)
end Go.Proofs.Ytcgbfeajajcbgaa
