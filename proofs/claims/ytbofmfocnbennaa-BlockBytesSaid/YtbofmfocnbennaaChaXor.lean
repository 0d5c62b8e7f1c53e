import Derived.Test.YtbofmfocnbennaaText
import Derived.Test.YtbofmfocnbennaaChaTop
namespace Go.Proofs.Ytbofmfocnbennaa
open Go.RowKit
set_option maxRecDepth 100000
set_option linter.unusedVariables false
set_option linter.unusedSimpArgs false

/-- The stream from a counter on, byte by byte. -/
def ksb (key nonce : ByteArray) (c : Int) (i : Nat) : UInt8 := (strm key nonce (.ofInt 32 (c + ((i / 64 : Nat) : Int)))).getD (i % 64) 0
attribute [irreducible] ksb
theorem ksb_eq (key nonce : ByteArray) (c : Int) (i : Nat) : ksb key nonce c i = (strm key nonce (.ofInt 32 (c + ((i / 64 : Nat) : Int)))).getD (i % 64) 0 := by unfold ksb; rfl
/-- The first n bytes turned. -/
def xorN (key nonce : ByteArray) (c : Int) (l : List UInt8) (n : Nat) : List UInt8 := (List.range l.length).map fun i => if i < n then l.getD i 0 ^^^ ksb key nonce c i else l.getD i 0
theorem xorN_length (key nonce : ByteArray) (c : Int) (l : List UInt8) (n : Nat) : (xorN key nonce c l n).length = l.length := by simp [xorN]
theorem xorN_getD (key nonce : ByteArray) (c : Int) (l : List UInt8) (n i : Nat) (h : i < l.length) : (xorN key nonce c l n).getD i 0 = if i < n then l.getD i 0 ^^^ ksb key nonce c i else l.getD i 0 := by
  simp [xorN, h]
theorem list_ext_getD {l m : List UInt8} (hl : l.length = m.length) (h : ∀ i, i < l.length → l.getD i 0 = m.getD i 0) : l = m := by
  apply List.ext_getElem hl
  intro i h1 h2
  have := h i h1
  simpa [List.getD_eq_getElem?_getD, h1, h2] using this
theorem xorN_zero (key nonce : ByteArray) (c : Int) (l : List UInt8) : xorN key nonce c l 0 = l := by
  apply list_ext_getD (xorN_length _ _ _ _ _)
  intro i hi
  rw [xorN_length] at hi
  rw [xorN_getD _ _ _ _ _ _ hi, if_neg (by omega)]
theorem getD_set_bytes (l : List UInt8) (i j : Nat) (b : UInt8) (h : j < l.length) : (l.set i b).getD j 0 = if i = j then b else l.getD j 0 := by
  simp [List.getD_eq_getElem?_getD, List.getElem?_set]
  split
  · rename_i e; subst e; simp [h]
  · rfl
theorem xorN_succ (key nonce : ByteArray) (c : Int) (l : List UInt8) (n : Nat) (h : n < l.length) : (xorN key nonce c l n).set n (l.getD n 0 ^^^ ksb key nonce c n) = xorN key nonce c l (n + 1) := by
  apply list_ext_getD (by simp [xorN_length])
  intro i hi
  simp only [List.length_set, xorN_length] at hi
  rw [getD_set_bytes _ _ _ _ (by rw [xorN_length]; exact hi), xorN_getD _ _ _ _ _ _ hi, xorN_getD _ _ _ _ _ _ hi]
  by_cases e : n = i
  · subst e; rw [if_pos rfl, if_pos (by omega)]
  · rw [if_neg e]
    by_cases e2 : i < n
    · rw [if_pos e2, if_pos (by omega)]
    · rw [if_neg e2, if_neg (by omega)]
theorem xorN_ge (key nonce : ByteArray) (c : Int) (l : List UInt8) (n : Nat) (h : l.length ≤ n) : xorN key nonce c l n = xorN key nonce c l l.length := by
  apply list_ext_getD (by simp [xorN_length])
  intro i hi
  rw [xorN_length] at hi
  rw [xorN_getD _ _ _ _ _ _ hi, xorN_getD _ _ _ _ _ _ hi, if_pos hi, if_pos (by omega)]
attribute [irreducible] xorN
/-- A text turned. -/
def xorS (key nonce : ByteArray) (c : Int) (s : ByteArray) : ByteArray := str (xorN key nonce c s.data.toList s.size)

theorem cXOR_arg (key nonce : ByteArray) (c : Int) (s : ByteArray) (w : World) (h : ¬ (key.size = 32 ∧ nonce.size = 12 ∧ 0 ≤ c ∧ c ≤ 4294967295)) :
    Calls Try.prog 49 #[.string key, .string nonce, .int .i64 c, .string s] w fun e w' => e = .returned (.tuple #[.string ⟨#[]⟩, .int .i64 1]) ∧ Below w.heap.size w w' := by
  have H := Lib.hid h
  clear h
  go_enter Try.func49, Try.ntmps49
  go_wp2_with (go_at_call 67; ((with_reducible refine (cright_no _ _ _ _ H.out).mono ?_); rintro e w' ⟨rfl, rfl⟩))
  go_ret2
  exact ⟨rfl, Below.refl _ _⟩

theorem cXOR_range (key nonce : ByteArray) (c : Int) (s : ByteArray) (w : World) (h1 : key.size = 32) (h2 : nonce.size = 12) (h3 : 0 ≤ c) (h4 : c ≤ 4294967295) (h5 : 0 < s.size) (h6 : s.size < 1099511627776) (h7 : 4294967295 - c < ((s.size : Int) - 1) / 64) :
    Calls Try.prog 49 #[.string key, .string nonce, .int .i64 c, .string s] w fun e w' => e = .returned (.tuple #[.string ⟨#[]⟩, .int .i64 10]) ∧ Below w.heap.size w w' := by
  have H1 := Lib.hid h1
  have H2 := Lib.hid h2
  clear h1 h2
  go_enter Try.func49, Try.ntmps49
  go_wp2_with (go_at_call 67; ((with_reducible refine (cright_yes _ _ _ _ H1.out H2.out h3 h4).mono ?_); rintro e w' ⟨rfl, rfl⟩))
  go_ret2
  exact ⟨rfl, Below.refl _ _⟩
set_option maxRecDepth 100000 in
theorem cXOR_yes (key nonce : ByteArray) (c : Int) (s : ByteArray) (w : World) (h1 : key.size = 32) (h2 : nonce.size = 12) (h3 : 0 ≤ c) (h4 : c ≤ 4294967295) (h6 : s.size < 1099511627776) (h7 : s.size = 0 ∨ ((s.size : Int) - 1) / 64 ≤ 4294967295 - c) :
    Calls Try.prog 49 #[.string key, .string nonce, .int .i64 c, .string s] w fun e w' => e = .returned (.tuple #[.string (xorS key nonce c s), .int .i64 0]) ∧ Below w.heap.size w w' := by
  have H1 := Lib.hid h1
  have H2 := Lib.hid h2
  clear h1 h2
  have hcv := run_bytes_of_string (P := Try.prog) w 9 43 5 s Try.underlying9 Try.underlying43 Try.underlying5
  have hge := grownCap_ge w s.size 0 5
  obtain ⟨cap, HP⟩ : ∃ n, Hid (grownCap w s.size 0 5 = n) := ⟨_, Lib.hid rfl⟩
  rw [HP.out] at hcv hge
  have hT := Tx.new w.drew 5 s cap _ (Nat.le_refl _)
  have hB : Below w.heap.size w (w.drew.alloc (.cells (bytesRow s cap) 5 ((bytesRow s cap).size, (bytesRow s cap).size + 1))) := (below_drewN (Below.refl _ _) 1).alloc (by simp) _
  obtain ⟨w1, HW⟩ : ∃ w1, Hid ((w.drew.alloc (.cells (bytesRow s cap) 5 ((bytesRow s cap).size, (bytesRow s cap).size + 1))) = w1) := ⟨_, Lib.hid rfl⟩
  have HS : Hid (w1.heap.size = w.heap.size + 1) := by rw [← HW.out]; exact Lib.hid (by simp)
  rw [HW.out] at hcv hT hB
  clear HW
  go_enter Try.func49, Try.ntmps49
  go_wp2_with (go_at_call 67; ((with_reducible refine (cright_yes _ _ _ _ H1.out H2.out h3 h4).mono ?_); rintro e w' ⟨rfl, rfl⟩))
  all_goals
    have h0 : Tx w1 w.heap.size 5 (xorN key nonce c s.data.toList 0) := by rw [xorN_zero]; exact hT
    go_loopw [11] (fun i w2 => ∃ k : Nat, i = .int .i64 (64 * (k : Int)) ∧ 64 * k < s.size + 64 ∧ Tx w2 w.heap.size 5 (xorN key nonce c s.data.toList (64 * k)) ∧ Below w.heap.size w w2)
      (fun i _ => s.size + 64 - (intOf i).toNat)
    case atStart => exact ⟨0, rfl, by omega, h0, hB⟩
    case round =>
      clear h0 hB hcv hT
      obtain ⟨k, rfl, hk, h1, h2⟩ := hrel
      have hg1 := h1.lt
      by_cases hlt : 64 * k < s.size
      · try (exfalso; omega)
        all_goals
          obtain ⟨o, HO⟩ : ∃ o, Hid (bcells (strm key nonce (.ofInt 32 (c + (k : Int)))) = o) := ⟨_, Lib.hid rfl⟩
          have hone2 := bcells_one (strm key nonce (.ofInt 32 (c + (k : Int))))
          have hsz : o.size = 64 := by rw [← HO.out, size_bcells, strm_length]
          rw [HO.out] at hone2
          have HI3 : Hid ((Try.prog.info? 84).map (·.size) = some o.size) := by rw [hsz]; exact row_size
          have HS3 : Hid (64 = o.size) := hsz.symm
          clear hsz
          obtain ⟨wo, rfl⟩ : ∃ wo : World, wo = wr := ⟨_, rfl⟩
          go_wp2_with (first
            | (go_at_call 68; ((with_reducible refine (cblock _ _ _ _ H1.out H2.out).mono ?_); rw [HO.out]; rintro e w2 ⟨rfl, hb⟩))
            | ((with_reducible refine wpList_store_new rfl 84 (.tmp 12) (.tmp 48) rfl _ o _ 84 rfl rfl rfl rfl HI3.out ?hs1 hone2 ?_); (case hs1 => exact HS3.out); dsimp only [Act.put]))
          all_goals
            have q1 : Tx (w2.alloc (.cells o 84)) w.heap.size 5 (xorN key nonce c s.data.toList (64 * k + 0)) := (h1.below hb hg1).alloc _
            have q2 : Blk (w2.alloc (.cells o 84)) w2.heap.size 84 o := Blk.new _ _ _
            have q3 : Below w.heap.size w (w2.alloc (.cells o 84)) := (h2.trans (hb.mono (by omega))).alloc (by have := (h2.trans (hb.mono (by omega))).size; omega) _
            have hg2 : w.heap.size < w2.heap.size := by have := hb.size; omega
            clear h1 h2 hb hg1
            go_loopw [59] (fun i w3 => ∃ j : Nat, i = .int .i64 (j : Int) ∧ j ≤ 64 ∧ 64 * k + j ≤ s.size ∧ Tx w3 w.heap.size 5 (xorN key nonce c s.data.toList (64 * k + j)) ∧ Blk w3 w2.heap.size 84 o ∧ Below w.heap.size w w3)
              (fun i _ => 64 - (intOf i).toNat)
            case atStart => exact ⟨0, rfl, by omega, by omega, q1, q2, q3⟩
            case round =>
              clear q1 q2 q3
              obtain ⟨j, rfl, hj1, hj2, h1, h2, h3⟩ := hrel
              by_cases hlj : j < 64 ∧ 64 * k + j < s.size
              · obtain ⟨hj3, hj4⟩ := hlj
                have hl := data_length s
                have c1 := h1.cell (64 * k + j) (by rw [xorN_length, hl]; omega)
                rw [xorN_getD _ _ _ _ _ _ (by rw [hl]; omega), if_neg (by omega)] at c1
                have f1 := h1.frozen (64 * k + j) (by rw [xorN_length, hl]; omega)
                have c2 := h2.cell j
                rw [← HO.out, bcells_get _ _ (by rw [strm_length]; omega)] at c2
                have hks : (strm key nonce (.ofInt 32 (c + (k : Int)))).getD j 0 = ksb key nonce c (64 * k + j) := by
                  rw [ksb_eq]
                  have e1 : (64 * k + j) / 64 = k := by omega
                  have e2 : (64 * k + j) % 64 = j := by omega
                  rw [e1, e2]
                rw [hks] at c2
                obtain ⟨x, HX⟩ : ∃ x, Hid (s.data.toList.getD (64 * k + j) 0 = x) := ⟨_, Lib.hid rfl⟩
                obtain ⟨y, HY⟩ : ∃ y, Hid (ksb key nonce c (64 * k + j) = y) := ⟨_, Lib.hid rfl⟩
                rw [HX.out] at c1
                rw [HY.out] at c2
                have HL := Lib.hid hl
                clear hks hl
                go_wp2_with fail
                refine wp_region_lexX [] (by kernel_rfl) (by kernel_rfl) ?_
                repeat (first
                  | (refine wpX_pure rfl rfl rfl ?_; intro K hK; go_big_quiet_op; refine hK _ ?_; clear hK K)
                  | (refine wpX_load rfl rfl rfl ?_; intro K hK; go_big_quiet_op; refine hK _ ?_; clear hK K)
                  | (refine wpX_eff rfl rfl ?_; intro K hK; go_wp2_with fail; refine hK _ _ trivial ?_; clear hK K))
                refine wpX_nil ?_
                go_wp2
                go_roundw
                case rel =>
                  have hx := h1.set_ (64 * k + j) (s.data.toList.getD (64 * k + j) 0 ^^^ ksb key nonce c (64 * k + j))
                  rw [xorN_succ _ _ _ _ _ (by rw [HL.out]; omega), HX.out, HY.out, UInt8.toNat_xor] at hx
                  refine ⟨j + 1, by go_num, by omega, by omega, hx, (h2.far (by show w2.heap.size ≠ w.heap.size; omega) _).drew, below_drewN (h3.setCell (p := ⟨w.heap.size, 64 * k + j, none⟩) (Nat.le_refl _) _) 1⟩
                case measure => simp [intOf]; omega
              · go_wp2_with fail
                go_roundw
                case rel =>
                  refine ⟨k + 1, by go_num, by omega, ?_, h3⟩
                  rcases Nat.lt_or_ge j 64 with hj3 | hj3
                  · rw [xorN_ge _ _ _ _ (64 * (k + 1)) (by rw [data_length]; omega), ← xorN_ge _ _ _ _ (64 * k + j) (by rw [data_length]; omega)]
                    exact h1
                  · have e : 64 * (k + 1) = 64 * k + j := by omega
                    rw [e]; exact h1
                case measure => simp [intOf]; omega
      · have hl : (xorN key nonce c s.data.toList (64 * k)).length = s.size := by rw [xorN_length, data_length]
        have hcv := conv_bytes (P := Try.prog) Try.underlying43 Try.underlying5 Try.underlying9 wr ⟨w.heap.size, 0, none⟩ s.size cap _ hl (fun j hj => h1.bytes j (by rw [hl]; exact hj))
        rw [xorN_ge _ _ _ _ _ (by rw [data_length]; omega), data_length] at hcv
        clear hl
        go_wp2
        go_ret2
        exact ⟨rfl, h2⟩
end Go.Proofs.Ytbofmfocnbennaa
