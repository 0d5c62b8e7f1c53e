/- The reference's Block and XOR. -/
import Derived.Test.YtbofmfocnbennaaRefBlock
import Derived.Test.YtbofmfocnbennaaChaXor
namespace Go.Proofs.Ytbofmfocnbennaa
open Go.RowKit
set_option maxRecDepth 100000
set_option linter.unusedVariables false
set_option linter.unusedSimpArgs false

theorem crright_yes (key nonce : ByteArray) (c : Int) (w : World) (h1 : key.size = 32) (h2 : nonce.size = 12) (h3 : 0 ≤ c) (h4 : c ≤ 4294967295) :
    Calls Try.prog 69 #[.string key, .string nonce, .int .i64 c] w fun e w' => e = .returned (.bool true) ∧ w = w' := by
  have e1 : ((key.size : Int) == 32) = true := by simp; omega
  have e2 : ((nonce.size : Int) == 12) = true := by simp; omega
  clear h1 h2
  go_enter Try.func69, Try.ntmps69
  go_wp2
  go_ret
  exact ⟨rfl, rfl⟩
theorem crright_no (key nonce : ByteArray) (c : Int) (w : World) (h : ¬ (key.size = 32 ∧ nonce.size = 12 ∧ 0 ≤ c ∧ c ≤ 4294967295)) :
    Calls Try.prog 69 #[.string key, .string nonce, .int .i64 c] w fun e w' => e = .returned (.bool false) ∧ w = w' := by
  by_cases h1 : key.size = 32
  · have e1 : ((key.size : Int) == 32) = true := by simp; omega
    by_cases h2 : nonce.size = 12
    · have e2 : ((nonce.size : Int) == 12) = true := by simp; omega
      by_cases h3 : 0 ≤ c
      · have h4 : ¬ c ≤ 4294967295 := fun h4 => h ⟨h1, h2, h3, h4⟩
        clear h h1 h2
        go_enter Try.func69, Try.ntmps69
        go_wp2
        go_ret
        exact ⟨rfl, rfl⟩
      · clear h h1 h2
        go_enter Try.func69, Try.ntmps69
        go_wp2
        go_ret
        exact ⟨rfl, rfl⟩
    · have e2 : ((nonce.size : Int) == 12) = false := by simp; omega
      clear h h1 h2
      go_enter Try.func69, Try.ntmps69
      go_wp2
      go_ret
      exact ⟨rfl, rfl⟩
  · have e1 : ((key.size : Int) == 32) = false := by simp; omega
    clear h h1
    go_enter Try.func69, Try.ntmps69
    go_wp2
    go_ret
    exact ⟨rfl, rfl⟩
theorem sl_bytes {w : World} {B : Nat} {A : Option Addr} {n c : Nat} {e : TypeId} {l : List UInt8} (h : SL w B e (.slice A n c) (l.map bv)) {P : Program} {src dst el : TypeId} (hs : P.underlying src = some (.slice el)) (he : P.underlying el = some (.int .u8)) (hd : P.underlying dst = some .string) (hl : l ≠ []) :
    (convert src dst (.slice A n c)).run P w = .ok (.string (str l)) w := by
  obtain ⟨g, cap, h1, h2, h3, h4⟩ := h.rw (by simpa using hl)
  injection h1 with e1 e2 e3
  subst e1; subst e2; subst e3
  have := conv_bytes (P := P) hs he hd w ⟨g, 0, none⟩ (l.map bv).length c l (by simp) (fun j hj => by
    rw [add0]
    refine h4.cell j _ ?_
    have hj' : j < l.length := by simpa using hj
    simp [bv, hj'])
  exact this
theorem crXOR_arg (key nonce : ByteArray) (c : Int) (s : ByteArray) (w : World) (h : ¬ (key.size = 32 ∧ nonce.size = 12 ∧ 0 ≤ c ∧ c ≤ 4294967295)) :
    Calls Try.prog 53 #[.string key, .string nonce, .int .i64 c, .string s] w fun e w' => e = .returned (.tuple #[.string ⟨#[]⟩, .int .i64 1]) ∧ Below w.heap.size w w' := by
  have H := Lib.hid h
  clear h
  go_enter Try.func53, Try.ntmps53
  go_wp2_with (go_at_call 69; ((with_reducible refine (crright_no _ _ _ _ H.out).mono ?_); rintro e w' ⟨rfl, rfl⟩))
  go_ret2
  exact ⟨rfl, Below.refl _ _⟩
theorem crXOR_range (key nonce : ByteArray) (c : Int) (s : ByteArray) (w : World) (h1 : key.size = 32) (h2 : nonce.size = 12) (h3 : 0 ≤ c) (h4 : c ≤ 4294967295) (h5 : 0 < s.size) (h6 : s.size < 1099511627776) (h7 : 4294967295 - c < ((s.size : Int) - 1) / 64) :
    Calls Try.prog 53 #[.string key, .string nonce, .int .i64 c, .string s] w fun e w' => e = .returned (.tuple #[.string ⟨#[]⟩, .int .i64 10]) ∧ Below w.heap.size w w' := by
  have H1 := Lib.hid h1
  have H2 := Lib.hid h2
  clear h1 h2
  have h8 : 4294967295 - c < ((s.size : Int) + 63) / 64 - 1 := by omega
  go_enter Try.func53, Try.ntmps53
  go_wp2_with (go_at_call 69; ((with_reducible refine (crright_yes _ _ _ _ H1.out H2.out h3 h4).mono ?_); rintro e w' ⟨rfl, rfl⟩))
  go_ret2
  exact ⟨rfl, Below.refl _ _⟩
theorem run_conv_nil {P : Program} {src dst el : TypeId} (hs : P.underlying src = some (.slice el)) (he : P.underlying el = some (.int .u8)) (hd : P.underlying dst = some .string) (w : World) :
    (convert src dst (.slice none 0 0)).run P w = .ok (.string ⟨#[]⟩) w := by
  simp [convert, run_underlying hs, run_underlying hd, run_underlying he, Conv.bytesToString, loadCells, loadCellsFrom]
  rfl
theorem sl_bytes0 {w : World} {B : Nat} {v : Value} {e : TypeId} {l : List UInt8} (h : SL w B e v (l.map bv)) {P : Program} {src dst el : TypeId} (hs : P.underlying src = some (.slice el)) (he : P.underlying el = some (.int .u8)) (hd : P.underlying dst = some .string)
    (h0 : (convert src dst (.slice none 0 0)).run P w = .ok (.string ⟨#[]⟩) w) : (convert src dst v).run P w = .ok (.string (str l)) w := by
  by_cases hl : l = []
  · subst hl
    rcases h.2 with ⟨h1, h2⟩ | ⟨g, cap, cur, h1, h2, h3, h4, h5, h6⟩
    · rw [h1]; exact h0
    · rw [h1]
      exact conv_bytes (P := P) hs he hd w ⟨g, 0, none⟩ _ cap [] (by simp) (fun j hj => absurd hj (by simp))
  · obtain ⟨A, c, rfl, _⟩ := h.form
    exact sl_bytes h hs he hd hl
theorem SL.own_ne {w : World} {B g : Nat} {v : Value} {e : TypeId} {xs : List Value} (h : SL w B e v xs) (hg : w.heap.size ≤ g) : v.ownBlock ≠ some g := by
  rcases h.2 with ⟨h1, h2⟩ | ⟨g', cap, cur, h1, h2, h3, _⟩
  · rw [h1]; simp [Value.ownBlock]
  · rw [h1]
    have hlt : g' < w.heap.size := by
      rcases Nat.lt_or_ge g' w.heap.size with hlt | hge
      · exact hlt
      · rw [Array.getElem?_eq_none hge] at h3; cases h3
    simp [Value.ownBlock]; omega
theorem bv_get (l : List UInt8) (i : Nat) (h : i < l.length) : (l.map bv)[i]? = some (.int .u8 (((l.getD i 0).toNat : Nat) : Int)) := by
  simp [bv, h]
set_option maxRecDepth 100000 in
theorem crXOR_yes (key nonce : ByteArray) (c : Int) (s : ByteArray) (w : World) (h1 : key.size = 32) (h2 : nonce.size = 12) (h3 : 0 ≤ c) (h4 : c ≤ 4294967295) (h6 : s.size < 1099511627776) (h7 : s.size = 0 ∨ ((s.size : Int) - 1) / 64 ≤ 4294967295 - c) :
    Calls Try.prog 53 #[.string key, .string nonce, .int .i64 c, .string s] w fun e w' => e = .returned (.tuple #[.string (xorS key nonce c s), .int .i64 0]) ∧ Below w.heap.size w w' := by
  have H1 := Lib.hid h1
  have H2 := Lib.hid h2
  clear h1 h2
  have h8 : ¬ (4294967295 - c < ((s.size : Int) + 63) / 64 - 1) := by omega
  have hl : (xorN key nonce c s.data.toList s.size).length = s.size := by rw [xorN_length, data_length]
  have hget : ∀ i, i < s.size → (xorN key nonce c s.data.toList s.size).getD i 0 = s.data.toList.getD i 0 ^^^ ksb key nonce c i := fun i hi => by
    rw [xorN_getD _ _ _ _ _ _ (by rw [data_length]; exact hi), if_pos hi]
  obtain ⟨X, HX⟩ : ∃ X, Hid (xorN key nonce c s.data.toList s.size = X) := ⟨_, Lib.hid rfl⟩
  rw [HX.out] at hl hget
  have HL := Lib.hid hl
  have HG := Lib.hid hget
  clear hl hget h7
  go_enter Try.func53, Try.ntmps53
  go_wp2_with (go_at_call 69; ((with_reducible refine (crright_yes _ _ _ _ H1.out H2.out h3 h4).mono ?_); rintro e w' ⟨rfl, rfl⟩))
  go_loopw [11, 12] (fun v i wr => ∃ k : Nat, k ≤ (s.size + 63) / 64 ∧ i = .int .i64 k ∧ SL wr w.heap.size 5 v ((X.take (64 * k)).map bv) ∧ Below w.heap.size w wr)
    (fun _ i _ => (s.size + 63) / 64 - (intOf i).toNat)
  case atStart => exact ⟨0, by omega, rfl, SL.nil _ _ _, Below.refl _ _⟩
  case round =>
    obtain ⟨k, hk, rfl, hv, hB⟩ := hrel
    by_cases hlk : k < (s.size + 63) / 64
    · have hdk : decide ((k : Int) < ((s.size : Int) + 63) / 64) = true := by simp; omega
      go_wp2_with fail
      (with_reducible refine (crblock _ _ _ _ H1.out H2.out (by omega) (by omega)).mono ?_); rintro e w1 ⟨vb, rfl, hb, hB1⟩
      have hv0 := hv
      replace hv := hv.below hB1 (Nat.le_refl _)
      replace hB := hB.trans (hB1.mono hB.size)
      obtain ⟨gb, cb, rfl, hcb, hgb, hRb⟩ := hb.rw16 (n := 63) (by rw [List.length_map, strm_length])
      have hgl := hRb.lt
      have hown : u11.ownBlock ≠ some gb := hv0.own_ne hgb
      have hcc : Hid (c + (k : Int) = c + k) := Lib.hid rfl
      go_wp2_with fail
      go_loopw [11, 14] (fun v j wr2 => ∃ i : Nat, i ≤ 64 ∧ 64 * k + i ≤ s.size ∧ j = .int .i64 i ∧ SL wr2 w.heap.size 5 v ((X.take (64 * k + i)).map bv) ∧ Rw wr2 gb 5 ((strm key nonce (.ofInt 32 (c + (k : Int)))).map bv) ∧ v.ownBlock ≠ some gb ∧ Below w.heap.size w wr2)
        (fun _ j _ => 64 - (intOf j).toNat)
      case atStart => exact ⟨0, by omega, by omega, rfl, hv, hRb, hown, hB⟩
      case round =>
        clear hv hB hown hRb
        obtain ⟨i, hi, hik, rfl, hv, hRb, hown, hB⟩ := hrel
        have hsz := hB.size
        by_cases hli : i < 64 ∧ 64 * k + i < s.size
        · obtain ⟨hi1, hi2⟩ := hli
          have c1 := hRb.cell i _ (bv_get _ i (by rw [strm_length]; omega))
          have hks : (strm key nonce (.ofInt 32 (c + (k : Int)))).getD i 0 = ksb key nonce c (64 * k + i) := by
            rw [ksb_eq]
            have e1 : (64 * k + i) / 64 = k := by omega
            have e2 : (64 * k + i) % 64 = i := by omega
            rw [e1, e2]
          have hXg := HG.out (64 * k + i) hi2
          rw [hks] at c1
          obtain ⟨x, Hx⟩ : ∃ x, Hid (byteAt s (64 * k + i) = x) := ⟨_, Lib.hid rfl⟩
          obtain ⟨y, Hy⟩ : ∃ y, Hid (ksb key nonce c (64 * k + i) = y) := ⟨_, Lib.hid rfl⟩
          have hXg' : X.getD (64 * k + i) 0 = x ^^^ y := by rw [hXg, Hy.out, ← Hx.out]; rfl
          have HXg := Lib.hid hXg'
          rw [Hy.out] at c1
          have hb0 : 0 ≤ 64 * (k : Int) + i := by omega
          have hbx : ((byteAt s (64 * k + i)).toNat : Int) < 256 := by have := (byteAt s (64 * k + i)).toNat_lt; omega
          have hby : (y.toNat : Int) < 256 := by have := y.toNat_lt; omega
          have hb1 : 64 * (k : Int) + i < (s.size : Int) := by omega
          clear hks hXg hXg'
          have hlen : ((X.take (64 * k + i)).map bv).length = 64 * k + i := by rw [List.length_map, List.length_take, HL.out]; omega
          obtain ⟨Av, cv, hveq, hcv⟩ := hv.form
          rw [hlen] at hveq
          subst hveq
          have HLn := Lib.hid hlen
          clear hlen hcv
          have hxX : (X.take (64 * k + (i + 1))).map bv = (X.take (64 * k + i)).map bv ++ [.int .u8 ((y.toNat ^^^ x.toNat : Nat) : Int)] := by
            have e : 64 * k + (i + 1) = (64 * k + i) + 1 := by omega
            have e2 : X[64 * k + i]? = some (x ^^^ y) := by
              have hl2 : 64 * k + i < X.length := by rw [HL.out]; exact hi2
              rw [List.getElem?_eq_getElem hl2, ← HXg.out, List.getD_eq_getElem?_getD, List.getElem?_eq_getElem hl2]; rfl
            rw [e, List.take_add_one, e2, List.map_append]
            simp [bv, Nat.xor_comm]
          have HTX := Lib.hid hxX
          clear hxX
          go_wp2_with fail
          refine wp_region_lexX [] (by kernel_rfl) (by kernel_rfl) ?_
          repeat (first
            | (refine wpX_pure rfl rfl rfl ?_; intro K hK; go_big_quiet_op; refine hK _ ?_; clear hK K)
            | (refine wpX_load rfl rfl rfl ?_; intro K hK; go_big_quiet_op; refine hK _ ?_; clear hK K))
          refine wpX_eff rfl rfl ?_; intro K hK; go_wp2_with fail; refine hK _ _ trivial ?_; clear hK K
          refine wpX_eff rfl rfl ?_; intro K hK
          refine wpList_app byte_elem rfl (.tmp 53) (.tmp 68) rfl w.heap.size _ _ rfl (hv.drewN 1 |>.alloc _) _ _ _ _ _ rfl (reads_one wr.drew _ _) ?_ ?_ (by decide) ?_ ?_
          · intro u hu; simp at hu; subst hu; rfl
          · rw [HLn.out]; omega
          · simp; omega
          · intro v' w' hv' hbel hblk hown'
            have hown2 : v'.ownBlock ≠ some gb := by
              rcases hown' with h | h
              · rw [h]; exact hown
              · rw [h]; have := hRb.lt; intro e; injection e with e; simp at e; omega
            have hRb2 : Rw w' gb 5 ((strm key nonce (.ofInt 32 (c + (k : Int)))).map bv) := by
              obtain ⟨cur, q1, q2⟩ := (hRb.drewN 1).alloc (.cells #[.int .u8 0] 5)
              obtain ⟨cur, q1, q2⟩ := hRb
              exact ⟨cur, hblk _ _ _ ((Blk.drewN (w := wr) q1 1).alloc _) hown, q2⟩
            have hB' : Below w.heap.size w w' := ((below_drewN hB 1).alloc hsz _).trans (hbel _ (Nat.le_refl _))
            clear hown' hblk hbel
            refine wpList_nil (hK _ _ trivial ?_); clear hK K
            simp only [Act.put, List.setIfInBounds_toArray, List.set_cons_zero, List.set_cons_succ]
            refine wpX_pure rfl rfl rfl ?_; intro K hK; go_big_quiet_op; refine hK _ ?_; clear hK K
            refine wpX_nil ?_
            rw [Hx.out] at hv'
            have hs' : SL w' w.heap.size 5 v' ((X.take (64 * k + (i + 1))).map bv) := by rw [HTX.out]; exact hv'
            clear hv' hv hB hRb hown
            go_wp2_with fail
            go_roundw
            case rel => exact ⟨i + 1, by omega, by omega, by go_num, hs', hRb2, hown2, hB'⟩
            case measure => simp [intOf]; omega
        · have ht : X.take (64 * k + i) = X.take (64 * (k + 1)) := by
            by_cases e : i = 64
            · subst e; rfl
            · have e2 : 64 * k + i = s.size := by omega
              rw [List.take_of_length_le (by rw [HL.out]; omega), List.take_of_length_le (by rw [HL.out]; omega)]
          rw [ht] at hv
          have HTT := Lib.hid ht
          clear ht hRb hown
          go_wp2_with fail
          all_goals
            go_roundw
            case rel => exact ⟨k + 1, by omega, by go_num, hv, hB⟩
            case measure => simp [intOf]; omega
    · have hdk : decide ((k : Int) < ((s.size : Int) + 63) / 64) = false := decide_eq_false (by omega)
      have ht : X.take (64 * k) = X := List.take_of_length_le (by rw [HL.out]; omega)
      rw [ht] at hv
      obtain ⟨Av, cv, hveq, _⟩ := hv.form
      rw [List.length_map, HL.out] at hveq
      subst hveq
      have h0 : (convert 43 9 (.slice none 0 0)).run Try.prog wr = .ok (.string ⟨#[]⟩) wr := run_conv_nil Try.underlying43 Try.underlying5 Try.underlying9 wr
      have hcv := sl_bytes0 hv (P := Try.prog) Try.underlying43 Try.underlying5 Try.underlying9 h0
      clear ht h0
      go_wp2_with fail
      go_ret2
      refine ⟨?_, hB⟩
      rw [xorS, HX.out]
      rfl
end Go.Proofs.Ytbofmfocnbennaa
