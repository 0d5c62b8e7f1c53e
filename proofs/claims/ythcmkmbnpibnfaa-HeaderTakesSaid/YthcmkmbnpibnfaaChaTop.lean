import Derived.Test.YthcmkmbnpibnfaaChaBlock
namespace Go.Proofs.Ythcmkmbnpibnfaa
open Go.RowKit


theorem cright_yes (key nonce : ByteArray) (c : Int) (w : World) (h1 : key.size = 32) (h2 : nonce.size = 12) (h3 : 0 ≤ c) (h4 : c ≤ 4294967295) :
    Calls Try.prog 35 #[.string key, .string nonce, .int .i64 c] w fun e w' => e = .returned (.bool true) ∧ w = w' := by
  have e1 : ((key.size : Int) == 32) = true := by simp; omega
  have e2 : ((nonce.size : Int) == 12) = true := by simp; omega
  clear h1 h2
  go_enter Try.func35, Try.ntmps35
  go_wp2
  go_ret
  exact ⟨rfl, rfl⟩
theorem cright_no (key nonce : ByteArray) (c : Int) (w : World) (h : ¬ (key.size = 32 ∧ nonce.size = 12 ∧ 0 ≤ c ∧ c ≤ 4294967295)) :
    Calls Try.prog 35 #[.string key, .string nonce, .int .i64 c] w fun e w' => e = .returned (.bool false) ∧ w = w' := by
  by_cases h1 : key.size = 32
  · have e1 : ((key.size : Int) == 32) = true := by simp; omega
    by_cases h2 : nonce.size = 12
    · have e2 : ((nonce.size : Int) == 12) = true := by simp; omega
      by_cases h3 : 0 ≤ c
      · have h4 : ¬ c ≤ 4294967295 := fun h4 => h ⟨h1, h2, h3, h4⟩
        clear h h1 h2
        go_enter Try.func35, Try.ntmps35
        go_wp2
        go_ret
        exact ⟨rfl, rfl⟩
      · clear h h1 h2
        go_enter Try.func35, Try.ntmps35
        go_wp2
        go_ret
        exact ⟨rfl, rfl⟩
    · have e2 : ((nonce.size : Int) == 12) = false := by simp; omega
      clear h h1 h2
      go_enter Try.func35, Try.ntmps35
      go_wp2
      go_ret
      exact ⟨rfl, rfl⟩
  · have e1 : ((key.size : Int) == 32) = false := by simp; omega
    clear h h1
    go_enter Try.func35, Try.ntmps35
    go_wp2
    go_ret
    exact ⟨rfl, rfl⟩

theorem cBlock_yes (key nonce : ByteArray) (c : Int) (w : World) (h1 : key.size = 32) (h2 : nonce.size = 12) (h3 : 0 ≤ c) (h4 : c ≤ 4294967295) :
    Calls Try.prog 21 #[.string key, .string nonce, .int .i64 c] w fun e w' => e = .returned (.tuple #[.string (str (strm key nonce (.ofInt 32 c))), .int .i64 0]) ∧ Below w.heap.size w w' := by
  have H1 := Lib.hid h1
  have H2 := Lib.hid h2
  clear h1 h2
  obtain ⟨o, HO⟩ : ∃ o, Hid (bcells (strm key nonce (.ofInt 32 c)) = o) := ⟨_, Lib.hid rfl⟩
  have hone2 := bcells_one (strm key nonce (.ofInt 32 c))
  have hsz : (bcells (strm key nonce (.ofInt 32 c))).size = 64 := by rw [size_bcells, strm_length]
  rw [HO.out] at hone2 hsz
  have HI3 : Hid ((Try.prog.info? 56).map (·.size) = some o.size) := by rw [hsz]; exact row_size
  have HS3 : Hid (64 = o.size) := hsz.symm
  clear hsz
  go_enter Try.func21, Try.ntmps21
  go_wp2_with (go_at_call 35; ((with_reducible refine (cright_yes _ _ _ _ H1.out H2.out h3 h4).mono ?_); rintro e w' ⟨rfl, rfl⟩))
  (with_reducible refine (cblock _ _ _ _ H1.out H2.out).mono ?_); rw [HO.out]; rintro e w1 ⟨rfl, hB⟩
  have hcv := conv_bytes (P := Try.prog) Try.underlying58 Try.underlying5 Try.underlying9 (w1.alloc (.cells o 56)) ⟨w1.heap.size, 0, none⟩ 64 64 (strm key nonce (.ofInt 32 c)) (strm_length _ _ _)
    (fun j hj => blk_bytes (t := 56) (by rw [HO.out]; exact Blk.new _ _ _) j (by rw [strm_length]; exact hj))
  go_wp2_with ((with_reducible refine wpList_store_new rfl 56 (.tmp 8) (.tmp 17) rfl w1.heap.size o _ 56 rfl rfl rfl rfl HI3.out ?hs1 hone2 ?_); (case hs1 => exact HS3.out); dsimp only [Act.put])
  go_ret2
  exact ⟨rfl, hB.alloc hB.size _⟩
end Go.Proofs.Ythcmkmbnpibnfaa
