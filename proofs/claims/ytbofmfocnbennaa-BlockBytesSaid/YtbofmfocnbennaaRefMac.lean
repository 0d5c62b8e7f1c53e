/- sledgeref03: turned, Tag. -/
import Derived.Test.YtbofmfocnbennaaMac2
import Derived.Test.YtbofmfocnbennaaRefSha3
namespace Go.Proofs.Ytbofmfocnbennaa
open Go.RowKit
set_option maxRecDepth 100000
set_option linter.unusedVariables false
set_option linter.unusedSimpArgs false

theorem RowM.tx {w : World} {B : Nat} {e : TypeId} {g n c : Nat} {l : List UInt8} (h : RowM w B e (.slice (some ⟨g, 0, none⟩) n c) l) : n = l.length ∧ n ≤ c ∧ B ≤ g ∧ Tx w g e l := by
  obtain ⟨g', cap, h1, h2, h3, h4⟩ := h.form
  injection h1 with e1 e2 e3
  injection e1 with e1
  injection e1 with e1
  subst e1 e3
  exact ⟨e2, by omega, h3, h4⟩
/-- A key with zeros behind. -/
def zk (k : List UInt8) (i : Nat) : List UInt8 := k ++ List.replicate i 0
theorem zk_zero (k : List UInt8) : zk k 0 = k := by unfold zk; simp
theorem zk_succ (k : List UInt8) (i : Nat) : zk k i ++ [0] = zk k (i + 1) := by unfold zk; rw [List.replicate_succ', List.append_assoc]
theorem zk_length (k : List UInt8) (i : Nat) : (zk k i).length = k.length + i := by unfold zk; simp
theorem zk_all (k : List UInt8) : zk (keyL k) (64 - (keyL k).length) = key64 k := by unfold zk key64; rfl
attribute [irreducible] zk

/-- What '[]byte(s)' makes, as a row. -/
theorem conv_rowM (s : ByteArray) (w : World) : ∃ (c : Nat) (w1 : World), s.size ≤ c ∧ (convert 9 43 (.string s)).run Try.prog w = .ok (.slice (some ⟨w.heap.size, 0, none⟩) s.size c) w1 ∧ RowM w1 w.heap.size 5 (.slice (some ⟨w.heap.size, 0, none⟩) s.size c) s.data.toList ∧ Below w.heap.size w w1 := by
  have hcv := run_bytes_of_string (P := Try.prog) w 9 43 5 s Try.underlying9 Try.underlying43 Try.underlying5
  have hge := grownCap_ge w s.size 0 5
  have hT := RowM.new w.drew 5 s (grownCap w s.size 0 5) _ w.heap.size (by simp) hge (Nat.le_refl _)
  have hB : Below w.heap.size w (w.drew.alloc (.cells (bytesRow s (grownCap w s.size 0 5)) 5 ((bytesRow s (grownCap w s.size 0 5)).size, (bytesRow s (grownCap w s.size 0 5)).size + 1))) := (below_drewN (Below.refl _ _) 1).alloc (by simp) _
  exact ⟨_, _, hge, hcv, hT, hB⟩
theorem RowM.lower {w : World} {B B0 : Nat} {e : TypeId} {v : Value} {l : List UInt8} (h : RowM w B e v l) (hB : B0 ≤ B) : RowM w B0 e v l := by
  obtain ⟨g, cap, cur, fz, h1, h2, r⟩ := h
  exact ⟨g, cap, cur, fz, h1, Nat.le_trans hB h2, r⟩

theorem xor_wrap (x m : UInt8) : bits .xor .i64 (wrap64 ((x.toNat : Nat) : Int)) ((m.toNat : Nat) : Int) % 256 = (((x ^^^ m).toNat : Nat) : Int) := by
  have hx := x.toNat_lt
  have hz := (x ^^^ m).toNat_lt
  have e : wrap64 ((x.toNat : Nat) : Int) = ((x.toNat : Nat) : Int) := by unfold wrap64; omega
  rw [e, b_xor64b, V_bw]
  omega
/-- The key, turned. -/
theorem crTurned (s : ByteArray) (m : UInt8) (w : World) (hs9 : s.size ≤ 1000000000) :
    Calls Try.prog 45 #[.string s, .int .i64 ((m.toNat : Nat) : Int)] w fun e w' => e = .returned (.string (str (padK s.data.toList m))) ∧ Below w.heap.size w w' := by
  have hll := key64_length s.data.toList
  have hp : padK s.data.toList m = xorF (key64 s.data.toList) m 64 := by rw [xorF_all _ _ _ (by omega)]; unfold padK; rfl
  have hkl := keyL_length s.data.toList
  have hkz := zk_all s.data.toList
  obtain ⟨L, HL⟩ : ∃ x, Hid (key64 s.data.toList = x) := ⟨_, Lib.hid rfl⟩
  rw [HL.out] at hll hp hkz
  have HP := Lib.hid hp
  have HLL := Lib.hid hll
  clear hp hll
  by_cases hs : s.size ≤ 64
  · have hI : (s.size : Int) ≤ 64 := by omega
    have hke := keyL_short s.data.toList (by rw [data_length]; exact hs)
    obtain ⟨c0, w0, hc0, hcv, hT, hB⟩ := conv_rowM s w
    rw [← hke] at hT
    obtain ⟨K, HK⟩ : ∃ x, Hid (keyL s.data.toList = x) := ⟨_, Lib.hid rfl⟩
    rw [HK.out] at hkl hkz hke hT
    have HKZ := Lib.hid hkz
    have HT := Lib.hid hT
    have HKE := Lib.hid hke
    clear hkz hke hT
    go_enter Try.func45, Try.ntmps45
    go_wp2_with fail
    have hT := HT.out
    go_loopw [5] (fun v wr => ∃ i : Nat, i ≤ 64 - K.length ∧ RowM wr w.heap.size 5 v (zk K i) ∧ Below w.heap.size w wr)
      (fun v _ => 64 - (match v with | .slice _ n _ => n | _ => 0))
    case atStart => exact ⟨0, by omega, by rw [zk_zero]; exact hT, hB⟩
    case round =>
      clear hT hB
      obtain ⟨i, hi, hR, hB⟩ := hrel
      have hsz := hB.size
      have hzl := zk_length K i
      obtain ⟨g, c, rfl, hc, hBg, hTx⟩ := hR.form
      rw [hzl] at hc hR
      have HR := Lib.hid hR
      have HTX := Lib.hid hTx
      clear hR hTx
      rw [hzl]
      by_cases hlt : K.length + i < 64
      · have hlI : (K.length : Int) + (i : Int) < 64 := by omega
        have hb : (wr.alloc (.cells #[.int .u8 0] 5)).cell? ⟨wr.heap.size, 0, none⟩ = some (bv 0) := (Blk.new wr 5 _).cell 0
        go_wp2_with (refine wpList_app_byte u8_elem rfl (.tmp 18) (.tmp 19) rfl w.heap.size _ (zk K i) (by rfl) (HR.out.alloc _) _ _ 0 rfl hb (by omega) (by simp; omega) ?_; intro v' w' hv' hbel; dsimp only [Act.put])
        rw [zk_succ] at hv'
        obtain ⟨g', c', rfl, hc', hBg', hTx'⟩ := hv'.form
        have hzl' := zk_length K (i + 1)
        go_roundw
        case rel => exact ⟨i + 1, by omega, hv', (hB.alloc hsz _).trans hbel⟩
        case measure => simp; omega
      · have ei : i = 64 - K.length := by omega
        have ez : K.length + i = 64 := by omega
        have hTx := HTX.out
        rw [ei, HKZ.out] at hTx
        rw [ez]
        rw [ez] at hc
        have hj1 : Tx wr g 5 (xorF L m 0) := by rw [xorF_zero]; exact hTx
        have HJ1 := Lib.hid hj1
        clear hTx hj1 ei hlt HR HTX hzl hi ez
        go_wp2_with fail
        have hj1 := HJ1.out
        go_loopw [6] (fun i w2 => ∃ k : Nat, k ≤ 64 ∧ i = .int .i64 k ∧ Tx w2 g 5 (xorF L m k) ∧ Below w.heap.size w w2)
          (fun i _ => 64 - (intOf i).toNat)
        case atStart => exact ⟨0, by omega, rfl, hj1, hB⟩
        case round =>
          clear hj1 hB
          obtain ⟨k, hk, rfl, q1, q2⟩ := hrel
          by_cases hlk : k < 64
          · have hdk : decide ((k : Int) < 64) = true := decide_eq_true (by omega)
            have c0 := q1.cell k (by rw [xorF_length, HLL.out]; omega)
            rw [xorF_get _ _ _ (by rw [HLL.out]; omega)] at c0
            have hs2 := xorF_succ L m k (by rw [HLL.out]; omega)
            obtain ⟨x, HX⟩ : ∃ x, Hid (L.getD k 0 = x) := ⟨_, Lib.hid rfl⟩
            rw [HX.out] at c0 hs2
            have HS2 := Lib.hid hs2
            have f0 := q1.frozen k (by rw [xorF_length, HLL.out]; omega)
            have Q1 := Lib.hid q1
            have Q2 := Lib.hid q2
            clear hs2 q1 q2
            go_wp2_with fail
            go_roundw
            case rel =>
              have hx := Q1.out.set_ k (x ^^^ m)
              rw [HS2.out] at hx
              refine ⟨k + 1, by omega, by go_num, ?_, Q2.out.setCell (p := ⟨g, k, none⟩) hBg _⟩
              rw [xor_wrap]
              exact hx
            case measure => simp [intOf]; omega
          · have hdk : decide ((k : Int) < 64) = false := decide_eq_false (by omega)
            have ek : k = 64 := by omega
            rw [ek, ← HP.out] at q1
            have hpl := padK_length s.data.toList m
            have hcv := conv_bytes (P := Try.prog) Try.underlying43 Try.underlying5 Try.underlying9 wr ⟨g, 0, none⟩ 64 c (padK s.data.toList m) hpl (fun j hj => q1.bytes j (by rw [hpl]; exact hj))
            have Q2 := Lib.hid q2
            clear q1 q2 hpl ek
            go_wp2_with fail
            go_ret
            exact ⟨rfl, Q2.out⟩
  · have hI : (64 : Int) < (s.size : Int) := by omega
    have hke := keyL_long s.data.toList (by rw [data_length]; omega)
    have hsum := fun W => crSum s W hs9
    obtain ⟨K, HK⟩ : ∃ x, Hid (keyL s.data.toList = x) := ⟨_, Lib.hid rfl⟩
    rw [HK.out] at hkl hkz hke
    rw [← hke] at hsum
    obtain ⟨c00, w00, hc00, hcv0, hT0, hB0⟩ := conv_rowM s w
    have hz : (str K).size = 32 := by rw [str_size, hke, sha_length]
    obtain ⟨y, HY⟩ : ∃ x, Hid (str K = x) := ⟨_, Lib.hid rfl⟩
    have hyk : y.data.toList = K := by rw [← HY.out, bytes_str]
    simp only [HY.out] at hsum hz
    have HKZ := Lib.hid hkz
    have HSUM := Lib.hid hsum
    have HKE := Lib.hid hke
    have HYK := Lib.hid hyk
    have hz2 : y.size ≤ 32 := by omega
    have hsz0 := hB0.size
    clear hkz hke hsum hyk hT0 hz
    go_enter Try.func45, Try.ntmps45
    go_wp2_with fail
    (with_reducible refine (HSUM.out _).mono ?_); rintro e w1 ⟨rfl, hb1⟩
    have hB1 := hB0.trans (hb1.mono hsz0)
    obtain ⟨c0, w0, hc0, hcv, hT, hB2⟩ := conv_rowM y w1
    have hB := hB1.trans (hB2.mono hB1.size)
    rw [HYK.out] at hT
    replace hT := hT.lower hB1.size
    have HT := Lib.hid hT
    clear hT hB1 hB2 hb1 hB0 hcv0
    go_wp2_with fail
    have hT := HT.out
    go_loopw [5] (fun v wr => ∃ i : Nat, i ≤ 64 - K.length ∧ RowM wr w.heap.size 5 v (zk K i) ∧ Below w.heap.size w wr)
      (fun v _ => 64 - (match v with | .slice _ n _ => n | _ => 0))
    case atStart => exact ⟨0, by omega, by rw [zk_zero]; exact hT, hB⟩
    case round =>
      clear hT hB
      obtain ⟨i, hi, hR, hB⟩ := hrel
      have hsz := hB.size
      have hzl := zk_length K i
      obtain ⟨g, c, rfl, hc, hBg, hTx⟩ := hR.form
      rw [hzl] at hc hR
      have HR := Lib.hid hR
      have HTX := Lib.hid hTx
      clear hR hTx
      rw [hzl]
      by_cases hlt : K.length + i < 64
      · have hlI : (K.length : Int) + (i : Int) < 64 := by omega
        have hb : (wr.alloc (.cells #[.int .u8 0] 5)).cell? ⟨wr.heap.size, 0, none⟩ = some (bv 0) := (Blk.new wr 5 _).cell 0
        go_wp2_with (refine wpList_app_byte u8_elem rfl (.tmp 18) (.tmp 19) rfl w.heap.size _ (zk K i) (by rfl) (HR.out.alloc _) _ _ 0 rfl hb (by omega) (by simp; omega) ?_; intro v' w' hv' hbel; dsimp only [Act.put])
        rw [zk_succ] at hv'
        obtain ⟨g', c', rfl, hc', hBg', hTx'⟩ := hv'.form
        have hzl' := zk_length K (i + 1)
        go_roundw
        case rel => exact ⟨i + 1, by omega, hv', (hB.alloc hsz _).trans hbel⟩
        case measure => simp; omega
      · have ei : i = 64 - K.length := by omega
        have ez : K.length + i = 64 := by omega
        have hTx := HTX.out
        rw [ei, HKZ.out] at hTx
        rw [ez]
        rw [ez] at hc
        have hj1 : Tx wr g 5 (xorF L m 0) := by rw [xorF_zero]; exact hTx
        have HJ1 := Lib.hid hj1
        clear hTx hj1 ei hlt HR HTX hzl hi ez
        go_wp2_with fail
        have hj1 := HJ1.out
        go_loopw [6] (fun i w2 => ∃ k : Nat, k ≤ 64 ∧ i = .int .i64 k ∧ Tx w2 g 5 (xorF L m k) ∧ Below w.heap.size w w2)
          (fun i _ => 64 - (intOf i).toNat)
        case atStart => exact ⟨0, by omega, rfl, hj1, hB⟩
        case round =>
          clear hj1 hB
          obtain ⟨k, hk, rfl, q1, q2⟩ := hrel
          by_cases hlk : k < 64
          · have hdk : decide ((k : Int) < 64) = true := decide_eq_true (by omega)
            have c0 := q1.cell k (by rw [xorF_length, HLL.out]; omega)
            rw [xorF_get _ _ _ (by rw [HLL.out]; omega)] at c0
            have hs2 := xorF_succ L m k (by rw [HLL.out]; omega)
            obtain ⟨x, HX⟩ : ∃ x, Hid (L.getD k 0 = x) := ⟨_, Lib.hid rfl⟩
            rw [HX.out] at c0 hs2
            have HS2 := Lib.hid hs2
            have f0 := q1.frozen k (by rw [xorF_length, HLL.out]; omega)
            have Q1 := Lib.hid q1
            have Q2 := Lib.hid q2
            clear hs2 q1 q2
            go_wp2_with fail
            go_roundw
            case rel =>
              have hx := Q1.out.set_ k (x ^^^ m)
              rw [HS2.out] at hx
              refine ⟨k + 1, by omega, by go_num, ?_, Q2.out.setCell (p := ⟨g, k, none⟩) hBg _⟩
              rw [xor_wrap]
              exact hx
            case measure => simp [intOf]; omega
          · have hdk : decide ((k : Int) < 64) = false := decide_eq_false (by omega)
            have ek : k = 64 := by omega
            rw [ek, ← HP.out] at q1
            have hpl := padK_length s.data.toList m
            have hcv := conv_bytes (P := Try.prog) Try.underlying43 Try.underlying5 Try.underlying9 wr ⟨g, 0, none⟩ 64 c (padK s.data.toList m) hpl (fun j hj => q1.bytes j (by rw [hpl]; exact hj))
            have Q2 := Lib.hid q2
            clear q1 q2 hpl ek
            go_wp2_with fail
            go_ret
            exact ⟨rfl, Q2.out⟩
theorem crTurned92 (s : ByteArray) (w : World) (hs : s.size ≤ 1000000000) : Calls Try.prog 45 #[.string s, .int .i64 92] w fun e w' => e = .returned (.string (str (padK s.data.toList 92))) ∧ Below w.heap.size w w' := crTurned s 92 w hs
theorem crTurned54 (s : ByteArray) (w : World) (hs : s.size ≤ 1000000000) : Calls Try.prog 45 #[.string s, .int .i64 54] w fun e w' => e = .returned (.string (str (padK s.data.toList 54))) ∧ Below w.heap.size w w' := crTurned s 54 w hs

set_option maxRecDepth 100000 in
/-- The reference's tag. -/
theorem crTag (key t : ByteArray) (w : World) (hk : key.size ≤ 1000000000) (ht : t.size ≤ 900000000) :
    Calls Try.prog 21 #[.string key, .string t] w fun e w' => e = .returned (.string (str (tagL key.data.toList t.data.toList))) ∧ Below w.heap.size w w' := by
  have h1 := fun W => crTurned92 key W hk
  have h2 := fun W => crTurned54 key W hk
  have hpl := padK_length key.data.toList 54
  have hql := padK_length key.data.toList 92
  have htag : tagL key.data.toList t.data.toList = sha (padK key.data.toList 92 ++ sha (padK key.data.toList 54 ++ t.data.toList)) := by unfold tagL; rfl
  obtain ⟨p, HP⟩ : ∃ x, Hid (padK key.data.toList 54 = x) := ⟨_, Lib.hid rfl⟩
  obtain ⟨q, HQ⟩ : ∃ x, Hid (padK key.data.toList 92 = x) := ⟨_, Lib.hid rfl⟩
  rw [HP.out] at hpl htag
  rw [HQ.out] at hql htag
  simp only [HP.out] at h2
  simp only [HQ.out] at h1
  have z1 : (str p).size = 64 := by rw [str_size, hpl]
  have z2 : (str q).size = 64 := by rw [str_size, hql]
  have h3 := fun W => crSum (str p ++ t) W (by rw [ByteArray.size_append, z1]; omega)
  have e3 : (str p ++ t).data.toList = p ++ t.data.toList := by rw [ByteArray.data_append, Array.toList_append, bytes_str]
  rw [e3] at h3
  have z4 : (str (sha (p ++ t.data.toList))).size = 32 := by rw [str_size, sha_length]
  have h4 := fun W => crSum (str q ++ str (sha (p ++ t.data.toList))) W (by rw [ByteArray.size_append, z2, z4]; omega)
  have e4 : (str q ++ str (sha (p ++ t.data.toList))).data.toList = q ++ sha (p ++ t.data.toList) := by rw [ByteArray.data_append, Array.toList_append, bytes_str, bytes_str]
  rw [e4, ← htag] at h4
  obtain ⟨y, HY⟩ : ∃ x, Hid (str (sha (p ++ t.data.toList)) = x) := ⟨_, Lib.hid rfl⟩
  obtain ⟨x, HX⟩ : ∃ x, Hid (str p = x) := ⟨_, Lib.hid rfl⟩
  obtain ⟨z, HZ⟩ : ∃ x, Hid (str q = x) := ⟨_, Lib.hid rfl⟩
  simp only [HX.out] at h2 h3 z1
  simp only [HZ.out] at h1 h4 z2
  simp only [HY.out] at h3 h4 z4
  have H1 := Lib.hid h1
  have H2 := Lib.hid h2
  have H3 := Lib.hid h3
  have H4 := Lib.hid h4
  have n1 : x.size ≤ 64 := by omega
  have n2 : z.size ≤ 64 := by omega
  have n4 : y.size ≤ 64 := by omega
  clear h1 h2 h3 h4 e3 e4 z1 z2 z4 hpl hql htag
  go_enter Try.func21, Try.ntmps21
  go_wp2_with fail
  (with_reducible refine (H1.out _).mono ?_); rintro e w1 ⟨rfl, hb1⟩
  go_wp2_with fail
  (with_reducible refine (H2.out _).mono ?_); rintro e w2 ⟨rfl, hb2⟩
  go_wp2_with fail
  (with_reducible refine (H3.out _).mono ?_); rintro e w3 ⟨rfl, hb3⟩
  go_wp2_with fail
  (with_reducible refine (H4.out _).mono ?_); rintro e w4 ⟨rfl, hb4⟩
  have q2 := hb1.trans (hb2.mono hb1.size)
  have q3 := q2.trans (hb3.mono q2.size)
  have q4 := q3.trans (hb4.mono q3.size)
  clear hb1 hb2 hb3 hb4 q2 q3
  go_wp2
  go_ret
  exact ⟨rfl, q4⟩
end Go.Proofs.Ytbofmfocnbennaa
