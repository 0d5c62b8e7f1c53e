/- sledgelaw14.sized. -/
import Derived.Test.YtbofmfocnbennaaSized
namespace Go.Proofs.Ytbofmfocnbennaa
open Go.RowKit
set_option linter.unusedVariables false
set_option linter.unusedSimpArgs false

/-- A text made as long as that. -/
def szd (s : ByteArray) (n : Nat) : ByteArray := str ((s.data.toList ++ (List.range' s.size (n - s.size)).map UInt8.ofNat).take n)
theorem szd_size (s : ByteArray) (n : Nat) : (szd s n).size = n := by
  unfold szd
  rw [str_size, List.length_take, List.length_append, List.length_map, List.length_range', data_length]; omega
theorem csized14 (s : ByteArray) (n : Nat) (w : World) (hs : s.size < 1000000000000000) (hn : n ≤ 200) :
    Calls Try.prog 32 #[.string s, .int .i64 n] w fun e w' => e = .returned (.string (szd s n)) ∧ Below w.heap.size w w' := by
  have hcv := run_bytes_of_string (P := Try.prog) w 9 43 5 s Try.underlying9 Try.underlying43 Try.underlying5
  have hge := grownCap_ge w s.size 0 5
  obtain ⟨cap, HP⟩ : ∃ n, Hid (grownCap w s.size 0 5 = n) := ⟨_, Lib.hid rfl⟩
  rw [HP.out] at hcv hge
  have hT := RowM.new w.drew 5 s cap _ w.heap.size (by simp) hge (Nat.le_refl _)
  have hB : Below w.heap.size w (w.drew.alloc (.cells (bytesRow s cap) 5 ((bytesRow s cap).size, (bytesRow s cap).size + 1))) := (below_drewN (Below.refl _ _) 1).alloc (by simp) _
  obtain ⟨w1, HW⟩ : ∃ w1, Hid ((w.drew.alloc (.cells (bytesRow s cap) 5 ((bytesRow s cap).size, (bytesRow s cap).size + 1))) = w1) := ⟨_, Lib.hid rfl⟩
  rw [HW.out] at hcv hT hB
  have hl0 := data_length s
  have hw0 : (w.drew).heap.size = w.heap.size := rfl
  rw [hw0] at hT
  clear HW
  go_enter Try.func32, Try.ntmps32
  go_wp2
  go_loopw [5] (fun v w2 => ∃ l : List UInt8, (s.size ≤ l.length ∧ (l.length ≤ n ∨ l.length = s.size)) ∧ l = s.data.toList ++ (List.range' s.size (l.length - s.size)).map UInt8.ofNat ∧ RowM w2 w.heap.size 5 v l ∧ Below w.heap.size w w2)
    (fun v _ => n - (match v with | .slice _ m _ => m | _ => 0))
  case atStart => exact ⟨_, by omega, by rw [hl0]; simp, hT, hB⟩
  case round =>
    clear hT hB hcv
    obtain ⟨l, ⟨hl1, hl2⟩, hl3, hR, hB⟩ := hrel
    have HL3 := Lib.hid hl3
    clear hl3
    obtain ⟨g, c, rfl, hc, hBg, hTx⟩ := hR.form
    have hsz := hB.size
    by_cases hlt : l.length < n
    · have hb : (wr.alloc (.cells #[.int .u8 (l.length : Int)] 5)).cell? ⟨wr.heap.size, 0, none⟩ = some (bv (UInt8.ofNat l.length)) := by
        rw [(Blk.new wr 5 _).cell 0]
        have e : (UInt8.ofNat l.length).toNat = l.length := by simp; omega
        simp [bv, e]
      go_wp2_with (refine wpList_app_byte byte_elem rfl (.tmp 12) (.tmp 16) rfl w.heap.size _ l rfl (hR.alloc _) _ _ (UInt8.ofNat l.length) rfl hb (by omega) (by simp; omega) ?_; intro v' w' hv' hbel; dsimp only [Act.put])
      obtain ⟨g', c', rfl, hc', hBg', hTx'⟩ := hv'.form
      go_roundw
      case rel =>
        refine ⟨_, by simp; omega, ?_, hv', (hB.alloc hsz _).trans hbel⟩
        have e3 : (l ++ [UInt8.ofNat l.length]).length - s.size = (l.length - s.size) + 1 := by simp; omega
        have e4 : s.size + (l.length - s.size) = l.length := by omega
        rw [e3, List.range'_concat, List.map_append, ← List.append_assoc, ← HL3.out]
        simp [e4]
      case measure => simp; omega
    · have hcv := conv_bytes (P := Try.prog) Try.underlying43 Try.underlying5 Try.underlying9 wr ⟨g, 0, none⟩ n c (l.take n) (by simp; omega) (fun j hj => (hTx.take n).bytes j (by simp; omega))
      go_wp2_with fail
      go_ret
      have e5 : str (l.take n) = szd s n := by
        unfold szd
        refine congrArg str ?_
        by_cases hsn : s.size ≤ n
        · have : l.length = n := by omega
          rw [← this, ← HL3.out]
        · have : l.length = s.size := by omega
          have e6 := HL3.out
          rw [this, Nat.sub_self] at e6
          rw [e6]
          have : n - s.size = 0 := by omega
          rw [this]
      exact ⟨by rw [← e5]; rfl, hB⟩
theorem csz32 (s : ByteArray) (w : World) (hs : s.size < 1000000000000000) :
    Calls Try.prog 32 #[.string s, .int .i64 32] w fun e w' => e = .returned (.string (szd s 32)) ∧ Below w.heap.size w w' := csized14 s 32 w hs (by omega)
theorem csz192 (s : ByteArray) (w : World) (hs : s.size < 1000000000000000) :
    Calls Try.prog 32 #[.string s, .int .i64 192] w fun e w' => e = .returned (.string (szd s 192)) ∧ Below w.heap.size w w' := csized14 s 192 w hs (by omega)
end Go.Proofs.Ytbofmfocnbennaa
