import Derived.Test.YthcmkmbnpibnfaaText
import Derived.Test.YthcmkmbnpibnfaaQuarter
namespace Go.Proofs.Ythcmkmbnpibnfaa
open Go.RowKit

theorem byte_elem : ElemI Try.prog 58 5 (.int .u8 0) 1 := elemI Try.underlying58 (by kernel_rfl) rfl

theorem csized (s : ByteArray) (n : Nat) (w : World) (hs : s.size < 1000000000000000) (hn : n ≤ 64) :
    Calls Try.prog 27 #[.string s, .int .i64 n] w fun e w' => ∃ r : ByteArray, r.size = n ∧ e = .returned (.string r) ∧ Below w.heap.size w w' := by
  have hcv := run_bytes_of_string (P := Try.prog) w 9 58 5 s Try.underlying9 Try.underlying58 Try.underlying5
  have hge := grownCap_ge w s.size 0 5
  obtain ⟨cap, HP⟩ : ∃ n, Hid (grownCap w s.size 0 5 = n) := ⟨_, Lib.hid rfl⟩
  rw [HP.out] at hcv hge
  have hT := RowM.new w.drew 5 s cap _ w.heap.size (by simp) hge (Nat.le_refl _)
  have hB : Below w.heap.size w (w.drew.alloc (.cells (bytesRow s cap) 5 ((bytesRow s cap).size, (bytesRow s cap).size + 1))) := (below_drewN (Below.refl _ _) 1).alloc (by simp) _
  obtain ⟨w1, HW⟩ : ∃ w1, Hid ((w.drew.alloc (.cells (bytesRow s cap) 5 ((bytesRow s cap).size, (bytesRow s cap).size + 1))) = w1) := ⟨_, Lib.hid rfl⟩
  rw [HW.out] at hcv hT hB
  have hl0 := data_length s
  have hw0 : (w.drew).heap.size = w.heap.size := rfl
  rw [hw0] at hT
  clear HW
  go_enter Try.func27, Try.ntmps27
  go_wp2
  go_loopw [5] (fun v w2 => ∃ l : List UInt8, (s.size ≤ l.length ∧ (l.length ≤ n ∨ l.length = s.size)) ∧ RowM w2 w.heap.size 5 v l ∧ Below w.heap.size w w2)
    (fun v _ => n - (match v with | .slice _ m _ => m | _ => 0))
  case atStart => exact ⟨_, by omega, hT, hB⟩
  case round =>
    clear hT hB hcv
    obtain ⟨l, ⟨hl1, hl2⟩, hR, hB⟩ := hrel
    obtain ⟨g, c, rfl, hc, hBg, hTx⟩ := hR.form
    have hsz := hB.size
    by_cases hlt : l.length < n
    · have hb : (wr.alloc (.cells #[.int .u8 (l.length : Int)] 5)).cell? ⟨wr.heap.size, 0, none⟩ = some (bv (UInt8.ofNat l.length)) := by
        rw [(Blk.new wr 5 _).cell 0]
        have e : (UInt8.ofNat l.length).toNat = l.length := by simp; omega
        simp [bv, e]
      go_wp2_with (refine wpList_app_byte byte_elem rfl (.tmp 12) (.tmp 16) rfl w.heap.size _ l rfl (hR.alloc _) _ _ (UInt8.ofNat l.length) rfl hb (by omega) (by simp; omega) ?_; intro v' w' hv' hbel; dsimp only [Act.put])
      obtain ⟨g', c', rfl, hc', hBg', hTx'⟩ := hv'.form
      go_roundw
      case rel => exact ⟨_, by simp; omega, hv', (hB.alloc hsz _).trans hbel⟩
      case measure => simp; omega
    · have hcv := conv_bytes (P := Try.prog) Try.underlying58 Try.underlying5 Try.underlying9 wr ⟨g, 0, none⟩ n c (l.take n) (by simp; omega) (fun j hj => (hTx.take n).bytes j (by simp; omega))
      go_wp2_with fail
      go_ret
      exact ⟨_, by rw [str_size]; simp; omega, rfl, hB⟩
theorem csized32 (s : ByteArray) (w : World) (hs : s.size < 1000000000000000) :
    Calls Try.prog 27 #[.string s, .int .i64 32] w fun e w' => ∃ r : ByteArray, r.size = 32 ∧ e = .returned (.string r) ∧ Below w.heap.size w w' := csized s 32 w hs (by omega)
theorem csized12 (s : ByteArray) (w : World) (hs : s.size < 1000000000000000) :
    Calls Try.prog 27 #[.string s, .int .i64 12] w fun e w' => ∃ r : ByteArray, r.size = 12 ∧ e = .returned (.string r) ∧ Below w.heap.size w w' := csized s 12 w hs (by omega)
end Go.Proofs.Ythcmkmbnpibnfaa
