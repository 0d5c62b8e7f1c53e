/- sha.Sum, and what there is of a Hash that is none. -/
import Derived.Test.YtcnhhlnbmliihaaShaSum
import Derived.Test.YtcnhhlnbmliihaaStrs
namespace Go.Proofs.Ytcnhhlnbmliihaa
open Go.RowKit
set_option linter.unusedVariables false
set_option linter.unusedSimpArgs false

theorem HSv.fresh {w w' : World} {B g : Nat} {v : Value} {t : List UInt8} (h : HSv w B g v t) (hb : Below w.heap.size w w') : HSv w' B g v t := by
  obtain ⟨h1, h2, h3, h4⟩ := h
  exact ⟨h1, h2.below hb h2.lt, (Only.fresh (S := fun _ => False) hb).sl h3 (fun _ _ e => e), h4⟩
theorem HSv.only {S : Nat → Prop} {w w' : World} {B g : Nat} {v : Value} {t : List UInt8} (h : HSv w B g v t) (ho : Only S w w') (hg : ¬ S g) (hv : ∀ k, v.ownBlock = some k → ¬ S k) : HSv w' B g v t := by
  obtain ⟨h1, h2, h3, h4⟩ := h
  exact ⟨h1, ho.blk h2 hg, ho.sl h3 hv, h4⟩
theorem HSv.lt {w : World} {B g : Nat} {v : Value} {t : List UInt8} (h : HSv w B g v t) : g < w.heap.size := h.2.1.lt
theorem HSv.own {w : World} {B g : Nat} {v : Value} {t : List UInt8} (h : HSv w B g v t) : ∀ k, v.ownBlock = some k → k < w.heap.size ∧ B ≤ k := h.2.2.1.own_lt

theorem cSumL (A : Option Addr) (n c : Nat) (ss : List ByteArray) (w : World) (hn : ss.length = n) (hs : Strs w A ss) (hl : (joinL ss).length ≤ 1000000000) (hn2 : n ≤ 1000000000) :
    Calls Try.prog 74 #[.slice A n c] w fun e w' => e = .returned (.string (str (sha (joinL ss)))) ∧ Below w.heap.size w w' := by
  have HN := Lib.hid hn
  have hn3 : (n : Int) ≤ 1000000000 := by omega
  clear hn
  go_enter Try.func74, Try.ntmps74
  go_wp2_with fail
  (with_reducible refine (cNew _).mono ?_); rintro e w1 ⟨rfl, hh, hb⟩
  go_wp2_with fail
  have HS0 := Lib.hid hs
  clear hs
  go_loopw [9] (fun i wr => ∃ (k : Nat) (v : Value), k ≤ n ∧ i = .int .i64 k ∧ HSv wr w.heap.size w.heap.size v (joinL (ss.take k)) ∧ Below w.heap.size w wr)
    (fun i _ => n - (intOf i).toNat)
  case atStart => exact ⟨0, _, by omega, rfl, by rw [List.take_zero, joinL_nil]; exact hh, hb⟩
  case round =>
    clear hh hb
    obtain ⟨k, v, hk, rfl, hh, hb⟩ := hrel
    by_cases hlk : k < n
    · have hdk : decide ((k : Int) < (n : Int)) = true := decide_eq_true (by omega)
      obtain ⟨g, o, ha, hg, hc⟩ := (HS0.out.fresh hb) (by rw [HN.out]; omega)
      subst ha
      have hck := hc k (by rw [HN.out]; exact hlk)
      have hjl := joinL_get_le ss k (by rw [HN.out]; exact hlk)
      have hjt := joinL_take ss k (by rw [HN.out]; exact hlk)
      obtain ⟨s, HS⟩ : ∃ s, Hid (ss.getD k ByteArray.empty = s) := ⟨_, Lib.hid rfl⟩
      rw [HS.out] at hck hjl hjt
      have HJT := Lib.hid hjt
      have hbs := hb.size
      have HH := Lib.hid hh
      have HBB := Lib.hid hb
      clear hc hjt hh hb
      go_wp2_with (go_at_call 77; ((with_reducible refine (cWrite _ _ _ _ _ _ HH.out hbs (by omega)).mono ?_); rintro e' w2 ⟨rfl, v2, hv2, hf2, ho2⟩))
      go_roundw
      case rel =>
        have hb2 := HBB.out.trans (ho2.below (B := w.heap.size) hbs (fun j hj => by
          rcases hj with rfl | hj
          · exact Nat.le_refl _
          · exact (HH.out.own j hj).2))
        exact ⟨k + 1, v2, by omega, by go_num, by rw [HJT.out]; exact hv2, hb2⟩
      case measure => simp [intOf]; omega
    · have hdk : decide ((k : Int) < (n : Int)) = false := decide_eq_false (by omega)
      have e : ss.take k = ss := List.take_of_length_le (by rw [HN.out]; omega)
      rw [e] at hh
      have HH := Lib.hid hh
      have HBB := Lib.hid hb
      have hbs := hb.size
      clear hh hb e
      go_wp2_with (go_at_call 78; ((with_reducible refine (cHSum _ _ _ _ _ HH.out hl).mono ?_); rintro e' w2 ⟨rfl, hb2⟩))
      go_ret
      exact ⟨rfl, HBB.out.trans (hb2.mono hbs)⟩

/-- Of a Hash that is none. -/
theorem cWrite_none (s : ByteArray) (w : World) : Calls Try.prog 77 #[.pointer none, .string s] w fun e w' => e = .returned (.tuple #[]) ∧ w = w' := by
  go_enter Try.func77, Try.ntmps77
  go_wp2_with fail
  refine bodyPost_ret (results_none rfl _ _ _) rfl ⟨rfl, rfl⟩
theorem cHSum_none (w : World) : Calls Try.prog 78 #[.pointer none] w fun e w' => e = .returned (.string ⟨#[]⟩) ∧ w = w' := by
  go_enter Try.func78, Try.ntmps78
  go_wp2_with fail
  go_ret
  exact ⟨rfl, rfl⟩
end Go.Proofs.Ytcnhhlnbmliihaa
