/- The law HeaderBack, walked. -/
import Derived.Test.YtbofmfocnbennaaHBackS
import Derived.Test.YtbofmfocnbennaaHTakesLaw
namespace Go.Proofs.Ytbofmfocnbennaa
open Go.RowKit
set_option linter.unusedVariables false
set_option linter.unusedSimpArgs false

/-- What Take tells of any bytes, and what Put makes of that again. -/
theorem take_again (s : ByteArray) : (∃ h : Hd, h.may ∧ h.fields ++ h.tag = s ∧ ∀ W : World, Calls Try.prog 15 #[.string s] W fun e w' => e = .returned (.tuple #[.agg #[.int .i64 h.id, .string h.salt, .int .i64 h.n, .int .i64 h.bytes, .int .i64 h.raw, .string h.root, .string h.tag], .int .i64 0]) ∧ Below W.heap.size W w') ∨
    (∀ W : World, Calls Try.prog 15 #[.string s] W fun e w' => e = .returned (.tuple #[.agg #[.int .i64 0, .string ⟨#[]⟩, .int .i64 0, .int .i64 0, .int .i64 0, .string ⟨#[]⟩, .string ⟨#[]⟩], .int .i64 2]) ∧ Below W.heap.size W w') := by
  by_cases hg : (s.size : Int) = 98 ∧ ((s.extract 0 4).toList == [83, 76, 71, 49]) = true
  · by_cases hm : (took s).may
    · refine .inl ⟨took s, hm, put_took s (by omega) ?_, fun W => cHTake_good s W hg.1 hg.2 0 _ (.inl ⟨hm, rfl, rfl⟩)⟩
      have h2 := hg.2
      rw [beq_iff_eq, ByteArray.toList_eq] at h2
      exact ba_ext h2
    · exact .inr fun W => cHTake_good s W hg.1 hg.2 2 ⟨0, ⟨#[]⟩, 0, 0, 0, ⟨#[]⟩, ⟨#[]⟩⟩ (.inr ⟨hm, rfl, rfl⟩)
  · have hb : ¬ (s.size : Int) = 98 ∨ ((s.size : Int) = 98 ∧ ((s.extract 0 4).toList == [83, 76, 71, 49]) = false) := by
      by_cases h1 : (s.size : Int) = 98
      · refine .inr ⟨h1, ?_⟩
        cases h2 : ((s.extract 0 4).toList == [83, 76, 71, 49]) with
        | false => rfl
        | true => exact absurd ⟨h1, h2⟩ hg
      · exact .inl h1
    exact .inr fun W => cHTake_bad s W hb
/-- What is put is taken as it was. -/
theorem put_again (h : Hd) (hm : h.may) : ∃ x : ByteArray, (∀ W : World, Calls Try.prog 14 #[.agg #[.int .i64 h.id, .string h.salt, .int .i64 h.n, .int .i64 h.bytes, .int .i64 h.raw, .string h.root, .string h.tag]] W fun e w' => e = .returned (.tuple #[.string x, .int .i64 0]) ∧ Below W.heap.size W w') ∧
    (∀ W : World, Calls Try.prog 15 #[.string x] W fun e w' => e = .returned (.tuple #[.agg #[.int .i64 h.id, .string h.salt, .int .i64 h.n, .int .i64 h.bytes, .int .i64 h.raw, .string h.root, .string h.tag], .int .i64 0]) ∧ Below W.heap.size W w') := by
  refine ⟨h.fields ++ h.tag, fun W => cPut_yes h W hm, fun W => ?_⟩
  have h1 := put_size h hm
  have h2 := put_mark h
  have h3 := took_put h hm
  refine cHTake_good _ W (by omega) ?_ 0 h (.inl ⟨by rw [h3]; exact hm, rfl, h3.symm⟩)
  rw [h2, ByteArray.toList_eq]
  decide
end Go.Proofs.Ytbofmfocnbennaa
