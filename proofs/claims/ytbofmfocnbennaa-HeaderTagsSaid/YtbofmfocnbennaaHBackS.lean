/- What is put is taken as it was, and the other way round: on texts alone. -/
import Derived.Test.YtbofmfocnbennaaHeaderTake2
import Derived.Test.YtbofmfocnbennaaNumBe
namespace Go.Proofs.Ytbofmfocnbennaa
open Go.RowKit
set_option linter.unusedVariables false
set_option linter.unusedSimpArgs false

theorem took_put (h : Hd) (hm : h.may) : took (h.fields ++ h.tag) = h := by
  obtain ⟨id, salt, n, bytes, raw, root, tag⟩ := h
  obtain ⟨⟨q1, q2, q3, q4, q5⟩, q6, q7, q8, q9, q10⟩ := hm
  dsimp only at q1 q2 q3 q4 q5 q6 q7 q8 q9 q10
  have e0 : (Hd.fields ⟨id, salt, n, bytes, raw, root, tag⟩) ++ tag = (⟨#[83, 76, 71, 49]⟩ : ByteArray) ++ (str (be id 4) ++ (salt ++ (str (be n 2) ++ (str (be bytes 4) ++ (str (be raw 4) ++ (root ++ tag)))))) := by
    unfold Hd.fields
    simp only [ByteArray.append_assoc]
  have z1 : (str (be id 4)).size = 4 := by rw [str_size, be_length]
  have z2 : (str (be n 2)).size = 2 := by rw [str_size, be_length]
  have z3 : (str (be bytes 4)).size = 4 := by rw [str_size, be_length]
  have z4 : (str (be raw 4)).size = 4 := by rw [str_size, be_length]
  have n1 := num_be id 4 (by omega) (by omega)
  have n2 := num_be n 2 (by omega) (by omega)
  have n3 := num_be bytes 4 (by omega) (by omega)
  have n4 := num_be raw 4 (by omega) (by omega)
  dsimp only
  rw [e0]
  unfold took rst
  rw [back_append _ _ 4 mark_size, back_append _ _ 4 z1, back_append _ _ 16 (by omega), back_append _ _ 2 z2, back_append _ _ 4 z3, back_append _ _ 4 z4, back_append _ _ 32 (by omega), front_append _ _ 16 (by omega), front_append _ _ 32 (by omega),
    num_front _ _ 4 (by omega), num_front _ _ 2 (by omega), num_front _ _ 4 (by omega), num_front _ _ 4 (by omega), n1, n2, n3, n4]
  have e1 : tag.extract 0 32 = tag := by
    have h := split_text tag 32 (by omega)
    have e0 : tag.extract 32 tag.size = ByteArray.empty := by
      apply ba_ext; rw [ba_cut, List.drop_of_length_le (by rw [List.length_take, ba_len]; omega)]; rfl
    rw [e0] at h
    have h3 := congrArg (fun x : ByteArray => x.data.toList) h
    apply ba_ext
    rw [← h3, ba_list]
    exact (List.append_nil _).symm
  rw [e1]
theorem put_size (h : Hd) (hm : h.may) : (h.fields ++ h.tag).size = 98 := by
  obtain ⟨⟨q1, q2, q3, q4, q5⟩, _⟩ := hm
  unfold Hd.fields
  simp only [ByteArray.size_append, str_size, be_length, mark_size]
  omega
theorem put_mark (h : Hd) : (h.fields ++ h.tag).extract 0 4 = ⟨#[83, 76, 71, 49]⟩ := by
  have e0 : h.fields ++ h.tag = (⟨#[83, 76, 71, 49]⟩ : ByteArray) ++ (str (be h.id 4) ++ (h.salt ++ (str (be h.n 2) ++ (str (be h.bytes 4) ++ (str (be h.raw 4) ++ (h.root ++ h.tag)))))) := by
    unfold Hd.fields
    simp only [ByteArray.append_assoc]
  rw [e0, front_append _ _ 4 mark_size]
theorem put_took (s : ByteArray) (h1 : s.size = 98) (h2 : s.extract 0 4 = ⟨#[83, 76, 71, 49]⟩) : (took s).fields ++ (took s).tag = s := by
  obtain ⟨s1, S1⟩ : ∃ x, s.extract 4 s.size = x := ⟨_, rfl⟩
  have z1 : s1.size = 94 := by rw [← S1]; simp; omega
  obtain ⟨s2, S2⟩ : ∃ x, s1.extract 4 s1.size = x := ⟨_, rfl⟩
  have z2 : s2.size = 90 := by rw [← S2]; simp; omega
  obtain ⟨s3, S3⟩ : ∃ x, s2.extract 16 s2.size = x := ⟨_, rfl⟩
  have z3 : s3.size = 74 := by rw [← S3]; simp; omega
  obtain ⟨s4, S4⟩ : ∃ x, s3.extract 2 s3.size = x := ⟨_, rfl⟩
  have z4 : s4.size = 72 := by rw [← S4]; simp; omega
  obtain ⟨s5, S5⟩ : ∃ x, s4.extract 4 s4.size = x := ⟨_, rfl⟩
  have z5 : s5.size = 68 := by rw [← S5]; simp; omega
  obtain ⟨s6, S6⟩ : ∃ x, s5.extract 4 s5.size = x := ⟨_, rfl⟩
  have z6 : s6.size = 64 := by rw [← S6]; simp; omega
  obtain ⟨s7, S7⟩ : ∃ x, s6.extract 32 s6.size = x := ⟨_, rfl⟩
  have z7 : s7.size = 32 := by rw [← S7]; simp; omega
  have p0 := split_text s 4 (by omega)
  have p1 := split_text s1 4 (by omega)
  have p2 := split_text s2 16 (by omega)
  have p3 := split_text s3 2 (by omega)
  have p4 := split_text s4 4 (by omega)
  have p5 := split_text s5 4 (by omega)
  have p6 := split_text s6 32 (by omega)
  rw [S1, h2] at p0
  rw [S2] at p1
  rw [S3] at p2
  rw [S4] at p3
  rw [S5] at p4
  rw [S6] at p5
  rw [S7] at p6
  have e7 : s7.extract 0 32 = s7 := by
    have h := split_text s7 32 (by omega)
    have e0 : s7.extract 32 s7.size = ByteArray.empty := by
      apply ba_ext; rw [ba_cut, List.drop_of_length_le (by rw [List.length_take, ba_len]; omega)]; rfl
    rw [e0] at h
    have h3 := congrArg (fun x : ByteArray => x.data.toList) h
    apply ba_ext
    rw [← h3, ba_list]
    exact (List.append_nil _).symm
  have ht : took s = ⟨num s1 4, s2.extract 0 16, num s3 2, num s4 4, num s5 4, s6.extract 0 32, s7.extract 0 32⟩ := by
    rw [← S7, ← S6, ← S5, ← S4, ← S3, ← S2, ← S1]; rfl
  rw [ht]
  unfold Hd.fields
  dsimp only
  rw [be_num s1 4 (by omega), be_num s3 2 (by omega), be_num s4 4 (by omega), be_num s5 4 (by omega), e7]
  simp only [ByteArray.append_assoc]
  rw [p6, p5, p4, p3, p2, p1, p0]
end Go.Proofs.Ytbofmfocnbennaa
