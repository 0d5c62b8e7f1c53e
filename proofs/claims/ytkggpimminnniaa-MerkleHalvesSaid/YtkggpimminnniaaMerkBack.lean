/- The laws MerkleBack, MerkleHalves, walked. -/
import Derived.Test.YtkggpimminnniaaMerkLaws2
namespace Go.Proofs.Ytkggpimminnniaa
open Go.RowKit
set_option linter.unusedVariables false
set_option linter.unusedSimpArgs false

theorem map_take_succ (f : ByteArray → ByteArray) (l : List ByteArray) (k : Nat) (h : k < l.length) : (l.take (k + 1)).map f = (l.take k).map f ++ [f (l.getD k ByteArray.empty)] := by
  rw [List.take_succ_eq_append_getElem h, List.map_append, List.getD_eq_getElem?_getD, List.getElem?_eq_getElem h]; rfl
theorem leaf_sizes {d : Nat} (hd : d ≤ 32) {l : List ByteArray} : ∀ s ∈ l.map (mleaf d), s.size ≤ 300000000 := by
  intro s hs
  obtain ⟨x, _, rfl⟩ := List.mem_map.1 hs
  rw [mleaf_size _ _ hd]; omega

theorem proof_sizes (d : Nat) (hd : d ≤ 32) : ∀ (n i : Nat) (l : List ByteArray), l.length = n → (∀ s ∈ l, s.size = d) → allW d (proof d i l) = true := by
  intro n
  induction n using Nat.strongRecOn with
  | _ n ih =>
    intro i l hl hz
    rcases Nat.lt_or_ge n 2 with h2 | h2
    · rw [proof_one _ _ _ (by omega)]; unfold allW; rfl
    · have hcl := cut_lt n h2
      have hcp := cut_pos n
      have ht : (l.take (cut n)).length = cut n := by rw [List.length_take]; omega
      have hdr : (l.drop (cut n)).length = n - cut n := by rw [List.length_drop, hl]
      have hrt : ∀ q : List ByteArray, 1 ≤ q.length → (∀ s ∈ q, s.size = d) → (root d q).size = d := fun q h1 h3 => by
        rcases Nat.lt_or_ge q.length 2 with h4 | h4
        · rw [root_one _ _ (by omega)]; exact h3 _ (getD_mem (by omega))
        · rw [root_cut _ _ h4]; exact mnode_size _ _ _ hd
      have hap : ∀ (a : List ByteArray) (x : ByteArray), allW d a = true → x.size = d → allW d (a ++ [x]) = true := fun a x h1 h3 => by
        unfold allW at h1 ⊢
        rw [List.all_append, h1]; simp [h3]
      by_cases hi : i < cut n
      · rw [proof_left d i l (by omega) (by rw [hl]; exact hi), hl]
        exact hap _ _ (ih (cut n) hcl i _ ht (fun s hs => hz s (List.mem_of_mem_take hs))) (hrt _ (by omega) (fun s hs => hz s (List.mem_of_mem_drop hs)))
      · rw [proof_right d i l (by omega) (by rw [hl]; omega), hl]
        exact hap _ _ (ih (n - cut n) (by omega) (i - cut n) _ hdr (fun s hs => hz s (List.mem_of_mem_drop hs))) (hrt _ (by omega) (fun s hs => hz s (List.mem_of_mem_take hs)))
theorem turn_mod (i : Int) (q : Nat) (hq : 0 < q) (hs : q ≤ 1000000) : ∃ j : Nat, j < q ∧ (wrap64 (i.tmod q + q)).tmod q = (j : Int) := by
  have h1 : (i.tmod q).natAbs < q := by
    rw [Int.natAbs_tmod, Int.natAbs_natCast]
    exact Nat.mod_lt _ hq
  have e : wrap64 (i.tmod q + q) = i.tmod q + q := by unfold wrap64; omega
  rw [e]
  obtain ⟨x, hx⟩ : ∃ x : Nat, i.tmod q + q = (x : Int) := ⟨(i.tmod q + q).toNat, by omega⟩
  rw [hx]
  exact ⟨x % q, Nat.mod_lt _ hq, by rw [Int.ofNat_tmod]⟩
set_option maxRecDepth 100000 in
theorem merkleBack_walk {w : World} (k : Int) (hk : (Lit.int .i64 k).wf = true) (i : Int) (hi : (Lit.int .i64 i).wf = true) (v : Value) (ss : List ByteArray) (hv : StrsIn w v ss) :
    Calls Try.prog 11 #[.int .i64 k, .int .i64 i, v] w fun e w' => e = .returned (.bool true) ∧ Below w.heap.size w w' := by
  have h0 := cFewV hv
  have H0 := Lib.hid h0
  have hi2 := wf_i64 hi
  clear h0 hv hi
  have hB0 := Below.refl w.heap.size w
  go_enter Try.func11, Try.ntmps11
  go_wp2_with fail
  (with_reducible refine H0.out.mono ?_); rintro e w1 ⟨A, n, c, l, rfl, hl, hs, hnc, hn, hz, rfl⟩
  have HL := Lib.hid hl
  have HS := Lib.hid hs
  have HZ := Lib.hid hz
  clear hl hs hz H0
  by_cases hn0 : n = 0
  · subst hn0
    go_wp2_with fail
    (with_reducible refine (cAwake15 _).mono ?_); rintro e w7 ⟨rfl, hb2⟩
    go_wp2_with fail
    go_ret
    exact ⟨rfl, hb2⟩
  · have hn0I : ((n : Int) == 0) = false := by simp; omega
    have hn0J : (0 : Int) < (n : Int) := by omega
    have hn0K : (n == 0) = false := by simp; omega
    go_wp2_with fail
    go_loopw [7, 8] (fun u v wr => ∃ (q : Nat), q ≤ n ∧ v = .int .i64 q ∧ SL wr w.heap.size 9 u (((l.take q).map (mleaf (wd k))).map Value.string) ∧ Below w.heap.size w wr) (fun _ v _ => n - (intOf v).toNat)
    case atStart => exact ⟨0, by omega, rfl, SL.nil _ _ _, hB0⟩
    case round =>
      clear hB0
      obtain ⟨q, hq, rfl, hS, hb⟩ := hrel
      have hbs := hb.size
      obtain ⟨A2, c2, rfl, hc2⟩ := hS.open_
      have hlen : ((l.take q).map (mleaf (wd k))).length = q := by rw [List.length_map, List.length_take, HL.out]; omega
      rw [hlen] at hS hc2 ⊢
      have HSR := Lib.hid hS
      have HB := Lib.hid hb
      clear hS hb
      by_cases hlt : q < n
      · have hdk : decide ((q : Int) < (n : Int)) = true := decide_eq_true (by omega)
        obtain ⟨g, o, rfl, c1⟩ := (HS.out.fresh HB.out).cell_ q (by rw [HL.out]; exact hlt)
        have hst := map_take_succ (mleaf (wd k)) l q (by rw [HL.out]; exact hlt)
        have hsz := HZ.out _ (getD_mem (by rw [HL.out]; exact hlt : q < l.length))
        obtain ⟨s, HSS⟩ : ∃ s, Hid (l.getD q ByteArray.empty = s) := ⟨_, Lib.hid rfl⟩
        rw [HSS.out] at c1 hst hsz
        have h1 := fun W => cLeaf k s W (by omega)
        obtain ⟨t, HT⟩ : ∃ t, Hid (mleaf (wd k) s = t) := ⟨_, Lib.hid rfl⟩
        simp only [HT.out] at h1 hst
        have H1 := Lib.hid h1
        have HST := Lib.hid hst
        clear h1 hst
        go_wp2_with fail
        (with_reducible refine (H1.out _).mono ?_); rintro e w2 ⟨rfl, hb2⟩
        have HS2 := Lib.hid (HSR.out.below hb2 (Nat.le_refl _))
        have HB2 := Lib.hid (HB.out.trans (hb2.mono hbs))
        have hbs2 := HB2.out.size
        clear hb2
        go_wp2_with (refine wpList_app1 Value.string (fun _ => rfl) str_elem rfl (.tmp 24) (.tmp 31) rfl w.heap.size A2 q c2 _ t _ hlen rfl HS2.out rfl _ rfl rfl (by omega) (by decide) hbs2 ?_; intro A3 c3 w3 hS3 hc3 hb3; dsimp only [Act.put])
        go_roundw
        case rel => exact ⟨q + 1, by omega, by go_num, by rw [HST.out]; exact hS3, HB2.out.trans hb3⟩
        case measure => simp [intOf]; omega
      · have hdk : decide ((q : Int) < (n : Int)) = false := decide_eq_false (by omega)
        have e : q = n := by omega
        subst e
        have hfull : l.take q = l := List.take_of_length_le (by rw [HL.out]; omega)
        have hslr := HSR.out
        rw [hfull] at hslr hlen
        obtain ⟨j, hj, ej⟩ := turn_mod i q (by omega) (by omega)
        have hll : (l.map (mleaf (wd k))).length = q := hlen
        have hlz := leaf_sizes (wd_hi k) (l := l)
        have hst := Strs.of_sl hslr
        obtain ⟨L, HLL⟩ : ∃ x, Hid (l.map (mleaf (wd k)) = x) := ⟨_, Lib.hid rfl⟩
        have hjl : (L.getD j ByteArray.empty).size = wd k := by
          rw [← HLL.out, List.getD_eq_getElem?_getD, List.getElem?_map, List.getElem?_eq_getElem (by rw [HL.out]; exact hj)]
          exact mleaf_size _ _ (wd_hi k)
        rw [HLL.out] at hll hlz hst
        have hwp := way_proof (wd k) q j L hll hj
        have p1 := fun W h => cProof k A2 q c2 j L W hll h hc2 (by omega) hlz hj
        have r1 := fun W h => cRoot k q A2 c2 L W hll h hc2 (by omega) hlz
        have hpw : allW (wd k) (proof (wd k) j L) = true := proof_sizes (wd k) (wd_hi k) q j L hll (fun s hs => by rw [← HLL.out] at hs; obtain ⟨x, _, rfl⟩ := List.mem_map.1 hs; exact mleaf_size _ _ (wd_hi k))
        have hup := upR_yes hwp.1 hjl hpw
        rw [hwp.2] at hup
        have hpb : ∀ b, q ≤ 2 ^ b → (proof (wd k) j L).length ≤ b := fun b hb => by rw [← hwp.1]; exact way_bits b j q hb
        have u1 := fun A m c W h1 h2 => cCheck k (root (wd k) L) j q (L.getD j ByteArray.empty) A m c (proof (wd k) j L) W h1 h2 hj (by omega)
        rw [hup] at u1
        have hcj := hst.cell_ j (by rw [hll]; exact hj)
        obtain ⟨P, HP⟩ : ∃ x, Hid (proof (wd k) j L = x) := ⟨_, Lib.hid rfl⟩
        obtain ⟨R, HR⟩ : ∃ x, Hid (root (wd k) L = x) := ⟨_, Lib.hid rfl⟩
        obtain ⟨t, HT⟩ : ∃ x, Hid (L.getD j ByteArray.empty = x) := ⟨_, Lib.hid rfl⟩
        simp only [HP.out] at p1 hpb u1
        simp only [HR.out] at r1 u1
        simp only [HT.out] at u1 hcj
        have P1 := Lib.hid p1
        have R1 := Lib.hid r1
        have U1 := Lib.hid u1
        have HPB := Lib.hid hpb
        have HST := Lib.hid hst
        have HBB := Lib.hid HB.out
        have hjI : (j : Int) < (q : Int) := by omega
        clear p1 r1 u1 hpb hst hwp hup hpw hslr hll hlz hlen hfull HB HSR
        go_wp2_with fail
        (with_reducible refine (P1.out _ HST.out).mono ?_); rintro e w2 ⟨A3, c3, rfl, hc3, hs3, hb3⟩
        have HS3 := Lib.hid hs3
        have HB3 := Lib.hid (HBB.out.trans (hb3.mono hbs))
        clear hs3
        go_wp2_with fail
        have hb0 := Below.refl w2.heap.size w2
        go_loopw [11] (fun u wr => ∃ b : Nat, b ≤ 7 ∧ u = .int .i64 b ∧ Below w2.heap.size w2 wr) (fun u _ => 8 - (intOf u).toNat)
        case atStart => exact ⟨0, by omega, rfl, hb0⟩
        case round =>
          clear hb0
          obtain ⟨b, hb7, rfl, hb⟩ := hrel
          by_cases hlt2 : (0 : Int) < (q : Int) / 2 ^ b
          · have hb6 : b < 7 := by
              rcases Nat.lt_or_ge b 7 with h | h
              · exact h
              · have e7 : b = 7 := by omega
                subst e7
                have e8 : (2 : Int) ^ 7 = 128 := by decide
                rw [e8] at hlt2
                omega
            go_wp2_with fail
            go_roundw
            case rel => exact ⟨b + 1, by omega, by go_num, hb⟩
            case measure => simp [intOf]; omega
          · have hqb : q ≤ 2 ^ b := by
              have e8 : (q : Int) / 2 ^ b = ((q / 2 ^ b : Nat) : Int) := by rw [Int.natCast_ediv]; norm_cast
              rw [e8] at hlt2
              have e9 : q / 2 ^ b = 0 := Nat.eq_zero_of_not_pos (fun h => hlt2 (by exact_mod_cast h))
              have := (Nat.div_eq_zero_iff).1 e9
              have hp := Nat.one_le_two_pow (n := b)
              omega
            have hpl := HPB.out b hqb
            have hplI : (P.length : Int) ≤ (b : Int) := by omega
            have hplD : decide (P.length ≤ b) = true := decide_eq_true hpl
            have hltD : decide ((0 : Int) < (q : Int) / 2 ^ b) = false := decide_eq_false hlt2
            have HBW := Lib.hid (HB3.out.trans (hb.mono HB3.out.size))
            have HSW := Lib.hid (HST.out.fresh (hb3.trans (hb.mono hb3.size)))
            have HPW := Lib.hid (HS3.out.fresh hb)
            have HBD := Lib.hid HBW.out.drew
            obtain ⟨g, o, rfl, c0⟩ := HSW.out.cell_ j (by rw [← HLL.out, List.length_map, HL.out]; exact hj)
            rw [HT.out] at c0
            have hg : g < wr.heap.size := by
              obtain ⟨g', o', e1, e2, _⟩ := HSW.out (by rw [← HLL.out, List.length_map, HL.out]; omega)
              injection e1 with e1; injection e1 with e1 _ _; omega
            have hg : g < wr.drew.heap.size := hg
            have c0 : wr.drew.cell? ⟨g, o + j, none⟩ = some (.string t) := c0
            have r3 := R1.out wr.drew HSW.out
            have u3 := fun W (hb : Below wr.drew.heap.size wr.drew W) => U1.out A3 P.length c3 W rfl (HPW.out.drew.fresh hb) (by omega)
            have R3 := Lib.hid r3
            have U3 := Lib.hid u3
            clear hb hcj r3 u3
            go_wp2_with fail
            have hS0 := Below.refl wr.drew.heap.size wr.drew
            refine wp_region_lexS (fun w' => Below wr.drew.heap.size wr.drew w') 0 [] (by kernel_rfl) (by kernel_rfl) hS0 ?_
            repeat (first
              | (refine wpX_load0 rfl rfl _ _ rfl _ rfl _ rfl Try.underlying9 _ (fun w' h => (h.cell hg).trans c0) hS0 ?_; simp only [Act.put, List.setIfInBounds_toArray, List.set_cons_zero, List.set_cons_succ, List.getElem_toArray, List.getElem_cons_zero, List.getElem_cons_succ])
              | (refine wpX_pure rfl rfl rfl ?_; intro K hK; go_big_quiet_op; refine hK _ ?_; clear hK K)
              | (refine wpX_eff rfl rfl ?_; intro K hK; go_wp2_with fail; refine hK _ _ hS0 ?_; clear hK K))
            refine wpX_eff rfl rfl ?_; intro K hK; go_wp2_with fail
            (with_reducible refine R3.out.mono ?_); rintro e w5 ⟨rfl, hb5⟩
            go_wp2_with fail
            refine hK _ _ (hS0.trans (hb5.mono hS0.size)) ?_; clear hK K
            replace hS0 := hS0.trans (hb5.mono hS0.size)
            clear hb5
            repeat (first
              | (refine wpX_load0 rfl rfl _ _ rfl _ rfl _ rfl Try.underlying9 _ (fun w' h => (h.cell hg).trans c0) hS0 ?_; simp only [Act.put, List.setIfInBounds_toArray, List.set_cons_zero, List.set_cons_succ, List.getElem_toArray, List.getElem_cons_zero, List.getElem_cons_succ])
              | (refine wpX_pure rfl rfl rfl ?_; intro K hK; go_big_quiet_op; refine hK _ ?_; clear hK K)
              | (refine wpX_eff rfl rfl ?_; intro K hK; go_wp2_with fail; refine hK _ _ hS0 ?_; clear hK K))
            refine wpX_eff rfl rfl ?_; intro K hK; go_wp2_with fail
            (with_reducible refine (U3.out _ hS0).mono ?_); rintro e w5 ⟨rfl, hb5⟩
            go_wp2_with fail
            refine hK _ _ (hS0.trans (hb5.mono hS0.size)) ?_; clear hK K
            replace hS0 := hS0.trans (hb5.mono hS0.size)
            clear hb5
            repeat (first
              | (refine wpX_load0 rfl rfl _ _ rfl _ rfl _ rfl Try.underlying9 _ (fun w' h => (h.cell hg).trans c0) hS0 ?_; simp only [Act.put, List.setIfInBounds_toArray, List.set_cons_zero, List.set_cons_succ, List.getElem_toArray, List.getElem_cons_zero, List.getElem_cons_succ])
              | (refine wpX_pure rfl rfl rfl ?_; intro K hK; go_big_quiet_op; refine hK _ ?_; clear hK K)
              | (refine wpX_eff rfl rfl ?_; intro K hK; go_wp2_with fail; refine hK _ _ hS0 ?_; clear hK K))
            refine wpX_eff rfl rfl ?_; intro K hK; go_wp2_with fail
            (with_reducible refine (cAwake15 _).mono ?_); rintro e w5 ⟨rfl, hb5⟩
            go_wp2_with fail
            refine hK _ _ (hS0.trans (hb5.mono hS0.size)) ?_; clear hK K
            replace hS0 := hS0.trans (hb5.mono hS0.size)
            clear hb5
            repeat (first
              | (refine wpX_load0 rfl rfl _ _ rfl _ rfl _ rfl Try.underlying9 _ (fun w' h => (h.cell hg).trans c0) hS0 ?_; simp only [Act.put, List.setIfInBounds_toArray, List.set_cons_zero, List.set_cons_succ, List.getElem_toArray, List.getElem_cons_zero, List.getElem_cons_succ])
              | (refine wpX_pure rfl rfl rfl ?_; intro K hK; go_big_quiet_op; refine hK _ ?_; clear hK K)
              | (refine wpX_eff rfl rfl ?_; intro K hK; go_wp2_with fail; refine hK _ _ hS0 ?_; clear hK K))
            refine wpX_nil ?_
            go_wp2_with fail
            go_ret
            exact ⟨rfl, HBD.out.trans (hS0.mono HBD.out.size)⟩
end Go.Proofs.Ytkggpimminnniaa
