/-
  Walk of the law FnExactDictionaryWritten.
-/
import Derived.Test.YtoidjdbhdkbfhaaMrk2
import Derived.Test.YtoidjdbhdkbfhaaDict
namespace Go.Proofs.Ytoidjdbhdkbfhaa
open Go.RowKit Go.Sort
set_option linter.unusedSimpArgs false
set_option linter.unusedVariables false

theorem walk_FnExactDictionaryWritten (r0 : Row Sgn) (r1 : Row Str) (w : World) (h0 : RowOk w sgnC SgnOk r0) (h1 : RowOk w strC StrOk r1) : Calls Try.prog 5 #[rowV r0, rowV r1] w fun e w' => e = .returned (.bool true) ∧ Below w.heap.size w w' := by
  obtain ⟨A0, c0, x0, e0, L0, o0, k0, m0⟩ := row_sgns h0
  rw [e0]
  have n0 : x0.length ≤ maxLen := Nat.le_trans k0 m0
  clear e0 h0
  obtain ⟨A1, c1, x1, e1, L1, o1, k1, m1⟩ := row_strs h1
  rw [e1]
  have n1 : x1.length ≤ maxLen := Nat.le_trans k1 m1
  clear e1 h1
  go_enter Try.func5, Try.ntmps5
  go_wp2_with fail
  refine (sgns_szB x0 A0 c0 _ _ L0.top o0 n0 (by decide) (by decide)).mono ?_
  rintro e w1 ⟨⟨z0, rfl, hz0⟩, b1⟩
  have L0 := L0.below b1
  have L1 := L1.below b1
  have zb1 := b1.size
  have ac0 : Below w.heap.size w _ := b1
  rcases hz0 with rfl | ⟨za0, zb0, zc0⟩
  · go_wp2
    go_ret
    exact ⟨rfl, ac0⟩
  have q0 : x0.length ≤ 1048576 := by omega
  go_wp2_with fail
  refine (strs_sz x1 A1 c1 _ _ L1.top o1 n1 za0 (by omega)).mono ?_
  rintro e w' ⟨⟨z1, rfl, hz1⟩, rfl⟩
  rcases hz1 with rfl | ⟨za1, zb1, zc1⟩
  · go_wp2
    go_ret
    exact ⟨rfl, ac0⟩
  have q1 : x1.length ≤ 1048576 := by omega
  have qr : (idxs (writOf x0 x1)).length ≤ 1048576 := (by rw [idxs_len]; exact Nat.le_trans (writOf_len x0 x1) (by decide))
  go_wp2_with fail
  refine (sgns_toO x0 A0 c0 _ L0.top o0 q0).mono ?_
  rintro e w2 ⟨U0, rfl, OU0, b2⟩
  have L0 := L0.below b2
  have L1 := L1.below b2
  have zb2 := b2.size
  have ac1 := bel_trans ac0 b2
  have uU0 := fun k hk => (OU0.lt k hk).2
  go_wp2_with fail
  refine (strs_toO x1 A1 c1 _ L1.top o1 q1).mono ?_
  rintro e w3 ⟨U1, rfl, OU1, b3⟩
  have L0 := L0.below b3
  have L1 := L1.below b3
  have OU0 := own_below OU0 b3
  have zb3 := b3.size
  have ac2 := bel_trans ac1 b3
  have uU1 := fun k hk => (OU1.lt k hk).2
  go_wp2_with fail
  refine (spec_DictionaryWritten x0 x1 U0 U1 _ _ _ ((Seg.of_own OU0).mono (Nat.zero_le _) (Nat.le_refl _)) ((Seg.of_own OU1).mono (Nat.zero_le _) (Nat.le_refl _)) o0 o1 n0 n1).mono ?_
  rintro e w4 ⟨vR, rfl, OR, b4⟩
  obtain ⟨AR, cR, rfl, _, _, _⟩ := OR.form
  have OR : _ := OR.own
  have L0 := L0.below b4
  have L1 := L1.below b4
  have OU0 := own_below OU0 b4
  have OU1 := own_below OU1 b4
  have zb4 := b4.size
  have ac3 := bel_trans ac2 b4
  have uR := fun k hk => (OR.lt k hk).2
  clear OU0
  clear OU1
  go_wp2_with fail
  refine (sgns_toO x0 A0 c0 _ L0.top o0 q0).mono ?_
  rintro e w5 ⟨V0, rfl, OV0, b5⟩
  have L0 := L0.below b5
  have L1 := L1.below b5
  have OR := own_below OR b5
  have zb5 := b5.size
  have ac4 := bel_trans ac3 b5
  have uV0 := fun k hk => (OV0.lt k hk).2
  go_wp2_with fail
  refine (strs_toO x1 A1 c1 _ L1.top o1 q1).mono ?_
  rintro e w6 ⟨V1, rfl, OV1, b6⟩
  have L0 := L0.below b6
  have L1 := L1.below b6
  have OR := own_below OR b6
  have OV0 := own_below OV0 b6
  have zb6 := b6.size
  have ac5 := bel_trans ac4 b6
  have uV1 := fun k hk => (OV1.lt k hk).2
  go_wp2_with fail
  refine (impl_DictionaryWritten x0 x1 V0 V1 _ _ _ ((Seg.of_own OV0).mono (Nat.zero_le _) (Nat.le_refl _)) ((Seg.of_own OV1).mono (Nat.zero_le _) (Nat.le_refl _)) o0 o1 n0 n1 (Nat.le_refl _) (Nat.le_trans q1 (by decide))).mono ?_
  rintro e w7 ⟨vG, rfl, OG, b7⟩
  obtain ⟨AG, cG, rfl, _, _, _⟩ := OG.form
  have OG : _ := OG.own
  have L0 := L0.below b7
  have L1 := L1.below b7
  have OR := own_below OR b7
  have OV0 := own_below OV0 b7
  have OV1 := own_below OV1 b7
  have zb7 := b7.size
  have ac6 := bel_trans ac5 b7
  have uG := fun k hk => (OG.lt k hk).2
  go_wp2_with fail
  refine (ints_eq (idxs (writOf x0 x1)) AG AR _ _ _ ((Seg.of_own OG).mono (Nat.zero_le _) (Nat.le_refl _)) ((Seg.of_own OR).mono (Nat.zero_le _) (Nat.le_refl _)) qr).mono ?_
  rintro e w8 ⟨rfl, b8⟩
  have L0 := L0.below b8
  have L1 := L1.below b8
  have OR := own_below OR b8
  have OV0 := own_below OV0 b8
  have OV1 := own_below OV1 b8
  have OG := own_below OG b8
  have zb8 := b8.size
  have ac7 := bel_trans ac6 b8
  go_wp2_with fail
  refine (sgns_toO x0 A0 c0 _ L0.top o0 q0).mono ?_
  rintro e w9 ⟨T0, rfl, OT0, b9⟩
  have L0 := L0.below b9
  have L1 := L1.below b9
  have OR := own_below OR b9
  have OV0 := own_below OV0 b9
  have OV1 := own_below OV1 b9
  have OG := own_below OG b9
  have zb9 := b9.size
  have ac8 := bel_trans ac7 b9
  have uT0 := fun k hk => (OT0.lt k hk).2
  go_wp2_with fail
  refine (sgns_eq (x0) V0 T0 _ _ _ ((Seg.of_own OV0).mono (Nat.zero_le _) (Nat.le_refl _)) ((Seg.of_own OT0).mono (Nat.zero_le _) (Nat.le_refl _)) q0).mono ?_
  rintro e w10 ⟨rfl, b10⟩
  have L0 := L0.below b10
  have L1 := L1.below b10
  have OR := own_below OR b10
  have OV0 := own_below OV0 b10
  have OV1 := own_below OV1 b10
  have OG := own_below OG b10
  have OT0 := own_below OT0 b10
  have zb10 := b10.size
  have ac9 := bel_trans ac8 b10
  clear OT0
  go_wp2_with fail
  refine (strs_toO x1 A1 c1 _ L1.top o1 q1).mono ?_
  rintro e w11 ⟨T1, rfl, OT1, b11⟩
  have L0 := L0.below b11
  have L1 := L1.below b11
  have OR := own_below OR b11
  have OV0 := own_below OV0 b11
  have OV1 := own_below OV1 b11
  have OG := own_below OG b11
  have zb11 := b11.size
  have ac10 := bel_trans ac9 b11
  have uT1 := fun k hk => (OT1.lt k hk).2
  go_wp2_with fail
  refine (strs_eq (x1) V1 T1 _ _ _ ((Seg.of_own OV1).mono (Nat.zero_le _) (Nat.le_refl _)) ((Seg.of_own OT1).mono (Nat.zero_le _) (Nat.le_refl _)) q1).mono ?_
  rintro e w12 ⟨rfl, b12⟩
  have L0 := L0.below b12
  have L1 := L1.below b12
  have OR := own_below OR b12
  have OV0 := own_below OV0 b12
  have OV1 := own_below OV1 b12
  have OG := own_below OG b12
  have OT1 := own_below OT1 b12
  have zb12 := b12.size
  have ac11 := bel_trans ac10 b12
  clear OT1
  go_wp2_with fail
  refine (sgns_markG (x0) _ V0 _ (1) _ OV0 q0 (by omega) (by omega)).mono ?_
  rintro e w13 ⟨rfl, MV0, b13⟩
  have L0 := L0.grown b13 (fun k hk => .inr (by have := (OV0.lt k hk).1; omega))
  have L1 := L1.grown b13 (fun k hk => .inr (by have := (OV0.lt k hk).1; omega))
  have OR := own_grew OR b13 (fun k h1 h2 => by have a1 := (OR.lt k h1).1; have a2 := (OV0.lt k h2).1; have a3 := uR k h1; have a4 := uV0 k h2; omega)
  have OV1 := own_grew OV1 b13 (fun k h1 h2 => by have a1 := (OV1.lt k h1).1; have a2 := (OV0.lt k h2).1; have a3 := uV1 k h1; have a4 := uV0 k h2; omega)
  have OG := own_grew OG b13 (fun k h1 h2 => by have a1 := (OG.lt k h1).1; have a2 := (OV0.lt k h2).1; have a3 := uG k h1; have a4 := uV0 k h2; omega)
  have zb13 := b13.size
  have ac12 := grown_bel ac11 b13 (fun k hk => by have := (OV0.lt k hk).1; omega)
  clear OV0
  have uMV0 := uV0
  clear MV0
  go_wp2_with fail
  refine (strs_markG (x1) _ V1 _ (1 + 3 * (x0.length : Int)) _ OV1 q1 (by omega) (by omega)).mono ?_
  rintro e w14 ⟨rfl, MV1, b14⟩
  have L0 := L0.grown b14 (fun k hk => .inr (by have := (OV1.lt k hk).1; omega))
  have L1 := L1.grown b14 (fun k hk => .inr (by have := (OV1.lt k hk).1; omega))
  have OR := own_grew OR b14 (fun k h1 h2 => by have a1 := (OR.lt k h1).1; have a2 := (OV1.lt k h2).1; have a3 := uR k h1; have a4 := uV1 k h2; omega)
  have OG := own_grew OG b14 (fun k h1 h2 => by have a1 := (OG.lt k h1).1; have a2 := (OV1.lt k h2).1; have a3 := uG k h1; have a4 := uV1 k h2; omega)
  have zb14 := b14.size
  have ac13 := grown_bel ac12 b14 (fun k hk => by have := (OV1.lt k hk).1; omega)
  clear OV1
  have uMV1 := uV1
  clear MV1
  go_wp2_with fail
  refine (ints_eq (idxs (writOf x0 x1)) AG AR _ _ _ ((Seg.of_own OG).mono (Nat.zero_le _) (Nat.le_refl _)) ((Seg.of_own OR).mono (Nat.zero_le _) (Nat.le_refl _)) qr).mono ?_
  rintro e w15 ⟨rfl, b15⟩
  have L0 := L0.below b15
  have L1 := L1.below b15
  have OR := own_below OR b15
  have OG := own_below OG b15
  have zb15 := b15.size
  have ac14 := bel_trans ac13 b15
  go_wp2_with fail
  refine (ints_markG (idxs (writOf x0 x1)) _ AG _ (1) _ OG qr (by omega) (by omega)).mono ?_
  rintro e w16 ⟨rfl, MG, b16⟩
  have L0 := L0.grown b16 (fun k hk => .inr (by have := (OG.lt k hk).1; omega))
  have L1 := L1.grown b16 (fun k hk => .inr (by have := (OG.lt k hk).1; omega))
  have OR := own_grew OR b16 (fun k h1 h2 => by have a1 := (OR.lt k h1).1; have a2 := (OG.lt k h2).1; have a3 := uR k h1; have a4 := uG k h2; omega)
  have zb16 := b16.size
  have ac15 := grown_bel ac14 b16 (fun k hk => by have := (OG.lt k hk).1; omega)
  clear OG
  have uMG := uG
  go_wp2_with fail
  refine (ints_heldB (idxs (writOf x0 x1)).length 1 AG _ _ ((Seg.of_own MG).mono (Nat.zero_le _) (Nat.le_refl _)) qr (by decide) (by decide)).mono ?_
  rintro e w17 ⟨rfl, b17⟩
  have L0 := L0.below b17
  have L1 := L1.below b17
  have OR := own_below OR b17
  have MG := own_below MG b17
  have zb17 := b17.size
  have ac16 := bel_trans ac15 b17
  go_wp2_with fail
  refine (sgns_toO x0 A0 c0 _ L0.top o0 q0).mono ?_
  rintro e w18 ⟨Y0, rfl, OY0, b18⟩
  have L0 := L0.below b18
  have L1 := L1.below b18
  have OR := own_below OR b18
  have MG := own_below MG b18
  have zb18 := b18.size
  have ac17 := bel_trans ac16 b18
  have uY0 := fun k hk => (OY0.lt k hk).2
  go_wp2_with fail
  refine (strs_toO x1 A1 c1 _ L1.top o1 q1).mono ?_
  rintro e w19 ⟨Y1, rfl, OY1, b19⟩
  have L0 := L0.below b19
  have L1 := L1.below b19
  have OR := own_below OR b19
  have MG := own_below MG b19
  have OY0 := own_below OY0 b19
  have zb19 := b19.size
  have ac18 := bel_trans ac17 b19
  have uY1 := fun k hk => (OY1.lt k hk).2
  go_wp2_with fail
  refine (impl_DictionaryWritten x0 x1 Y0 Y1 _ _ _ ((Seg.of_own OY0).mono (Nat.zero_le _) (Nat.le_refl _)) ((Seg.of_own OY1).mono (Nat.zero_le _) (Nat.le_refl _)) o0 o1 n0 n1 (Nat.le_refl _) (Nat.le_trans q1 (by decide))).mono ?_
  rintro e w20 ⟨vH, rfl, OH, b20⟩
  obtain ⟨AH, cH, rfl, _, _, _⟩ := OH.form
  have OH : _ := OH.own
  have L0 := L0.below b20
  have L1 := L1.below b20
  have OR := own_below OR b20
  have MG := own_below MG b20
  have OY0 := own_below OY0 b20
  have OY1 := own_below OY1 b20
  have zb20 := b20.size
  have ac19 := bel_trans ac18 b20
  have uH := fun k hk => (OH.lt k hk).2
  go_wp2_with fail
  refine (ints_eq (idxs (writOf x0 x1)) AH AR _ _ _ ((Seg.of_own OH).mono (Nat.zero_le _) (Nat.le_refl _)) ((Seg.of_own OR).mono (Nat.zero_le _) (Nat.le_refl _)) qr).mono ?_
  rintro e w21 ⟨rfl, b21⟩
  have L0 := L0.below b21
  have L1 := L1.below b21
  have OR := own_below OR b21
  have MG := own_below MG b21
  have OY0 := own_below OY0 b21
  have OY1 := own_below OY1 b21
  have OH := own_below OH b21
  have zb21 := b21.size
  have ac20 := bel_trans ac19 b21
  go_wp2_with fail
  refine (ints_heldB (idxs (writOf x0 x1)).length 1 AG _ _ ((Seg.of_own MG).mono (Nat.zero_le _) (Nat.le_refl _)) qr (by decide) (by decide)).mono ?_
  rintro e w22 ⟨rfl, b22⟩
  have L0 := L0.below b22
  have L1 := L1.below b22
  have OR := own_below OR b22
  have MG := own_below MG b22
  have OY0 := own_below OY0 b22
  have OY1 := own_below OY1 b22
  have OH := own_below OH b22
  have zb22 := b22.size
  have ac21 := bel_trans ac20 b22
  go_wp2
  go_ret
  exact ⟨rfl, ac21⟩

end Go.Proofs.Ytoidjdbhdkbfhaa
