/-
  Walk of the law FnExactDictionaryRead.
-/
import Derived.Test.YtniemanapimjoaaMrk2
import Derived.Test.YtniemanapimjoaaRead
namespace Go.Proofs.Ytniemanapimjoaa
open Go.RowKit Go.Sort
set_option linter.unusedSimpArgs false
set_option linter.unusedVariables false

set_option maxRecDepth 100000 in
set_option maxHeartbeats 2000000 in
theorem walk_FnExactDictionaryRead (r0 : Row Sgn) (r1 : Row Str) (r2 : Row Stk) (w : World) (h0 : RowOk w sgnC SgnOk r0) (h1 : RowOk w strC StrOk r1) (h2 : RowOk w stkC StkOk r2) : Calls Try.prog 3 #[rowV r0, rowV r1, rowV r2] w fun e w' => e = .returned (.bool true) ∧ Below w.heap.size w w' := by
  obtain ⟨A0, c0, x0, e0, L0, o0, k0, m0⟩ := row_sgns h0
  rw [e0]
  have n0 : x0.length ≤ maxLen := Nat.le_trans k0 m0
  clear e0 h0
  obtain ⟨A1, c1, x1, e1, L1, o1, k1, m1⟩ := row_strs h1
  rw [e1]
  have n1 : x1.length ≤ maxLen := Nat.le_trans k1 m1
  clear e1 h1
  obtain ⟨A2, c2, x2, e2, L2, o2, k2, m2⟩ := row_stks h2
  rw [e2]
  have n2 : x2.length ≤ maxLen := Nat.le_trans k2 m2
  clear e2 h2
  go_enter Try.func3, Try.ntmps3
  go_wp2_with fail
  refine (sgns_szB x0 A0 c0 _ _ L0.top o0 n0 (by decide) (by decide)).mono ?_
  rintro e w1 ⟨⟨z0, rfl, hz0⟩, b1⟩
  have L0 := L0.below b1
  have L1 := L1.below b1
  have L2 := L2.below b1
  have zb1 := b1.size
  have ac0 : Below w.heap.size w _ := b1
  rcases hz0 with rfl | ⟨za0, zb0, zc0⟩
  · go_wp2
    go_ret
    exact ⟨rfl, ac0⟩
  have q0 : x0.length ≤ 1048576 := by omega
  go_wp2_with fail
  refine (strs_sz x1 A1 c1 _ _ L1.top o1 n1 za0 (by omega)).mono ?_
  rintro e w' ⟨⟨z1, rfl, hz1⟩, rfl⟩
  rcases hz1 with rfl | ⟨za1, zb1, zc1⟩
  · go_wp2
    go_ret
    exact ⟨rfl, ac0⟩
  have q1 : x1.length ≤ 1048576 := by omega
  go_wp2_with fail
  refine (stks_sz x2 A2 c2 _ _ L2.top o2 n2 za1 (by omega)).mono ?_
  rintro e w' ⟨⟨z2, rfl, hz2⟩, rfl⟩
  rcases hz2 with rfl | ⟨za2, zb2, zc2⟩
  · go_wp2
    go_ret
    exact ⟨rfl, ac0⟩
  have q2 : x2.length ≤ 1048576 := by omega
  have qr : (readOf x0 x1 x2).length ≤ 1048576 := (Nat.le_trans (readOf_len x0 x1 x2) (by decide))
  go_wp2_with fail
  refine (sgns_toO x0 A0 c0 _ L0.top o0 q0).mono ?_
  rintro e w2 ⟨U0, rfl, OU0, b2⟩
  have L0 := L0.below b2
  have L1 := L1.below b2
  have L2 := L2.below b2
  have zb2 := b2.size
  have ac1 := bel_trans ac0 b2
  have uU0 := fun k hk => (OU0.lt k hk).2
  go_wp2_with fail
  refine (strs_toO x1 A1 c1 _ L1.top o1 q1).mono ?_
  rintro e w3 ⟨U1, rfl, OU1, b3⟩
  have L0 := L0.below b3
  have L1 := L1.below b3
  have L2 := L2.below b3
  have OU0 := own_below OU0 b3
  have zb3 := b3.size
  have ac2 := bel_trans ac1 b3
  have uU1 := fun k hk => (OU1.lt k hk).2
  go_wp2_with fail
  refine (stks_toO x2 A2 c2 _ L2.top o2 q2).mono ?_
  rintro e w4 ⟨U2, rfl, OU2, b4⟩
  have L0 := L0.below b4
  have L1 := L1.below b4
  have L2 := L2.below b4
  have OU0 := own_below OU0 b4
  have OU1 := own_below OU1 b4
  have zb4 := b4.size
  have ac3 := bel_trans ac2 b4
  have uU2 := fun k hk => (OU2.lt k hk).2
  go_wp2_with fail
  refine (spec_DictionaryRead x0 x1 x2 U0 U1 U2 _ _ _ _ ((Seg.of_own OU0).mono (Nat.zero_le _) (Nat.le_refl _)) ((Seg.of_own OU1).mono (Nat.zero_le _) (Nat.le_refl _)) ((Seg.of_own OU2).mono (Nat.zero_le _) (Nat.le_refl _)) o0 o1 n0 n1 n2).mono ?_
  rintro e w5 ⟨vR, rfl, OR, b5⟩
  obtain ⟨AR, cR, rfl, _, _, _⟩ := OR.form
  have OR : _ := OR.own
  have L0 := L0.below b5
  have L1 := L1.below b5
  have L2 := L2.below b5
  have OU0 := own_below OU0 b5
  have OU1 := own_below OU1 b5
  have OU2 := own_below OU2 b5
  have zb5 := b5.size
  have ac4 := bel_trans ac3 b5
  have uR := fun k hk => (OR.lt k hk).2
  clear OU0
  clear OU1
  clear OU2
  go_wp2_with fail
  refine (sgns_toO x0 A0 c0 _ L0.top o0 q0).mono ?_
  rintro e w6 ⟨V0, rfl, OV0, b6⟩
  have L0 := L0.below b6
  have L1 := L1.below b6
  have L2 := L2.below b6
  have OR := own_below OR b6
  have zb6 := b6.size
  have ac5 := bel_trans ac4 b6
  have uV0 := fun k hk => (OV0.lt k hk).2
  go_wp2_with fail
  refine (strs_toO x1 A1 c1 _ L1.top o1 q1).mono ?_
  rintro e w7 ⟨V1, rfl, OV1, b7⟩
  have L0 := L0.below b7
  have L1 := L1.below b7
  have L2 := L2.below b7
  have OR := own_below OR b7
  have OV0 := own_below OV0 b7
  have zb7 := b7.size
  have ac6 := bel_trans ac5 b7
  have uV1 := fun k hk => (OV1.lt k hk).2
  go_wp2_with fail
  refine (stks_toO x2 A2 c2 _ L2.top o2 q2).mono ?_
  rintro e w8 ⟨V2, rfl, OV2, b8⟩
  have L0 := L0.below b8
  have L1 := L1.below b8
  have L2 := L2.below b8
  have OR := own_below OR b8
  have OV0 := own_below OV0 b8
  have OV1 := own_below OV1 b8
  have zb8 := b8.size
  have ac7 := bel_trans ac6 b8
  have uV2 := fun k hk => (OV2.lt k hk).2
  go_wp2_with fail
  refine (impl_DictionaryRead x0 x1 x2 V0 V1 V2 _ _ _ _ ((Seg.of_own OV0).mono (Nat.zero_le _) (Nat.le_refl _)) ((Seg.of_own OV1).mono (Nat.zero_le _) (Nat.le_refl _)) ((Seg.of_own OV2).mono (Nat.zero_le _) (Nat.le_refl _)) o0 o1 n0 n1 n2 (Nat.le_refl _) (Nat.le_trans q1 (by decide))).mono ?_
  rintro e w9 ⟨vG, rfl, OG, b9⟩
  obtain ⟨AG, cG, rfl, _, _, _⟩ := OG.form
  have OG : _ := OG.own
  have L0 := L0.below b9
  have L1 := L1.below b9
  have L2 := L2.below b9
  have OR := own_below OR b9
  have OV0 := own_below OV0 b9
  have OV1 := own_below OV1 b9
  have OV2 := own_below OV2 b9
  have zb9 := b9.size
  have ac8 := bel_trans ac7 b9
  have uG := fun k hk => (OG.lt k hk).2
  go_wp2_with fail
  refine (ints_eq (readOf x0 x1 x2) AG AR _ _ _ ((Seg.of_own OG).mono (Nat.zero_le _) (Nat.le_refl _)) ((Seg.of_own OR).mono (Nat.zero_le _) (Nat.le_refl _)) qr).mono ?_
  rintro e w10 ⟨rfl, b10⟩
  have L0 := L0.below b10
  have L1 := L1.below b10
  have L2 := L2.below b10
  have OR := own_below OR b10
  have OV0 := own_below OV0 b10
  have OV1 := own_below OV1 b10
  have OV2 := own_below OV2 b10
  have OG := own_below OG b10
  have zb10 := b10.size
  have ac9 := bel_trans ac8 b10
  go_wp2_with fail
  refine (sgns_toO x0 A0 c0 _ L0.top o0 q0).mono ?_
  rintro e w11 ⟨T0, rfl, OT0, b11⟩
  have L0 := L0.below b11
  have L1 := L1.below b11
  have L2 := L2.below b11
  have OR := own_below OR b11
  have OV0 := own_below OV0 b11
  have OV1 := own_below OV1 b11
  have OV2 := own_below OV2 b11
  have OG := own_below OG b11
  have zb11 := b11.size
  have ac10 := bel_trans ac9 b11
  have uT0 := fun k hk => (OT0.lt k hk).2
  go_wp2_with fail
  refine (sgns_eq (x0) V0 T0 _ _ _ ((Seg.of_own OV0).mono (Nat.zero_le _) (Nat.le_refl _)) ((Seg.of_own OT0).mono (Nat.zero_le _) (Nat.le_refl _)) q0).mono ?_
  rintro e w12 ⟨rfl, b12⟩
  have L0 := L0.below b12
  have L1 := L1.below b12
  have L2 := L2.below b12
  have OR := own_below OR b12
  have OV0 := own_below OV0 b12
  have OV1 := own_below OV1 b12
  have OV2 := own_below OV2 b12
  have OG := own_below OG b12
  have OT0 := own_below OT0 b12
  have zb12 := b12.size
  have ac11 := bel_trans ac10 b12
  clear OT0
  go_wp2_with fail
  refine (strs_toO x1 A1 c1 _ L1.top o1 q1).mono ?_
  rintro e w13 ⟨T1, rfl, OT1, b13⟩
  have L0 := L0.below b13
  have L1 := L1.below b13
  have L2 := L2.below b13
  have OR := own_below OR b13
  have OV0 := own_below OV0 b13
  have OV1 := own_below OV1 b13
  have OV2 := own_below OV2 b13
  have OG := own_below OG b13
  have zb13 := b13.size
  have ac12 := bel_trans ac11 b13
  have uT1 := fun k hk => (OT1.lt k hk).2
  go_wp2_with fail
  refine (strs_eq (x1) V1 T1 _ _ _ ((Seg.of_own OV1).mono (Nat.zero_le _) (Nat.le_refl _)) ((Seg.of_own OT1).mono (Nat.zero_le _) (Nat.le_refl _)) q1).mono ?_
  rintro e w14 ⟨rfl, b14⟩
  have L0 := L0.below b14
  have L1 := L1.below b14
  have L2 := L2.below b14
  have OR := own_below OR b14
  have OV0 := own_below OV0 b14
  have OV1 := own_below OV1 b14
  have OV2 := own_below OV2 b14
  have OG := own_below OG b14
  have OT1 := own_below OT1 b14
  have zb14 := b14.size
  have ac13 := bel_trans ac12 b14
  clear OT1
  go_wp2_with fail
  refine (stks_toO x2 A2 c2 _ L2.top o2 q2).mono ?_
  rintro e w15 ⟨T2, rfl, OT2, b15⟩
  have L0 := L0.below b15
  have L1 := L1.below b15
  have L2 := L2.below b15
  have OR := own_below OR b15
  have OV0 := own_below OV0 b15
  have OV1 := own_below OV1 b15
  have OV2 := own_below OV2 b15
  have OG := own_below OG b15
  have zb15 := b15.size
  have ac14 := bel_trans ac13 b15
  have uT2 := fun k hk => (OT2.lt k hk).2
  go_wp2_with fail
  refine (stks_eq (x2) V2 T2 _ _ _ ((Seg.of_own OV2).mono (Nat.zero_le _) (Nat.le_refl _)) ((Seg.of_own OT2).mono (Nat.zero_le _) (Nat.le_refl _)) q2).mono ?_
  rintro e w16 ⟨rfl, b16⟩
  have L0 := L0.below b16
  have L1 := L1.below b16
  have L2 := L2.below b16
  have OR := own_below OR b16
  have OV0 := own_below OV0 b16
  have OV1 := own_below OV1 b16
  have OV2 := own_below OV2 b16
  have OG := own_below OG b16
  have OT2 := own_below OT2 b16
  have zb16 := b16.size
  have ac15 := bel_trans ac14 b16
  clear OT2
  go_wp2_with fail
  refine (sgns_markG (x0) _ V0 _ (1) _ OV0 q0 (by omega) (by omega)).mono ?_
  rintro e w17 ⟨rfl, MV0, b17⟩
  have L0 := L0.grown b17 (fun k hk => .inr (by have := (OV0.lt k hk).1; omega))
  have L1 := L1.grown b17 (fun k hk => .inr (by have := (OV0.lt k hk).1; omega))
  have L2 := L2.grown b17 (fun k hk => .inr (by have := (OV0.lt k hk).1; omega))
  have OR := own_grew OR b17 (fun k h1 h2 => by have a1 := (OR.lt k h1).1; have a2 := (OV0.lt k h2).1; have a3 := uR k h1; have a4 := uV0 k h2; omega)
  have OV1 := own_grew OV1 b17 (fun k h1 h2 => by have a1 := (OV1.lt k h1).1; have a2 := (OV0.lt k h2).1; have a3 := uV1 k h1; have a4 := uV0 k h2; omega)
  have OV2 := own_grew OV2 b17 (fun k h1 h2 => by have a1 := (OV2.lt k h1).1; have a2 := (OV0.lt k h2).1; have a3 := uV2 k h1; have a4 := uV0 k h2; omega)
  have OG := own_grew OG b17 (fun k h1 h2 => by have a1 := (OG.lt k h1).1; have a2 := (OV0.lt k h2).1; have a3 := uG k h1; have a4 := uV0 k h2; omega)
  have zb17 := b17.size
  have ac16 := grown_bel ac15 b17 (fun k hk => by have := (OV0.lt k hk).1; omega)
  clear OV0
  have uMV0 := uV0
  clear MV0
  go_wp2_with fail
  refine (strs_markG (x1) _ V1 _ (1 + 3 * (x0.length : Int)) _ OV1 q1 (by omega) (by omega)).mono ?_
  rintro e w18 ⟨rfl, MV1, b18⟩
  have L0 := L0.grown b18 (fun k hk => .inr (by have := (OV1.lt k hk).1; omega))
  have L1 := L1.grown b18 (fun k hk => .inr (by have := (OV1.lt k hk).1; omega))
  have L2 := L2.grown b18 (fun k hk => .inr (by have := (OV1.lt k hk).1; omega))
  have OR := own_grew OR b18 (fun k h1 h2 => by have a1 := (OR.lt k h1).1; have a2 := (OV1.lt k h2).1; have a3 := uR k h1; have a4 := uV1 k h2; omega)
  have OV2 := own_grew OV2 b18 (fun k h1 h2 => by have a1 := (OV2.lt k h1).1; have a2 := (OV1.lt k h2).1; have a3 := uV2 k h1; have a4 := uV1 k h2; omega)
  have OG := own_grew OG b18 (fun k h1 h2 => by have a1 := (OG.lt k h1).1; have a2 := (OV1.lt k h2).1; have a3 := uG k h1; have a4 := uV1 k h2; omega)
  have zb18 := b18.size
  have ac17 := grown_bel ac16 b18 (fun k hk => by have := (OV1.lt k hk).1; omega)
  clear OV1
  have uMV1 := uV1
  clear MV1
  go_wp2_with fail
  refine (stks_markG (x2) _ V2 _ (1 + 3 * (x0.length : Int) + (x1.length : Int)) _ OV2 q2 (by omega) (by omega)).mono ?_
  rintro e w19 ⟨rfl, MV2, b19⟩
  have L0 := L0.grown b19 (fun k hk => .inr (by have := (OV2.lt k hk).1; omega))
  have L1 := L1.grown b19 (fun k hk => .inr (by have := (OV2.lt k hk).1; omega))
  have L2 := L2.grown b19 (fun k hk => .inr (by have := (OV2.lt k hk).1; omega))
  have OR := own_grew OR b19 (fun k h1 h2 => by have a1 := (OR.lt k h1).1; have a2 := (OV2.lt k h2).1; have a3 := uR k h1; have a4 := uV2 k h2; omega)
  have OG := own_grew OG b19 (fun k h1 h2 => by have a1 := (OG.lt k h1).1; have a2 := (OV2.lt k h2).1; have a3 := uG k h1; have a4 := uV2 k h2; omega)
  have zb19 := b19.size
  have ac18 := grown_bel ac17 b19 (fun k hk => by have := (OV2.lt k hk).1; omega)
  clear OV2
  have uMV2 := uV2
  clear MV2
  go_wp2_with fail
  refine (ints_eq (readOf x0 x1 x2) AG AR _ _ _ ((Seg.of_own OG).mono (Nat.zero_le _) (Nat.le_refl _)) ((Seg.of_own OR).mono (Nat.zero_le _) (Nat.le_refl _)) qr).mono ?_
  rintro e w20 ⟨rfl, b20⟩
  have L0 := L0.below b20
  have L1 := L1.below b20
  have L2 := L2.below b20
  have OR := own_below OR b20
  have OG := own_below OG b20
  have zb20 := b20.size
  have ac19 := bel_trans ac18 b20
  go_wp2_with fail
  refine (ints_markG (readOf x0 x1 x2) _ AG _ (1) _ OG qr (by omega) (by omega)).mono ?_
  rintro e w21 ⟨rfl, MG, b21⟩
  have L0 := L0.grown b21 (fun k hk => .inr (by have := (OG.lt k hk).1; omega))
  have L1 := L1.grown b21 (fun k hk => .inr (by have := (OG.lt k hk).1; omega))
  have L2 := L2.grown b21 (fun k hk => .inr (by have := (OG.lt k hk).1; omega))
  have OR := own_grew OR b21 (fun k h1 h2 => by have a1 := (OR.lt k h1).1; have a2 := (OG.lt k h2).1; have a3 := uR k h1; have a4 := uG k h2; omega)
  have zb21 := b21.size
  have ac20 := grown_bel ac19 b21 (fun k hk => by have := (OG.lt k hk).1; omega)
  clear OG
  have uMG := uG
  go_wp2_with fail
  refine (ints_heldB (readOf x0 x1 x2).length 1 AG _ _ ((Seg.of_own MG).mono (Nat.zero_le _) (Nat.le_refl _)) qr (by decide) (by decide)).mono ?_
  rintro e w22 ⟨rfl, b22⟩
  have L0 := L0.below b22
  have L1 := L1.below b22
  have L2 := L2.below b22
  have OR := own_below OR b22
  have MG := own_below MG b22
  have zb22 := b22.size
  have ac21 := bel_trans ac20 b22
  go_wp2_with fail
  refine (sgns_toO x0 A0 c0 _ L0.top o0 q0).mono ?_
  rintro e w23 ⟨Y0, rfl, OY0, b23⟩
  have L0 := L0.below b23
  have L1 := L1.below b23
  have L2 := L2.below b23
  have OR := own_below OR b23
  have MG := own_below MG b23
  have zb23 := b23.size
  have ac22 := bel_trans ac21 b23
  have uY0 := fun k hk => (OY0.lt k hk).2
  go_wp2_with fail
  refine (strs_toO x1 A1 c1 _ L1.top o1 q1).mono ?_
  rintro e w24 ⟨Y1, rfl, OY1, b24⟩
  have L0 := L0.below b24
  have L1 := L1.below b24
  have L2 := L2.below b24
  have OR := own_below OR b24
  have MG := own_below MG b24
  have OY0 := own_below OY0 b24
  have zb24 := b24.size
  have ac23 := bel_trans ac22 b24
  have uY1 := fun k hk => (OY1.lt k hk).2
  go_wp2_with fail
  refine (stks_toO x2 A2 c2 _ L2.top o2 q2).mono ?_
  rintro e w25 ⟨Y2, rfl, OY2, b25⟩
  have L0 := L0.below b25
  have L1 := L1.below b25
  have L2 := L2.below b25
  have OR := own_below OR b25
  have MG := own_below MG b25
  have OY0 := own_below OY0 b25
  have OY1 := own_below OY1 b25
  have zb25 := b25.size
  have ac24 := bel_trans ac23 b25
  have uY2 := fun k hk => (OY2.lt k hk).2
  go_wp2_with fail
  refine (impl_DictionaryRead x0 x1 x2 Y0 Y1 Y2 _ _ _ _ ((Seg.of_own OY0).mono (Nat.zero_le _) (Nat.le_refl _)) ((Seg.of_own OY1).mono (Nat.zero_le _) (Nat.le_refl _)) ((Seg.of_own OY2).mono (Nat.zero_le _) (Nat.le_refl _)) o0 o1 n0 n1 n2 (Nat.le_refl _) (Nat.le_trans q1 (by decide))).mono ?_
  rintro e w26 ⟨vH, rfl, OH, b26⟩
  obtain ⟨AH, cH, rfl, _, _, _⟩ := OH.form
  have OH : _ := OH.own
  have L0 := L0.below b26
  have L1 := L1.below b26
  have L2 := L2.below b26
  have OR := own_below OR b26
  have MG := own_below MG b26
  have OY0 := own_below OY0 b26
  have OY1 := own_below OY1 b26
  have OY2 := own_below OY2 b26
  have zb26 := b26.size
  have ac25 := bel_trans ac24 b26
  have uH := fun k hk => (OH.lt k hk).2
  go_wp2_with fail
  refine (ints_eq (readOf x0 x1 x2) AH AR _ _ _ ((Seg.of_own OH).mono (Nat.zero_le _) (Nat.le_refl _)) ((Seg.of_own OR).mono (Nat.zero_le _) (Nat.le_refl _)) qr).mono ?_
  rintro e w27 ⟨rfl, b27⟩
  have L0 := L0.below b27
  have L1 := L1.below b27
  have L2 := L2.below b27
  have OR := own_below OR b27
  have MG := own_below MG b27
  have OY0 := own_below OY0 b27
  have OY1 := own_below OY1 b27
  have OY2 := own_below OY2 b27
  have OH := own_below OH b27
  have zb27 := b27.size
  have ac26 := bel_trans ac25 b27
  go_wp2_with fail
  refine (ints_heldB (readOf x0 x1 x2).length 1 AG _ _ ((Seg.of_own MG).mono (Nat.zero_le _) (Nat.le_refl _)) qr (by decide) (by decide)).mono ?_
  rintro e w28 ⟨rfl, b28⟩
  have L0 := L0.below b28
  have L1 := L1.below b28
  have L2 := L2.below b28
  have OR := own_below OR b28
  have MG := own_below MG b28
  have OY0 := own_below OY0 b28
  have OY1 := own_below OY1 b28
  have OY2 := own_below OY2 b28
  have OH := own_below OH b28
  have zb28 := b28.size
  have ac27 := bel_trans ac26 b28
  go_wp2
  go_ret
  exact ⟨rfl, ac27⟩

end Go.Proofs.Ytniemanapimjoaa
