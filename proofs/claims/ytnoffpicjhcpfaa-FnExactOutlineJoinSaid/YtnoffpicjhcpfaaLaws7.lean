/-
  Walk of the law FnExactOutlineJoin.
-/
import Derived.Test.YtnoffpicjhcpfaaKinds2
namespace Go.Proofs.Ytnoffpicjhcpfaa
open Go.RowKit
set_option linter.unusedSimpArgs false
set_option linter.unusedVariables false

theorem joined_len (a b : List Stk) : (joined a b).length ≤ 8 := by
  unfold joined
  split
  · rename_i h
    simp only [joinOk, outOk, Bool.and_eq_true, decide_eq_true_eq] at h
    exact h.2.1
  · simp
theorem walk_FnExactOutlineJoin (r0 : Row Stk) (r1 : Row Stk) (w : World) (h0 : RowOk w stkC StkOk r0) (h1 : RowOk w stkC StkOk r1) : Calls Try.prog 11 #[rowV r0, rowV r1] w fun e w' => e = .returned (.bool true) ∧ Below w.heap.size w w' := by
  obtain ⟨A0, c0, x0, e0, L0, o0, k0, m0⟩ := row_stks h0
  rw [e0]
  have n0 : x0.length ≤ maxLen := Nat.le_trans k0 m0
  clear e0 h0
  obtain ⟨A1, c1, x1, e1, L1, o1, k1, m1⟩ := row_stks h1
  rw [e1]
  have n1 : x1.length ≤ maxLen := Nat.le_trans k1 m1
  clear e1 h1
  go_enter Try.func11, Try.ntmps11
  go_wp2_with fail
  refine (stks_sz x0 A0 c0 _ _ L0 o0 n0 (by decide) (by decide)).mono ?_
  rintro e w' ⟨⟨z0, rfl, hz0⟩, rfl⟩
  rcases hz0 with rfl | ⟨za0, zb0, zc0⟩
  · go_wp2
    go_ret
    exact ⟨rfl, Below.refl _ _⟩
  have q0 : x0.length ≤ 1048576 := by omega
  go_wp2_with fail
  refine (stks_sz x1 A1 c1 _ _ L1 o1 n1 za0 (by omega)).mono ?_
  rintro e w' ⟨⟨z1, rfl, hz1⟩, rfl⟩
  rcases hz1 with rfl | ⟨za1, zb1, zc1⟩
  · go_wp2
    go_ret
    exact ⟨rfl, Below.refl _ _⟩
  have q1 : x1.length ≤ 1048576 := by omega
  have qr : (joined x0 x1).length ≤ 1048576 := Nat.le_trans (joined_len x0 x1) (by decide)
  go_wp2_with fail
  refine (stks_toO x0 A0 c0 _ L0.top o0 q0).mono ?_
  rintro e w1 ⟨U0, rfl, OU0, b1⟩
  have L0 := L0.below b1
  have L1 := L1.below b1
  have zb1 := b1.size
  have uU0 := fun k hk => (OU0.lt k hk).2
  go_wp2_with fail
  refine (stks_toO x1 A1 c1 _ L1.top o1 q1).mono ?_
  rintro e w2 ⟨U1, rfl, OU1, b2⟩
  have L0 := L0.below b2
  have L1 := L1.below b2
  have OU0 := own_below OU0 b2
  have zb2 := b2.size
  have uU1 := fun k hk => (OU1.lt k hk).2
  go_wp2_with fail
  refine (spec_OutlineJoin x0 x1 U0 U1 _ _ _ ((Seg.of_own OU0).mono (Nat.zero_le _) (Nat.le_refl _)) ((Seg.of_own OU1).mono (Nat.zero_le _) (Nat.le_refl _)) q0 q1).mono ?_
  rintro e w3 ⟨vR, rfl, OR, b3⟩
  obtain ⟨AR, cR, rfl, _, _, _⟩ := OR.form
  have OR : _ := OR.own
  have L0 := L0.below b3
  have L1 := L1.below b3
  have OU0 := own_below OU0 b3
  have OU1 := own_below OU1 b3
  have zb3 := b3.size
  have uR := fun k hk => (OR.lt k hk).2
  clear OU0
  clear OU1
  go_wp2_with fail
  refine (stks_toO x0 A0 c0 _ L0.top o0 q0).mono ?_
  rintro e w4 ⟨V0, rfl, OV0, b4⟩
  have L0 := L0.below b4
  have L1 := L1.below b4
  have OR := own_below OR b4
  have zb4 := b4.size
  have uV0 := fun k hk => (OV0.lt k hk).2
  go_wp2_with fail
  refine (stks_toO x1 A1 c1 _ L1.top o1 q1).mono ?_
  rintro e w5 ⟨V1, rfl, OV1, b5⟩
  have L0 := L0.below b5
  have L1 := L1.below b5
  have OR := own_below OR b5
  have OV0 := own_below OV0 b5
  have zb5 := b5.size
  have uV1 := fun k hk => (OV1.lt k hk).2
  go_wp2_with fail
  refine (impl_OutlineJoin x0 x1 V0 V1 _ _ _ ((Seg.of_own OV0).mono (Nat.zero_le _) (Nat.le_refl _)) ((Seg.of_own OV1).mono (Nat.zero_le _) (Nat.le_refl _)) q0 q1).mono ?_
  rintro e w6 ⟨vG, rfl, OG, b6⟩
  obtain ⟨AG, cG, rfl, _, _, _⟩ := OG.form
  have OG : _ := OG.own
  have L0 := L0.below b6
  have L1 := L1.below b6
  have OR := own_below OR b6
  have OV0 := own_below OV0 b6
  have OV1 := own_below OV1 b6
  have zb6 := b6.size
  have uG := fun k hk => (OG.lt k hk).2
  go_wp2_with fail
  refine (stks_eq (joined x0 x1) AG AR _ _ _ ((Seg.of_own OG).mono (Nat.zero_le _) (Nat.le_refl _)) ((Seg.of_own OR).mono (Nat.zero_le _) (Nat.le_refl _)) qr).mono ?_
  rintro e w7 ⟨rfl, b7⟩
  have L0 := L0.below b7
  have L1 := L1.below b7
  have OR := own_below OR b7
  have OV0 := own_below OV0 b7
  have OV1 := own_below OV1 b7
  have OG := own_below OG b7
  have zb7 := b7.size
  go_wp2_with fail
  refine (stks_toO x0 A0 c0 _ L0.top o0 q0).mono ?_
  rintro e w8 ⟨T0, rfl, OT0, b8⟩
  have L0 := L0.below b8
  have L1 := L1.below b8
  have OR := own_below OR b8
  have OV0 := own_below OV0 b8
  have OV1 := own_below OV1 b8
  have OG := own_below OG b8
  have zb8 := b8.size
  have uT0 := fun k hk => (OT0.lt k hk).2
  go_wp2_with fail
  refine (stks_eq (x0) V0 T0 _ _ _ ((Seg.of_own OV0).mono (Nat.zero_le _) (Nat.le_refl _)) ((Seg.of_own OT0).mono (Nat.zero_le _) (Nat.le_refl _)) q0).mono ?_
  rintro e w9 ⟨rfl, b9⟩
  have L0 := L0.below b9
  have L1 := L1.below b9
  have OR := own_below OR b9
  have OV0 := own_below OV0 b9
  have OV1 := own_below OV1 b9
  have OG := own_below OG b9
  have OT0 := own_below OT0 b9
  have zb9 := b9.size
  clear OT0
  go_wp2_with fail
  refine (stks_toO x1 A1 c1 _ L1.top o1 q1).mono ?_
  rintro e w10 ⟨T1, rfl, OT1, b10⟩
  have L0 := L0.below b10
  have L1 := L1.below b10
  have OR := own_below OR b10
  have OV0 := own_below OV0 b10
  have OV1 := own_below OV1 b10
  have OG := own_below OG b10
  have zb10 := b10.size
  have uT1 := fun k hk => (OT1.lt k hk).2
  go_wp2_with fail
  refine (stks_eq (x1) V1 T1 _ _ _ ((Seg.of_own OV1).mono (Nat.zero_le _) (Nat.le_refl _)) ((Seg.of_own OT1).mono (Nat.zero_le _) (Nat.le_refl _)) q1).mono ?_
  rintro e w11 ⟨rfl, b11⟩
  have L0 := L0.below b11
  have L1 := L1.below b11
  have OR := own_below OR b11
  have OV0 := own_below OV0 b11
  have OV1 := own_below OV1 b11
  have OG := own_below OG b11
  have OT1 := own_below OT1 b11
  have zb11 := b11.size
  clear OT1
  go_wp2_with fail
  refine (stks_markO (x0) _ V0 _ (1) _ OV0 q0 (by omega) (by omega)).mono ?_
  rintro e w12 ⟨rfl, MV0, b12⟩
  have L0 := L0.grown b12.1 (fun k hk => .inr (by have := (OV0.lt k hk).1; omega))
  have L1 := L1.grown b12.1 (fun k hk => .inr (by have := (OV0.lt k hk).1; omega))
  have OR := own_wrote OR b12 (fun k h1 h2 => by have a1 := (OR.lt k h1).1; have a2 := (OV0.lt k h2).1; have a3 := uR k h1; have a4 := uV0 k h2; omega)
  have OV1 := own_wrote OV1 b12 (fun k h1 h2 => by have a1 := (OV1.lt k h1).1; have a2 := (OV0.lt k h2).1; have a3 := uV1 k h1; have a4 := uV0 k h2; omega)
  have OG := own_wrote OG b12 (fun k h1 h2 => by have a1 := (OG.lt k h1).1; have a2 := (OV0.lt k h2).1; have a3 := uG k h1; have a4 := uV0 k h2; omega)
  have zb12 := b12.2
  have bbb12 := wrote_below b12 (fun k hk => (OV0.lt k hk).1)
  clear OV0
  have uMV0 := uV0
  clear MV0
  go_wp2_with fail
  refine (stks_markO (x1) _ V1 _ (1 + 2 * (x0.length : Int)) _ OV1 q1 (by omega) (by omega)).mono ?_
  rintro e w13 ⟨rfl, MV1, b13⟩
  have L0 := L0.grown b13.1 (fun k hk => .inr (by have := (OV1.lt k hk).1; omega))
  have L1 := L1.grown b13.1 (fun k hk => .inr (by have := (OV1.lt k hk).1; omega))
  have OR := own_wrote OR b13 (fun k h1 h2 => by have a1 := (OR.lt k h1).1; have a2 := (OV1.lt k h2).1; have a3 := uR k h1; have a4 := uV1 k h2; omega)
  have OG := own_wrote OG b13 (fun k h1 h2 => by have a1 := (OG.lt k h1).1; have a2 := (OV1.lt k h2).1; have a3 := uG k h1; have a4 := uV1 k h2; omega)
  have zb13 := b13.2
  have bbb13 := wrote_below b13 (fun k hk => (OV1.lt k hk).1)
  clear OV1
  have uMV1 := uV1
  clear MV1
  go_wp2_with fail
  refine (stks_eq (joined x0 x1) AG AR _ _ _ ((Seg.of_own OG).mono (Nat.zero_le _) (Nat.le_refl _)) ((Seg.of_own OR).mono (Nat.zero_le _) (Nat.le_refl _)) qr).mono ?_
  rintro e w14 ⟨rfl, b14⟩
  have L0 := L0.below b14
  have L1 := L1.below b14
  have OR := own_below OR b14
  have OG := own_below OG b14
  have zb14 := b14.size
  go_wp2_with fail
  refine (stks_markO (joined x0 x1) _ AG _ (1) _ OG qr (by omega) (by omega)).mono ?_
  rintro e w15 ⟨rfl, MG, b15⟩
  have L0 := L0.grown b15.1 (fun k hk => .inr (by have := (OG.lt k hk).1; omega))
  have L1 := L1.grown b15.1 (fun k hk => .inr (by have := (OG.lt k hk).1; omega))
  have OR := own_wrote OR b15 (fun k h1 h2 => by have a1 := (OR.lt k h1).1; have a2 := (OG.lt k h2).1; have a3 := uR k h1; have a4 := uG k h2; omega)
  have zb15 := b15.2
  have bbb15 := wrote_below b15 (fun k hk => (OG.lt k hk).1)
  clear OG
  have uMG := uG
  go_wp2_with fail
  refine (stks_held (joined x0 x1).length 1 AG _ _ ((Seg.of_own MG).mono (Nat.zero_le _) (Nat.le_refl _)) qr (by decide) (by decide)).mono ?_
  rintro e w' ⟨rfl, rfl⟩
  go_wp2_with fail
  refine (stks_toO x0 A0 c0 _ L0.top o0 q0).mono ?_
  rintro e w16 ⟨Y0, rfl, OY0, b16⟩
  have L0 := L0.below b16
  have L1 := L1.below b16
  have OR := own_below OR b16
  have MG := own_below MG b16
  have zb16 := b16.size
  have uY0 := fun k hk => (OY0.lt k hk).2
  go_wp2_with fail
  refine (stks_toO x1 A1 c1 _ L1.top o1 q1).mono ?_
  rintro e w17 ⟨Y1, rfl, OY1, b17⟩
  have L0 := L0.below b17
  have L1 := L1.below b17
  have OR := own_below OR b17
  have MG := own_below MG b17
  have OY0 := own_below OY0 b17
  have zb17 := b17.size
  have uY1 := fun k hk => (OY1.lt k hk).2
  go_wp2_with fail
  refine (impl_OutlineJoin x0 x1 Y0 Y1 _ _ _ ((Seg.of_own OY0).mono (Nat.zero_le _) (Nat.le_refl _)) ((Seg.of_own OY1).mono (Nat.zero_le _) (Nat.le_refl _)) q0 q1).mono ?_
  rintro e w18 ⟨vH, rfl, OH, b18⟩
  obtain ⟨AH, cH, rfl, _, _, _⟩ := OH.form
  have OH : _ := OH.own
  have L0 := L0.below b18
  have L1 := L1.below b18
  have OR := own_below OR b18
  have MG := own_below MG b18
  have OY0 := own_below OY0 b18
  have OY1 := own_below OY1 b18
  have zb18 := b18.size
  have uH := fun k hk => (OH.lt k hk).2
  go_wp2_with fail
  refine (stks_eq (joined x0 x1) AH AR _ _ _ ((Seg.of_own OH).mono (Nat.zero_le _) (Nat.le_refl _)) ((Seg.of_own OR).mono (Nat.zero_le _) (Nat.le_refl _)) qr).mono ?_
  rintro e w19 ⟨rfl, b19⟩
  have L0 := L0.below b19
  have L1 := L1.below b19
  have OR := own_below OR b19
  have MG := own_below MG b19
  have OY0 := own_below OY0 b19
  have OY1 := own_below OY1 b19
  have OH := own_below OH b19
  have zb19 := b19.size
  go_wp2_with fail
  refine (stks_held (joined x0 x1).length 1 AG _ _ ((Seg.of_own MG).mono (Nat.zero_le _) (Nat.le_refl _)) qr (by decide) (by decide)).mono ?_
  rintro e w' ⟨rfl, rfl⟩
  have ac0 : Below w.heap.size w w1 := b1
  have ac1 := bel_trans ac0 b2
  have ac2 := bel_trans ac1 b3
  have ac3 := bel_trans ac2 b4
  have ac4 := bel_trans ac3 b5
  have ac5 := bel_trans ac4 b6
  have ac6 := bel_trans ac5 b7
  have ac7 := bel_trans ac6 b8
  have ac8 := bel_trans ac7 b9
  have ac9 := bel_trans ac8 b10
  have ac10 := bel_trans ac9 b11
  have ac11 := ac10.trans (bbb12.mono (by omega))
  have ac12 := ac11.trans (bbb13.mono (by omega))
  have ac13 := bel_trans ac12 b14
  have ac14 := ac13.trans (bbb15.mono (by omega))
  have ac15 := bel_trans ac14 b16
  have ac16 := bel_trans ac15 b17
  have ac17 := bel_trans ac16 b18
  have ac18 := bel_trans ac17 b19
  go_wp2
  go_ret
  exact ⟨rfl, ac18⟩

end Go.Proofs.Ytnoffpicjhcpfaa
