/-
  Walk of the law FnExactWrittenOf.
-/
import Derived.Test.YtoidjdbhdkbfhaaMrk2
import Derived.Test.YtoidjdbhdkbfhaaWof
import Derived.Test.YtoidjdbhdkbfhaaWrtK
namespace Go.Proofs.Ytoidjdbhdkbfhaa
open Go.RowKit Go.Sort
set_option linter.unusedSimpArgs false
set_option linter.unusedVariables false

theorem walk_FnExactWrittenOf (r0 : Row Sgn) (s1 : ByteArray) (w : World) (h0 : RowOk w sgnC SgnOk r0) (h1 : s1.size ≤ maxLen) : Calls Try.prog 4 #[rowV r0, .string s1] w fun e w' => e = .returned (.bool true) ∧ Below w.heap.size w w' := by
  obtain ⟨A0, c0, x0, e0, L0, o0, k0, m0⟩ := row_sgns h0
  rw [e0]
  have n0 : x0.length ≤ maxLen := Nat.le_trans k0 m0
  clear e0 h0
  have hm1 : s1.size ≤ 9223372036854775807 := h1
  by_cases hb1 : (1048576 : Int) < s1.size
  · go_enter Try.func4, Try.ntmps4
    go_wp2
    go_ret
    exact ⟨rfl, Below.refl _ _⟩
  go_enter Try.func4, Try.ntmps4
  go_wp2_with fail
  refine (sgns_szB x0 A0 c0 _ _ L0.top o0 n0 (by decide) (by decide)).mono ?_
  rintro e w1 ⟨⟨z0, rfl, hz0⟩, b1⟩
  have L0 := L0.below b1
  have zb1 := b1.size
  have ac0 : Below w.heap.size w _ := b1
  rcases hz0 with rfl | ⟨za0, zb0, zc0⟩
  · go_wp2
    go_ret
    exact ⟨rfl, ac0⟩
  have q0 : x0.length ≤ 1048576 := by omega
  have qr : (woOf x0 s1).length ≤ 1048576 := (Nat.le_trans (woOf_len x0 s1) (by decide))
  go_wp2_with fail
  refine (sgns_toO x0 A0 c0 _ L0.top o0 q0).mono ?_
  rintro e w2 ⟨U0, rfl, OU0, b2⟩
  have L0 := L0.below b2
  have zb2 := b2.size
  have ac1 := bel_trans ac0 b2
  have uU0 := fun k hk => (OU0.lt k hk).2
  go_wp2_with fail
  refine (spec_WrittenOf x0 s1 U0 _ _ ((Seg.of_own OU0).mono (Nat.zero_le _) (Nat.le_refl _)) o0 n0 h1).mono ?_
  rintro e w3 ⟨vR, rfl, OR, b3⟩
  obtain ⟨AR, cR, rfl, _, _, _⟩ := OR.form
  have OR : _ := OR.own
  have L0 := L0.below b3
  have OU0 := own_below OU0 b3
  have zb3 := b3.size
  have ac2 := bel_trans ac1 b3
  have uR := fun k hk => (OR.lt k hk).2
  have bxR := bel_alloc (Below.refl w3.heap.size w3) (.cells #[.slice AR (woOf x0 s1).length cR, .int .i64 (wofP x0 s1)] 35)
  have LXR := Seg.lit w3 #[.slice AR (woOf x0 s1).length cR, .int .i64 (wofP x0 s1)] 35
  have L0 := L0.below bxR
  have OU0 := own_below OU0 bxR
  have OR := own_below OR bxR
  have zbxR := bxR.size
  have ac3 := bel_trans ac2 bxR
  clear OU0
  go_wp2_with fail
  refine (sgns_toO x0 A0 c0 _ L0.top o0 q0).mono ?_
  rintro e w4 ⟨V0, rfl, OV0, b4⟩
  have L0 := L0.below b4
  have LXR := LXR.below b4
  have OR := own_below OR b4
  have zb4 := b4.size
  have ac4 := bel_trans ac3 b4
  have uV0 := fun k hk => (OV0.lt k hk).2
  go_wp2_with fail
  refine (impl_WrittenOf x0 s1 V0 _ _ ((Seg.of_own OV0).mono (Nat.zero_le _) (Nat.le_refl _)) o0 n0 h1).mono ?_
  rintro e w5 ⟨vG, rfl, OG, b5⟩
  obtain ⟨AG, cG, rfl, _, _, _⟩ := OG.form
  have OG : _ := OG.own
  have L0 := L0.below b5
  have LXR := LXR.below b5
  have OR := own_below OR b5
  have OV0 := own_below OV0 b5
  have zb5 := b5.size
  have ac5 := bel_trans ac4 b5
  have uG := fun k hk => (OG.lt k hk).2
  obtain ⟨kR0, kR1, kR2⟩ := LXR.box2
  have bxG := bel_alloc (Below.refl w5.heap.size w5) (.cells #[.slice AG (woOf x0 s1).length cG, .int .i64 (wofP x0 s1)] 35)
  have LXG := Seg.lit w5 #[.slice AG (woOf x0 s1).length cG, .int .i64 (wofP x0 s1)] 35
  have L0 := L0.below bxG
  have LXR := LXR.below bxG
  have OR := own_below OR bxG
  have OV0 := own_below OV0 bxG
  have OG := own_below OG bxG
  have zbxG := bxG.size
  have ac6 := bel_trans ac5 bxG
  go_wp2_with fail
  refine (wrt_eq (woOf x0 s1) (wofP x0 s1) AG AR _ _ _ ((Seg.of_own OG).mono (Nat.zero_le _) (Nat.le_refl _)) ((Seg.of_own OR).mono (Nat.zero_le _) (Nat.le_refl _)) qr).mono ?_
  rintro e w6 ⟨rfl, b6⟩
  have L0 := L0.below b6
  have LXR := LXR.below b6
  have LXG := LXG.below b6
  have OR := own_below OR b6
  have OV0 := own_below OV0 b6
  have OG := own_below OG b6
  have zb6 := b6.size
  have ac7 := bel_trans ac6 b6
  clear kR0 kR1 kR2
  go_wp2_with fail
  refine (sgns_toO x0 A0 c0 _ L0.top o0 q0).mono ?_
  rintro e w7 ⟨T0, rfl, OT0, b7⟩
  have L0 := L0.below b7
  have LXR := LXR.below b7
  have LXG := LXG.below b7
  have OR := own_below OR b7
  have OV0 := own_below OV0 b7
  have OG := own_below OG b7
  have zb7 := b7.size
  have ac8 := bel_trans ac7 b7
  have uT0 := fun k hk => (OT0.lt k hk).2
  go_wp2_with fail
  refine (sgns_eq (x0)  V0 T0 _ _ _ ((Seg.of_own OV0).mono (Nat.zero_le _) (Nat.le_refl _)) ((Seg.of_own OT0).mono (Nat.zero_le _) (Nat.le_refl _)) q0).mono ?_
  rintro e w8 ⟨rfl, b8⟩
  have L0 := L0.below b8
  have LXR := LXR.below b8
  have LXG := LXG.below b8
  have OR := own_below OR b8
  have OV0 := own_below OV0 b8
  have OG := own_below OG b8
  have OT0 := own_below OT0 b8
  have zb8 := b8.size
  have ac9 := bel_trans ac8 b8
  clear OT0
  go_wp2_with fail
  refine (sgns_markG (x0) _ V0 _  (1) _ OV0 q0 (by omega) (by omega)).mono ?_
  rintro e w9 ⟨rfl, MV0, b9⟩
  have L0 := L0.grown b9 (fun k hk => .inr (by have := (OV0.lt k hk).1; omega))
  have LXR := LXR.grown b9 (fun k hk => by have a1 := (OV0.lt k hk).1; have a3 := uV0 k hk; omega)
  have LXG := LXG.grown b9 (fun k hk => by have a1 := (OV0.lt k hk).1; have a3 := uV0 k hk; omega)
  have OR := own_grew OR b9 (fun k h1 h2 => by have a1 := (OR.lt k h1).1; have a2 := (OV0.lt k h2).1; have a3 := uR k h1; have a4 := uV0 k h2; omega)
  have OG := own_grew OG b9 (fun k h1 h2 => by have a1 := (OG.lt k h1).1; have a2 := (OV0.lt k h2).1; have a3 := uG k h1; have a4 := uV0 k h2; omega)
  have zb9 := b9.size
  have ac10 := grown_bel ac9 b9 (fun k hk => by have := (OV0.lt k hk).1; omega)
  clear OV0
  have uMV0 := uV0
  clear MV0
  obtain ⟨kG0, kG1, kG2⟩ := LXG.box2
  obtain ⟨kR0, kR1, kR2⟩ := LXR.box2
  go_wp2_with fail
  refine (wrt_eq (woOf x0 s1) (wofP x0 s1) AG AR _ _ _ ((Seg.of_own OG).mono (Nat.zero_le _) (Nat.le_refl _)) ((Seg.of_own OR).mono (Nat.zero_le _) (Nat.le_refl _)) qr).mono ?_
  rintro e w10 ⟨rfl, b10⟩
  have L0 := L0.below b10
  have LXR := LXR.below b10
  have LXG := LXG.below b10
  have OR := own_below OR b10
  have OG := own_below OG b10
  have zb10 := b10.size
  have ac11 := bel_trans ac10 b10
  clear kG0 kG1 kG2
  clear kR0 kR1 kR2
  obtain ⟨kG0, kG1, kG2⟩ := LXG.box2
  go_wp2_with fail
  refine (wrt_markG (woOf x0 s1) _ AG _ _ (1) _ OG qr (by omega) (by omega)).mono ?_
  rintro e w11 ⟨rfl, MG, b11⟩
  have L0 := L0.grown b11 (fun k hk => .inr (by have := (OG.lt k hk).1; omega))
  have LXR := LXR.grown b11 (fun k hk => by have a1 := (OG.lt k hk).1; have a3 := uG k hk; omega)
  have LXG := LXG.grown b11 (fun k hk => by have a1 := (OG.lt k hk).1; have a3 := uG k hk; omega)
  have OR := own_grew OR b11 (fun k h1 h2 => by have a1 := (OR.lt k h1).1; have a2 := (OG.lt k h2).1; have a3 := uR k h1; have a4 := uG k h2; omega)
  have zb11 := b11.size
  have ac12 := grown_bel ac11 b11 (fun k hk => by have := (OG.lt k hk).1; omega)
  clear OG
  have uMG := uG
  clear kG0 kG1 kG2
  obtain ⟨kG0, kG1, kG2⟩ := LXG.box2
  go_wp2_with fail
  refine (wrt_heldB (woOf x0 s1).length 1 _ AG _ _ ((Seg.of_own MG).mono (Nat.zero_le _) (Nat.le_refl _)) qr (by decide) (by decide)).mono ?_
  rintro e w12 ⟨rfl, b12⟩
  have L0 := L0.below b12
  have LXR := LXR.below b12
  have LXG := LXG.below b12
  have OR := own_below OR b12
  have MG := own_below MG b12
  have zb12 := b12.size
  have ac13 := bel_trans ac12 b12
  clear kG0 kG1 kG2
  go_wp2_with fail
  refine (sgns_toO x0 A0 c0 _ L0.top o0 q0).mono ?_
  rintro e w13 ⟨Y0, rfl, OY0, b13⟩
  have L0 := L0.below b13
  have LXR := LXR.below b13
  have LXG := LXG.below b13
  have OR := own_below OR b13
  have MG := own_below MG b13
  have zb13 := b13.size
  have ac14 := bel_trans ac13 b13
  have uY0 := fun k hk => (OY0.lt k hk).2
  go_wp2_with fail
  refine (impl_WrittenOf x0 s1 Y0 _ _ ((Seg.of_own OY0).mono (Nat.zero_le _) (Nat.le_refl _)) o0 n0 h1).mono ?_
  rintro e w14 ⟨vH, rfl, OH, b14⟩
  obtain ⟨AH, cH, rfl, _, _, _⟩ := OH.form
  have OH : _ := OH.own
  have L0 := L0.below b14
  have LXR := LXR.below b14
  have LXG := LXG.below b14
  have OR := own_below OR b14
  have MG := own_below MG b14
  have OY0 := own_below OY0 b14
  have zb14 := b14.size
  have ac15 := bel_trans ac14 b14
  have uH := fun k hk => (OH.lt k hk).2
  obtain ⟨kR0, kR1, kR2⟩ := LXR.box2
  have bxH := bel_alloc (Below.refl w14.heap.size w14) (.cells #[.slice AH (woOf x0 s1).length cH, .int .i64 (wofP x0 s1)] 35)
  have LXH := Seg.lit w14 #[.slice AH (woOf x0 s1).length cH, .int .i64 (wofP x0 s1)] 35
  have L0 := L0.below bxH
  have LXR := LXR.below bxH
  have LXG := LXG.below bxH
  have OR := own_below OR bxH
  have MG := own_below MG bxH
  have OY0 := own_below OY0 bxH
  have OH := own_below OH bxH
  have zbxH := bxH.size
  have ac16 := bel_trans ac15 bxH
  go_wp2_with fail
  refine (wrt_eq (woOf x0 s1) (wofP x0 s1) AH AR _ _ _ ((Seg.of_own OH).mono (Nat.zero_le _) (Nat.le_refl _)) ((Seg.of_own OR).mono (Nat.zero_le _) (Nat.le_refl _)) qr).mono ?_
  rintro e w15 ⟨rfl, b15⟩
  have L0 := L0.below b15
  have LXR := LXR.below b15
  have LXG := LXG.below b15
  have LXH := LXH.below b15
  have OR := own_below OR b15
  have MG := own_below MG b15
  have OY0 := own_below OY0 b15
  have OH := own_below OH b15
  have zb15 := b15.size
  have ac17 := bel_trans ac16 b15
  clear kR0 kR1 kR2
  obtain ⟨kG0, kG1, kG2⟩ := LXG.box2
  go_wp2_with fail
  refine (wrt_heldB (woOf x0 s1).length 1 _ AG _ _ ((Seg.of_own MG).mono (Nat.zero_le _) (Nat.le_refl _)) qr (by decide) (by decide)).mono ?_
  rintro e w16 ⟨rfl, b16⟩
  have L0 := L0.below b16
  have LXR := LXR.below b16
  have LXG := LXG.below b16
  have LXH := LXH.below b16
  have OR := own_below OR b16
  have MG := own_below MG b16
  have OY0 := own_below OY0 b16
  have OH := own_below OH b16
  have zb16 := b16.size
  have ac18 := bel_trans ac17 b16
  clear kG0 kG1 kG2
  go_wp2
  go_ret
  exact ⟨rfl, ac18⟩

end Go.Proofs.Ytoidjdbhdkbfhaa
