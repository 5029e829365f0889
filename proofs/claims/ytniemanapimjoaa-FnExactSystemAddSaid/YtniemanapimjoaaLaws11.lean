/-
  Walk of the law FnExactSystemAdd.
-/
import Derived.Test.YtniemanapimjoaaMrk
import Derived.Test.YtniemanapimjoaaAdd
import Derived.Deep.RegionHeld3
namespace Go.Proofs.Ytniemanapimjoaa
open Go.RowKit Go.Sort
set_option linter.unusedSimpArgs false
set_option linter.unusedVariables false

theorem Seg.box3 {w : World} {lo hi b : Nat} {u0 u1 u2 : Value} (h : Seg w lo hi (some ⟨b, 0, none⟩) [u0, u1, u2]) : w.cell? ⟨b, 0, none⟩ = some u0 ∧ w.cell? ⟨b, 1, none⟩ = some u1 ∧ w.cell? ⟨b, 2, none⟩ = some u2 := by
  rcases h with h | ⟨g, o, e, _, _, _, hc⟩
  · cases h
  · injection e with e
    injection e with e1 e2
    subst e1 e2
    exact ⟨hc 0 _ rfl, hc 1 _ rfl, hc 2 _ rfl⟩
theorem walk_FnExactSystemAdd (r0 : Row Sgn) (y1 : Sgn) (w : World) (h0 : RowOk w sgnC SgnOk r0) (h1 : SgnOk y1) : Calls Try.prog 8 #[rowV r0, .agg #[.string y1.1, .int .i64 y1.2.1, .int .i64 y1.2.2]] w fun e w' => e = .returned (.bool true) ∧ Below w.heap.size w w' := by
  obtain ⟨A0, c0, x0, e0, L0, o0, k0, m0⟩ := row_sgns h0
  rw [e0]
  have n0 : x0.length ≤ maxLen := Nat.le_trans k0 m0
  clear e0 h0
  go_enter Try.func8, Try.ntmps8
  have b0 := bel_alloc (Below.refl w.heap.size w) (.cells #[.string y1.1, .int .i64 y1.2.1, .int .i64 y1.2.2] 67)
  have L0 := L0.below b0
  have zb0 := b0.size
  have ac0 : Below w.heap.size w _ := b0
  have LX := Seg.lit w #[.string y1.1, .int .i64 y1.2.1, .int .i64 y1.2.2] 67
  have eX : (w.alloc (.cells #[.string y1.1, .int .i64 y1.2.1, .int .i64 y1.2.2] 67)).heap.size = w.heap.size + 1 := by simp
  rw [eX] at LX
  have zX := Nat.le_of_eq eX.symm
  clear eX
  go_wp2_with fail
  refine (sgns_szB x0 A0 c0 _ _ L0.top o0 n0 (by decide) (by decide)).mono ?_
  rintro e w1 ⟨⟨z0, rfl, hz0⟩, b1⟩
  have L0 := L0.below b1
  have LX := LX.below b1
  have zb1 := b1.size
  have ac1 := bel_trans ac0 b1
  rcases hz0 with rfl | ⟨za0, zb0, zc0⟩
  · go_wp2
    go_ret
    exact ⟨rfl, ac1⟩
  have q0 : x0.length ≤ 1048576 := by omega
  obtain ⟨kx0, kx1, kx2⟩ := LX.box3
  go_wp2_with fail
  refine (laws_szSign y1 _ _ h1.1 za0 (by omega)).mono ?_
  rintro e w2 ⟨⟨z1, rfl, hz1⟩, b2⟩
  have L0 := L0.below b2
  have LX := LX.below b2
  have zb2 := b2.size
  have ac2 := bel_trans ac1 b2
  rcases hz1 with rfl | ⟨za1, zb1⟩
  · go_wp2
    go_ret
    exact ⟨rfl, ac2⟩
  have qr : (added x0 y1).length ≤ 1048576 := Nat.le_trans (added_len x0 y1) (by decide)
  obtain ⟨kx0, kx1, kx2⟩ := LX.box3
  go_wp2
  have b3 := (Below.refl _ w2).drew (B := w2.heap.size)
  have L0 := L0.below b3
  have LX := LX.below b3
  have zb3 := b3.size
  have ac3 := bel_trans ac2 b3
  go_region_held3 (fun w' => w'.cell? ⟨w.heap.size, 0, none⟩ = some (.string y1.1) ∧ w'.cell? ⟨w.heap.size, 1, none⟩ = some (.int .i64 y1.2.1) ∧ w'.cell? ⟨w.heap.size, 2, none⟩ = some (.int .i64 y1.2.2)) (first | exact LX.box3 | go_keep)
    (first
      | (go_at_call 19; refine (sgns_toO x0 A0 c0 _ L0.top o0 q0).mono ?_; rintro e w4 ⟨U0, rfl, OU0, b4⟩; have L0 := L0.below b4; have LX := LX.below b4; have zb4 := b4.size; have ac4 := bel_trans ac3 b4; have uU0 := fun k hk => (OU0.lt k hk).2)
      | (go_at_call 47; refine (laws_toSign y1 _).mono ?_; rintro e w5 ⟨rfl, b5⟩; have L0 := L0.below b5; have LX := LX.below b5; have OU0 := own_below OU0 b5; have zb5 := b5.size; have ac5 := bel_trans ac4 b5)
      | (go_at_call 44; refine (spec_SystemAdd x0 y1 U0 _ _ ((Seg.of_own OU0).mono (Nat.zero_le _) (Nat.le_refl _)) o0 h1.1 q0).mono ?_; rintro e w6 ⟨vR, rfl, OR, b6⟩; obtain ⟨AR, cR, rfl, _, _, _⟩ := OR.form; have OR : _ := OR.own; have L0 := L0.below b6; have LX := LX.below b6; have OU0 := own_below OU0 b6; have zb6 := b6.size; have ac6 := bel_trans ac5 b6; have uR := fun k hk => (OR.lt k hk).2))
  clear OU0
  go_wp2_with fail
  refine (sgns_toO x0 A0 c0 _ L0.top o0 q0).mono ?_
  rintro e w7 ⟨V0, rfl, OV0, b7⟩
  have L0 := L0.below b7
  have LX := LX.below b7
  have OR := own_below OR b7
  have zb7 := b7.size
  have ac7 := bel_trans ac6 b7
  have uV0 := fun k hk => (OV0.lt k hk).2
  obtain ⟨kx0, kx1, kx2⟩ := LX.box3
  go_wp2_with fail
  refine (laws_toSign y1 _).mono ?_
  rintro e w8 ⟨rfl, b8⟩
  have L0 := L0.below b8
  have LX := LX.below b8
  have OR := own_below OR b8
  have OV0 := own_below OV0 b8
  have zb8 := b8.size
  have ac8 := bel_trans ac7 b8
  go_wp2_with fail
  refine (impl_SystemAdd x0 y1 V0 _ _ ((Seg.of_own OV0).mono (Nat.zero_le _) (Nat.le_refl _)) o0 h1.1 q0).mono ?_
  rintro e w9 ⟨vG, rfl, OG, b9⟩
  obtain ⟨AG, cG, rfl, _, _, _⟩ := OG.form
  have OG : _ := OG.own
  have L0 := L0.below b9
  have LX := LX.below b9
  have OR := own_below OR b9
  have OV0 := own_below OV0 b9
  have zb9 := b9.size
  have ac9 := bel_trans ac8 b9
  have uG := fun k hk => (OG.lt k hk).2
  go_wp2_with fail
  refine (sgns_eq (added x0 y1) AG AR _ _ _ ((Seg.of_own OG).mono (Nat.zero_le _) (Nat.le_refl _)) ((Seg.of_own OR).mono (Nat.zero_le _) (Nat.le_refl _)) qr).mono ?_
  rintro e w10 ⟨rfl, b10⟩
  have L0 := L0.below b10
  have LX := LX.below b10
  have OR := own_below OR b10
  have OV0 := own_below OV0 b10
  have OG := own_below OG b10
  have zb10 := b10.size
  have ac10 := bel_trans ac9 b10
  go_wp2_with fail
  refine (sgns_toO x0 A0 c0 _ L0.top o0 q0).mono ?_
  rintro e w11 ⟨T0, rfl, OT0, b11⟩
  have L0 := L0.below b11
  have LX := LX.below b11
  have OR := own_below OR b11
  have OV0 := own_below OV0 b11
  have OG := own_below OG b11
  have zb11 := b11.size
  have ac11 := bel_trans ac10 b11
  have uT0 := fun k hk => (OT0.lt k hk).2
  go_wp2_with fail
  refine (sgns_eq (x0) V0 T0 _ _ _ ((Seg.of_own OV0).mono (Nat.zero_le _) (Nat.le_refl _)) ((Seg.of_own OT0).mono (Nat.zero_le _) (Nat.le_refl _)) q0).mono ?_
  rintro e w12 ⟨rfl, b12⟩
  have L0 := L0.below b12
  have LX := LX.below b12
  have OR := own_below OR b12
  have OV0 := own_below OV0 b12
  have OG := own_below OG b12
  have OT0 := own_below OT0 b12
  have zb12 := b12.size
  have ac12 := bel_trans ac11 b12
  clear OT0
  go_wp2_with fail
  refine (sgns_markG (x0) _ V0 _ (1) _ OV0 q0 (by omega) (by omega)).mono ?_
  rintro e w13 ⟨rfl, MV0, b13⟩
  have L0 := L0.grown b13 (fun k hk => .inr (by have := (OV0.lt k hk).1; omega))
  have LX := LX.grown b13 (fun k hk => .inr (by have := (OV0.lt k hk).1; omega))
  have OR := own_grew OR b13 (fun k h1 h2 => by have a1 := (OR.lt k h1).1; have a2 := (OV0.lt k h2).1; have a3 := uR k h1; have a4 := uV0 k h2; omega)
  have OG := own_grew OG b13 (fun k h1 h2 => by have a1 := (OG.lt k h1).1; have a2 := (OV0.lt k h2).1; have a3 := uG k h1; have a4 := uV0 k h2; omega)
  have zb13 := b13.size
  have ac13 := grown_bel ac12 b13 (fun k hk => by have := (OV0.lt k hk).1; omega)
  clear OV0
  have uMV0 := uV0
  clear MV0
  go_wp2_with fail
  refine (sgns_eq (added x0 y1) AG AR _ _ _ ((Seg.of_own OG).mono (Nat.zero_le _) (Nat.le_refl _)) ((Seg.of_own OR).mono (Nat.zero_le _) (Nat.le_refl _)) qr).mono ?_
  rintro e w14 ⟨rfl, b14⟩
  have L0 := L0.below b14
  have LX := LX.below b14
  have OR := own_below OR b14
  have OG := own_below OG b14
  have zb14 := b14.size
  have ac14 := bel_trans ac13 b14
  go_wp2_with fail
  refine (sgns_markG (added x0 y1) _ AG _ (1) _ OG qr (by omega) (by omega)).mono ?_
  rintro e w15 ⟨rfl, MG, b15⟩
  have L0 := L0.grown b15 (fun k hk => .inr (by have := (OG.lt k hk).1; omega))
  have LX := LX.grown b15 (fun k hk => .inr (by have := (OG.lt k hk).1; omega))
  have OR := own_grew OR b15 (fun k h1 h2 => by have a1 := (OR.lt k h1).1; have a2 := (OG.lt k h2).1; have a3 := uR k h1; have a4 := uG k h2; omega)
  have zb15 := b15.size
  have ac15 := grown_bel ac14 b15 (fun k hk => by have := (OG.lt k hk).1; omega)
  clear OG
  have uMG := uG
  go_wp2_with fail
  refine (sgns_heldB (added x0 y1).length 1 AG _ _ ((Seg.of_own MG).mono (Nat.zero_le _) (Nat.le_refl _)) qr (by decide) (by decide)).mono ?_
  rintro e w16 ⟨rfl, b16⟩
  have L0 := L0.below b16
  have LX := LX.below b16
  have OR := own_below OR b16
  have MG := own_below MG b16
  have zb16 := b16.size
  have ac16 := bel_trans ac15 b16
  obtain ⟨kx0, kx1, kx2⟩ := LX.box3
  go_wp2
  have b17 := (Below.refl _ w16).drew (B := w16.heap.size)
  have L0 := L0.below b17
  have LX := LX.below b17
  have OR := own_below OR b17
  have MG := own_below MG b17
  have zb17 := b17.size
  have ac17 := bel_trans ac16 b17
  go_region_held3 (fun w' => w'.cell? ⟨w.heap.size, 0, none⟩ = some (.string y1.1) ∧ w'.cell? ⟨w.heap.size, 1, none⟩ = some (.int .i64 y1.2.1) ∧ w'.cell? ⟨w.heap.size, 2, none⟩ = some (.int .i64 y1.2.2)) (first | exact LX.box3 | go_keep)
    (first
      | (go_at_call 19; refine (sgns_toO x0 A0 c0 _ L0.top o0 q0).mono ?_; rintro e w18 ⟨Y0, rfl, OY0, b18⟩; have L0 := L0.below b18; have LX := LX.below b18; have OR := own_below OR b18; have MG := own_below MG b18; have zb18 := b18.size; have ac18 := bel_trans ac17 b18; have uY0 := fun k hk => (OY0.lt k hk).2)
      | (go_at_call 47; refine (laws_toSign y1 _).mono ?_; rintro e w19 ⟨rfl, b19⟩; have L0 := L0.below b19; have LX := LX.below b19; have OR := own_below OR b19; have MG := own_below MG b19; have OY0 := own_below OY0 b19; have zb19 := b19.size; have ac19 := bel_trans ac18 b19)
      | (go_at_call 43; refine (impl_SystemAdd x0 y1 Y0 _ _ ((Seg.of_own OY0).mono (Nat.zero_le _) (Nat.le_refl _)) o0 h1.1 q0).mono ?_; rintro e w20 ⟨vH, rfl, OH, b20⟩; obtain ⟨AH, cH, rfl, _, _, _⟩ := OH.form; have OH : _ := OH.own; have L0 := L0.below b20; have LX := LX.below b20; have OR := own_below OR b20; have MG := own_below MG b20; have OY0 := own_below OY0 b20; have zb20 := b20.size; have ac20 := bel_trans ac19 b20; have uH := fun k hk => (OH.lt k hk).2))
  go_wp2_with fail
  refine (sgns_eq (added x0 y1) AH AR _ _ _ ((Seg.of_own OH).mono (Nat.zero_le _) (Nat.le_refl _)) ((Seg.of_own OR).mono (Nat.zero_le _) (Nat.le_refl _)) qr).mono ?_
  rintro e w21 ⟨rfl, b21⟩
  have L0 := L0.below b21
  have LX := LX.below b21
  have OR := own_below OR b21
  have MG := own_below MG b21
  have OY0 := own_below OY0 b21
  have OH := own_below OH b21
  have zb21 := b21.size
  have ac21 := bel_trans ac20 b21
  go_wp2_with fail
  refine (sgns_heldB (added x0 y1).length 1 AG _ _ ((Seg.of_own MG).mono (Nat.zero_le _) (Nat.le_refl _)) qr (by decide) (by decide)).mono ?_
  rintro e w22 ⟨rfl, b22⟩
  have L0 := L0.below b22
  have LX := LX.below b22
  have OR := own_below OR b22
  have MG := own_below MG b22
  have OY0 := own_below OY0 b22
  have OH := own_below OH b22
  have zb22 := b22.size
  have ac22 := bel_trans ac21 b22
  go_wp2
  go_ret
  exact ⟨rfl, ac22⟩

end Go.Proofs.Ytniemanapimjoaa
