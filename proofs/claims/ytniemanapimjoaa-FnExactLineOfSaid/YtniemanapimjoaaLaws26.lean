/-
  Walk of the law FnExactLineOf.
-/
import Derived.Test.YtniemanapimjoaaLof
namespace Go.Proofs.Ytniemanapimjoaa
open Go.RowKit Go.Sort
set_option linter.unusedSimpArgs false
set_option linter.unusedVariables false

theorem own_belowN {w w' : World} {B base n : Nat} {e : TypeId} {size : Nat} {v : Value} {xs : List Value} (h : w.ownsRow base e size v n xs) (hb : Below B w w') (hl : ∀ k, v.ownBlock = some k → k < B) : w'.ownsRow base e size v n xs := by
  refine ⟨h.1, ?_⟩
  rcases h.2 with h2 | ⟨g, cap, cur, hv, hg, hh, r⟩
  · exact .inl h2
  · exact .inr ⟨g, cap, cur, hv, hg, (hb.block g (hl g (by rw [hv]; rfl))).trans hh, r⟩
theorem OwnLine.belowB {w w' : World} {B base : Nat} {v : Value} {ys : List Wrt} (h : OwnLine w base v ys) (hb : Below B w w') (h1 : ∀ k, v.ownBlock = some k → k < B) (h2 : ∀ y ∈ ys, ∀ k, (rowV y.1).ownBlock = some k → k < B) : OwnLine w' base v ys :=
  ⟨own_belowN h.row hb h1, fun y hy => own_belowN (h.outs y hy) hb (h2 y hy), h.apart⟩
theorem wrtsN_markB (ys : List Wrt) (base : Nat) (A : Option Addr) (c : Nat) (k0 : Int) (n : Nat) (hy : ys.length = n) (w : World) (hl : OwnLine w base (.slice A n c) ys) (hB : base ≤ w.heap.size) (hn : n ≤ 1000) (hq : ∀ y ∈ ys, y.1.2.2.length ≤ 1048576) (hk0 : 1 ≤ k0) (hk1 : k0 ≤ 1000000) :
    Calls Try.prog 35 #[.slice A n c, .int .i64 k0] w fun e w' => e = .returned (.int .i64 (offW k0 ys)) ∧ (w'.ownsRow base 98 2 (.slice A n c) n (flat wrtC (mkW k0 ys)) ∧ OutsW w' base (mkW k0 ys)) ∧ Below base w w' := by
  subst hy; exact wrts_markB ys base A c k0 w hl hB hn hq hk0 hk1
theorem wrtsN_heldB (ys : List Wrt) (A : Option Addr) (c : Nat) (k0 : Int) (n : Nat) (hy : ys.length = n) (w : World) (hw : Seg w 0 w.heap.size A (flat wrtC (mkW k0 ys))) (ha : WrtsAt w (mkW k0 ys)) (hn : n ≤ 1000) (hq : ∀ y ∈ ys, y.1.2.2.length ≤ 1048576) (hk0 : 1 ≤ k0) (hk1 : k0 ≤ 1000000) :
    Calls Try.prog 36 #[.slice A n c, .int .i64 k0] w fun e w' => e = .returned (.int .i64 (offW k0 ys)) ∧ Below w.heap.size w w' := by
  subst hy; exact wrts_heldB ys A c k0 w hw ha hn hq hk0 hk1
theorem loOf_len (ss : List Sgn) (ws : List Str) : (loOf ss ws).length ≤ 1000 := by
  unfold loOf
  split
  · rename_i h
    have : ws.length ≤ 20 := by
      by_cases h2 : ws.length ≤ 20
      · exact h2
      · rw [lo_long h2] at h; cases h
    simp; omega
  · simp
theorem lo_short {ss : List Sgn} {ws : List Str} {ys : List Wrt} (h : formsOf ys = loOf ss ws) : ∀ y ∈ ys, y.1.2.2.length ≤ 1048576 := by
  intro y hy
  have h1 : (y.1.2.2, y.2) ∈ formsOf ys := List.mem_map.2 ⟨y, hy, rfl⟩
  rw [h, loOf] at h1
  split at h1
  · obtain ⟨s, _, hs⟩ := List.mem_map.1 h1
    injection hs with h2 _
    rw [← h2]
    exact Nat.le_trans (woOf_len ss s) (by decide)
  · simp at h1
set_option maxRecDepth 100000 in
set_option maxHeartbeats 2000000 in
theorem walk_FnExactLineOf (r0 : Row Sgn) (r1 : Row Str) (w : World) (h0 : RowOk w sgnC SgnOk r0) (h1 : RowOk w strC StrOk r1) : Calls Try.prog 4 #[rowV r0, rowV r1] w fun e w' => e = .returned (.bool true) ∧ Below w.heap.size w w' := by
  obtain ⟨A0, c0, x0, e0, L0, o0, k0, m0⟩ := row_sgns h0
  rw [e0]
  have n0 : x0.length ≤ maxLen := Nat.le_trans k0 m0
  clear e0 h0
  obtain ⟨A1, c1, x1, e1, L1, o1, k1, m1⟩ := row_strs h1
  rw [e1]
  have n1 : x1.length ≤ maxLen := Nat.le_trans k1 m1
  clear e1 h1
  obtain ⟨N, HN⟩ : ∃ N : Nat, Hid ((loOf x0 x1).length = N) := ⟨_, rfl⟩
  have hN20 : N ≤ 1000 := by rw [← HN.out]; exact loOf_len x0 x1
  go_enter Try.func4, Try.ntmps4
  go_wp2_with fail
  refine (sgns_szB x0 A0 c0 _ _ L0.top o0 n0 (by decide) (by decide)).mono ?_
  rintro e w1 ⟨⟨z0, rfl, hz0⟩, b1⟩
  have L0 := L0.below b1
  have L1 := L1.below b1
  have zb1 := b1.size
  have ac0 : Below w.heap.size w _ := b1
  rcases hz0 with rfl | ⟨za0, zb0, zc0⟩
  · go_wp2
    go_ret
    exact ⟨rfl, ac0⟩
  have q0 : x0.length ≤ 1048576 := by omega
  go_wp2_with fail
  refine (strs_sz x1 A1 c1 _ _ L1.top o1 n1 za0 (by omega)).mono ?_
  rintro e w' ⟨⟨z1, rfl, hz1⟩, rfl⟩
  rcases hz1 with rfl | ⟨za1, zb1, zc1⟩
  · go_wp2
    go_ret
    exact ⟨rfl, ac0⟩
  have q1 : x1.length ≤ 1048576 := by omega
  go_wp2_with fail
  refine (sgns_toO x0 A0 c0 _ L0.top o0 q0).mono ?_
  rintro e w2 ⟨U0, rfl, OU0, b2⟩
  have L0 := L0.below b2
  have L1 := L1.below b2
  have zb2 := b2.size
  have ac1 := bel_trans ac0 b2
  have uU0 := fun k hk => (OU0.lt k hk).2
  go_wp2_with fail
  refine (strs_toO x1 A1 c1 _ L1.top o1 q1).mono ?_
  rintro e w3 ⟨U1, rfl, OU1, b3⟩
  have L0 := L0.below b3
  have L1 := L1.below b3
  have OU0 := own_below OU0 b3
  have zb3 := b3.size
  have ac2 := bel_trans ac1 b3
  have uU1 := fun k hk => (OU1.lt k hk).2
  go_wp2_with fail
  refine (spec_LineOf x0 x1 U0 U1 _ _ _ ((Seg.of_own OU0).mono (Nat.zero_le _) (Nat.le_refl _)) ((Seg.of_own OU1).mono (Nat.zero_le _) (Nat.le_refl _)) o0 o1 n0 n1).mono ?_
  rintro e w4 ⟨vR, yR, rfl, OR, FR, b4⟩
  have nR : Hid (yR.length = N) := by rw [Hid, ← formsOf_len, FR]; exact HN.out
  obtain ⟨AR, cR, eR, _, _⟩ := own_form OR.row
  rw [nR.out] at eR
  subst eR
  have qR := lo_short FR
  have uR := fun k hk => (OR.row.lt k hk).2
  have pR := fun (y : Wrt) (hy : y ∈ yR) (k : Nat) hk => ((OR.outs y hy).lt k hk).2
  have L0 := L0.below b4
  have L1 := L1.below b4
  have OU0 := own_below OU0 b4
  have OU1 := own_below OU1 b4
  have zb4 := b4.size
  have ac3 := bel_trans ac2 b4
  clear OU0
  clear OU1
  go_wp2_with fail
  refine (sgns_toO x0 A0 c0 _ L0.top o0 q0).mono ?_
  rintro e w5 ⟨V0, rfl, OV0, b5⟩
  have OR := OR.below b5
  have L0 := L0.below b5
  have L1 := L1.below b5
  have zb5 := b5.size
  have ac4 := bel_trans ac3 b5
  have uV0 := fun k hk => (OV0.lt k hk).2
  go_wp2_with fail
  refine (strs_toO x1 A1 c1 _ L1.top o1 q1).mono ?_
  rintro e w6 ⟨V1, rfl, OV1, b6⟩
  have OR := OR.below b6
  have L0 := L0.below b6
  have L1 := L1.below b6
  have OV0 := own_below OV0 b6
  have zb6 := b6.size
  have ac5 := bel_trans ac4 b6
  have uV1 := fun k hk => (OV1.lt k hk).2
  go_wp2_with fail
  refine (impl_LineOf x0 x1 V0 V1 _ _ _ ((Seg.of_own OV0).mono (Nat.zero_le _) (Nat.le_refl _)) ((Seg.of_own OV1).mono (Nat.zero_le _) (Nat.le_refl _)) o0 o1 n0 n1).mono ?_
  rintro e w7 ⟨vG, yG, rfl, OG, FG, b7⟩
  have nG : Hid (yG.length = N) := by rw [Hid, ← formsOf_len, FG]; exact HN.out
  obtain ⟨AG, cG, eG, _, _⟩ := own_form OG.row
  rw [nG.out] at eG
  subst eG
  have qG := lo_short FG
  have uG := fun k hk => (OG.row.lt k hk).2
  have pG := fun (y : Wrt) (hy : y ∈ yG) (k : Nat) hk => ((OG.outs y hy).lt k hk).2
  have OR := OR.below b7
  have L0 := L0.below b7
  have L1 := L1.below b7
  have OV0 := own_below OV0 b7
  have OV1 := own_below OV1 b7
  have zb7 := b7.size
  have ac6 := bel_trans ac5 b7
  go_wp2_with fail
  refine (wrts_eq yG yR (FG.trans FR.symm) AG AR N _ _ nG.out _ (by have h5 := OG.row; rw [nG.out] at h5; exact ((Seg.of_own h5).mono (Nat.zero_le _) (Nat.le_refl _))) (by have h5 := OR.row; rw [nR.out] at h5; exact ((Seg.of_own h5).mono (Nat.zero_le _) (Nat.le_refl _))) OG.outs.at_ OR.outs.at_ (by omega) qG).mono ?_
  rintro e w8 ⟨rfl, b8⟩
  have OR := OR.below b8
  have OG := OG.below b8
  have L0 := L0.below b8
  have L1 := L1.below b8
  have OV0 := own_below OV0 b8
  have OV1 := own_below OV1 b8
  have zb8 := b8.size
  have ac7 := bel_trans ac6 b8
  go_wp2_with fail
  refine (sgns_toO x0 A0 c0 _ L0.top o0 q0).mono ?_
  rintro e w9 ⟨T0, rfl, OT0, b9⟩
  have OR := OR.below b9
  have OG := OG.below b9
  have L0 := L0.below b9
  have L1 := L1.below b9
  have OV0 := own_below OV0 b9
  have OV1 := own_below OV1 b9
  have zb9 := b9.size
  have ac8 := bel_trans ac7 b9
  have uT0 := fun k hk => (OT0.lt k hk).2
  go_wp2_with fail
  refine (sgns_eq (x0) V0 T0 _ _ _ ((Seg.of_own OV0).mono (Nat.zero_le _) (Nat.le_refl _)) ((Seg.of_own OT0).mono (Nat.zero_le _) (Nat.le_refl _)) q0).mono ?_
  rintro e w10 ⟨rfl, b10⟩
  have OR := OR.below b10
  have OG := OG.below b10
  have L0 := L0.below b10
  have L1 := L1.below b10
  have OV0 := own_below OV0 b10
  have OV1 := own_below OV1 b10
  have OT0 := own_below OT0 b10
  have zb10 := b10.size
  have ac9 := bel_trans ac8 b10
  clear OT0
  go_wp2_with fail
  refine (strs_toO x1 A1 c1 _ L1.top o1 q1).mono ?_
  rintro e w11 ⟨T1, rfl, OT1, b11⟩
  have OR := OR.below b11
  have OG := OG.below b11
  have L0 := L0.below b11
  have L1 := L1.below b11
  have OV0 := own_below OV0 b11
  have OV1 := own_below OV1 b11
  have zb11 := b11.size
  have ac10 := bel_trans ac9 b11
  have uT1 := fun k hk => (OT1.lt k hk).2
  go_wp2_with fail
  refine (strs_eq (x1) V1 T1 _ _ _ ((Seg.of_own OV1).mono (Nat.zero_le _) (Nat.le_refl _)) ((Seg.of_own OT1).mono (Nat.zero_le _) (Nat.le_refl _)) q1).mono ?_
  rintro e w12 ⟨rfl, b12⟩
  have OR := OR.below b12
  have OG := OG.below b12
  have L0 := L0.below b12
  have L1 := L1.below b12
  have OV0 := own_below OV0 b12
  have OV1 := own_below OV1 b12
  have OT1 := own_below OT1 b12
  have zb12 := b12.size
  have ac11 := bel_trans ac10 b12
  clear OT1
  go_wp2_with fail
  refine (sgns_markG (x0) _ V0 _ (1) _ OV0 q0 (by omega) (by omega)).mono ?_
  rintro e w13 ⟨rfl, MV0, b13⟩
  have L0 := L0.grown b13 (fun k hk => .inr (by have := (OV0.lt k hk).1; omega))
  have L1 := L1.grown b13 (fun k hk => .inr (by have := (OV0.lt k hk).1; omega))
  have OR := OR.grew b13 OV0 (by decide) (by decide)
  have OG := OG.grew b13 OV0 (by decide) (by decide)
  have OV1 := own_grew OV1 b13 (fun k h1 h2 => by have a1 := (OV1.lt k h1).1; have a2 := (OV0.lt k h2).1; have a3 := uV1 k h1; have a4 := uV0 k h2; omega)
  have zb13 := b13.size
  have ac12 := grown_bel ac11 b13 (fun k hk => by have := (OV0.lt k hk).1; omega)
  clear OV0
  have uMV0 := uV0
  clear MV0
  go_wp2_with fail
  refine (strs_markG (x1) _ V1 _ (1 + 3 * (x0.length : Int)) _ OV1 q1 (by omega) (by omega)).mono ?_
  rintro e w14 ⟨rfl, MV1, b14⟩
  have L0 := L0.grown b14 (fun k hk => .inr (by have := (OV1.lt k hk).1; omega))
  have L1 := L1.grown b14 (fun k hk => .inr (by have := (OV1.lt k hk).1; omega))
  have OR := OR.grew b14 OV1 (by decide) (by decide)
  have OG := OG.grew b14 OV1 (by decide) (by decide)
  have zb14 := b14.size
  have ac13 := grown_bel ac12 b14 (fun k hk => by have := (OV1.lt k hk).1; omega)
  clear OV1
  have uMV1 := uV1
  clear MV1
  go_wp2_with fail
  refine (wrts_eq yG yR (FG.trans FR.symm) AG AR N _ _ nG.out _ (by have h5 := OG.row; rw [nG.out] at h5; exact ((Seg.of_own h5).mono (Nat.zero_le _) (Nat.le_refl _))) (by have h5 := OR.row; rw [nR.out] at h5; exact ((Seg.of_own h5).mono (Nat.zero_le _) (Nat.le_refl _))) OG.outs.at_ OR.outs.at_ (by omega) qG).mono ?_
  rintro e w15 ⟨rfl, b15⟩
  have OR := OR.below b15
  have OG := OG.below b15
  have L0 := L0.below b15
  have L1 := L1.below b15
  have zb15 := b15.size
  have ac14 := bel_trans ac13 b15
  go_wp2_with fail
  refine (wrtsN_markB yG _ AG _ 1 N nG.out _ OG (by omega) hN20 qG (by decide) (by decide)).mono ?_
  rintro e w16 ⟨rfl, ⟨MG, MO⟩, b16⟩
  have L0 := L0.belowB b16 (by omega)
  have L1 := L1.belowB b16 (by omega)
  have OR := OR.belowB b16 (fun k hk => by have := uR k hk; omega) (fun y hy k hk => by have := pR y hy k hk; omega)
  have zb16 := b16.size
  have ac15 := ac14.trans (b16.mono (by omega))
  have zG : 1 ≤ offW 1 yG := (offW_bound yG 1 qG).1
  clear OG
  go_wp2_with fail
  refine (wrtsN_heldB yG AG _ 1 N nG.out _ ((Seg.of_own MG).mono (Nat.zero_le _) (Nat.le_refl _)) MO.at_ hN20 qG (by decide) (by decide)).mono ?_
  rintro e w17 ⟨rfl, b17⟩
  have OR := OR.below b17
  have MO := MO.below b17
  have L0 := L0.below b17
  have L1 := L1.below b17
  have MG := own_below MG b17
  have zb17 := b17.size
  have ac16 := bel_trans ac15 b17
  go_wp2_with fail
  refine (sgns_toO x0 A0 c0 _ L0.top o0 q0).mono ?_
  rintro e w18 ⟨Y0, rfl, OY0, b18⟩
  have OR := OR.below b18
  have MO := MO.below b18
  have L0 := L0.below b18
  have L1 := L1.below b18
  have MG := own_below MG b18
  have zb18 := b18.size
  have ac17 := bel_trans ac16 b18
  have uY0 := fun k hk => (OY0.lt k hk).2
  go_wp2_with fail
  refine (strs_toO x1 A1 c1 _ L1.top o1 q1).mono ?_
  rintro e w19 ⟨Y1, rfl, OY1, b19⟩
  have OR := OR.below b19
  have MO := MO.below b19
  have L0 := L0.below b19
  have L1 := L1.below b19
  have MG := own_below MG b19
  have OY0 := own_below OY0 b19
  have zb19 := b19.size
  have ac18 := bel_trans ac17 b19
  have uY1 := fun k hk => (OY1.lt k hk).2
  go_wp2_with fail
  refine (impl_LineOf x0 x1 Y0 Y1 _ _ _ ((Seg.of_own OY0).mono (Nat.zero_le _) (Nat.le_refl _)) ((Seg.of_own OY1).mono (Nat.zero_le _) (Nat.le_refl _)) o0 o1 n0 n1).mono ?_
  rintro e w20 ⟨vH, yH, rfl, OH, FH, b20⟩
  have nH : Hid (yH.length = N) := by rw [Hid, ← formsOf_len, FH]; exact HN.out
  obtain ⟨AH, cH, eH, _, _⟩ := own_form OH.row
  rw [nH.out] at eH
  subst eH
  have qH := lo_short FH
  have uH := fun k hk => (OH.row.lt k hk).2
  have pH := fun (y : Wrt) (hy : y ∈ yH) (k : Nat) hk => ((OH.outs y hy).lt k hk).2
  have OR := OR.below b20
  have MO := MO.below b20
  have L0 := L0.below b20
  have L1 := L1.below b20
  have MG := own_below MG b20
  have OY0 := own_below OY0 b20
  have OY1 := own_below OY1 b20
  have zb20 := b20.size
  have ac19 := bel_trans ac18 b20
  go_wp2_with fail
  refine (wrts_eq yH yR (FH.trans FR.symm) AH AR N _ _ nH.out _ (by have h5 := OH.row; rw [nH.out] at h5; exact ((Seg.of_own h5).mono (Nat.zero_le _) (Nat.le_refl _))) (by have h5 := OR.row; rw [nR.out] at h5; exact ((Seg.of_own h5).mono (Nat.zero_le _) (Nat.le_refl _))) OH.outs.at_ OR.outs.at_ (by omega) qH).mono ?_
  rintro e w21 ⟨rfl, b21⟩
  have OR := OR.below b21
  have OH := OH.below b21
  have MO := MO.below b21
  have L0 := L0.below b21
  have L1 := L1.below b21
  have MG := own_below MG b21
  have OY0 := own_below OY0 b21
  have OY1 := own_below OY1 b21
  have zb21 := b21.size
  have ac20 := bel_trans ac19 b21
  go_wp2_with fail
  refine (wrtsN_heldB yG AG _ 1 N nG.out _ ((Seg.of_own MG).mono (Nat.zero_le _) (Nat.le_refl _)) MO.at_ hN20 qG (by decide) (by decide)).mono ?_
  rintro e w22 ⟨rfl, b22⟩
  have OR := OR.below b22
  have OH := OH.below b22
  have MO := MO.below b22
  have L0 := L0.below b22
  have L1 := L1.below b22
  have MG := own_below MG b22
  have OY0 := own_below OY0 b22
  have OY1 := own_below OY1 b22
  have zb22 := b22.size
  have ac21 := bel_trans ac20 b22
  go_wp2
  go_ret
  exact ⟨rfl, ac21⟩

end Go.Proofs.Ytniemanapimjoaa
