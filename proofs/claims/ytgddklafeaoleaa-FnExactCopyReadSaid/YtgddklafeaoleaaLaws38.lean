/-
  Walk of the law FnExactCopyRead.
-/
import Derived.Test.YtgddklafeaoleaaCopyS
import Derived.Test.YtgddklafeaoleaaMrkB
namespace Go.Proofs.Ytgddklafeaoleaa
open Go.RowKit Go.Sort
set_option linter.unusedSimpArgs false
set_option linter.unusedVariables false

theorem own_segB {w : World} {base n c : Nat} {e : TypeId} {size : Nat} {A : Option Addr} {xs : List Value} (h : w.ownsRow base e size (.slice A n c) n xs) : Seg w 0 w.heap.size A xs := (Seg.of_own h).mono (Nat.zero_le _) (Nat.le_refl _)
theorem crTo_len {bs : List PB} {ts ws : List Str} : ∀ {k : Nat}, crTo bs ts k = some ws → ws.length ≤ 20
  | 0, h => by simp [crTo] at h; subst h; simp
  | k + 1, h => by
    rw [crTo] at h
    split at h
    · split at h
      · injection h with h; subst h; assumption
      · cases h
    · cases h
theorem cr_len (bs : List PB) (ts : List Str) : ((crOf bs ts).getD []).length ≤ 20 := by
  cases h : crOf bs ts with
  | none => simp
  | some ws =>
    unfold crOf at h
    split at h
    · exact crTo_len h
    · cases h
theorem spec_CopyReadN (xs : List Brf) (f : List PB) (hf : pbsOf xs = f) (n : Nat) (hx : xs.length = n) (ts : List Str) (A B : Option Addr) (c d : Nat) (w : World) (hw : Seg w 0 w.heap.size A (flat brfC xs)) (ho : BrfsAt w xs) (hn : n ≤ maxLen) (hv : Seg w 0 w.heap.size B (strs ts)) (hp : StrsOk ts) (hm : ts.length ≤ maxLen) :
    Calls Try.prog 41 #[.slice A n c, .slice B ts.length d] w (GaveStrs (crOf f ts) w) := by
  subst hx hf; exact spec_CopyRead xs ts A B c d w hw ho hv hp hn hm
theorem impl_CopyReadN (xs : List Brf) (f : List PB) (hf : pbsOf xs = f) (n : Nat) (hx : xs.length = n) (ts : List Str) (A B : Option Addr) (c d : Nat) (w : World) (hw : Seg w 0 w.heap.size A (flat brfC xs)) (ho : BrfsAt w xs) (hn : n ≤ maxLen) (hc : n ≤ c) (hcm : c ≤ maxLen) (hv : Seg w 0 w.heap.size B (strs ts)) (hp : StrsOk ts) (hm : ts.length ≤ maxLen) :
    Calls Try.prog 42 #[.slice A n c, .slice B ts.length d] w (GaveStrs (crOf f ts) w) := by
  subst hx hf; exact impl_CopyRead xs ts A B c d w hw ho hv hp hn hc hcm hm
theorem brfs_markN (ys : List Brf) (n : Nat) (hy : ys.length = n) (base hi : Nat) (A : Option Addr) (c : Nat) (k0 : Int) (w : World) (hrow : w.ownsRow base 35 2 (.slice A n c) n (flat brfC ys)) (houts : OutsB w base ys) (hap : ApartB ys)
    (hh1 : ∀ k, (Value.slice A n c).ownBlock = some k → k < hi) (hh2 : ∀ y ∈ ys, ∀ k, (rowV y.2).ownBlock = some k → k < hi) (hn : n ≤ 1048576) (hq : ∀ y ∈ ys, ShortB y) (hk0 : 1 ≤ k0) (hk1 : k0 ≤ 1000) :
    Calls Try.prog 43 #[.slice A n c, .int .i64 k0] w fun e w' => (∃ z : Int, e = .returned (.int .i64 z) ∧ 1 ≤ z ∧ z ≤ 2000000000000) ∧ Mid base hi w w' := by
  subst hy; exact brfs_markM ys base hi A c k0 w hrow houts hap hh1 hh2 hn hq hk0 hk1

set_option maxRecDepth 100000 in
set_option maxHeartbeats 4000000 in
theorem walk_FnExactCopyRead (r0 : Row Brf) (r1 : Row Str) (w : World) (h0 : RowOk w brfC (BrfOk w) r0) (h1 : RowOk w strC StrOk r1) : Calls Try.prog 13 #[rowV r0, rowV r1] w fun e w' => e = .returned (.bool true) ∧ Below w.heap.size w w' := by
  obtain ⟨A0, c0, x0, e0, L0, W0, k0, m0⟩ := row_brfs h0
  obtain ⟨A1, c1, x1, e1, L1, W1, k1, m1⟩ := row_strs h1
  rw [e0, e1]
  have n0 : x0.length ≤ maxLen := Nat.le_trans k0 m0
  have n1 : x1.length ≤ maxLen := Nat.le_trans k1 m1
  clear e0 h0 e1 h1
  have K0 := L0
  have J0 := Lib.hid W0
  have K1 := L1
  go_enter Try.func13, Try.ntmps13
  go_wp2_with fail
  refine (brfs_sz x0 A0 c0 _ _ L0 W0 n0 (by decide) (by decide)).mono ?_
  rintro e w1 ⟨⟨z, rfl, hz⟩, b1⟩
  have L0 := (L0.below b1).top
  have W0 := W0.below b1
  have L1 := (L1.below b1).top
  have ac0 : Below w.heap.size w _ := b1
  have zb1 := b1.size
  rcases hz with rfl | ⟨za, zb, zc, zs⟩
  · go_wp2
    go_ret
    exact ⟨rfl, b1⟩
  have q0 : x0.length ≤ 1048576 := by omega
  go_wp2_with fail
  refine (laws_szStringS x1 A1 c1 z _ L1 W1 n1 za (by omega)).mono ?_
  rintro e w' ⟨⟨y, rfl, hy⟩, rfl⟩
  have HSM : Hid (0 ≤ letters x1) := by
    have h5 : sumTo (szStr x1) 0 ≤ sumTo (szStr x1) x1.length := sumTo_mono (fun i => by simp [szStr]) (Nat.zero_le _)
    exact h5
  rcases hy with rfl | ⟨ya, yb⟩
  · go_wp2
    go_ret
    exact ⟨rfl, b1⟩
  have q1 : x1.length ≤ 1048576 := by have h6 := HSM.out; unfold letters at h6; omega
  have YB := Lib.hid yb
  clear yb
  have qr := cr_len (pbsOf x0) x1
  have qr2 : ((crOf (pbsOf x0) x1).getD []).length ≤ 1048576 := by omega
  go_wp2_with fail
  refine (brfs_toA x0 A0 c0 _ L0 W0 q0 zs.out).mono ?_
  rintro e w2 ⟨U, yU, rfl, OU, hu, b2⟩
  have L0 := (L0.below b2).top
  have W0 := W0.below b2
  have L1 := (L1.below b2).top
  have ac1 := bel_trans ac0 b2
  have zb2 := b2.size
  have HU := Lib.hid hu
  clear hu
  have WU := Lib.hid (HU.out.1.1.at_ (strsOkB_of HU.out.2 W0))
  go_wp2_with fail
  refine (strs_toO x1 A1 c1 _ L1 W1 q1).mono ?_
  rintro e w3 ⟨U1, rfl, OU1, b3⟩
  have L0 := (L0.below b3).top
  have W0 := W0.below b3
  have L1 := (L1.below b3).top
  have OU := own_below OU b3
  have WU := Lib.hid (WU.out.below b3)
  have ac2 := bel_trans ac1 b3
  have zb3 := b3.size
  go_wp2_with fail
  refine (spec_CopyReadN yU _ HU.out.2 _ (shortB_of HU.out.2 zs.out).1 x1 U U1 _ _ _ (own_segB OU) WU.out n0 (own_segB OU1) W1 n1).mono ?_
  rintro e w4 ⟨vR, rfl, OR, b4⟩
  have L0 := (L0.below b4).top
  have W0 := W0.below b4
  have L1 := (L1.below b4).top
  have ac3 := bel_trans ac2 b4
  have zb4 := b4.size
  clear OU WU HU OU1
  generalize hok : (crOf (pbsOf x0) x1).isSome = ok at *
  generalize hR : (crOf (pbsOf x0) x1).getD [] = R at *
  have HOK := Lib.hid hok
  have HR := Lib.hid hR
  clear hok hR
  have hbb : (ok != ok) = false := by simp
  have OR : w4.ownsRow w3.heap.size 9 1 vR R.length (strs R) := OR
  obtain ⟨AR, cR, rfl, _, _⟩ := own_form OR
  have uR := fun k hk => (World.ownsRow.lt OR k hk).2
  go_wp2_with fail
  refine (brfs_toA x0 A0 c0 _ L0 W0 q0 zs.out).mono ?_
  rintro e w5 ⟨V, yV, rfl, OV, hv, b5⟩
  have L0 := (L0.below b5).top
  have W0 := W0.below b5
  have L1 := (L1.below b5).top
  have OR := own_below OR b5
  have ac4 := bel_trans ac3 b5
  have zb5 := b5.size
  have HV := Lib.hid hv
  clear hv
  have WV := Lib.hid (HV.out.1.1.at_ (strsOkB_of HV.out.2 W0))
  have OUV := Lib.hid HV.out.1.1
  have uV := fun k hk => (World.ownsRow.lt OV k hk).2
  have uW := Lib.hid (fun (y : Brf) (hy : y ∈ yV) (k : Nat) (hk : (rowV y.2).ownBlock = some k) => (World.ownsRow.lt (HV.out.1.1 y hy) k hk).2)
  go_wp2_with fail
  refine (strs_toO x1 A1 c1 _ L1 W1 q1).mono ?_
  rintro e w6 ⟨V1, rfl, OV1, b6⟩
  have L0 := (L0.below b6).top
  have W0 := W0.below b6
  have L1 := (L1.below b6).top
  have OR := own_below OR b6
  have OV := own_below OV b6
  have WV := Lib.hid (WV.out.below b6)
  have OUV := Lib.hid (OUV.out.below b6)
  have ac5 := bel_trans ac4 b6
  have zb6 := b6.size
  have uV1 := fun k hk => (World.ownsRow.lt OV1 k hk).2
  go_wp2_with fail
  refine (impl_CopyReadN yV _ HV.out.2 _ (shortB_of HV.out.2 zs.out).1 x1 V V1 _ _ _ (own_segB OV) WV.out n0 (Nat.le_refl _) n0 (own_segB OV1) W1 n1).mono ?_
  rintro e w7 ⟨vG, hEOG, OG, b7⟩
  rw [HOK.out] at hEOG
  rw [HR.out] at OG
  subst hEOG
  have L0 := (L0.below b7).top
  have W0 := W0.below b7
  have L1 := (L1.below b7).top
  have OR := own_below OR b7
  have OV := own_below OV b7
  have WV := Lib.hid (WV.out.below b7)
  have OUV := Lib.hid (OUV.out.below b7)
  have OV1 := own_below OV1 b7
  have ac6 := bel_trans ac5 b7
  have zb7 := b7.size
  have OG : w7.ownsRow _ 9 1 vG R.length (strs R) := OG
  obtain ⟨AG, cG, rfl, _, _⟩ := own_form OG
  have uG := fun k hk => (World.ownsRow.lt OG k hk).2
  go_wp2_with fail
  refine (strs_eq R AG AR _ _ _ (own_segB OG) (own_segB OR) qr2).mono ?_
  rintro e w8 ⟨rfl, b8⟩
  have L0 := (L0.below b8).top
  have W0 := W0.below b8
  have L1 := (L1.below b8).top
  have OR := own_below OR b8
  have OV := own_below OV b8
  have WV := Lib.hid (WV.out.below b8)
  have OUV := Lib.hid (OUV.out.below b8)
  have OV1 := own_below OV1 b8
  have OG := own_below OG b8
  have ac7 := bel_trans ac6 b8
  have zb8 := b8.size
  go_wp2_with fail
  refine (brfs_toA x0 A0 c0 _ L0 W0 q0 zs.out).mono ?_
  rintro e w9 ⟨T, yT, rfl, OT, ht, b9⟩
  have L0 := (L0.below b9).top
  have W0 := W0.below b9
  have L1 := (L1.below b9).top
  have OR := own_below OR b9
  have OV := own_below OV b9
  have WV := Lib.hid (WV.out.below b9)
  have OUV := Lib.hid (OUV.out.below b9)
  have OV1 := own_below OV1 b9
  have OG := own_below OG b9
  have ac8 := bel_trans ac7 b9
  have zb9 := b9.size
  have HT := Lib.hid ht
  clear ht
  go_wp2_with fail
  refine (brfs_eq yV yT (HV.out.2.trans HT.out.2.symm) V T _ _ _ (shortB_of HV.out.2 zs.out).1 _ (own_segB OV) (own_segB OT) WV.out (HT.out.1.1.at_ (strsOkB_of HT.out.2 W0)) q0 (shortB_of HV.out.2 zs.out).2).mono ?_
  rintro e w10 ⟨rfl, b10⟩
  have L0 := (L0.below b10).top
  have W0 := W0.below b10
  have L1 := (L1.below b10).top
  have OR := own_below OR b10
  have OV := own_below OV b10
  have WV := Lib.hid (WV.out.below b10)
  have OUV := Lib.hid (OUV.out.below b10)
  have OV1 := own_below OV1 b10
  have OG := own_below OG b10
  have ac9 := bel_trans ac8 b10
  have zb10 := b10.size
  clear OT HT
  go_wp2_with fail
  refine (strs_toO x1 A1 c1 _ L1 W1 q1).mono ?_
  rintro e w11 ⟨T1, rfl, OT1, b11⟩
  have L0 := (L0.below b11).top
  have W0 := W0.below b11
  have L1 := (L1.below b11).top
  have OR := own_below OR b11
  have OV := own_below OV b11
  have WV := Lib.hid (WV.out.below b11)
  have OUV := Lib.hid (OUV.out.below b11)
  have OV1 := own_below OV1 b11
  have OG := own_below OG b11
  have ac10 := bel_trans ac9 b11
  have zb11 := b11.size
  go_wp2_with fail
  refine (strs_eq x1 V1 T1 _ _ _ (own_segB OV1) (own_segB OT1) q1).mono ?_
  rintro e w12 ⟨rfl, b12⟩
  have L0 := (L0.below b12).top
  have W0 := W0.below b12
  have L1 := (L1.below b12).top
  have OR := own_below OR b12
  have OV := own_below OV b12
  have WV := Lib.hid (WV.out.below b12)
  have OUV := Lib.hid (OUV.out.below b12)
  have OV1 := own_below OV1 b12
  have OG := own_below OG b12
  have ac11 := bel_trans ac10 b12
  have zb12 := b12.size
  clear OT1
  go_wp2_with fail
  refine (brfs_markN yV _ (shortB_of HV.out.2 zs.out).1 w4.heap.size w5.heap.size V _ _ _ OV OUV.out HV.out.1.2 uV uW.out q0 (shortB_of HV.out.2 zs.out).2 (by decide) (by decide)).mono ?_
  rintro e w13 ⟨⟨y13, rfl, hy0, hy1⟩, m13⟩
  have zz4 : w4.heap.size ≤ w12.heap.size := by omega
  have zl4 : w.heap.size ≤ w4.heap.size := by omega
  have zm13 := m13.size
  have ac12 := m13.below ac11 (by omega) zl4
  have OV1 := m13.own OV1 (fun k hk => .inr (by have := (World.ownsRow.lt OV1 k hk).1; omega))
  have OG := m13.own OG (fun k hk => .inr (by have := (World.ownsRow.lt OG k hk).1; omega))
  have OR := m13.own OR (fun k hk => .inl (uR k hk))
  have L0 := (K0.below ac12).top
  have W0 := J0.out.below ac12
  have L1 := (K1.below ac12).top
  clear OV WV OUV m13
  go_wp2_with fail
  refine (strs_markG x1 w5.heap.size V1 _ y13 _ OV1 q1 hy0 (by omega)).mono ?_
  rintro e w14 ⟨rfl, _, g14⟩
  have zg14 := g14.size
  have lo14 := fun k hk => (World.ownsRow.lt OV1 k hk).1
  have OG := own_grew OG g14 (fun k h1 h2 => by have a1 := (World.ownsRow.lt OG k h1).1; have a2 := uV1 k h2; omega)
  have OR := own_grew OR g14 (fun k h1 h2 => by have a1 := uR k h1; have a2 := lo14 k h2; omega)
  have ac13 := grown_bel ac12 g14 (fun k hk => by have := lo14 k hk; omega)
  have L0 := (K0.below ac13).top
  have W0 := J0.out.below ac13
  have L1 := (K1.below ac13).top
  clear OV1 g14
  go_wp2_with fail
  refine (strs_eq R AG AR _ _ _ (own_segB OG) (own_segB OR) qr2).mono ?_
  rintro e w15 ⟨rfl, b15⟩
  have L0 := (L0.below b15).top
  have W0 := W0.below b15
  have L1 := (L1.below b15).top
  have OR := own_below OR b15
  have OG := own_below OG b15
  have ac14 := bel_trans ac13 b15
  have zb15 := b15.size
  go_wp2_with fail
  refine (strs_markG R w6.heap.size AG _ 1 _ OG qr2 (by decide) (by decide)).mono ?_
  rintro e w16 ⟨rfl, MG, g16⟩
  have zg16 := g16.size
  have lo16 := fun k hk => (World.ownsRow.lt OG k hk).1
  have OR := own_grew OR g16 (fun k h1 h2 => by have a1 := uR k h1; have a2 := lo16 k h2; omega)
  have ac15 := grown_bel ac14 g16 (fun k hk => by have := lo16 k hk; omega)
  have L0 := (K0.below ac15).top
  have W0 := J0.out.below ac15
  have L1 := (K1.below ac15).top
  clear OG g16
  go_wp2_with fail
  refine (strs_heldB R.length 1 AG _ _ (own_segB MG) qr2 (by decide) (by decide)).mono ?_
  rintro e w17 ⟨rfl, b17⟩
  have L0 := (L0.below b17).top
  have W0 := W0.below b17
  have L1 := (L1.below b17).top
  have OR := own_below OR b17
  have MG := own_below MG b17
  have ac16 := bel_trans ac15 b17
  have zb17 := b17.size
  go_wp2_with fail
  refine (brfs_toA x0 A0 c0 _ L0 W0 q0 zs.out).mono ?_
  rintro e w18 ⟨S, yS, rfl, OS, hs, b18⟩
  have L0 := (L0.below b18).top
  have W0 := W0.below b18
  have L1 := (L1.below b18).top
  have OR := own_below OR b18
  have MG := own_below MG b18
  have ac17 := bel_trans ac16 b18
  have zb18 := b18.size
  have HS := Lib.hid hs
  clear hs
  have WS := Lib.hid (HS.out.1.1.at_ (strsOkB_of HS.out.2 W0))
  go_wp2_with fail
  refine (strs_toO x1 A1 c1 _ L1 W1 q1).mono ?_
  rintro e w19 ⟨S1, rfl, OS1, b19⟩
  have L0 := (L0.below b19).top
  have W0 := W0.below b19
  have L1 := (L1.below b19).top
  have OR := own_below OR b19
  have MG := own_below MG b19
  have OS := own_below OS b19
  have WS := Lib.hid (WS.out.below b19)
  have ac18 := bel_trans ac17 b19
  have zb19 := b19.size
  go_wp2_with fail
  refine (impl_CopyReadN yS _ HS.out.2 _ (shortB_of HS.out.2 zs.out).1 x1 S S1 _ _ _ (own_segB OS) WS.out n0 (Nat.le_refl _) n0 (own_segB OS1) W1 n1).mono ?_
  rintro e w20 ⟨vH, hEOH, OH, b20⟩
  rw [HOK.out] at hEOH
  rw [HR.out] at OH
  subst hEOH
  have L0 := (L0.below b20).top
  have W0 := W0.below b20
  have L1 := (L1.below b20).top
  have OR := own_below OR b20
  have MG := own_below MG b20
  have OS := own_below OS b20
  have WS := Lib.hid (WS.out.below b20)
  have OS1 := own_below OS1 b20
  have ac19 := bel_trans ac18 b20
  have zb20 := b20.size
  have OH : w20.ownsRow _ 9 1 vH R.length (strs R) := OH
  obtain ⟨AH, cH, rfl, _, _⟩ := own_form OH
  clear OS WS OS1 HS
  go_wp2_with fail
  refine (strs_eq R AH AR _ _ _ (own_segB OH) (own_segB OR) qr2).mono ?_
  rintro e w21 ⟨rfl, b21⟩
  have L0 := (L0.below b21).top
  have W0 := W0.below b21
  have L1 := (L1.below b21).top
  have OR := own_below OR b21
  have MG := own_below MG b21
  have OH := own_below OH b21
  have ac20 := bel_trans ac19 b21
  have zb21 := b21.size
  go_wp2_with fail
  refine (strs_heldB R.length 1 AG _ _ (own_segB MG) qr2 (by decide) (by decide)).mono ?_
  rintro e w22 ⟨rfl, b22⟩
  have L0 := (L0.below b22).top
  have W0 := W0.below b22
  have L1 := (L1.below b22).top
  have OR := own_below OR b22
  have MG := own_below MG b22
  have OH := own_below OH b22
  have ac21 := bel_trans ac20 b22
  have zb22 := b22.size
  go_wp2
  go_ret
  exact ⟨rfl, ac21⟩
end Go.Proofs.Ytgddklafeaoleaa
