/-
  Walk of the law FnExactOutlineFrom.
-/
import Derived.Test.YtnoffpicjhcpfaaKinds2
import Derived.Test.YtnoffpicjhcpfaaFrom
namespace Go.Proofs.Ytnoffpicjhcpfaa
open Go.RowKit
set_option linter.unusedSimpArgs false
set_option linter.unusedVariables false

theorem walk_FnExactOutlineFrom (s0 : ByteArray) (w : World) (h0 : s0.size ≤ maxLen) : Calls Try.prog 12 #[.string s0] w fun e w' => e = .returned (.bool true) ∧ Below w.heap.size w w' := by
  have hm0 : s0.size ≤ 9223372036854775807 := h0
  by_cases hb0 : (1048576 : Int) < s0.size
  · go_enter Try.func12, Try.ntmps12
    go_wp2
    go_ret
    exact ⟨rfl, Below.refl _ _⟩
  go_enter Try.func12, Try.ntmps12
  have qr : (fromOf s0).length ≤ 1048576 := Nat.le_trans (fromOf_len s0) (by decide)
  go_wp2_with fail
  refine (spec_OutlineFrom s0 _ (by omega)).mono ?_
  rintro e w1 ⟨vR, rfl, OR, b1⟩
  obtain ⟨AR, cR, rfl, _, _, _⟩ := OR.form
  have OR : _ := OR.own
  have zb1 := b1.size
  have uR := fun k hk => (OR.lt k hk).2
  go_wp2_with fail
  refine (impl_OutlineFrom s0 _ (by omega)).mono ?_
  rintro e w2 ⟨vG, rfl, OG, b2⟩
  obtain ⟨AG, cG, rfl, _, _, _⟩ := OG.form
  have OG : _ := OG.own
  have OR := own_below OR b2
  have zb2 := b2.size
  have uG := fun k hk => (OG.lt k hk).2
  go_wp2_with fail
  refine (stks_eq (fromOf s0) AG AR _ _ _ ((Seg.of_own OG).mono (Nat.zero_le _) (Nat.le_refl _)) ((Seg.of_own OR).mono (Nat.zero_le _) (Nat.le_refl _)) qr).mono ?_
  rintro e w3 ⟨rfl, b3⟩
  have OR := own_below OR b3
  have OG := own_below OG b3
  have zb3 := b3.size
  go_wp2_with fail
  refine (stks_markO (fromOf s0) _ AG _ (1) _ OG qr (by omega) (by omega)).mono ?_
  rintro e w4 ⟨rfl, MG, b4⟩
  have OR := own_wrote OR b4 (fun k h1 h2 => by have a1 := (OR.lt k h1).1; have a2 := (OG.lt k h2).1; have a3 := uR k h1; have a4 := uG k h2; omega)
  have zb4 := b4.2
  have bbb4 := wrote_below b4 (fun k hk => (OG.lt k hk).1)
  clear OG
  have uMG := uG
  go_wp2_with fail
  refine (stks_held (fromOf s0).length 1 AG _ _ ((Seg.of_own MG).mono (Nat.zero_le _) (Nat.le_refl _)) qr (by decide) (by decide)).mono ?_
  rintro e w' ⟨rfl, rfl⟩
  go_wp2_with fail
  refine (impl_OutlineFrom s0 _ (by omega)).mono ?_
  rintro e w5 ⟨vH, rfl, OH, b5⟩
  obtain ⟨AH, cH, rfl, _, _, _⟩ := OH.form
  have OH : _ := OH.own
  have OR := own_below OR b5
  have MG := own_below MG b5
  have zb5 := b5.size
  have uH := fun k hk => (OH.lt k hk).2
  go_wp2_with fail
  refine (stks_eq (fromOf s0) AH AR _ _ _ ((Seg.of_own OH).mono (Nat.zero_le _) (Nat.le_refl _)) ((Seg.of_own OR).mono (Nat.zero_le _) (Nat.le_refl _)) qr).mono ?_
  rintro e w6 ⟨rfl, b6⟩
  have OR := own_below OR b6
  have MG := own_below MG b6
  have OH := own_below OH b6
  have zb6 := b6.size
  go_wp2_with fail
  refine (stks_held (fromOf s0).length 1 AG _ _ ((Seg.of_own MG).mono (Nat.zero_le _) (Nat.le_refl _)) qr (by decide) (by decide)).mono ?_
  rintro e w' ⟨rfl, rfl⟩
  have ac0 : Below w.heap.size w w1 := b1
  have ac1 := bel_trans ac0 b2
  have ac2 := bel_trans ac1 b3
  have ac3 := ac2.trans (bbb4.mono (by omega))
  have ac4 := bel_trans ac3 b5
  have ac5 := bel_trans ac4 b6
  go_wp2
  go_ret
  exact ⟨rfl, ac5⟩

end Go.Proofs.Ytnoffpicjhcpfaa
