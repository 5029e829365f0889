/-
  Walk of the law FnExactWrittenFrom.
-/
import Derived.Test.YtnoffpicjhcpfaaWfrom
namespace Go.Proofs.Ytnoffpicjhcpfaa
open Go.RowKit Go.Sort
set_option linter.unusedSimpArgs false
set_option linter.unusedVariables false

set_option maxHeartbeats 1000000 in
theorem walk_FnExactWrittenFrom (s0 : ByteArray) (w : World) (h0 : s0.size ≤ maxLen) : Calls Try.prog 14 #[.string s0] w fun e w' => e = .returned (.bool true) ∧ Below w.heap.size w w' := by
  have hm0 : s0.size ≤ 9223372036854775807 := h0
  by_cases hb0 : (1048576 : Int) < s0.size
  · go_enter Try.func14, Try.ntmps14
    go_wp2
    go_ret
    exact ⟨rfl, Below.refl _ _⟩
  go_enter Try.func14, Try.ntmps14
  have qr : (wfOf s0).length ≤ 1048576 := (Nat.le_trans (wfOf_len s0) (by decide))
  go_wp2_with fail
  refine (spec_WrittenFrom s0 _ (by omega)).mono ?_
  rintro e w1 ⟨vR, rfl, OR, b1⟩
  obtain ⟨AR, cR, rfl, _, _, _⟩ := OR.form
  have OR : _ := OR.own
  have zb1 := b1.size
  have ac0 : Below w.heap.size w _ := b1
  have uR := fun k hk => (OR.lt k hk).2
  have bxR := bel_alloc (Below.refl w1.heap.size w1) (.cells #[.slice AR (wfOf s0).length cR, .int .i64 (wfP s0)] 47)
  have LXR := Seg.lit w1 #[.slice AR (wfOf s0).length cR, .int .i64 (wfP s0)] 47
  have OR := own_below OR bxR
  have zbxR := bxR.size
  have ac1 := bel_trans ac0 bxR
  go_wp2_with fail
  refine (impl_WrittenFrom s0 _ (by omega)).mono ?_
  rintro e w2 ⟨vG, rfl, OG, b2⟩
  obtain ⟨AG, cG, rfl, _, _, _⟩ := OG.form
  have OG : _ := OG.own
  have LXR := LXR.below b2
  have OR := own_below OR b2
  have zb2 := b2.size
  have ac2 := bel_trans ac1 b2
  have uG := fun k hk => (OG.lt k hk).2
  obtain ⟨kR0, kR1, kR2⟩ := LXR.box2
  have bxG := bel_alloc (Below.refl w2.heap.size w2) (.cells #[.slice AG (wfOf s0).length cG, .int .i64 (wfP s0)] 47)
  have LXG := Seg.lit w2 #[.slice AG (wfOf s0).length cG, .int .i64 (wfP s0)] 47
  have LXR := LXR.below bxG
  have OR := own_below OR bxG
  have OG := own_below OG bxG
  have zbxG := bxG.size
  have ac3 := bel_trans ac2 bxG
  go_wp2_with fail
  refine (wrt_eq (wfOf s0) (wfP s0) AG AR _ _ _ ((Seg.of_own OG).mono (Nat.zero_le _) (Nat.le_refl _)) ((Seg.of_own OR).mono (Nat.zero_le _) (Nat.le_refl _)) qr).mono ?_
  rintro e w3 ⟨rfl, b3⟩
  have LXR := LXR.below b3
  have LXG := LXG.below b3
  have OR := own_below OR b3
  have OG := own_below OG b3
  have zb3 := b3.size
  have ac4 := bel_trans ac3 b3
  clear kR0 kR1 kR2
  obtain ⟨kG0, kG1, kG2⟩ := LXG.box2
  go_wp2_with fail
  refine (wrt_markG (wfOf s0) _ AG _ _ (1) _ OG qr (by omega) (by omega)).mono ?_
  rintro e w4 ⟨rfl, MG, b4⟩
  have LXR := LXR.grown b4 (fun k hk => by have a1 := (OG.lt k hk).1; have a3 := uG k hk; omega)
  have LXG := LXG.grown b4 (fun k hk => by have a1 := (OG.lt k hk).1; have a3 := uG k hk; omega)
  have OR := own_grew OR b4 (fun k h1 h2 => by have a1 := (OR.lt k h1).1; have a2 := (OG.lt k h2).1; have a3 := uR k h1; have a4 := uG k h2; omega)
  have zb4 := b4.size
  have ac5 := grown_bel ac4 b4 (fun k hk => by have := (OG.lt k hk).1; omega)
  clear OG
  have uMG := uG
  clear kG0 kG1 kG2
  obtain ⟨kG0, kG1, kG2⟩ := LXG.box2
  go_wp2_with fail
  refine (wrt_heldB (wfOf s0).length 1 _ AG _ _ ((Seg.of_own MG).mono (Nat.zero_le _) (Nat.le_refl _)) qr (by decide) (by decide)).mono ?_
  rintro e w5 ⟨rfl, b5⟩
  have LXR := LXR.below b5
  have LXG := LXG.below b5
  have OR := own_below OR b5
  have MG := own_below MG b5
  have zb5 := b5.size
  have ac6 := bel_trans ac5 b5
  clear kG0 kG1 kG2
  go_wp2_with fail
  refine (impl_WrittenFrom s0 _ (by omega)).mono ?_
  rintro e w6 ⟨vH, rfl, OH, b6⟩
  obtain ⟨AH, cH, rfl, _, _, _⟩ := OH.form
  have OH : _ := OH.own
  have LXR := LXR.below b6
  have LXG := LXG.below b6
  have OR := own_below OR b6
  have MG := own_below MG b6
  have zb6 := b6.size
  have ac7 := bel_trans ac6 b6
  have uH := fun k hk => (OH.lt k hk).2
  obtain ⟨kR0, kR1, kR2⟩ := LXR.box2
  have bxH := bel_alloc (Below.refl w6.heap.size w6) (.cells #[.slice AH (wfOf s0).length cH, .int .i64 (wfP s0)] 47)
  have LXH := Seg.lit w6 #[.slice AH (wfOf s0).length cH, .int .i64 (wfP s0)] 47
  have LXR := LXR.below bxH
  have LXG := LXG.below bxH
  have OR := own_below OR bxH
  have MG := own_below MG bxH
  have OH := own_below OH bxH
  have zbxH := bxH.size
  have ac8 := bel_trans ac7 bxH
  go_wp2_with fail
  refine (wrt_eq (wfOf s0) (wfP s0) AH AR _ _ _ ((Seg.of_own OH).mono (Nat.zero_le _) (Nat.le_refl _)) ((Seg.of_own OR).mono (Nat.zero_le _) (Nat.le_refl _)) qr).mono ?_
  rintro e w7 ⟨rfl, b7⟩
  have LXR := LXR.below b7
  have LXG := LXG.below b7
  have LXH := LXH.below b7
  have OR := own_below OR b7
  have MG := own_below MG b7
  have OH := own_below OH b7
  have zb7 := b7.size
  have ac9 := bel_trans ac8 b7
  clear kR0 kR1 kR2
  obtain ⟨kG0, kG1, kG2⟩ := LXG.box2
  go_wp2_with fail
  refine (wrt_heldB (wfOf s0).length 1 _ AG _ _ ((Seg.of_own MG).mono (Nat.zero_le _) (Nat.le_refl _)) qr (by decide) (by decide)).mono ?_
  rintro e w8 ⟨rfl, b8⟩
  have LXR := LXR.below b8
  have LXG := LXG.below b8
  have LXH := LXH.below b8
  have OR := own_below OR b8
  have MG := own_below MG b8
  have OH := own_below OH b8
  have zb8 := b8.size
  have ac10 := bel_trans ac9 b8
  clear kG0 kG1 kG2
  go_wp2
  go_ret
  exact ⟨rfl, ac10⟩

end Go.Proofs.Ytnoffpicjhcpfaa
