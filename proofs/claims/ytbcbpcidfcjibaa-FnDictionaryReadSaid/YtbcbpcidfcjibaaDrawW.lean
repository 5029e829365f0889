/-
  Contract of l91Word: some small text.
-/
import Derived.Test.YtbcbpcidfcjibaaDraw2
namespace Go.Proofs.Ytbcbpcidfcjibaa
open Go.RowKit
set_option linter.unusedSimpArgs false
set_option linter.unusedVariables false

def DrewStr (g P N : Nat) (w : World) (e : Ending) (w' : World) : Prop := ∃ s : Str, e = .returned (.string s) ∧ s.size ≤ N ∧ Drew g P w w'
theorem spec_l91Word (g P : Nat) (w : World) (h : RdB w g P) (hp : P ≤ 900000) :
    Calls Try.prog 45 #[.pointer (some ⟨g, 0, none⟩)] w (DrewStr g (P + 9) 100 w) := by
  go_enter Try.func45, Try.ntmps45
  go_wp2_with fail
  refine (pickB g P _ _ h (by omega) (by decide) (by decide)).mono ?_
  rintro e w1 ⟨x, rfl, hx0, hx1, d1⟩
  cases hz : (x == 0)
  · go_wp2_with fail
    refine (pickB g (P + 1) _ _ d1.1 (by omega) (by decide) (by decide)).mono ?_
    rintro e w2 ⟨y, rfl, hy0, hy1, d2⟩
    have d12 := d1.trans d2
    go_wp2
    go_loopw [3, 5] (fun s i wr => ∃ k : Nat, (k : Int) ≤ 1 + y ∧ i = .int .i64 k ∧ ∃ t : Str, s = .string t ∧ t.size ≤ 26 * k ∧ Drew g (P + 2 + 2 * k) w wr) (fun _ i _ => (1 + y).toNat - (intOf i).toNat)
    case atStart => exact ⟨0, by omega, rfl, ByteArray.empty, rfl, by simp, d12⟩
    case round =>
      obtain ⟨k, hk, rfl, t, rfl, ht, dr⟩ := hrel
      by_cases hlt : (k : Int) < 1 + y
      · go_wp2_with fail
        refine (ofB 13 _ 6 g (P + 2 + 2 * k) _ rfl rfl (by decide) (by decide) dr.1 (by omega)).mono ?_
        rintro e w3 ⟨s1, rfl, hs1, d3⟩
        have d03 := dr.trans d3
        go_wp2_with fail
        refine (ofB 13 _ 5 g (P + 2 + 2 * k + 1) _ rfl rfl (by decide) (by decide) d3.1 (by omega)).mono ?_
        rintro e w4 ⟨s2, rfl, hs2, d4⟩
        have d04 := d03.trans d4
        go_wp2
        go_roundw
        case rel => exact ⟨k + 1, by omega, by go_num, _, rfl, by simp [ByteArray.size_append]; omega, d04.mono (by omega)⟩
        case measure => simp [intOf]; omega
      · have hk3 : k ≤ 3 := by omega
        go_wp2_with fail
        refine (ofB 13 _ 4 g (P + 2 + 2 * k) _ rfl rfl (by decide) (by decide) dr.1 (by omega)).mono ?_
        rintro e w3 ⟨s1, rfl, hs1, d3⟩
        have d03 := dr.trans d3
        go_wp2
        go_ret
        exact ⟨_, rfl, by simp [ByteArray.size_append]; omega, d03.mono (by omega)⟩
  · go_wp2_with fail
    refine (ofB 13 _ 4 g (P + 1) _ rfl rfl (by decide) (by decide) d1.1 (by omega)).mono ?_
    rintro e w2 ⟨s, rfl, hs, d2⟩
    have d12 := d1.trans d2
    go_wp2
    go_ret
    exact ⟨s, rfl, by omega, d12.mono (by omega)⟩
end Go.Proofs.Ytbcbpcidfcjibaa
