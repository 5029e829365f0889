/-
  Written forms and lists of them: the laws' helpers; WrittenValid and LineValid (both texts).
-/
import Derived.Test.YtnoffpicjhcpfaaWof
import Derived.Test.YtnoffpicjhcpfaaWrtK
import Derived.Test.YtnoffpicjhcpfaaDict
namespace Go.Proofs.Ytnoffpicjhcpfaa
open Go.RowKit Go.Sort
set_option linter.unusedSimpArgs false
set_option linter.unusedVariables false

def wrtOk (os : List Stk) (p : Int) : Bool := outOk os && (decide (0 ≤ p) && decide (p ≤ 2))

theorem spec_WrittenValid (os : List Stk) (p : Int) (A : Option Addr) (c : Nat) (w : World) (hw : Seg w 0 w.heap.size A (flat stkC os)) (hn : os.length ≤ maxLen) :
    Calls Try.prog 34 #[.agg #[.slice A os.length c, .int .i64 p]] w fun e w' => e = .returned (.bool (wrtOk os p)) ∧ Below w.heap.size w w' := by
  have bA := bel_alloc (Below.refl w.heap.size w) (.cells #[.slice A os.length c, .int .i64 p] 47)
  have hw1 := (hw.below bA).top
  go_enter Try.func34, Try.ntmps34
  go_wp2_with fail
  refine (spec_OutlineValid os A c _ hw1 hn).mono ?_
  rintro e w1 ⟨rfl, b1⟩
  have k1 : w1.cell? ⟨w.heap.size, 1, none⟩ = some (.int .i64 p) := box_later b1 1
  have bal := bel_trans bA b1
  clear bA b1 hw1
  cases ho : outOk os
  · have HO : Hid (wrtOk os p = false) := by rw [Hid, wrtOk, ho]; rfl
    go_wp2
    go_ret
    exact ⟨ret_bool HO.out.symm, bal⟩
  · have HO : Hid (wrtOk os p = (decide (0 ≤ p) && decide (p ≤ 2))) := by rw [Hid, wrtOk, ho]; rfl
    go_wp2_with fail
    refine (spec_l6In _ _ _ _).mono ?_
    rintro e w2 ⟨rfl, rfl⟩
    go_wp2
    go_ret
    exact ⟨ret_bool HO.out.symm, bal⟩

theorem impl_WrittenValid (os : List Stk) (p : Int) (A : Option Addr) (c : Nat) (w : World) (hw : Seg w 0 w.heap.size A (flat stkC os)) (hn : os.length ≤ maxLen) :
    Calls Try.prog 36 #[.agg #[.slice A os.length c, .int .i64 p]] w fun e w' => e = .returned (.bool (wrtOk os p)) ∧ Below w.heap.size w w' := by
  have bA := bel_alloc (Below.refl w.heap.size w) (.cells #[.slice A os.length c, .int .i64 p] 47)
  have hw1 := (hw.below bA).top
  go_enter Try.func36, Try.ntmps36
  go_wp2_with fail
  refine (impl_OutlineValid os A c _ hw1 hn).mono ?_
  rintro e w1 ⟨rfl, b1⟩
  have k1 : w1.cell? ⟨w.heap.size, 1, none⟩ = some (.int .i64 p) := box_later b1 1
  have bal := bel_trans bA b1
  clear bA b1 hw1
  cases ho : outOk os
  · have HO : Hid (wrtOk os p = false) := by rw [Hid, wrtOk, ho]; rfl
    go_wp2
    go_ret
    exact ⟨ret_bool HO.out.symm, bal⟩
  · have HO : Hid (wrtOk os p = (decide (0 ≤ p) && decide (p ≤ 2))) := by rw [Hid, wrtOk, ho]; rfl
    go_wp2
    all_goals
      go_ret
      exact ⟨ret_bool (by rw [HO.out, Bool.eq_iff_iff]; simp; omega), bal⟩

theorem laws_szWritten (os : List Stk) (p : Int) (A : Option Addr) (c : Nat) (left : Int) (w : World) (hn : os.length ≤ maxLen) (h0 : 0 ≤ left) (h1 : left ≤ 1048576) :
    Calls Try.prog 33 #[.agg #[.slice A os.length c, .int .i64 p], .int .i64 left] w fun e w' => (∃ z, e = .returned (.int .i64 z) ∧ LeftB left os.length z) ∧ Below w.heap.size w w' := by
  go_enter Try.func33, Try.ntmps33
  go_wp2_with fail
  refine (laws_szStrokeS os A c left _ hn h0 h1).mono ?_
  rintro e w1 ⟨⟨z, rfl, hz⟩, rfl⟩
  rcases hz with rfl | ⟨hz0, hz1⟩
  · go_wp2
    go_ret
    exact ⟨⟨_, rfl, .inl rfl⟩, bel_alloc (Below.refl _ _) _⟩
  · have HZ := Lib.hid hz1
    clear hz1
    go_wp2
    go_ret
    exact ⟨⟨z, rfl, .inr ⟨hz0, by have := HZ.out; omega, by have := HZ.out; omega⟩⟩, bel_alloc (Below.refl _ _) _⟩

theorem wrt_toO (os : List Stk) (p : Int) (A : Option Addr) (c : Nat) (w : World) (hw : Seg w 0 w.heap.size A (flat stkC os)) (hn : os.length ≤ 1048576) :
    Calls Try.prog 35 #[.agg #[.slice A os.length c, .int .i64 p]] w fun e w' => ∃ A', e = .returned (.agg #[.slice A' os.length os.length, .int .i64 p]) ∧ w'.ownsRow w.heap.size 74 2 (.slice A' os.length os.length) os.length (flat stkC os) ∧ Below w.heap.size w w' := by
  generalize hB1 : (.cells #[.slice A os.length c, .int .i64 p] 43 : Obj) = B1
  have HB1 := Lib.hid hB1
  have bA := bel_alloc (bel_alloc (bel_alloc (Below.refl w.heap.size w) (.cells #[.slice A os.length c, .int .i64 p] 43)) (.cells #[.slice none 0 0, .int .i64 0] 47)) (.cells #[.slice none 0 0, .int .i64 0] 47)
  have hw1 := (hw.below bA).top
  clear hB1
  go_enter Try.func35, Try.ntmps35
  go_wp2_with fail
  refine (laws_toStrokeS_own os A c _ hw1 hn).mono ?_
  rintro e w1 ⟨A', rfl, own, b1⟩
  have hbb := bel_trans bA b1
  obtain ⟨hcc, hff⟩ := bcell b1
  have hz : w.heap.size + 1 + 1 < w1.heap.size := by have := b1.size; simp at this; omega
  have hlo : w.heap.size + 2 < (((w.alloc (.cells #[.slice A os.length c, .int .i64 p] 43)).alloc (.cells #[.slice none 0 0, .int .i64 0] 47)).alloc (.cells #[.slice none 0 0, .int .i64 0] 47)).heap.size := by simp
  have OWN : Hid (∀ u0 u1 u2 u3, ((((w1.setCell ⟨w.heap.size + 1 + 1, 0, none⟩ u0).setCell ⟨w.heap.size + 1 + 1, 1, none⟩ u1).setCell ⟨w.heap.size + 1, 0, none⟩ u2).setCell ⟨w.heap.size + 1, 1, none⟩ u3).ownsRow w.heap.size 74 2 (.slice A' os.length os.length) os.length (flat stkC os)) :=
    fun u0 u1 u2 u3 => own_mono (own_set1 (own_set1 (own_set1 (own_set1 own hlo u0) hlo u1) (by omega) u2) (by omega) u3) (by omega)
  clear b1 bA hw1 own hlo
  go_wp2
  exact bodyPost_ret (v := .agg #[.slice A' os.length os.length, .int .i64 p]) (by simp [results, Try.results35, go_sem, hcc]) rfl
    ⟨A', rfl, OWN.out _ _ _ _, (((hbb.setCell (by simp; omega) _).setCell (by simp; omega) _).setCell (by simp) _).setCell (by simp) _⟩
end Go.Proofs.Ytnoffpicjhcpfaa
