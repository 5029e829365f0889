/-
  Contracts of WrittenOf (both texts); written forms by value: compared, marked, held.
-/
import Derived.Test.YtniemanapimjoaaWo
import Derived.Test.YtniemanapimjoaaWords3
import Derived.Test.YtniemanapimjoaaMrk
namespace Go.Proofs.Ytniemanapimjoaa
open Go.RowKit Go.Sort
set_option linter.unusedSimpArgs false
set_option linter.unusedVariables false

/-- what a function that returns a written form and whether there is one leaves -/
def GaveWrt (xs : List Stk) (p : Int) (ok : Bool) (w : World) (e : Ending) (w' : World) : Prop := ∃ v, e = .returned (.tuple #[.agg #[v, .int .i64 p], .bool ok]) ∧ OwnStks w' w.heap.size v xs ∧ Below w.heap.size w w'
theorem own_set1 {w : World} {base n b o : Nat} {e : TypeId} {size : Nat} {v : Value} {xs : List Value} (h : w.ownsRow base e size v n xs) (hb : b < base) (u : Value) : (w.setCell ⟨b, o, none⟩ u).ownsRow base e size v n xs :=
  own_grew (vm := .slice (some ⟨b, 0, none⟩) 0 0) h (grow_set w b o 0 0 u) (fun k h1 h2 => by simp [Value.ownBlock] at h2; have := (h.lt k h1).1; omega)
def wofP (ss : List Sgn) (s : Str) : Int := if woOk ss s then posOf s else 0
theorem wof_no {ss : List Sgn} {s : Str} (h : woOk ss s = false) : woOf ss s = [] ∧ wofP ss s = 0 := ⟨by rw [woOf, h]; rfl, by rw [wofP, h]; rfl⟩
theorem wof_yes {ss : List Sgn} {s : Str} (h : woOk ss s = true) : wofP ss s = posOf s := by rw [wofP, h]; rfl

set_option maxRecDepth 100000 in
theorem spec_WrittenOf (ss : List Sgn) (s : Str) (A : Option Addr) (c : Nat) (w : World) (hw : Seg w 0 w.heap.size A (flat sgnC ss)) (ho : OkSgns ss) (hn : ss.length ≤ maxLen) (hs : s.size ≤ maxLen) :
    Calls Try.prog 73 #[.slice A ss.length c, .string s] w (GaveWrt (woOf ss s) (wofP ss s) (woOk ss s) w) := by
  have bB := bel_alloc (Below.refl w.heap.size w) (.cells #[.slice none 0 0, .int .i64 0] 98)
  have hwB := (hw.below bB).top
  go_enter Try.func73, Try.ntmps73
  go_wp2_with fail
  refine (spec_WordOutline ss s A c _ hwB ho hn hs).mono ?_
  rintro e w1 ⟨v2, rfl, own2, b1⟩
  have bal := bel_trans bB b1
  have f0 : w1.cell? ⟨w.heap.size, 0, none⟩ = some (.slice none 0 0) := box_later b1 0
  have f1 : w1.cell? ⟨w.heap.size, 1, none⟩ = some (.int .i64 0) := box_later b1 1
  have f2 : w1.frozen? ⟨w.heap.size, 0, none⟩ = false := (b1.frozen (p := ⟨w.heap.size, 0, none⟩) (by simp)).trans (box_frozen _ _ _ _)
  have f3 : w1.frozen? ⟨w.heap.size, 1, none⟩ = false := (b1.frozen (p := ⟨w.heap.size, 1, none⟩) (by simp)).trans (box_frozen _ _ _ _)
  have hlt : w.heap.size < (w.alloc (.cells #[.slice none 0 0, .int .i64 0] 98)).heap.size := by simp
  obtain ⟨A2, c2, rfl, _, _, _⟩ := own2.form
  have OWN : Hid (OwnStks w1 w.heap.size (.slice A2 (woOf ss s).length c2) (woOf ss s) ∧ ∀ u0 u1, OwnStks ((w1.setCell ⟨w.heap.size, 0, none⟩ u0).setCell ⟨w.heap.size, 1, none⟩ u1) w.heap.size (.slice A2 (woOf ss s).length c2) (woOf ss s)) :=
    ⟨own_mono own2 (Nat.le_of_lt hlt), fun u0 u1 => own_mono (own_set1 (own_set1 own2 hlt u0) hlt u1) (Nat.le_of_lt hlt)⟩
  clear b1 bB hwB own2 hlt
  cases hx : woOk ss s
  · have HR := Lib.hid (wof_no hx)
    go_wp2
    exact bodyPost_ret (v := .tuple #[.agg #[.slice none 0 0, .int .i64 0], .bool false]) (by simp [results, Try.results73, go_sem, f0, f1, f2, f3]) rfl ⟨.slice none 0 0, by rw [HR.out.2, hx], by rw [HR.out.1]; exact own_none _ _, (bal.setCell (p := ⟨w.heap.size, 0, none⟩) (Nat.le_refl _) _).setCell (p := ⟨w.heap.size, 1, none⟩) (Nat.le_refl _) _⟩
  · have HR := Lib.hid (wof_yes hx)
    go_wp2_with fail
    refine (spec_WordPosition s _ hs).mono ?_
    rintro e w' ⟨rfl, rfl⟩
    rw [← HR.out]
    go_wp2
    exact bodyPost_ret (v := .tuple #[.agg #[.slice A2 (woOf ss s).length c2, .int .i64 (wofP ss s)], .bool true]) (by simp [results, Try.results73, go_sem, f0, f1, f2, f3]) rfl ⟨_, by rw [hx], OWN.out.2 _ _, (bal.setCell (p := ⟨w.heap.size, 0, none⟩) (Nat.le_refl _) _).setCell (p := ⟨w.heap.size, 1, none⟩) (Nat.le_refl _) _⟩

set_option maxRecDepth 100000 in
theorem impl_WrittenOf (ss : List Sgn) (s : Str) (A : Option Addr) (c : Nat) (w : World) (hw : Seg w 0 w.heap.size A (flat sgnC ss)) (ho : OkSgns ss) (hn : ss.length ≤ maxLen) (hs : s.size ≤ maxLen) :
    Calls Try.prog 74 #[.slice A ss.length c, .string s] w (GaveWrt (woOf ss s) (wofP ss s) (woOk ss s) w) := by
  have bB := bel_alloc (Below.refl w.heap.size w) (.cells #[.slice none 0 0, .int .i64 0] 98)
  have hwB := (hw.below bB).top
  go_enter Try.func74, Try.ntmps74
  go_wp2_with fail
  refine (impl_WordOutline ss s A c _ hwB ho hn hs).mono ?_
  rintro e w1 ⟨v2, rfl, own2, b1⟩
  have bal := bel_trans bB b1
  have hlt : w.heap.size < (w.alloc (.cells #[.slice none 0 0, .int .i64 0] 98)).heap.size := by simp
  obtain ⟨A2, c2, rfl, _, _, _⟩ := own2.form
  cases hx : woOk ss s
  · have HR := Lib.hid (wof_no hx)
    have f0 : w1.cell? ⟨w.heap.size, 0, none⟩ = some (.slice none 0 0) := box_later b1 0
    have f1 : w1.cell? ⟨w.heap.size, 1, none⟩ = some (.int .i64 0) := box_later b1 1
    have f2 : w1.frozen? ⟨w.heap.size, 0, none⟩ = false := (b1.frozen (p := ⟨w.heap.size, 0, none⟩) (by simp)).trans (box_frozen _ _ _ _)
    have f3 : w1.frozen? ⟨w.heap.size, 1, none⟩ = false := (b1.frozen (p := ⟨w.heap.size, 1, none⟩) (by simp)).trans (box_frozen _ _ _ _)
    clear b1 bB hwB own2 hlt
    go_wp2
    exact bodyPost_ret (v := .tuple #[.agg #[.slice none 0 0, .int .i64 0], .bool false]) (by simp [results, Try.results74, go_sem, f0, f1, f2, f3]) rfl ⟨.slice none 0 0, by rw [HR.out.2, hx], by rw [HR.out.1]; exact own_none _ _, (bal.setCell (p := ⟨w.heap.size, 0, none⟩) (Nat.le_refl _) _).setCell (p := ⟨w.heap.size, 1, none⟩) (Nat.le_refl _) _⟩
  · have HR := Lib.hid (wof_yes hx)
    go_wp2_with fail
    refine (impl_WordPosition s _ hs).mono ?_
    rintro e w3 ⟨rfl, b3⟩
    rw [← HR.out]
    have b13 := bel_trans b1 b3
    have f0 : w3.cell? ⟨w.heap.size, 0, none⟩ = some (.slice none 0 0) := box_later b13 0
    have f1 : w3.cell? ⟨w.heap.size, 1, none⟩ = some (.int .i64 0) := box_later b13 1
    have f2 : w3.frozen? ⟨w.heap.size, 0, none⟩ = false := (b13.frozen (p := ⟨w.heap.size, 0, none⟩) (by simp)).trans (box_frozen _ _ _ _)
    have f3 : w3.frozen? ⟨w.heap.size, 1, none⟩ = false := (b13.frozen (p := ⟨w.heap.size, 1, none⟩) (by simp)).trans (box_frozen _ _ _ _)
    have own3 := own_belowB own2 b3
    have OWN : Hid (∀ u0 u1, OwnStks ((w3.setCell ⟨w.heap.size, 0, none⟩ u0).setCell ⟨w.heap.size, 1, none⟩ u1) w.heap.size (.slice A2 (woOf ss s).length c2) (woOf ss s)) :=
      fun u0 u1 => own_mono (own_set1 (own_set1 own3 hlt u0) hlt u1) (Nat.le_of_lt hlt)
    have bal3 := bel_trans bal b3
    clear b1 bB hwB own2 own3 hlt b3 b13
    go_wp2
    exact bodyPost_ret (v := .tuple #[.agg #[.slice A2 (woOf ss s).length c2, .int .i64 (wofP ss s)], .bool true]) (by simp [results, Try.results74, go_sem, f0, f1, f2, f3]) rfl ⟨_, by rw [hx], OWN.out _ _, (bal3.setCell (p := ⟨w.heap.size, 0, none⟩) (Nat.le_refl _) _).setCell (p := ⟨w.heap.size, 1, none⟩) (Nat.le_refl _) _⟩
end Go.Proofs.Ytniemanapimjoaa
