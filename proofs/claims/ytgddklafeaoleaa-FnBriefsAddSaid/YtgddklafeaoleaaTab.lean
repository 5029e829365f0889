/-
  A table of whole numbers of the call's own, read and stored by index; CopyMany's closure.
-/
import Derived.Test.YtgddklafeaoleaaTok
import Derived.StillTailTactics
namespace Go.Proofs.Ytgddklafeaoleaa
open Go.RowKit Go.Sort
set_option linter.unusedSimpArgs false
set_option linter.unusedVariables false

theorem info_int : (Try.prog.info? 3).map (fun i => (i.zero, i.size, i.bytes)) = some (some (.int .i64 0), 1, 8) := by kernel_rfl
def updF (f : Nat → Int) (i : Nat) (v : Int) : Nat → Int := fun j => if j = i then v else f j
theorem updF_same (f : Nat → Int) (i : Nat) (v : Int) : updF f i v i = v := by simp [updF]
theorem updF_other (f : Nat → Int) {i j : Nat} (v : Int) (h : j ≠ i) : updF f i v j = f j := by simp [updF, h]
def tabC (n : Nat) (f : Nat → Int) : List Value := (List.range n).map fun i => Value.int .i64 (f i)
theorem tabC_len (n : Nat) (f : Nat → Int) : (tabC n f).length = n := by simp [tabC]
theorem tabC_at {n i : Nat} (f : Nat → Int) (h : i < n) : (tabC n f)[i]? = some (.int .i64 (f i)) := by simp [tabC, h]
theorem tabC_set {n i : Nat} (f : Nat → Int) (v : Int) : (tabC n f).set i (.int .i64 v) = tabC n (updF f i v) := by
  apply List.ext_getElem?
  intro j
  rw [List.getElem?_set]
  by_cases h : i = j
  · subst h
    simp only [tabC_len, if_true]
    by_cases hl : i < n
    · rw [if_pos hl, tabC_at _ hl, updF_same]
    · rw [if_neg hl]
      exact (List.getElem?_eq_none (by rw [tabC_len]; omega)).symm
  · rw [if_neg h]
    by_cases hl : j < n
    · rw [tabC_at _ hl, tabC_at _ hl, updF_other _ _ (Ne.symm h)]
    · rw [List.getElem?_eq_none (by rw [tabC_len]; omega), List.getElem?_eq_none (by rw [tabC_len]; omega)]
theorem tabC_congr {n : Nat} {f g : Nat → Int} (h : ∀ i, i < n → f i = g i) : tabC n f = tabC n g := by
  unfold tabC
  refine List.map_congr_left fun i hi => ?_
  rw [h i (List.mem_range.1 hi)]
def Tab (w : World) (base q n : Nat) (f : Nat → Int) : Prop := w.ownsRow base 3 1 (.slice (some ⟨q, 0, none⟩) n n) n (tabC n f)
section
variable {w w' : World} {base q n : Nat} {f g : Nat → Int}
theorem Tab.cell (h : Tab w base q n f) {i : Nat} (hi : i < n) : w.cell? ⟨q, i, none⟩ = some (.int .i64 (f i)) := (World.ownsRow.cellAt h i (by omega)).trans (tabC_at f hi)
theorem Tab.free (h : Tab w base q n f) (i : Nat) : w.frozen? ⟨q, i, none⟩ = false := World.ownsRow.frozenAt h i
theorem Tab.set (h : Tab w base q n f) (i : Nat) (v : Int) : Tab (w.setCell ⟨q, i, none⟩ (.int .i64 v)) base q n (updF f i v) := by
  have := (World.ownsRow.stored h i (.int .i64 v)).1
  rwa [tabC_set] at this
theorem Tab.below (h : Tab w base q n f) (hb : Below w.heap.size w w') : Tab w' base q n f := own_below h hb
theorem Tab.congr (h : Tab w base q n f) (hf : ∀ i, i < n → f i = g i) : Tab w base q n g := by
  unfold Tab at h ⊢; rwa [tabC_congr hf] at h
theorem Tab.lt (h : Tab w base q n f) : base ≤ q ∧ q < w.heap.size := World.ownsRow.lt h q (by simp [Value.ownBlock])
end
theorem Tab.made (w : World) (base n : Nat) (hb : base ≤ w.heap.size) (hn : n ≤ 8388608) : Tab (w.alloc (.cells (madeCells (Value.int .i64 0).cells (n * 1)) 3)) base w.heap.size n (fun _ => 0) := by
  have h := World.ownsRow_lit (size := 1) (e := 3) (base := base) w (madeCells (Value.int .i64 0).cells (n * 1)) n hb (by simp [maxLen]; omega) (by simp [madeCells])
  have e : (madeCells (Value.int .i64 0).cells (n * 1)).toList = tabC n (fun _ => 0) := by
    apply List.ext_getElem?
    intro j
    by_cases hl : j < n
    · rw [tabC_at _ hl]
      simp [madeCells, Value.cells, hl, Nat.mod_one]
    · rw [List.getElem?_eq_none (by simp [madeCells]; omega), List.getElem?_eq_none (by rw [tabC_len]; omega)]
  rw [e] at h
  exact h

/-- the table and the variable that leads to it -/
structure Desk (w : World) (base p q n : Nat) (f : Nat → Int) : Prop where
  tab : Tab w base q n f
  ptr : w.cell? ⟨p, 0, none⟩ = some (.slice (some ⟨q, 0, none⟩) n n)
  plo : base ≤ p
  plt : p < w.heap.size
  pne : p ≠ q
theorem Desk.below {w w' : World} {base p q n : Nat} {f : Nat → Int} (h : Desk w base p q n f) (hb : Below w.heap.size w w') : Desk w' base p q n f :=
  ⟨h.tab.below hb, (hb.cell (p := ⟨p, 0, none⟩) h.plt).trans h.ptr, h.plo, Nat.lt_of_lt_of_le h.plt hb.size, h.pne⟩
theorem Desk.set {w : World} {base p q n : Nat} {f : Nat → Int} (h : Desk w base p q n f) (i : Nat) (v : Int) : Desk (w.setCell ⟨q, i, none⟩ (.int .i64 v)) base p q n (updF f i v) :=
  ⟨h.tab.set i v, by rw [World.cell?_setCell_other _ _ _ _ (by intro e; injection e with e; exact h.pne e.symm)]; exact h.ptr, h.plo, by simpa [World.setCell] using h.plt, h.pne⟩
theorem Desk.congr {w : World} {base p q n : Nat} {f g : Nat → Int} (h : Desk w base p q n f) (hf : ∀ i, i < n → f i = g i) : Desk w base p q n g := ⟨h.tab.congr hf, h.ptr, h.plo, h.plt, h.pne⟩
theorem Desk.drew {w : World} {base p q n : Nat} {f : Nat → Int} (h : Desk w base p q n f) : Desk w.drew base p q n f := h.below (Below.refl _ _).drew

set_option maxRecDepth 100000 in
set_option maxHeartbeats 1000000 in
theorem impl_manyStep (k wd n : Nat) (tb tc : Int) (base p q : Nat) (f : Nat → Int) (w : World) (h : Desk w base p q n f) (hk : k + wd < n) (hn : n ≤ 1048577) (h1 : 0 ≤ f k ∧ f k ≤ 1000000000000000) (h2 : 0 ≤ f (k + wd) ∧ f (k + wd) ≤ 1000000000000000) :
    Calls Try.prog 62 #[.int .i64 (k : Int), .agg #[.int .i64 tb, .int .i64 (wd : Int), .int .i64 tc], .pointer (some ⟨p, 0, none⟩)] w fun e w' => e = .returned (.tuple #[]) ∧ Desk w' base p q n (updF f k (f k + f (k + wd))) ∧ w.grownBy w' (some q) := by
  have bA := bel_alloc (Below.refl w.heap.size w) (.cells #[.int .i64 tb, .int .i64 (wd : Int), .int .i64 tc] 70)
  have D1 := h.below bA
  have bS := grow_trans (grow_trans (grow_below (r := some q) bA) (grow_below (r := some q) (Below.refl _ (w.alloc (.cells #[.int .i64 tb, .int .i64 (wd : Int), .int .i64 tc] 70))).drew)) (grow_set _ q k 0 0 (.int .i64 (f k + f (k + wd))))
  have DS := Lib.hid (D1.drew.set k (f k + f (k + wd)))
  have c0 := D1.ptr
  have c1 := D1.tab.cell (i := k) (by omega)
  have c2 := D1.tab.cell (i := k + wd) hk
  have c3 := D1.tab.free k
  generalize f k = fk at *
  generalize f (k + wd) = fw at *
  have e1 : IntKind.i64.wrap ((k : Int) + (wd : Int)) = (k : Int) + (wd : Int) := IntWalk.i64_in _ (by omega)
  have e2 : ((k : Int) + (wd : Int)).toNat = k + wd := by omega
  have e3 : IntKind.i64.wrap (fk + fw) = fk + fw := IntWalk.i64_in _ (by omega)
  have e4 : (k : Int) + (wd : Int) < (n : Int) := by omega
  have e5 : (k : Int) < (n : Int) := by omega
  have e6 : (0 : Int) ≤ (k : Int) + (wd : Int) := by omega
  have c4 : (w.alloc (.cells #[.int .i64 tb, .int .i64 (wd : Int), .int .i64 tc] 70)).cell? ⟨w.heap.size, 1, none⟩ = some (.int .i64 (wd : Int)) := box_cell _ _ _ 1
  clear D1 h hk
  go_enter Try.func62, Try.ntmps62
  go_wp2
  generalize hX : w.alloc (.cells #[.int .i64 tb, .int .i64 (wd : Int), .int .i64 tc] 70) = wx at *
  go_still_tail 13, (by kernel_rfl)
  go_wp2
  go_end0
  exact ⟨rfl, DS.out, bS⟩
end Go.Proofs.Ytgddklafeaoleaa
