/-
  A region that draws its order, by an invariant over what has been carried out: each operation is looked at once.
-/
import Derived.Orders
import Derived.Tactics
namespace Go.Proofs.Ytbcbpcidfcjibaa
open Go
set_option linter.unusedSimpArgs false
set_option linter.unusedVariables false
section
variable {P : Program} {ops : Array Oper} {Q : Exit → Act → World → Prop} {md : Region.Mode}

def lookB (listed : Array Bool) (j : Nat) : Bool := listed.getD j false
def updB (L : Nat → Bool) (i : Nat) : Nat → Bool := fun j => if j = i then true else L j
theorem lookB_set {listed : Array Bool} {i : Nat} (hi : i < listed.size) : lookB (listed.setIfInBounds i true) = updB (lookB listed) i := by
  funext j
  by_cases e : j = i
  · subst e; simp [lookB, updB, Array.getD, hi]
  · unfold lookB updB
    rw [if_neg e]
    simp only [Array.getD, Array.size_setIfInBounds]
    split
    · rename_i h
      have e' : ¬ i = j := fun h => e h.symm
      exact Array.getElem_setIfInBounds_ne h e'
    · rfl
def needB (md : Region.Mode) (ops : Array Oper) (L : Nat → Bool) (i : Nat) : Bool := ((ops[i]?).map (·.after.all fun e => !Region.binds md e || L e.on)).getD false
def missing (L : Nat → Bool) : Nat → Nat
  | 0 => 0
  | n + 1 => missing L n + if L n then 0 else 1
theorem missing_upd {L : Nat → Bool} {i : Nat} (hL : L i = false) : ∀ n, (i < n → missing (updB L i) n + 1 = missing L n) ∧ (n ≤ i → missing (updB L i) n = missing L n)
  | 0 => ⟨fun h => absurd h (Nat.not_lt_zero _), fun _ => rfl⟩
  | n + 1 => by
    obtain ⟨h1, h2⟩ := missing_upd hL n
    refine ⟨fun h => ?_, fun h => ?_⟩
    · by_cases e : i = n
      · subst e; rw [missing, missing, h2 (Nat.le_refl _), updB, if_pos rfl, hL]; simp
      · have := h1 (by omega)
        rw [missing, missing, updB, if_neg (Ne.symm e)]; omega
    · have := h2 (by omega)
      rw [missing, missing, updB, if_neg (by omega : n ≠ i), this]
theorem missing_zero {L : Nat → Bool} : ∀ {n : Nat}, missing L n = 0 → ∀ i, i < n → L i = true
  | n + 1, h, i, hi => by
    rw [missing] at h
    by_cases e : i = n
    · subst e
      cases hL : L i
      · rw [hL] at h; simp at h
      · rfl
    · exact missing_zero (n := n) (by omega) i (by omega)
/-- every operation waits for earlier ones alone -/
def backB (ops : Array Oper) : Bool := (List.range ops.size).all fun i => ((ops[i]?).map (·.after.all fun e => decide (e.on < i))).getD true
theorem need_congr {L L' : Nat → Bool} {i : Nat} (hb : backB ops = true) (hi : i < ops.size) (h : ∀ j, j < i → L' j = true) : needB md ops L' i = true := by
  have h1 := List.all_eq_true.1 hb i (List.mem_range.2 hi)
  unfold needB
  rw [Array.getElem?_eq_getElem hi] at h1 ⊢
  simp only [Option.map_some, Option.getD_some] at h1 ⊢
  simp only [Array.all_eq_true, List.all_eq_true, decide_eq_true_eq] at h1 ⊢
  intro e he
  first
    | (have := h _ (h1 e he); simp [this])
theorem wpAny_inv (I : (Nat → Bool) → Act → World → Prop) (hb : backB ops = true)
    (hdone : ∀ L a w, (∀ i, i < ops.size → L i = true) → I L a w → Q .normal a w)
    (hstep : ∀ L a w i, i < ops.size → L i = false → needB md ops L i = true → I L a w → wpOp P ops Q i (I (updB L i)) a w) :
    ∀ (fuel : Nat) (listed : Array Bool) (a : Act) (w : World), listed.size = ops.size → missing (lookB listed) ops.size ≤ fuel → I (lookB listed) a w → wpAny P md ops Q fuel listed a w := by
  have hnil : ∀ listed : Array Bool, listed.size = ops.size → Region.ready md ops listed = [] → ∀ i, i < ops.size → lookB listed i = true := by
    intro listed hs h i
    induction i using Nat.strongRecOn with
    | ind i ih =>
      intro hi
      cases hL : lookB listed i
      · exfalso
        have hmem : i ∈ Region.ready md ops listed := by
          unfold Region.ready
          refine List.mem_filter.2 ⟨List.mem_range.2 hi, ?_⟩
          have h2 : listed.getD i true = false := by
            have hi' : i < listed.size := by omega
            simp only [lookB, Array.getD, hi', dite_true] at hL ⊢
            exact hL
          rw [h2]
          exact need_congr (L := lookB listed) (L' := lookB listed) hb hi (fun j hj => ih j hj (by omega))
        rw [h] at hmem
        simp at hmem
      · rfl
  intro fuel
  induction fuel with
  | zero =>
    intro listed a w hs hm hI
    have hall := missing_zero (Nat.le_zero.1 hm)
    refine ⟨?_, hdone _ _ _ hall hI⟩
    unfold Region.ready
    refine List.filter_eq_nil_iff.2 fun i hi => ?_
    have hi' := List.mem_range.1 hi
    have h1 := hall i hi'
    have h2 : listed.getD i true = true := by
      have hi2 : i < listed.size := by omega
      simp only [lookB, Array.getD, hi2, dite_true] at h1 ⊢
      exact h1
    rw [h2]; simp
  | succ fuel ih =>
    intro listed a w hs hm hI
    refine ⟨fun h => hdone _ _ _ (hnil listed hs h) hI, fun i hi => ?_⟩
    obtain ⟨h1, h2⟩ := List.mem_filter.1 hi
    have hi' := List.mem_range.1 h1
    simp only [Bool.and_eq_true, Bool.not_eq_true'] at h2
    have hL : lookB listed i = false := by
      have hi2 : i < listed.size := by omega
      have h3 := h2.1
      simp only [lookB, Array.getD, hi2, dite_true] at h3 ⊢
      exact h3
    refine wpOp_mono (fun a' w' h => ih _ a' w' (by simpa using hs) ?_ ?_) (hstep _ a w i hi' hL h2.2 hI)
    · rw [lookB_set (by omega)]
      have := (missing_upd hL ops.size).1 hi'
      omega
    · rw [lookB_set (by omega)]; exact h
theorem wp_region_inv {id : Nat} {a : Act} {w : World} (hm : P.follows .mixedOrders = true) (I : (Nat → Bool) → Act → World → Prop) (hb : backB ops = true)
    (h0 : I (fun _ => false) a { w with drawn := w.drawn + 1 })
    (hdone : ∀ L a w, (∀ i, i < ops.size → L i = true) → I L a w → Q .normal a w)
    (hstep : ∀ L a w i, i < ops.size → L i = false → needB .any ops L i = true → I L a w → wpOp P ops Q i (I (updB L i)) a w) : (Code.region id ops true).wp P Q a w := by
  refine wp_region_any hm (wpAny_inv I hb hdone hstep _ _ _ _ (by simp) ?_ ?_)
  · have : ∀ (L : Nat → Bool) n, missing L n ≤ n := by
      intro L n
      induction n with
      | zero => exact Nat.le_refl _
      | succ n ih => rw [missing]; split <;> omega
    exact this _ _
  · have : lookB (Array.replicate ops.size false) = fun _ => false := by
      funext j
      simp only [lookB, Array.getD, Array.size_replicate]
      split <;> simp
    rw [this]; exact h0
/-- an operation by itself, as a list of one: the walk's own words serve -/
theorem wpOp_of_list {i : Nat} {o : Oper} {K : Act → World → Prop} {a : Act} {w : World} (ho : ops[i]? = some o) (h : wpList P ops (Exit.then K Q) [o] a w) : wpOp P ops Q i K a w := by
  unfold wpOp
  rw [ho]
  exact h
end
end Go.Proofs.Ytbcbpcidfcjibaa
