/-
  Contracts of SystemStroke (both texts).
-/
import Derived.Test.YtlpagnbfjechhaaDoorSigns
namespace Go.Proofs.YtlpagnbfjechhaaDoor
open Go.RowKit Go.Sort
set_option linter.unusedSimpArgs false
set_option linter.unusedVariables false

theorem box_frozen (w : World) (cs : Array Value) (t : TypeId) (j : Nat) : (w.alloc (.cells cs t)).frozen? ⟨w.heap.size, j, none⟩ = false := by
  unfold World.frozen?
  simp only [heap_alloc_new]
  simp
/-- the stroke of a letter in a system -/
def strokeIn (ss : List Sgn) (l : Str) : Option Stk := (ss.find? (fun x => decide (x.1 = l))).map (·.2)
def strokeOf (ss : List Sgn) (l : Str) : Option Stk := if sysOk ss then strokeIn ss l else none
def stkOr (o : Option Stk) : Stk := o.getD (0, 0)
/-- what a function that returns a stroke and whether there is one leaves -/
def GaveStk (o : Option Stk) (w : World) (e : Ending) (w' : World) : Prop :=
  e = .returned (.tuple #[.agg #[.int .i64 (stkOr o).1, .int .i64 (stkOr o).2], .bool o.isSome]) ∧ Below w.heap.size w w'
theorem strokeIn_hit {ss : List Sgn} {l : Str} {k : Nat} {x : Sgn} (hx : ss[k]? = some x) (he : x.1 = l) (hno : ∀ j, j < k → (sgnAt ss j).1 ≠ l) : strokeIn ss l = some x.2 := by
  induction ss generalizing k with
  | nil => simp at hx
  | cons y ss ih =>
    cases k with
    | zero => simp at hx; subst hx; simp [strokeIn, he]
    | succ k =>
      have h0 : y.1 ≠ l := hno 0 (by omega)
      have := ih (k := k) (by simpa using hx) (fun j hj => hno (j + 1) (by omega))
      simp only [strokeIn, List.find?_cons, decide_eq_false h0]
      exact this
theorem strokeIn_none {ss : List Sgn} {l : Str} (hno : ∀ j, j < ss.length → (sgnAt ss j).1 ≠ l) : strokeIn ss l = none := by
  induction ss with
  | nil => rfl
  | cons y ss ih =>
    have h0 : y.1 ≠ l := hno 0 (by simp)
    have := ih (fun j hj => hno (j + 1) (by simp; omega))
    simp only [strokeIn, List.find?_cons, decide_eq_false h0]
    exact this

theorem strokeIn_ent {ss : List Sgn} (hs : sysOk ss = true) {l : Str} (hl : l.size = 1) :
    (∀ p ∈ ss.map ent, p.1 ≠ keyB l) → strokeIn ss l = none := by
  intro h
  refine strokeIn_none fun j hj he => ?_
  obtain ⟨x, hx⟩ := get_lt hj
  rw [sgnAt_eq hx] at he
  exact h (ent x) (List.mem_map.2 ⟨x, List.mem_of_getElem? hx, rfl⟩) (by simp [ent, he])
theorem strokeIn_find {ss : List Sgn} (hs : sysOk ss = true) {l : Str} (hl : l.size = 1) {y : Sgn} (hy : y ∈ ss) (hk : keyB y.1 = keyB l) : strokeIn ss l = some y.2 := by
  simp only [sysOk, Bool.and_eq_true] at hs
  obtain ⟨k, hk'⟩ := List.getElem?_of_mem hy
  have hkl := (List.getElem?_eq_some_iff.1 hk').1
  have hat := allTo_iff.1 hs.2 k hkl
  rw [sysAt, sgnAt_eq hk', Bool.and_eq_true] at hat
  have hc : consOk y.1 = true := by have := hat.1; rw [sgnOk, Bool.and_eq_true] at this; exact this.1
  have he : y.1 = l := by
    simp only [consOk, Bool.and_eq_true, decide_eq_true_eq] at hc
    apply str_ext
    rw [one_list hc.1.1, one_list hl]
    unfold keyB at hk
    injection hk with _ hk
    have : (byteAt y.1 0).toNat = (byteAt l 0).toNat := by omega
    rw [UInt8.toNat_inj.1 this]
  refine strokeIn_hit hk' he fun j hj hje => ?_
  have := allTo_iff.1 hat.2 j hj
  rw [hje, he] at this
  simp at this

end Go.Proofs.YtlpagnbfjechhaaDoor
