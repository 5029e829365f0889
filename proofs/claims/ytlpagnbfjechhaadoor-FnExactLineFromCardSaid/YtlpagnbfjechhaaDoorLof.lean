/-
  Contracts of LineOf (both texts).
-/
import Derived.Test.YtlpagnbfjechhaaDoorLineM
import Derived.Test.YtlpagnbfjechhaaDoorWof
import Derived.Test.YtlpagnbfjechhaaDoorDict
namespace Go.Proofs.YtlpagnbfjechhaaDoor
open Go.RowKit Go.Sort
set_option linter.unusedSimpArgs false
set_option linter.unusedVariables false

def loF (ss : List Sgn) (s : Str) : List Stk × Int := (woOf ss s, wofP ss s)
def loAll (ss : List Sgn) (ws : List Str) (n : Nat) : Bool := allTo (fun k => woOk ss (strAt ws k)) n
def loOk (ss : List Sgn) (ws : List Str) : Bool := sysOk ss && (decide (ws.length ≤ 20) && loAll ss ws ws.length)
def loOf (ss : List Sgn) (ws : List Str) : List (List Stk × Int) := if loOk ss ws then ws.map (loF ss) else []
theorem lo_no {ss : List Sgn} {ws : List Str} (h : loOk ss ws = false) : loOk ss ws = false ∧ loOf ss ws = [] := ⟨h, by rw [loOf, h]; rfl⟩
theorem lo_yes {ss : List Sgn} {ws : List Str} (h : loOk ss ws = true) : loOk ss ws = true ∧ loOf ss ws = ws.map (loF ss) := ⟨h, by rw [loOf, h]; rfl⟩
theorem lo_sys {ss : List Sgn} {ws : List Str} (h : sysOk ss = false) : loOk ss ws = false := by rw [loOk, h]; rfl
theorem lo_miss {ss : List Sgn} {ws : List Str} {k : Nat} {s : Str} (hk : k < ws.length) (hs : strAt ws k = s) (h : woOk ss s = false) : loOk ss ws = false := by
  rw [loOk, loAll, allTo_not (k := k) (by rw [hs]; exact h) hk]; simp
theorem lo_long {ss : List Sgn} {ws : List Str} (h : ¬ ws.length ≤ 20) : loOk ss ws = false := by rw [loOk, decide_eq_false h]; simp

/-- what a function that returns a list of written forms and whether there is one leaves -/
def GaveLine (fs : List (List Stk × Int)) (ok : Bool) (w : World) (e : Ending) (w' : World) : Prop := ∃ v ys, e = .returned (.tuple #[v, .bool ok]) ∧ OwnLine w' w.heap.size v ys ∧ formsOf ys = fs ∧ Below w.heap.size w w'
theorem own_madeW (w : World) (base H : Nat) (hH : w.heap.size = H) (hb : base ≤ w.heap.size) : OwnLine (w.alloc (.cells #[] 32)) base (.slice (some ⟨H, 0, none⟩) 0 0) [] := by
  subst hH
  exact ⟨own_mono (World.ownsRow_made w #[] 0 (Nat.le_refl _) (by simp [maxLen]) (by simp)) hb, fun y hy => by simp at hy, fun i j y z h => by simp at h⟩
theorem apart_snoc {ys : List Wrt} {y : Wrt} {B : Nat} (h : Apart ys) (h1 : ∀ x ∈ ys, ∀ k, (rowV x.1).ownBlock = some k → k < B) (h2 : ∀ k, (rowV y.1).ownBlock = some k → B ≤ k) : Apart (ys ++ [y]) := by
  intro i j a b ha hb hij k hka hkb
  have hl : ∀ (i : Nat) (a : Wrt), (ys ++ [y])[i]? = some a → (i < ys.length ∧ ys[i]? = some a) ∨ (i = ys.length ∧ a = y) := by
    intro i a h
    by_cases hi : i < ys.length
    · rw [List.getElem?_append_left hi] at h; exact .inl ⟨hi, h⟩
    · have h3 := (List.getElem?_eq_some_iff.1 h).1
      simp at h3
      have e : i = ys.length := by omega
      subst e
      simp at h
      exact .inr ⟨rfl, h.symm⟩
  rcases hl i a ha with ⟨_, h3⟩ | ⟨h3, rfl⟩ <;> rcases hl j b hb with ⟨_, h4⟩ | ⟨h4, rfl⟩
  · exact h i j a b h3 h4 hij k hka hkb
  · have := h1 a (List.mem_of_getElem? h3) k hka; have := h2 k hkb; omega
  · have := h1 b (List.mem_of_getElem? h4) k hkb; have := h2 k hka; omega
  · omega
def OutsL (w : World) (base : Nat) (ys : List Wrt) : Prop := OutsW w base ys ∧ Apart ys
theorem OutsL.below {w w' : World} {base : Nat} {ys : List Wrt} (h : OutsL w base ys) (hb : Below w.heap.size w w') : OutsL w' base ys := ⟨h.1.below hb, h.2⟩
theorem OutsL.grew {w w' : World} {base base' n size : Nat} {v : Value} {e : TypeId} {xs : List Value} {ys : List Wrt} (h : OutsL w base ys) (hm : w.ownsRow base' e size v n xs) (he : 46 ≠ e) (g : w.grownBy w' v.ownBlock) : OutsL w' base ys :=
  ⟨fun y hy => own_grew (h.1 y hy) g (own_ne (h.1 y hy) hm he), h.2⟩
/-- an outline made behind the others joins them -/
theorem OutsL.snoc {w0 w w' : World} {base B : Nat} {ys : List Wrt} {A : Option Addr} {c : Nat} {xs : List Stk} {p : Int} (h0 : OutsL w0 base ys) (h : OutsL w base ys) (hB : base ≤ w0.heap.size) (o : OwnStks w w0.heap.size (.slice A xs.length c) xs) : OutsL w base (ys ++ [(((A, c, xs), p) : Wrt)]) := by
  refine ⟨fun y hy => ?_, apart_snoc h.2 (B := w0.heap.size) (fun x hx k hk => ((h0.1 x hx).lt k hk).2) (fun k hk => (o.lt k hk).1)⟩
  rcases List.mem_append.1 hy with h1 | h1
  · exact h.1 y h1
  · simp at h1; subst h1; exact own_mono o hB
theorem forms_next {ss : List Sgn} {ws : List Str} {k : Nat} {s : Str} {ys : List Wrt} {A : Option Addr} {c : Nat} (hs : ws[k]? = some s) (h : formsOf ys = (ws.take k).map (loF ss)) :
    formsOf (ys ++ [(((A, c, woOf ss s), wofP ss s) : Wrt)]) = (ws.take (k + 1)).map (loF ss) := by
  rw [formsOf_snoc, h, take_snoc' hs, List.map_append]; rfl
theorem all_next {ss : List Sgn} {ws : List Str} {k : Nat} {s : Str} (h : loAll ss ws k = true) (hs : strAt ws k = s) (ho : woOk ss s = true) : loAll ss ws (k + 1) = true := allTo_step h (by rw [hs]; exact ho)

end Go.Proofs.YtlpagnbfjechhaaDoor
