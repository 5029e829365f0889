/-
  Contracts of writtenWords and DictionaryWritten (both texts), l2Both.
-/
import Derived.Test.YtlpagnbfjechhaaDoorWo
import Derived.Test.YtlpagnbfjechhaaDoorStrs
import Derived.Test.YtlpagnbfjechhaaDoorMrk
namespace Go.Proofs.YtlpagnbfjechhaaDoor
open Go.RowKit Go.Sort
set_option linter.unusedSimpArgs false
set_option linter.unusedVariables false

theorem own_ne {w : World} {base base' n n' : Nat} {e e' : TypeId} {size size' : Nat} {v v' : Value} {xs xs' : List Value} (h : w.ownsRow base e size v n xs) (h' : w.ownsRow base' e' size' v' n' xs') (hne : e ≠ e') :
    ∀ k, v.ownBlock = some k → v'.ownBlock = some k → False := by
  intro k hk hk'
  rcases h.2 with ⟨rfl, _⟩ | ⟨g, cap, cur, rfl, _, hg, _⟩
  · simp [Value.ownBlock] at hk
  rcases h'.2 with ⟨rfl, _⟩ | ⟨g', cap', cur', rfl, _, hg', _⟩
  · simp [Value.ownBlock] at hk'
  simp [Value.ownBlock] at hk hk'
  subst hk hk'
  rw [hg] at hg'
  injection hg' with h1
  injection h1 with _ h2
  exact hne h2

abbrev OutE := Nat × Row Stk
def outlC (x : OutE) : List Value := [.int .i64 (x.1 : Int), rowV x.2]
theorem outlC_len (x : OutE) : (outlC x).length = 2 := rfl
theorem info_int : (Tryd.prog.info? 3).map (fun i => (i.zero, i.size, i.bytes)) = some (some (.int .i64 0), 1, 8) := by kernel_rfl
def bothOk (ss : List Sgn) (ws : List Str) : Bool := sysOk ss && dictOk ws
def writAt (ss : List Sgn) (ws : List Str) (i : Nat) : Option (Nat × List Stk) := if woOk ss (strAt ws i) then some (i, woOf ss (strAt ws i)) else none
def writTo (ss : List Sgn) (ws : List Str) (k : Nat) : List (Nat × List Stk) := gather (writAt ss ws) k
def writOf (ss : List Sgn) (ws : List Str) : List (Nat × List Stk) := if bothOk ss ws then writTo ss ws ws.length else []
theorem writTo_len (ss : List Sgn) (ws : List Str) (k : Nat) : (writTo ss ws k).length ≤ k := gather_length _ _
theorem dict_len {ws : List Str} (h : dictOk ws = true) : ws.length ≤ 20 := by
  simp only [dictOk, Bool.and_eq_true, decide_eq_true_eq] at h
  exact h.1
theorem writOf_len (ss : List Sgn) (ws : List Str) : (writOf ss ws).length ≤ 20 := by
  unfold writOf
  split
  · rename_i h
    simp only [bothOk, Bool.and_eq_true] at h
    exact Nat.le_trans (writTo_len _ _ _) (dict_len h.2)
  · simp
theorem writTo_yes {ss : List Sgn} {ws : List Str} {k : Nat} {s : Str} (hs : strAt ws k = s) (h : woOk ss s = true) : writTo ss ws (k + 1) = writTo ss ws k ++ [(k, woOf ss s)] := gather_some (by simp [writAt, hs, h])
theorem writTo_no {ss : List Sgn} {ws : List Str} {k : Nat} {s : Str} (hs : strAt ws k = s) (h : woOk ss s = false) : writTo ss ws (k + 1) = writTo ss ws k := gather_none (by simp [writAt, hs, h])
/-- each outline of the list lies in a row of the call's own -/
def OutsOwn (w : World) (base : Nat) (es : List OutE) : Prop := ∀ e ∈ es, OwnStks w base (rowV e.2) e.2.2.2
def outsOf (es : List OutE) : List (Nat × List Stk) := es.map fun e => (e.1, e.2.2.2)
theorem OutsOwn.below {w w' : World} {base : Nat} {es : List OutE} (h : OutsOwn w base es) (hb : Below w.heap.size w w') : OutsOwn w' base es := fun e he => own_below (h e he) hb
theorem OutsOwn.grew {w w' : World} {base base' n size : Nat} {es : List OutE} {t : TypeId} {v : Value} {xs : List Value} (h : OutsOwn w base es) (hv : w.ownsRow base' t size v n xs) (hne : 46 ≠ t) (hg : w.grownBy w' v.ownBlock) : OutsOwn w' base es :=
  fun e he => own_grew (h e he) hg (own_ne (h e he) hv hne)
theorem outl_one (es : List OutE) : ∀ u ∈ flat outlC es, u.oneCell' = true := by
  intro u hu
  obtain ⟨x, _, h⟩ := List.mem_flatMap.1 hu
  simp [outlC, rowV] at h
  rcases h with rfl | rfl <;> rfl
theorem Seg.outl {w : World} {lo hi : Nat} {A : Option Addr} {es : List OutE} {k : Nat} {s : OutE} (h : Seg w lo hi A (flat outlC es)) (hk : es[k]? = some s) :
    ∃ g o, A = some ⟨g, o, none⟩ ∧ g < w.heap.size ∧ lo ≤ g ∧ g < hi ∧ w.cell? ⟨g, o + k * 2, none⟩ = some (.int .i64 (s.1 : Int)) ∧ w.cell? ⟨g, o + k * 2 + 1, none⟩ = some (rowV s.2) := by
  have h0 := flat_get outlC_len hk (j := 0) (by decide)
  have h1 := flat_get outlC_len hk (j := 1) (by decide)
  rcases h with h | ⟨g, o, rfl, a, b, c, d⟩
  · rw [h] at h0; simp [outlC] at h0
  · exact ⟨g, o, rfl, c, a, b, by simpa [outlC] using d _ _ h0, by simpa [outlC, Nat.add_assoc] using d _ _ h1⟩

/-- a list of numbers of the call's own -/
def OwnInts (w : World) (base : Nat) (v : Value) (xs : List Int) : Prop := w.ownsRow base 3 1 v xs.length (flat intC xs)
def GaveInts (xs : List Int) (w : World) (e : Ending) (w' : World) : Prop := ∃ v, e = .returned v ∧ OwnInts w' w.heap.size v xs ∧ Below w.heap.size w w'
theorem OwnInts.own {w : World} {base : Nat} {v : Value} {xs : List Int} (h : OwnInts w base v xs) : w.ownsRow base 3 1 v xs.length (flat intC xs) := h
theorem OwnInts.form {w : World} {base : Nat} {v : Value} {xs : List Int} (h : OwnInts w base v xs) : ∃ A c, v = .slice A xs.length c ∧ xs.length ≤ c ∧ c ≤ maxLen ∧ Seg w base w.heap.size A (flat intC xs) := by
  obtain ⟨A, c, rfl, h1, h2⟩ := own_form h
  exact ⟨A, c, rfl, h1, h2, Seg.of_own h⟩
def idxs (l : List (Nat × List Stk)) : List Int := l.map fun p => (p.1 : Int)
theorem idxs_len (l : List (Nat × List Stk)) : (idxs l).length = l.length := by simp [idxs]

end Go.Proofs.YtlpagnbfjechhaaDoor
