/-
  Plain tables of least costs; their rows in memory: a table of tokens beside a table of costs.
-/
import Derived.Test.YtgddklafeaoleaaManyI
namespace Go.Proofs.Ytgddklafeaoleaa
open Go.RowKit Go.Sort
set_option linter.unusedSimpArgs false
set_option linter.unusedVariables false

/-- a cost of letters -/
abbrev Wt := Int → Int
def lw (wt : Wt) (bs : List PB) (ws : List Str) : Int := least (fun s => wt s.size) bs ws
def okWt (wt : Wt) : Prop := ∀ n, 0 ≤ n → 0 ≤ wt n ∧ wt n ≤ n + 1
theorem lw_nil (wt : Wt) (bs : List PB) : lw wt bs [] = 0 := least_nil _ _
theorem lw_small {wt : Wt} (hwt : okWt wt) {bs : List PB} (hb : bvOk bs = true) {ws : List Str} (hz : ∀ s ∈ ws, s.size ≤ 12) (h20 : ws.length ≤ 20) : 0 ≤ lw wt bs ws ∧ lw wt bs ws ≤ 260 := by
  have h := least_bound (cm := fun s => wt s.size) hb (M := 13) (by decide) (fun s => (hwt s.size (by omega)).1) _ ws (Nat.le_refl _) (fun s hs => by have := (hwt s.size (by omega)).2; have := hz s hs; omega)
  unfold lw
  omega
theorem lw_toks {wt : Wt} {bs : List PB} (hb : bvOk bs = true) {ws : List Str} (hw : ws ≠ []) : lmin ((toks bs ws).map fun t => wt t.2.2 + lw wt bs (ws.drop t.2.1)) = lw wt bs ws := least_toks hb hw

/-- costs when all places from k on are done -/
def costF (wt : Wt) (bs : List PB) (ws : List Str) (k : Nat) : Nat → Int := fun i => if i < k then 0 else lw wt bs (ws.drop i)
def costL (wt : Wt) (bs : List PB) (ws : List Str) (k j : Nat) : Int := lmin (((toks bs (ws.drop k)).take j).map fun t => wt t.2.2 + lw wt bs (ws.drop (k + t.2.1)))
def costJ (wt : Wt) (bs : List PB) (ws : List Str) (k j : Nat) : Nat → Int := fun i => if i < k then 0 else if i = k then costL wt bs ws k j else lw wt bs (ws.drop i)
theorem costJ_start (wt : Wt) (bs : List PB) (ws : List Str) (k i : Nat) : costF wt bs ws (k + 1) i = costJ wt bs ws k 0 i := by
  unfold costF costJ
  by_cases h1 : i < k
  · rw [if_pos (by omega), if_pos h1]
  · by_cases h2 : i = k
    · rw [if_pos (by omega), if_neg h1, if_pos h2]; simp [costL, lmin]
    · rw [if_neg (by omega), if_neg h1, if_neg h2]
theorem costJ_end {wt : Wt} {bs : List PB} (hb : bvOk bs = true) {ws : List Str} {k : Nat} (hk : k < ws.length) (i : Nat) : costJ wt bs ws k (toks bs (ws.drop k)).length i = costF wt bs ws k i := by
  unfold costF costJ
  by_cases h1 : i < k
  · rw [if_pos h1, if_pos h1]
  · by_cases h2 : i = k
    · subst h2
      have hne : ws.drop i ≠ [] := by intro e; have := congrArg List.length e; simp at this; omega
      rw [if_neg h1, if_pos rfl, if_neg h1, costL, List.take_length, ← lw_toks hb hne]
      simp [List.drop_drop]
    · rw [if_neg h1, if_neg h2, if_neg h1]
theorem costL_one {wt : Wt} {bs : List PB} {ws : List Str} {k : Nat} {t : Tok} (ht : (toks bs (ws.drop k))[0]? = some t) : costL wt bs ws k 1 = wt t.2.2 + lw wt bs (ws.drop (k + t.2.1)) := by
  unfold costL
  rw [take_snoc' ht]; simp [lmin]
theorem costL_next {wt : Wt} {bs : List PB} {ws : List Str} {k j : Nat} {t : Tok} (ht : (toks bs (ws.drop k))[j]? = some t) (hj : 0 < j) : costL wt bs ws k (j + 1) = min (costL wt bs ws k j) (wt t.2.2 + lw wt bs (ws.drop (k + t.2.1))) := by
  unfold costL
  have hl := (List.getElem?_eq_some_iff.1 ht).1
  rw [take_snoc' ht, List.map_append, List.map_cons, List.map_nil, lmin_snoc]
  intro e
  have := congrArg List.length e
  rw [List.length_map, List.length_take, List.length_nil] at this
  omega
theorem costJ_at (wt : Wt) (bs : List PB) (ws : List Str) (k j : Nat) : costJ wt bs ws k j k = costL wt bs ws k j := by unfold costJ; rw [if_neg (Nat.lt_irrefl k), if_pos rfl]
theorem costJ_far (wt : Wt) (bs : List PB) (ws : List Str) (k j : Nat) {n : Nat} (h : 1 ≤ n) : costJ wt bs ws k j (k + n) = lw wt bs (ws.drop (k + n)) := by unfold costJ; rw [if_neg (by omega), if_neg (by omega)]
theorem costJ_put {wt : Wt} {bs : List PB} {ws : List Str} {k j : Nat} {v : Int} (h : costL wt bs ws k (j + 1) = v) (i : Nat) : updF (costJ wt bs ws k j) k v i = costJ wt bs ws k (j + 1) i := by
  by_cases h2 : i = k
  · subst h2; rw [updF_same, costJ_at, h]
  · rw [updF_other _ _ h2]
    unfold costJ
    by_cases h3 : i < k
    · rw [if_pos h3, if_pos h3]
    · rw [if_neg h3, if_neg h2, if_neg h3, if_neg h2]
theorem costJ_stay {wt : Wt} {bs : List PB} {ws : List Str} {k j : Nat} (h : costL wt bs ws k (j + 1) = costL wt bs ws k j) (i : Nat) : costJ wt bs ws k j i = costJ wt bs ws k (j + 1) i := by
  unfold costJ
  by_cases h3 : i < k
  · rw [if_pos h3, if_pos h3]
  · by_cases h2 : i = k
    · rw [if_neg h3, if_neg h3, if_pos h2, if_pos h2, h]
    · rw [if_neg h3, if_neg h2, if_neg h3, if_neg h2]
theorem foldl_min_small {M : Int} : ∀ (l : List Int) (x : Int), (0 ≤ x ∧ x ≤ M) → (∀ y ∈ l, 0 ≤ y ∧ y ≤ M) → 0 ≤ l.foldl min x ∧ l.foldl min x ≤ M
  | [], x, hx, _ => hx
  | y :: l, x, hx, h => by
    rw [List.foldl_cons]
    have h1 := h y (List.mem_cons_self ..)
    exact foldl_min_small l (min x y) (by omega) fun z hz => h z (List.mem_cons_of_mem _ hz)
theorem lmin_small {l : List Int} {M : Int} (hM : 0 ≤ M) (h : ∀ x ∈ l, 0 ≤ x ∧ x ≤ M) : 0 ≤ lmin l ∧ lmin l ≤ M := by
  cases l with
  | nil => simp [lmin, hM]
  | cons x l => exact foldl_min_small l x (h x (List.mem_cons_self ..)) fun y hy => h y (List.mem_cons_of_mem _ hy)
theorem costL_small {wt : Wt} (hwt : okWt wt) {bs : List PB} (hb : bvOk bs = true) {ws : List Str} (hz : ∀ s ∈ ws, s.size ≤ 12) (h20 : ws.length ≤ 20) {k : Nat} (hk : k < ws.length) (j : Nat) : 0 ≤ costL wt bs ws k j ∧ costL wt bs ws k j ≤ 1000 := by
  refine lmin_small (by decide) fun x hx => ?_
  obtain ⟨t, ht, rfl⟩ := List.mem_map.1 hx
  have h1 := tok_fit hb (ws := ws.drop k) (by intro e; have := congrArg List.length e; simp at this; omega) (fun s hs => hz s (List.mem_of_mem_drop hs)) (List.mem_of_mem_take ht)
  have h2 := hwt t.2.2 h1.2.2.1
  have h3 := lw_small hwt hb (ws := ws.drop (k + t.2.1)) (fun s hs => hz s (List.mem_of_mem_drop hs)) (by rw [List.length_drop]; omega)
  omega

/-! ### the tables -/
/-- the widths of the first tokens: 0 where none has been seen -/
def Wide (fs : List Tok) (k : Nat) (some_ : Bool) : Prop := ∀ i t, fs[i]? = some t → (i < k → t.2.1 = 0) ∧ (i = k → some_ = false → t.2.1 = 0) ∧ (i = k → some_ = true → 1 ≤ t.2.1)
def Firsts (w : World) (base r n : Nat) (fs : List Tok) : Prop := fs.length = n ∧ w.ownsRow base 70 3 (.slice (some ⟨r, 0, none⟩) n n) n (flat tokC fs)
theorem Firsts.below {w w' : World} {base r n : Nat} {fs : List Tok} (h : Firsts w base r n fs) (hb : Below w.heap.size w w') : Firsts w' base r n fs := ⟨h.1, own_below h.2 hb⟩
theorem Firsts.lt {w : World} {base r n : Nat} {fs : List Tok} (h : Firsts w base r n fs) : base ≤ r ∧ r < w.heap.size := World.ownsRow.lt h.2 r (by simp [Value.ownBlock])
theorem Firsts.cell {w : World} {base r n : Nat} {fs : List Tok} (h : Firsts w base r n fs) {i : Nat} {t : Tok} (ht : fs[i]? = some t) :
    w.cell? ⟨r, i * 3, none⟩ = some (.int .i64 t.1) ∧ w.cell? ⟨r, i * 3 + 1, none⟩ = some (.int .i64 (t.2.1 : Int)) ∧ w.cell? ⟨r, i * 3 + 2, none⟩ = some (.int .i64 t.2.2) := by
  have h1 := (Seg.of_own h.2)
  have h0 := flat_get tokC_len ht (j := 0) (by decide)
  have h2 := flat_get tokC_len ht (j := 1) (by decide)
  have h3 := flat_get tokC_len ht (j := 2) (by decide)
  rcases h1 with e | ⟨g, o, e, _, _, _, hc⟩
  · rw [e] at h0; simp [tokC] at h0
  · injection e with e
    injection e with e1 e2
    subst e1 e2
    exact ⟨by simpa [tokC] using hc _ _ h0, by simpa [tokC] using hc _ _ h2, by simpa [tokC] using hc _ _ h3⟩
theorem Firsts.free {w : World} {base r n : Nat} {fs : List Tok} (h : Firsts w base r n fs) (j : Nat) : w.frozen? ⟨r, j, none⟩ = false := World.ownsRow.frozenAt h.2 j
theorem flat_set3 (fs : List Tok) (k : Nat) (t : Tok) : (((flat tokC fs).set (k * 3) (.int .i64 t.1)).set (k * 3 + 1) (.int .i64 (t.2.1 : Int))).set (k * 3 + 2) (.int .i64 t.2.2) = flat tokC (fs.set k t) := by
  induction fs generalizing k with
  | nil => simp [flat]
  | cons x fs ih =>
    cases k with
    | zero => simp [flat, tokC]
    | succ k =>
      have e : (k + 1) * 3 = k * 3 + 1 + 1 + 1 := by omega
      have e1 : k * 3 + 1 + 1 + 1 + 1 = (k * 3 + 1) + 1 + 1 + 1 := by omega
      have e2 : k * 3 + 1 + 1 + 1 + 2 = (k * 3 + 2) + 1 + 1 + 1 := by omega
      rw [flat_cons, e, List.set_cons_succ, flat_cons, ← ih k, e1, e2]
      simp only [tokC, List.cons_append, List.nil_append, List.set_cons_succ]
theorem Firsts.set {w : World} {base r n : Nat} {fs : List Tok} (h : Firsts w base r n fs) (k : Nat) (t : Tok) :
    Firsts (((w.setCell ⟨r, k * 3, none⟩ (.int .i64 t.1)).setCell ⟨r, k * 3 + 1, none⟩ (.int .i64 (t.2.1 : Int))).setCell ⟨r, k * 3 + 2, none⟩ (.int .i64 t.2.2)) base r n (fs.set k t) := by
  refine ⟨by rw [List.length_set]; exact h.1, ?_⟩
  have h1 := (World.ownsRow.stored h.2 (k * 3) (.int .i64 t.1)).1
  have h2 := (World.ownsRow.stored h1 (k * 3 + 1) (.int .i64 (t.2.1 : Int))).1
  have h3 := (World.ownsRow.stored h2 (k * 3 + 2) (.int .i64 t.2.2)).1
  rw [flat_set3] at h3
  exact h3
end Go.Proofs.Ytgddklafeaoleaa
