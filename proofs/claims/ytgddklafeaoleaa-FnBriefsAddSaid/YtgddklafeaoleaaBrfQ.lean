/-
  Plain facts: tokens of copies, what the laws say of copies. No program in sight.
-/
import Derived.Test.YtgddklafeaoleaaBrfP
namespace Go.Proofs.Ytgddklafeaoleaa
open Go.RowKit
set_option linter.unusedSimpArgs false
set_option linter.unusedVariables false

/-! ### sums and least ones of lists -/
def isum : List Int → Int
  | [] => 0
  | x :: l => x + isum l
theorem isum_append (l m : List Int) : isum (l ++ m) = isum l + isum m := by
  induction l with
  | nil => simp [isum]
  | cons x l ih => rw [List.cons_append, isum, isum, ih]; omega
theorem isum_snoc (l : List Int) (x : Int) : isum (l ++ [x]) = isum l + x := by rw [isum_append]; simp [isum]
theorem isum_small {l : List Int} {M : Int} (h : ∀ x ∈ l, 0 ≤ x ∧ x ≤ M) : 0 ≤ isum l ∧ isum l ≤ M * (l.length : Int) := by
  induction l with
  | nil => simp [isum]
  | cons x l ih =>
    have h1 := ih fun y hy => h y (List.mem_cons_of_mem _ hy)
    have h2 := h x (List.mem_cons_self ..)
    have e : M * ((x :: l).length : Int) = M * (l.length : Int) + M := by rw [List.length_cons, Int.natCast_add, Int.mul_add]; simp
    rw [isum, e]; omega
def lmin : List Int → Int
  | [] => 0
  | x :: l => l.foldl min x
theorem lmin_one (x : Int) : lmin [x] = x := rfl
theorem lmin_snoc {l : List Int} (h : l ≠ []) (x : Int) : lmin (l ++ [x]) = min (lmin l) x := by
  cases l with
  | nil => exact absurd rfl h
  | cons y l => simp [lmin, List.foldl_append]

/-! ### tokens -/
/-- a token: the brief's index or -1, its width, its letters -/
abbrev Tok := Int × Nat × Int
def tokC (t : Tok) : List Value := [.int .i64 t.1, .int .i64 (t.2.1 : Int), .int .i64 t.2.2]
theorem tokC_len (t : Tok) : (tokC t).length = 3 := rfl
def bTok (bs : List PB) (i : Nat) : Tok := ((i : Int), (pbAt bs i).2.length, ((pbAt bs i).1.size : Int))
def bToks (bs : List PB) (ws : List Str) (n : Nat) : List Tok := gather (fun i => if pre (pbAt bs i).2 ws = true then some (bTok bs i) else none) n
def wTok (ws : List Str) : Tok := (-1, 1, ((strAt ws 0).size : Int))
def toks (bs : List PB) (ws : List Str) : List Tok := bToks bs ws bs.length ++ [wTok ws]
theorem bToks_yes {bs : List PB} {ws : List Str} {n : Nat} (h : pre (pbAt bs n).2 ws = true) : bToks bs ws (n + 1) = bToks bs ws n ++ [bTok bs n] := gather_some (by simp [h])
theorem bToks_no {bs : List PB} {ws : List Str} {n : Nat} (h : pre (pbAt bs n).2 ws = false) : bToks bs ws (n + 1) = bToks bs ws n := gather_none (by simp [h])
theorem bToks_len (bs : List PB) (ws : List Str) (n : Nat) : (bToks bs ws n).length ≤ n := gather_length _ _
theorem toks_len (bs : List PB) (ws : List Str) : 1 ≤ (toks bs ws).length ∧ (toks bs ws).length ≤ bs.length + 1 := by
  have := bToks_len bs ws bs.length
  simp only [toks, List.length_append, List.length_cons, List.length_nil]; omega
theorem bToks_mem {bs : List PB} {ws : List Str} {t : Tok} : ∀ {n : Nat}, t ∈ bToks bs ws n → ∃ i, i < n ∧ pre (pbAt bs i).2 ws = true ∧ t = bTok bs i
  | 0, h => by simp [bToks, gather] at h
  | n + 1, h => by
    cases hp : pre (pbAt bs n).2 ws
    · rw [bToks_no hp] at h
      obtain ⟨i, h1, h2⟩ := bToks_mem h
      exact ⟨i, by omega, h2⟩
    · rw [bToks_yes hp, List.mem_append] at h
      rcases h with h | h
      · obtain ⟨i, h1, h2⟩ := bToks_mem h
        exact ⟨i, by omega, h2⟩
      · simp at h; exact ⟨n, by omega, hp, h⟩
theorem toks_mem {bs : List PB} {ws : List Str} {t : Tok} (h : t ∈ toks bs ws) : (∃ i, i < bs.length ∧ pre (pbAt bs i).2 ws = true ∧ t = bTok bs i) ∨ t = wTok ws := by
  rw [toks, List.mem_append] at h
  rcases h with h | h
  · exact .inl (bToks_mem h)
  · simp at h; exact .inr h
/-- what a token of briefs and a word is -/
theorem tok_fit {bs : List PB} (hb : bvOk bs = true) {ws : List Str} (hw : ws ≠ []) (hz : ∀ s ∈ ws, s.size ≤ 12) {t : Tok} (h : t ∈ toks bs ws) : 1 ≤ t.2.1 ∧ t.2.1 ≤ ws.length ∧ 0 ≤ t.2.2 ∧ t.2.2 ≤ 12 ∧ -1 ≤ t.1 ∧ t.1 ≤ 8 := by
  have hl := bv_len hb
  have h0 := len_pos hw
  rcases toks_mem h with ⟨i, hi, hp, rfl⟩ | rfl
  · have h1 := pre_len hp
    have h2 := bv_words hb hi
    have h3 := bv_mark hb hi
    simp only [bTok]; omega
  · cases ws with
    | nil => exact absurd rfl hw
    | cons s rest =>
      have := hz s (List.mem_cons_self ..)
      simp only [wTok, strAt, List.getD, List.getElem?_cons_zero, Option.getD_some, List.length_cons]; omega
theorem isum_bToks {bs : List PB} {ws : List Str} (g : Tok → Int) (f : Nat → Int) (hf : ∀ i, f i = if pre (pbAt bs i).2 ws = true then g (bTok bs i) else 0) : ∀ n, isum ((bToks bs ws n).map g) = sumTo f n
  | 0 => rfl
  | n + 1 => by
    have ih := isum_bToks g f hf n
    cases hp : pre (pbAt bs n).2 ws
    · rw [bToks_no hp, ih, sumTo, hf n, hp]; simp
    · rw [bToks_yes hp, List.map_append, List.map_cons, List.map_nil, isum_snoc, ih, sumTo, hf n, hp]; simp
/-- the copies of words: by their first token -/
theorem ways_toks {bs : List PB} (hb : bvOk bs = true) {ws : List Str} (hw : ws ≠ []) : isum ((toks bs ws).map fun t => ways bs (ws.drop t.2.1)) = ways bs ws := by
  cases ws with
  | nil => exact absurd rfl hw
  | cons w rest =>
    rw [toks, List.map_append, List.map_cons, List.map_nil, isum_snoc, ways_cons hb, isum_bToks (fun t => ways bs ((w :: rest).drop t.2.1)) (wayAt bs (w :: rest)) (fun i => rfl)]
    show _ + ways bs rest = _
    omega
theorem lmin_bToks {bs : List PB} {ws : List Str} (g : Tok → Int) (f : Nat → Option Int) (z : Int) (hf : ∀ i, f i = if pre (pbAt bs i).2 ws = true then some (g (bTok bs i)) else none) : ∀ n, lmin ((bToks bs ws n).map g ++ [z]) = minTo z f n
  | 0 => rfl
  | n + 1 => by
    have ih := lmin_bToks g f z hf n
    cases hp : pre (pbAt bs n).2 ws
    · rw [bToks_no hp, ih, minTo, hf n, hp]; simp
    · have e : minTo z f (n + 1) = min (minTo z f n) (g (bTok bs n)) := by rw [minTo, hf n, hp]; simp
      rw [e, ← ih, bToks_yes hp, List.map_append, List.map_cons, List.map_nil, lmin_snoc (by simp)]
      by_cases h0 : (bToks bs ws n).map g = []
      · rw [h0]; simp only [List.nil_append, lmin_one]; omega
      · rw [lmin_snoc h0, lmin_snoc h0]; omega
/-- the least cost: by the first token -/
theorem least_toks {wt : Int → Int} {bs : List PB} (hb : bvOk bs = true) {ws : List Str} (hw : ws ≠ []) : lmin ((toks bs ws).map fun t => wt t.2.2 + least (fun s => wt s.size) bs (ws.drop t.2.1)) = least (fun s => wt s.size) bs ws := by
  cases ws with
  | nil => exact absurd rfl hw
  | cons w rest =>
    rw [toks, List.map_append, List.map_cons, List.map_nil, least_cons hb, lmin_bToks (fun t => wt t.2.2 + least (fun s => wt s.size) bs ((w :: rest).drop t.2.1)) (leastAt (fun s => wt s.size) bs (w :: rest)) _ (fun i => ?_)]
    · congr 1
      show wt (w.size : Int) + least _ bs rest = _
      omega
    · unfold leastAt bTok
      split
      · congr 1; simp only; omega
      · rfl

/-! ### the laws of copies -/
def letters (ws : List Str) : Int := sumTo (szStr ws) ws.length
theorem letters_cons (w : Str) (rest : List Str) : letters (w :: rest) = w.size + letters rest := by
  have h : ∀ n, sumTo (szStr (w :: rest)) (n + 1) = w.size + sumTo (szStr rest) n := by
    intro n
    induction n with
    | zero => simp [sumTo, szStr, strAt]
    | succ n ih =>
      rw [sumTo, ih, sumTo]
      have : szStr (w :: rest) (n + 1) = szStr rest n := by simp [szStr, strAt, List.getD]
      rw [this]; omega
  exact h rest.length
def lsz : Str → Int := fun s => (s.size : Int)
theorem bv_nil : bvOk [] = true := by rfl
theorem least_letters {bs : List PB} (hb : bvOk bs = true) : ∀ ws : List Str, least lsz bs ws ≤ letters ws
  | [] => by rw [least_nil]; simp [letters, sumTo]
  | w :: rest => by
    have ih := least_letters hb rest
    have h := (minTo_le (z := least lsz bs rest + lsz w) (f := leastAt lsz bs (w :: rest)) bs.length).1
    rw [least_cons hb, letters_cons]
    unfold lsz at *
    omega
theorem least_none : ∀ ws : List Str, least lsz [] ws = letters ws
  | [] => by rw [least_nil]; simp [letters, sumTo]
  | w :: rest => by
    rw [least_cons bv_nil, letters_cons, List.length_nil, minTo, least_none rest]
    unfold lsz; omega
theorem pre_take {a ws : List Str} {k : Nat} (h : pre a (ws.take k) = true) : pre a ws = true := by
  have hl := pre_len h
  have h1 := of_decide_eq_true h
  refine decide_eq_true ?_
  rw [List.take_take, Nat.min_eq_left (by rw [List.length_take] at hl; omega)] at h1
  exact h1
/-- a copy of the first words and one of the others are a copy of all -/
theorem least_split {bs : List PB} (hb : bvOk bs = true) : ∀ (n : Nat) (ws : List Str) (k : Nat), k ≤ n → least lsz bs ws ≤ least lsz bs (ws.take k) + least lsz bs (ws.drop k) := by
  intro n
  induction n with
  | zero =>
    intro ws k hk
    obtain rfl : k = 0 := by omega
    simp [least_nil]
  | succ n ih =>
    intro ws k hk
    cases ws with
    | nil => simp [least_nil]
    | cons w rest =>
      cases k with
      | zero => simp [least_nil]
      | succ k =>
        have hle := minTo_le (z := least lsz bs rest + lsz w) (f := leastAt lsz bs (w :: rest)) bs.length
        rw [List.take_succ_cons, least_cons hb w (rest.take k), least_cons hb w rest]
        rcases minTo_hit (z := least lsz bs (rest.take k) + lsz w) (f := leastAt lsz bs (w :: rest.take k)) bs.length with h | ⟨i, x, hi, hx, h⟩
        · have h1 := ih rest k (by omega)
          rw [h, List.drop_succ_cons]
          omega
        · rw [h]
          unfold leastAt at hx
          split at hx
          · rename_i hp
            injection hx with hx
            have hp2 : pre (pbAt bs i).2 (w :: rest) = true := pre_take (k := k + 1) (by rw [List.take_succ_cons]; exact hp)
            have hpl := pre_len hp
            have hw := (bv_words hb hi).1
            have h2 := hle.2 i _ hi (show leastAt lsz bs (w :: rest) i = some _ by unfold leastAt; rw [if_pos hp2])
            have h3 := ih ((w :: rest).drop (pbAt bs i).2.length) (k + 1 - (pbAt bs i).2.length) (by omega)
            rw [← List.take_succ_cons, List.drop_take] at hx
            rw [List.drop_drop] at h3
            have e : (pbAt bs i).2.length + (k + 1 - (pbAt bs i).2.length) = k + 1 := by
              simp only [List.length_cons, List.length_take] at hpl; omega
            rw [e] at h3
            omega
          · cases hx
theorem minTo_mono {z z' : Int} {f g : Nat → Option Int} {n m : Nat} (hz : z ≤ z') (hm : m ≤ n) (h : ∀ i x, i < m → g i = some x → ∃ y, f i = some y ∧ y ≤ x) : minTo z f n ≤ minTo z' g m := by
  obtain ⟨h1, h2⟩ := minTo_le (z := z) (f := f) n
  rcases minTo_hit (z := z') (f := g) m with e | ⟨i, x, hi, hx, e⟩
  · rw [e]; omega
  · rw [e]
    obtain ⟨y, hy, hyx⟩ := h i x hi hx
    have := h2 i y (by omega) hy
    omega
theorem pbAt_old {bs : List PB} {b : PB} {i : Nat} (h : i < bs.length) : pbAt (bs ++ [b]) i = pbAt bs i := by simp [pbAt, List.getD, List.getElem?_append_left h]
theorem pbAt_new (bs : List PB) (b : PB) : pbAt (bs ++ [b]) bs.length = b := by simp [pbAt, List.getD]
theorem bv_old {bs : List PB} {b : PB} (h : bvOk (bs ++ [b]) = true) : bvOk bs = true := by
  have hl := bv_len h
  simp only [List.length_append, List.length_cons, List.length_nil] at hl
  simp only [bvOk, Bool.and_eq_true, decide_eq_true_eq]
  refine ⟨by omega, allTo_iff.2 fun i hi => ?_⟩
  simp only [bvOk, Bool.and_eq_true] at h
  have h1 := allTo_iff.1 h.2 i (by simp only [List.length_append, List.length_cons, List.length_nil]; omega)
  rw [bvAt, pbAt_old hi, Bool.and_eq_true] at h1
  rw [bvAt, h1.1, Bool.true_and]
  refine allTo_iff.2 fun j hj => ?_
  have h2 := allTo_iff.1 h1.2 j hj
  rwa [pbAt_old (by omega)] at h2
/-- a further brief costs nothing -/
theorem least_more {bs : List PB} {b : PB} (h : bvOk (bs ++ [b]) = true) : ∀ (n : Nat) (ws : List Str), ws.length ≤ n → least lsz (bs ++ [b]) ws ≤ least lsz bs ws := by
  have ho := bv_old h
  intro n
  induction n with
  | zero =>
    intro ws hl
    obtain rfl : ws = [] := List.eq_nil_of_length_eq_zero (by omega)
    rw [least_nil, least_nil]; exact Int.le_refl _
  | succ n ih =>
    intro ws hl
    cases ws with
    | nil => rw [least_nil, least_nil]; exact Int.le_refl _
    | cons w rest =>
      simp only [List.length_cons] at hl
      rw [least_cons h, least_cons ho]
      refine minTo_mono (by have := ih rest (by omega); omega) (by simp) fun i x hi hx => ?_
      unfold leastAt at hx ⊢
      split at hx
      · rename_i hp
        injection hx with hx
        have hw := (bv_words ho hi).1
        refine ⟨_, by rw [pbAt_old hi, if_pos hp], ?_⟩
        have := ih ((w :: rest).drop (pbAt bs i).2.length) (by simp only [List.length_drop, List.length_cons]; omega)
        omega
      · cases hx
theorem least_mark {bs : List PB} {b : PB} (h : bvOk (bs ++ [b]) = true) : least lsz (bs ++ [b]) b.2 ≤ b.1.size := by
  have hw := bv_words h (k := bs.length) (by simp)
  rw [pbAt_new] at hw
  cases e : b.2 with
  | nil => rw [e] at hw; simp at hw
  | cons w rest =>
    rw [least_cons h]
    refine (minTo_le (z := least lsz (bs ++ [b]) rest + lsz w) (f := leastAt lsz (bs ++ [b]) (w :: rest)) _).2 bs.length _ (by simp) ?_
    unfold leastAt
    rw [pbAt_new, e, if_pos (by simp [pre])]
    simp [least_nil, lsz]
theorem least_pos {bs : List PB} (h : bvOk bs = true) {ws : List Str} (hw : ws ≠ []) (hz : ∀ s ∈ ws, 1 ≤ s.size ∧ s.size ≤ 12) : 1 ≤ least lsz bs ws := by
  have hb : ∀ l : List Str, (∀ s ∈ l, 1 ≤ s.size ∧ s.size ≤ 12) → 0 ≤ least lsz bs l := fun l hl =>
    (least_bound h (M := 12) (by decide) (fun s => by unfold lsz; omega) _ l (Nat.le_refl _) (fun s hs => by have := hl s hs; unfold lsz; omega)).1
  cases ws with
  | nil => exact absurd rfl hw
  | cons w rest =>
    rw [least_cons h]
    rcases minTo_hit (z := least lsz bs rest + lsz w) (f := leastAt lsz bs (w :: rest)) bs.length with e | ⟨i, x, hi, hx, e⟩
    · have h1 := hb rest fun s hs => hz s (List.mem_cons_of_mem _ hs)
      have h2 := hz w (List.mem_cons_self ..)
      rw [e]; unfold lsz at *; omega
    · rw [e]
      unfold leastAt at hx
      split at hx
      · injection hx with hx
        have h1 := hb ((w :: rest).drop (pbAt bs i).2.length) fun s hs => hz s (List.mem_of_mem_drop hs)
        have h2 := bv_mark h hi
        unfold lsz at hx h1; omega
      · cases hx
theorem bv_twice {bs : List PB} {b : PB} : bvOk (bs ++ [b] ++ [b]) = false := by
  cases h : bvOk (bs ++ [b] ++ [b])
  · rfl
  · have h1 := (bv_ne h (j := bs.length) (k := bs.length + 1) (by simp) (by simp) (by omega)).1
    have e2 : pbAt (bs ++ [b] ++ [b]) (bs.length + 1) = b := by
      have := pbAt_new (bs ++ [b]) b
      rwa [List.length_append, List.length_cons, List.length_nil] at this
    rw [e2, pbAt_old (by simp), pbAt_new] at h1
    exact absurd rfl h1

/-! ### clear briefs -/
def allDiff (ws : List Str) : Bool := allTo (fun k => hasNo ws (strAt ws k) k) ws.length
def allWords (bs : List PB) : List Str := bs.flatMap (·.2)
def clOk (bs : List PB) : Bool := bvOk bs && allDiff (allWords bs)
theorem allDiff_iff {ws : List Str} : allDiff ws = true ↔ ws.Pairwise (· ≠ ·) := by
  rw [List.pairwise_iff_getElem]
  unfold allDiff
  rw [allTo_iff]
  constructor
  · intro h i j hi hj hij e
    have h1 := allTo_iff.1 (h j hj) i hij
    simp [strAt, List.getD, hi, hj] at h1
    exact h1 e
  · intro h j hj
    refine allTo_iff.2 fun i hi => ?_
    have h1 := h i j (by omega) hj hi
    simp [strAt, List.getD, hj, show i < ws.length by omega]
    exact h1
theorem flat_ne {bs : List PB} (h : (allWords bs).Pairwise (· ≠ ·)) : ∀ {i j : Nat} {p q : Nat} {s : Str}, i < bs.length → j < bs.length → (pbAt bs i).2[p]? = some s → (pbAt bs j).2[q]? = some s → i = j ∧ p = q := by
  induction bs with
  | nil => intro i j p q s hi; simp at hi
  | cons b bs ih =>
    have h' : (b.2 ++ allWords bs).Pairwise (· ≠ ·) := h
    rw [List.pairwise_append] at h'
    obtain ⟨h1, h2, h3⟩ := h'
    have hm : ∀ {i p : Nat} {s : Str}, i < bs.length → (pbAt bs i).2[p]? = some s → s ∈ allWords bs := by
      intro i p s hi hs
      obtain ⟨b', hb'⟩ := get_lt hi
      rw [pbAt_eq hb'] at hs
      exact List.mem_flatMap.2 ⟨b', List.mem_of_getElem? hb', List.mem_of_getElem? hs⟩
    have hc : ∀ k, pbAt (b :: bs) (k + 1) = pbAt bs k := fun k => by simp [pbAt, List.getD]
    have hc0 : pbAt (b :: bs) 0 = b := rfl
    intro i j p q s hi hj hp hq
    cases i with
    | zero =>
      rw [hc0] at hp
      cases j with
      | zero =>
        rw [hc0] at hq
        refine ⟨rfl, ?_⟩
        obtain ⟨hpl, hp2⟩ := List.getElem?_eq_some_iff.1 hp
        obtain ⟨hql, hq2⟩ := List.getElem?_eq_some_iff.1 hq
        rw [List.pairwise_iff_getElem] at h1
        by_cases hlt : p < q
        · exact absurd (hp2.trans hq2.symm) (h1 p q hpl hql hlt)
        · by_cases hgt : q < p
          · exact absurd (hq2.trans hp2.symm) (h1 q p hql hpl hgt)
          · omega
      | succ j =>
        rw [hc] at hq
        exact absurd rfl (h3 s (List.mem_of_getElem? hp) s (hm (by simpa using hj) hq))
    | succ i =>
      rw [hc] at hp
      cases j with
      | zero =>
        rw [hc0] at hq
        exact absurd rfl (h3 s (List.mem_of_getElem? hq) s (hm (by simpa using hi) hp))
      | succ j =>
        rw [hc] at hq
        obtain ⟨e1, e2⟩ := ih h2 (by simpa using hi) (by simpa using hj) hp hq
        exact ⟨by rw [e1], e2⟩
/-- the word at a place p of a brief i is the first of the words: no other brief, and this one at its first word alone, stands there -/
theorem clear_pre {bs : List PB} (h : clOk bs = true) {i p m : Nat} (hi : i < bs.length) (hp : p < (pbAt bs i).2.length) (r : List Str) (hm : m < bs.length) (hpr : pre (pbAt bs m).2 ((pbAt bs i).2.drop p ++ r) = true) : m = i ∧ p = 0 := by
  simp only [clOk, Bool.and_eq_true] at h
  have hw := (bv_words h.1 hm).1
  obtain ⟨r2, hr2⟩ := pre_iff.1 hpr
  obtain ⟨s, hs⟩ := get_lt hp
  have h0 : ((pbAt bs i).2.drop p ++ r)[0]? = some s := by
    rw [List.getElem?_append_left (by simp; omega), List.getElem?_drop]; exact hs
  rw [hr2, List.getElem?_append_left (by omega)] at h0
  obtain ⟨e1, e2⟩ := flat_ne (allDiff_iff.1 h.2) hm hi h0 hs
  exact ⟨e1, e2.symm⟩
theorem sumTo_zero {f : Nat → Int} : ∀ {n : Nat}, (∀ i, i < n → f i = 0) → sumTo f n = 0
  | 0, _ => rfl
  | n + 1, h => by rw [sumTo, sumTo_zero fun i hi => h i (by omega), h n (by omega)]; rfl
theorem sumTo_single {f : Nat → Int} {k : Nat} : ∀ {n : Nat}, k < n → (∀ i, i < n → i ≠ k → f i = 0) → sumTo f n = f k
  | 0, h, _ => absurd h (Nat.not_lt_zero _)
  | n + 1, h, hz => by
    by_cases e : k = n
    · subst e; rw [sumTo, sumTo_zero fun i hi => hz i (by omega) (by omega)]; omega
    · rw [sumTo, sumTo_single (by omega) fun i hi hne => hz i (by omega) hne, hz n (by omega) (by omega)]; omega
theorem clear_rest {bs : List PB} (h : clOk bs = true) {i : Nat} (hi : i < bs.length) (r : List Str) : ∀ (n p : Nat), 0 < p → p + n = (pbAt bs i).2.length → ways bs ((pbAt bs i).2.drop p ++ r) = ways bs r
  | 0, p, h0, hn => by rw [List.drop_eq_nil_of_le (by omega), List.nil_append]
  | n + 1, p, h0, hn => by
    have ih := clear_rest h hi r n (p + 1) (by omega) (by omega)
    have hb : bvOk bs = true := by simp only [clOk, Bool.and_eq_true] at h; exact h.1
    obtain ⟨s, hs⟩ := get_lt (show p < (pbAt bs i).2.length by omega)
    obtain ⟨hl, hs'⟩ := List.getElem?_eq_some_iff.1 hs
    have e : (pbAt bs i).2.drop p ++ r = (pbAt bs i).2[p] :: ((pbAt bs i).2.drop (p + 1) ++ r) := by rw [List.drop_eq_getElem_cons hl, List.cons_append]
    rw [e, ways_cons hb, ih, sumTo_zero fun m hm => ?_]
    · omega
    · unfold wayAt
      rw [if_neg]
      intro hp
      rw [← e] at hp
      have := (clear_pre h hi (by omega) r hm hp).2
      omega
theorem clear_twice {bs : List PB} (h : clOk bs = true) {i : Nat} (hi : i < bs.length) (r : List Str) : ways bs ((pbAt bs i).2 ++ r) = 2 * ways bs r := by
  have hb : bvOk bs = true := by simp only [clOk, Bool.and_eq_true] at h; exact h.1
  have hw := (bv_words hb hi).1
  have e : (pbAt bs i).2 ++ r = (pbAt bs i).2[0] :: ((pbAt bs i).2.drop 1 ++ r) := by
    rw [← List.cons_append, ← List.drop_eq_getElem_cons (by omega : 0 < (pbAt bs i).2.length), List.drop_zero]
  rw [e, ways_cons hb, clear_rest h hi r ((pbAt bs i).2.length - 1) 1 (by omega) (by omega), ← e, sumTo_single hi fun m hm hne => ?_]
  · unfold wayAt
    rw [if_pos (by simp [pre]), List.drop_left]
    omega
  · unfold wayAt
    rw [if_neg]
    intro hp
    exact hne (clear_pre h hi (by omega : 0 < (pbAt bs i).2.length) r hm (by rw [List.drop_zero]; exact hp)).1
theorem clear_four {bs : List PB} (h : clOk bs = true) {i k : Nat} (hi : i < bs.length) (hk : k < bs.length) : ways bs ((pbAt bs i).2 ++ (pbAt bs k).2) = 4 := by
  rw [clear_twice h hi]
  have := clear_twice h hk []
  rw [List.append_nil, ways_nil] at this
  omega
end Go.Proofs.Ytgddklafeaoleaa
