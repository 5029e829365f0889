/-
  Plain facts: briefs and copies: how many there are, what the least costs. No program in sight.
-/
import Derived.Test.YtgddklafeaoleaaStrs
namespace Go.Proofs.Ytgddklafeaoleaa
open Go.RowKit
set_option linter.unusedSimpArgs false
set_option linter.unusedVariables false

theorem len_pos {α : Type} {l : List α} (h : l ≠ []) : 0 < l.length := by
  cases l with
  | nil => exact absurd rfl h
  | cons x l => simp
/-- a brief: its mark and its words -/
abbrev PB := Str × List Str
def upOk (c : UInt8) : Bool := decide (65 ≤ (c.toNat : Int)) && decide ((c.toNat : Int) ≤ 90)
def markOk (s : Str) : Bool := decide (1 ≤ s.size) && decide (s.size ≤ 3) && s.data.toList.all upOk
def threeOk (ws : List Str) : Bool := decide (1 ≤ ws.length) && decide (ws.length ≤ 3) && allTo (fun k => wordOk (strAt ws k)) ws.length
def pbOk (b : PB) : Bool := markOk b.1 && threeOk b.2
def pbAt (bs : List PB) (k : Nat) : PB := bs.getD k (ByteArray.empty, [])
def apartB (a b : PB) : Bool := !(decide (a.1 = b.1) || decide (a.2 = b.2))
def bvAt (bs : List PB) (k : Nat) : Bool := pbOk (pbAt bs k) && allTo (fun j => apartB (pbAt bs j) (pbAt bs k)) k
def bvOk (bs : List PB) : Bool := decide (bs.length ≤ 8) && allTo (bvAt bs) bs.length
theorem pbAt_eq {bs : List PB} {k : Nat} {b : PB} (h : bs[k]? = some b) : pbAt bs k = b := by simp [pbAt, List.getD, h]

theorem bv_len {bs : List PB} (h : bvOk bs = true) : bs.length ≤ 8 := by
  simp only [bvOk, Bool.and_eq_true, decide_eq_true_eq] at h; exact h.1
theorem bv_at {bs : List PB} (h : bvOk bs = true) {k : Nat} (hk : k < bs.length) : pbOk (pbAt bs k) = true ∧ ∀ j, j < k → (pbAt bs j).1 ≠ (pbAt bs k).1 ∧ (pbAt bs j).2 ≠ (pbAt bs k).2 := by
  simp only [bvOk, Bool.and_eq_true, decide_eq_true_eq] at h
  have h1 := allTo_iff.1 h.2 k hk
  simp only [bvAt, Bool.and_eq_true] at h1
  refine ⟨h1.1, fun j hj => ?_⟩
  have h2 := allTo_iff.1 h1.2 j hj
  simpa [apartB] using h2
theorem bv_ne {bs : List PB} (h : bvOk bs = true) {j k : Nat} (hj : j < bs.length) (hk : k < bs.length) (hne : j ≠ k) : (pbAt bs j).1 ≠ (pbAt bs k).1 ∧ (pbAt bs j).2 ≠ (pbAt bs k).2 := by
  by_cases hlt : j < k
  · exact (bv_at h hk).2 j hlt
  · obtain ⟨h1, h2⟩ := (bv_at h hj).2 k (by omega)
    exact ⟨fun e => h1 e.symm, fun e => h2 e.symm⟩
theorem three_len {ws : List Str} (h : threeOk ws = true) : 1 ≤ ws.length ∧ ws.length ≤ 3 := by
  simp only [threeOk, Bool.and_eq_true, decide_eq_true_eq] at h; exact h.1
theorem mark_len {s : Str} (h : markOk s = true) : 1 ≤ s.size ∧ s.size ≤ 3 := by
  simp only [markOk, Bool.and_eq_true, decide_eq_true_eq] at h; exact h.1
theorem bv_words {bs : List PB} (h : bvOk bs = true) {k : Nat} (hk : k < bs.length) : 1 ≤ (pbAt bs k).2.length ∧ (pbAt bs k).2.length ≤ 3 := by
  have h1 := (bv_at h hk).1
  simp only [pbOk, Bool.and_eq_true] at h1
  exact three_len h1.2
theorem bv_mark {bs : List PB} (h : bvOk bs = true) {k : Nat} (hk : k < bs.length) : 1 ≤ (pbAt bs k).1.size ∧ (pbAt bs k).1.size ≤ 3 := by
  have h1 := (bv_at h hk).1
  simp only [pbOk, Bool.and_eq_true] at h1
  exact mark_len h1.1

/-- the words a stand at the head of ws -/
def pre (a ws : List Str) : Bool := decide (ws.take a.length = a)
theorem pre_len {a ws : List Str} (h : pre a ws = true) : a.length ≤ ws.length := by
  have h1 := congrArg List.length (of_decide_eq_true h)
  rw [List.length_take] at h1; omega
theorem pre_iff {a ws : List Str} : pre a ws = true ↔ ∃ r, ws = a ++ r := by
  constructor
  · intro h
    have h1 := of_decide_eq_true h
    exact ⟨ws.drop a.length, by conv => lhs; rw [← List.take_append_drop a.length ws, h1]⟩
  · rintro ⟨r, rfl⟩
    simp [pre]

/-! ### how many copies -/
def ways (bs : List PB) : List Str → Int
  | [] => 1
  | w :: rest => ways bs rest + sumTo (fun i => if h : (pbAt bs i).2 ≠ [] ∧ pre (pbAt bs i).2 (w :: rest) = true then ways bs ((w :: rest).drop (pbAt bs i).2.length) else 0) bs.length
termination_by ws => ws.length
decreasing_by
  · simp
  · have h1 := len_pos h.1
    simp only [List.length_drop, List.length_cons]; omega
def wayAt (bs : List PB) (ws : List Str) (i : Nat) : Int := if pre (pbAt bs i).2 ws = true then ways bs (ws.drop (pbAt bs i).2.length) else 0
theorem ways_nil (bs : List PB) : ways bs [] = 1 := by rw [ways]
theorem ways_cons {bs : List PB} (h : bvOk bs = true) (w : Str) (rest : List Str) : ways bs (w :: rest) = ways bs rest + sumTo (wayAt bs (w :: rest)) bs.length := by
  rw [ways]
  congr 1
  refine sumTo_congr fun i hi => ?_
  have h1 := (bv_words h hi).1
  have h2 : (pbAt bs i).2 ≠ [] := by intro e; rw [e] at h1; simp at h1
  unfold wayAt
  by_cases hp : pre (pbAt bs i).2 (w :: rest) = true
  · rw [dif_pos ⟨h2, hp⟩, if_pos hp]
  · rw [dif_neg (fun hh => hp hh.2), if_neg hp]

/-- at most three of a list of different numbers from 1 to 3 -/
theorem three_most : ∀ l : List Nat, l.Pairwise (· ≠ ·) → (∀ x ∈ l, 1 ≤ x ∧ x ≤ 3) → l.length ≤ 3
  | [], _, _ => by simp
  | [a], _, _ => by simp
  | [a, b], _, _ => by simp
  | [a, b, c], _, _ => by simp
  | a :: b :: c :: d :: l, h, hb => by
    exfalso
    simp only [List.pairwise_cons, List.mem_cons, forall_eq_or_imp] at h hb
    omega
/-- sums over the first numbers whose terms other than at most three are 0 -/
def fits (bs : List PB) (ws : List Str) (n : Nat) : List Nat := gather (fun i => if pre (pbAt bs i).2 ws = true then some (pbAt bs i).2.length else none) n
theorem fits_mem {bs : List PB} {ws : List Str} {x : Nat} : ∀ {n : Nat}, x ∈ fits bs ws n → ∃ i, i < n ∧ pre (pbAt bs i).2 ws = true ∧ x = (pbAt bs i).2.length
  | 0, h => by simp [fits, gather] at h
  | n + 1, h => by
    simp only [fits, gather, List.mem_append] at h
    rcases h with h | h
    · obtain ⟨i, h1, h2⟩ := fits_mem (n := n) h
      exact ⟨i, by omega, h2⟩
    · split at h
      · simp at h; exact ⟨n, by omega, by assumption, h⟩
      · simp at h
theorem fits_apart {bs : List PB} (h : bvOk bs = true) (ws : List Str) : ∀ n, n ≤ bs.length → (fits bs ws n).Pairwise (· ≠ ·)
  | 0, _ => by simp [fits, gather]
  | n + 1, hn => by
    have ih := fits_apart h ws n (by omega)
    by_cases hp : pre (pbAt bs n).2 ws = true
    · have e : fits bs ws (n + 1) = fits bs ws n ++ [(pbAt bs n).2.length] := gather_some (by simp [hp])
      rw [e, List.pairwise_append]
      refine ⟨ih, by simp, fun x hx y hy => ?_⟩
      simp at hy; subst hy
      obtain ⟨i, hi, hpi, rfl⟩ := fits_mem hx
      intro e2
      have h1 := of_decide_eq_true hp
      have h2 := of_decide_eq_true hpi
      rw [e2] at h2
      exact (bv_ne h (by omega : i < bs.length) (by omega : n < bs.length) (by omega)).2 (h2.symm.trans h1)
    · have e : fits bs ws (n + 1) = fits bs ws n := gather_none (by simp [hp])
      rw [e]; exact ih
theorem fits_most {bs : List PB} (h : bvOk bs = true) (ws : List Str) : (fits bs ws bs.length).length ≤ 3 := by
  refine three_most _ (fits_apart h ws _ (Nat.le_refl _)) fun x hx => ?_
  obtain ⟨i, hi, _, rfl⟩ := fits_mem hx
  exact bv_words h hi
theorem sum_fits {bs : List PB} {ws : List Str} {f : Nat → Int} {M : Int} (hz : ∀ i, pre (pbAt bs i).2 ws ≠ true → f i = 0) (hM : ∀ i, i < bs.length → f i ≤ M) : ∀ n, n ≤ bs.length → sumTo f n ≤ M * ((fits bs ws n).length : Int)
  | 0, _ => by simp [sumTo, fits, gather]
  | n + 1, hn => by
    have ih := sum_fits hz hM n (by omega)
    by_cases hp : pre (pbAt bs n).2 ws = true
    · have e : fits bs ws (n + 1) = fits bs ws n ++ [(pbAt bs n).2.length] := gather_some (by simp [hp])
      have h1 := hM n (by omega)
      rw [e, List.length_append, sumTo]
      have e2 : (((fits bs ws n).length + [(pbAt bs n).2.length].length : Nat) : Int) = ((fits bs ws n).length : Int) + 1 := by simp
      rw [e2, Int.mul_add, Int.mul_one]; omega
    · have e : fits bs ws (n + 1) = fits bs ws n := gather_none (by simp [hp])
      rw [e, sumTo, hz n hp]; omega
theorem pow4_pos (n : Nat) : (1 : Int) ≤ 4 ^ n := by
  induction n with
  | zero => simp
  | succ n ih => rw [Int.pow_succ]; omega
theorem pow4_mono {a b : Nat} (h : a ≤ b) : (4 : Int) ^ a ≤ 4 ^ b := by
  induction b with
  | zero => obtain rfl : a = 0 := by omega
            exact Int.le_refl _
  | succ b ih =>
    by_cases e : a = b + 1
    · subst e; exact Int.le_refl _
    · have := ih (by omega); have := pow4_pos b; rw [Int.pow_succ]; omega
theorem ways_bound {bs : List PB} (h : bvOk bs = true) : ∀ (n : Nat) (ws : List Str), ws.length ≤ n → 1 ≤ ways bs ws ∧ ways bs ws ≤ 4 ^ ws.length := by
  intro n
  induction n with
  | zero =>
    intro ws hl
    obtain rfl : ws = [] := List.eq_nil_of_length_eq_zero (by omega)
    rw [ways_nil]; simp
  | succ n ih =>
    intro ws hl
    cases ws with
    | nil => rw [ways_nil]; simp
    | cons w rest =>
      simp only [List.length_cons] at hl
      have h1 := ih rest (by omega)
      rw [ways_cons h]
      have hd : ∀ i, i < bs.length → 1 ≤ ways bs ((w :: rest).drop (pbAt bs i).2.length) ∧ ways bs ((w :: rest).drop (pbAt bs i).2.length) ≤ 4 ^ rest.length := fun i hi => by
        have h2 := (bv_words h hi).1
        have h3 := ih ((w :: rest).drop (pbAt bs i).2.length) (by simp only [List.length_drop, List.length_cons]; omega)
        refine ⟨h3.1, Int.le_trans h3.2 (pow4_mono (by simp only [List.length_drop, List.length_cons]; omega))⟩
      have h4 : 0 ≤ sumTo (wayAt bs (w :: rest)) bs.length := by
        have h0 : ∀ k, k ≤ bs.length → 0 ≤ sumTo (wayAt bs (w :: rest)) k := by
          intro k
          induction k with
          | zero => intro _; simp [sumTo]
          | succ k ihk =>
            intro hk
            have h5 := ihk (by omega)
            have h6 : 0 ≤ wayAt bs (w :: rest) k := by unfold wayAt; split; · have := (hd k (by omega)).1; omega
                                                       · omega
            rw [sumTo]; omega
        exact h0 _ (Nat.le_refl _)
      have h5 := sum_fits (bs := bs) (ws := w :: rest) (f := wayAt bs (w :: rest)) (M := 4 ^ rest.length) (fun i hi => by unfold wayAt; rw [if_neg hi]) (fun i hi => by
        unfold wayAt; split
        · exact (hd i hi).2
        · have := pow4_pos rest.length; omega) bs.length (Nat.le_refl _)
      have h6 := fits_most h (w :: rest)
      have h7 : (4 : Int) ^ rest.length * ((fits bs (w :: rest) bs.length).length : Int) ≤ 4 ^ rest.length * 3 := Int.mul_le_mul_of_nonneg_left (by omega) (by have := pow4_pos rest.length; omega)
      rw [List.length_cons, Int.pow_succ]
      omega
theorem ways_small {bs : List PB} (h : bvOk bs = true) {ws : List Str} (hl : ws.length ≤ 20) : 1 ≤ ways bs ws ∧ ways bs ws ≤ 1099511627776 := by
  obtain ⟨h1, h2⟩ := ways_bound h _ ws (Nat.le_refl _)
  refine ⟨h1, Int.le_trans h2 (Int.le_trans (pow4_mono hl) (by decide))⟩
theorem wayAt_small {bs : List PB} (h : bvOk bs = true) {ws : List Str} (hl : ws.length ≤ 20) (i : Nat) : 0 ≤ wayAt bs ws i ∧ wayAt bs ws i ≤ 1099511627776 := by
  unfold wayAt; split
  · have := ways_small h (ws := ws.drop (pbAt bs i).2.length) (by simp only [List.length_drop]; omega); omega
  · omega
theorem sum_small {f : Nat → Int} {M : Int} (hf : ∀ i, 0 ≤ f i ∧ f i ≤ M) (k : Nat) : 0 ≤ sumTo f k ∧ sumTo f k ≤ M * (k : Int) := by
  induction k with
  | zero => simp [sumTo]
  | succ k ih =>
    have h1 := hf k
    have e : M * ((k + 1 : Nat) : Int) = M * (k : Int) + M := by rw [Int.natCast_add, Int.mul_add]; simp
    rw [sumTo, e]; omega

/-! ### what the least costs -/
def minTo (z : Int) (f : Nat → Option Int) : Nat → Int
  | 0 => z
  | k + 1 => match f k with
    | some x => min (minTo z f k) x
    | none => minTo z f k
theorem minTo_congr {z : Int} {f g : Nat → Option Int} {n : Nat} (h : ∀ i, i < n → f i = g i) : minTo z f n = minTo z g n := by
  induction n with
  | zero => rfl
  | succ n ih => simp only [minTo]; rw [ih fun i hi => h i (by omega), h n (by omega)]
theorem minTo_le {z : Int} {f : Nat → Option Int} : ∀ n, minTo z f n ≤ z ∧ ∀ i x, i < n → f i = some x → minTo z f n ≤ x
  | 0 => ⟨Int.le_refl _, fun i x h => absurd h (Nat.not_lt_zero _)⟩
  | n + 1 => by
    obtain ⟨h1, h2⟩ := minTo_le (z := z) (f := f) n
    simp only [minTo]
    split
    · rename_i y hy
      refine ⟨by omega, fun i x hi hx => ?_⟩
      by_cases e : i = n
      · subst e; rw [hx] at hy; injection hy with hy; omega
      · have := h2 i x (by omega) hx; omega
    · rename_i hy
      refine ⟨h1, fun i x hi hx => ?_⟩
      by_cases e : i = n
      · subst e; rw [hx] at hy; cases hy
      · exact h2 i x (by omega) hx
theorem minTo_hit {z : Int} {f : Nat → Option Int} : ∀ n, minTo z f n = z ∨ ∃ i x, i < n ∧ f i = some x ∧ minTo z f n = x
  | 0 => .inl rfl
  | n + 1 => by
    have ih := minTo_hit (z := z) (f := f) n
    simp only [minTo]
    split
    · rename_i y hy
      by_cases hle : minTo z f n ≤ y
      · rw [show min (minTo z f n) y = minTo z f n by omega]
        rcases ih with h | ⟨i, x, h1, h2, h3⟩
        · exact .inl h
        · exact .inr ⟨i, x, by omega, h2, h3⟩
      · exact .inr ⟨n, y, by omega, hy, by omega⟩
    · rcases ih with h | ⟨i, x, h1, h2, h3⟩
      · exact .inl h
      · exact .inr ⟨i, x, by omega, h2, h3⟩
def least (cm : Str → Int) (bs : List PB) : List Str → Int
  | [] => 0
  | w :: rest => minTo (least cm bs rest + cm w) (fun i => if h : (pbAt bs i).2 ≠ [] ∧ pre (pbAt bs i).2 (w :: rest) = true then some (least cm bs ((w :: rest).drop (pbAt bs i).2.length) + cm (pbAt bs i).1) else none) bs.length
termination_by ws => ws.length
decreasing_by
  · simp
  · have h1 := len_pos h.1
    simp only [List.length_drop, List.length_cons]; omega
def leastAt (cm : Str → Int) (bs : List PB) (ws : List Str) (i : Nat) : Option Int := if pre (pbAt bs i).2 ws = true then some (least cm bs (ws.drop (pbAt bs i).2.length) + cm (pbAt bs i).1) else none
theorem least_nil (cm : Str → Int) (bs : List PB) : least cm bs [] = 0 := by rw [least]
theorem least_cons {cm : Str → Int} {bs : List PB} (h : bvOk bs = true) (w : Str) (rest : List Str) : least cm bs (w :: rest) = minTo (least cm bs rest + cm w) (leastAt cm bs (w :: rest)) bs.length := by
  rw [least]
  refine minTo_congr fun i hi => ?_
  have h1 := (bv_words h hi).1
  have h2 : (pbAt bs i).2 ≠ [] := by intro e; rw [e] at h1; simp at h1
  unfold leastAt
  by_cases hp : pre (pbAt bs i).2 (w :: rest) = true
  · rw [dif_pos ⟨h2, hp⟩, if_pos hp]
  · rw [dif_neg (fun hh => hp hh.2), if_neg hp]
/-- between 0 and so many times the number of words -/
theorem least_bound {cm : Str → Int} {bs : List PB} (h : bvOk bs = true) {M : Int} (hM : 0 ≤ M) (h0 : ∀ s, 0 ≤ cm s) : ∀ (n : Nat) (ws : List Str), ws.length ≤ n → (∀ s ∈ ws, cm s ≤ M) → 0 ≤ least cm bs ws ∧ least cm bs ws ≤ M * (ws.length : Int) := by
  intro n
  induction n with
  | zero =>
    intro ws hl _
    obtain rfl : ws = [] := List.eq_nil_of_length_eq_zero (by omega)
    rw [least_nil]; simp
  | succ n ih =>
    intro ws hl hw
    cases ws with
    | nil => rw [least_nil]; simp
    | cons w rest =>
      simp only [List.length_cons] at hl
      have h1 := ih rest (by omega) (fun s hs => hw s (List.mem_cons_of_mem _ hs))
      have h2 := hw w (List.mem_cons_self ..)
      have h3 := h0 w
      have h4 := (minTo_le (z := least cm bs rest + cm w) (f := leastAt cm bs (w :: rest)) bs.length).1
      have e : M * ((w :: rest).length : Int) = M * (rest.length : Int) + M := by rw [List.length_cons, Int.natCast_add, Int.mul_add]; simp
      rw [least_cons h, e]
      refine ⟨?_, by omega⟩
      rcases minTo_hit (z := least cm bs rest + cm w) (f := leastAt cm bs (w :: rest)) bs.length with h5 | ⟨i, x, hi, hx, h5⟩
      · omega
      · rw [h5]
        unfold leastAt at hx
        split at hx
        · injection hx with hx
          have h6 := (bv_words h hi).1
          have h7 := ih ((w :: rest).drop (pbAt bs i).2.length) (by simp only [List.length_drop, List.length_cons]; omega) (fun s hs => hw s (List.mem_of_mem_drop hs))
          have h8 := h0 (pbAt bs i).1
          omega
        · cases hx
end Go.Proofs.Ytgddklafeaoleaa
