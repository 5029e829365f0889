/-
  Marks of texts; lists of signs, of texts and of numbers of the call's own: marked, held, compared.
-/
import Derived.Test.YtlpagnbfjechhaaDoorKinds2
import Derived.Test.YtlpagnbfjechhaaDoorKindSgn
namespace Go.Proofs.YtlpagnbfjechhaaDoor
open Go.RowKit Go.Sort
set_option linter.unusedSimpArgs false
set_option linter.unusedVariables false

theorem own_grew {w w' : World} {base n : Nat} {e : TypeId} {size : Nat} {v vm : Value} {xs : List Value} (h : w.ownsRow base e size v n xs) (hm : w.grownBy w' vm.ownBlock) (hne : ∀ k, v.ownBlock = some k → vm.ownBlock = some k → False) : w'.ownsRow base e size v n xs := by
  refine h.kept hm ?_
  cases hv : v.ownBlock with
  | none => exact .inl rfl
  | some k => exact .inr fun e => hne k hv e.symm
theorem grown_bel {w0 w w' : World} {row : Option Nat} (h : Below w0.heap.size w0 w) (hg : w.grownBy w' row) (hlo : ∀ k, row = some k → w0.heap.size ≤ k) : Below w0.heap.size w0 w' := h.grown hg h.size hlo
theorem grow_trans {w1 w2 w3 : World} {r : Option Nat} (h1 : w1.grownBy w2 r) (h2 : w2.grownBy w3 r) : w1.grownBy w3 r :=
  ⟨h2.os.trans h1.os, h2.tape.trans h1.tape, h2.output.trans h1.output, Nat.le_trans h1.size h2.size, fun k hk hne => (h2.block k (Nat.lt_of_lt_of_le hk h1.size) hne).trans (h1.block k hk hne)⟩
theorem grow_below {w w' : World} {r : Option Nat} (h : Below w.heap.size w w') : w.grownBy w' r := ⟨h.os, h.tape, h.output, h.size, fun k hk _ => h.block k hk⟩
theorem grow_set (w : World) (b o n c : Nat) (u : Value) : w.grownBy (w.setCell ⟨b, o, none⟩ u) (Value.slice (some ⟨b, 0, none⟩) n c).ownBlock := (wrote_set w b o n c u).1
theorem grow_refl (w : World) (r : Option Nat) : w.grownBy w r := ⟨rfl, rfl, rfl, Nat.le_refl _, fun _ _ _ => rfl⟩

/-! ### a mark's text -/
def digs (k : Nat) (out : List UInt8) : List UInt8 := if h : k = 0 then out else digs (k / 10) ((48 + k % 10).toUInt8 :: out)
termination_by k
decreasing_by omega
theorem digs_zero (out : List UInt8) : digs 0 out = out := by rw [digs]; simp
theorem digs_step {k : Nat} (h : k ≠ 0) (out : List UInt8) : digs k out = digs (k / 10) ((48 + k % 10).toUInt8 :: out) := by rw [digs]; simp [h]
theorem digs_len (k : Nat) (out : List UInt8) : (digs k out).length ≤ k + out.length := by
  induction k using Nat.strongRecOn generalizing out with
  | _ k ih =>
    by_cases h : k = 0
    · subst h; rw [digs_zero]; omega
    · rw [digs_step h]
      have := ih (k / 10) (by omega) ((48 + k % 10).toUInt8 :: out)
      simp only [List.length_cons] at this
      omega
def mtext (k : Int) : Str := ⟨(109 :: digs k.toNat []).toArray⟩
theorem str_cons (b : UInt8) (l : List UInt8) : (⟨#[b]⟩ : ByteArray) ++ ⟨l.toArray⟩ = ⟨(b :: l).toArray⟩ := by
  apply str_ext; simp [ByteArray.data_append]
theorem digit_nat (k : Nat) : ((48 + k % 10).toUInt8.toNat : Int) = 48 + (k : Int) % 10 := by
  have : (48 + k % 10).toUInt8.toNat = 48 + k % 10 := by
    simp [Nat.toUInt8]; omega
  rw [this]; omega
/-! ### lists of signs, marked and held -/
def markSgn (k : Int) (i : Nat) : Sgn := (mtext (k + 3 * (i : Int)), (k + 3 * (i : Int) + 1, k + 3 * (i : Int) + 1 + 1))
def marksSgn (k : Int) (n : Nat) : List Sgn := (List.range n).map (markSgn k)
theorem marksSgn_len (k : Int) (n : Nat) : (marksSgn k n).length = n := by simp [marksSgn]
theorem marksSgn_at (k : Int) {n i : Nat} (h : i < n) : (marksSgn k n)[i]? = some (markSgn k i) := by simp [marksSgn, h]
theorem stks_markG (xs : List Stk) (base : Nat) (A : Option Addr) (c : Nat) (k : Int) (w : World) (hown : w.ownsRow base 46 2 (.slice A xs.length c) xs.length (flat stkC xs)) (hn : xs.length ≤ 1048576) (hk0 : 0 ≤ k) (hk1 : k ≤ 1000000000000) :
    Calls Tryd.prog 14 #[.slice A xs.length c, .int .i64 k] w fun e w' => e = .returned (.int .i64 (k + 2 * xs.length)) ∧ w'.ownsRow base 46 2 (.slice A xs.length c) xs.length (flat stkC (marksStk k xs.length)) ∧ w.grownBy w' (Value.slice A xs.length c).ownBlock :=
  (stks_markO xs base A c k w hown hn hk0 hk1).mono fun _ _ ⟨h1, h2, h3⟩ => ⟨h1, h2, h3.1⟩
theorem stks_heldB (n : Nat) (k0 : Int) (A : Option Addr) (c : Nat) (w : World) (hw : Seg w 0 w.heap.size A (flat stkC (marksStk k0 n))) (hn : n ≤ 1048576) (hk0 : 0 ≤ k0) (hk1 : k0 ≤ 1000000000000) :
    Calls Tryd.prog 15 #[.slice A n c, .int .i64 k0] w fun e w' => e = .returned (.int .i64 (k0 + 2 * n)) ∧ Below w.heap.size w w' := callsB_same (stks_held n k0 A c w hw hn hk0 hk1)
end Go.Proofs.YtlpagnbfjechhaaDoor
