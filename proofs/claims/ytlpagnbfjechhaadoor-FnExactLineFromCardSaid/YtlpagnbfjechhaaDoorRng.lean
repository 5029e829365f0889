/-
  A range over the sequence of strings.SplitSeq, whose state lies in a captured box: what the caller owes.
-/
import Derived.Test.YtlpagnbfjechhaaDoorSeq
import Derived.ControlIn
namespace Go.Proofs.YtlpagnbfjechhaaDoor
open Go.RowKit Go.Shelf
set_option linter.unusedSimpArgs false
set_option linter.unusedVariables false

/-- how the body of a round may be left: off its end, or by a return -/
def splitPost (I : List Str → Str → World → Prop) (Ix : World → Prop) (xs : List Str) (rest : Str) (W : World) : Exit → Act → World → Prop
  | .normal, _, W' => KeepsOthers W W' ∧ I xs rest W'
  | .ret, _, W' => KeepsOthers W W' ∧ Ix W'
  | _, _, _ => False

/-- a loop's record -/
def recOf (fn : FuncId) (ts : Array Value) (ps : Array Tmp) (assign body : Code) (D : Nat) (st : LoopState) (pe : Option Code) : Loop :=
  { state := st, pending := pe, fn := fn, tmps := ts, params := ps, assign := assign, body := body, defers := D }
/-- the record stands at D + 1 in the state (st, pe); the block for what the rounds defer, at D, is open and empty -/
def Stands (fn : FuncId) (ts : Array Value) (ps : Array Tmp) (assign body : Code) (D : Nat) (st : LoopState) (pe : Option Code) (W : World) : Prop :=
  W.heap[D + 1]? = some (.loop (recOf fn ts ps assign body D st pe)) ∧ W.heap[D]? = some (.deferred (some []))
/-- what speaks of cells, and of no block below B but by its cells, lies on when the record turns -/
def Turns (B : Nat) (K : World → Prop) : Prop := OwnFrom B (fun (_ : Unit) W => K W)

section
variable {fn : FuncId} {ts : Array Value} {ps : Array Tmp} {assign body : Code} {D : Nat} {st st' : LoopState} {pe pe' : Option Code} {W W' : World}
theorem Stands.keeps (h : Stands fn ts ps assign body D st pe W) (k : KeepsOthers W W') : Stands fn ts ps assign body D st pe W' := ⟨k.same _ _ h.1 rfl, k.same _ _ h.2 rfl⟩
theorem Stands.turned (h : Stands fn ts ps assign body D st pe W) (st' : LoopState) (pe' : Option Code) :
    Stands fn ts ps assign body D st' pe' (W.putObj (D + 1) (.loop (recOf fn ts ps assign body D st' pe'))) :=
  ⟨World.putObj_heap_same (Array.getElem?_eq_some_iff.1 h.1).1, (World.putObj_heap_other (by omega)).trans h.2⟩
theorem Stands.kept (h : Stands fn ts ps assign body D st pe W) {K : World → Prop} {B : Nat} (hB : B ≤ D) (hK : Turns B K) (k : K W) (st' : LoopState) (pe' : Option Code) :
    K (W.putObj (D + 1) (.loop (recOf fn ts ps assign body D st' pe'))) := hK.putObj (s := ()) _ k (by omega) h.1 rfl
theorem Stands.laid (fn : FuncId) (ts : Array Value) (ps : Array Tmp) (assign body : Code) (w : World) :
    Stands fn ts ps assign body w.heap.size .ready none ((w.alloc (.deferred (some []))).alloc (.loop (recOf fn ts ps assign body w.heap.size .ready none))) := by
  refine ⟨?_, ?_⟩
  · have h := World.alloc_heap_new (w.alloc (.deferred (some []))) (.loop (recOf fn ts ps assign body w.heap.size .ready none))
    rw [World.size_alloc] at h
    exact h
  · exact (Below.heap_alloc _ _ w.heap.size (by simp)).trans (World.alloc_heap_new w _)

/-- the end of a round: the record goes from busy to what the jump asks -/
theorem Stands.round_end (h : Stands fn ts ps assign body D .busy none W) (jump : Option Code) :
    (Instr.endRound (D + 1) jump).run Tryd.prog W = .ok (.bool jump.isNone) (W.putObj (D + 1) (.loop (recOf fn ts ps assign body D (if jump.isNone then .ready else .done) jump))) :=
  run_endRound (P := Tryd.prog) jump h.1

/-- one call of yield -/
theorem split_round {n : Nat} (hps : ps.size = 1) {I : List Str → Str → World → Prop} {Ix : World → Prop} {B : Nat} (hB : B ≤ D) (hI : ∀ pre rest, Turns B (I pre rest)) (hIx : Turns B Ix) {a₁ : Str → Act} {pre : List Str} {x rest : Str}
    (hassign : ∀ (W : World) (K : Act → World → Prop), K (a₁ x) W →
      assign.wpIn (Fence.wide.inRound (D + 1)) n Tryd.prog (Exit.then K (fun _ _ _ => False)) { tmps := (ps.zip #[.string x]).foldl (fun t (p, v) => t.setIfInBounds p v) ts, defers := [] } W)
    (hbody : ∀ (W : World), I pre rest W → body.wpIn (Fence.wide.inRound (D + 1)) n Tryd.prog (splitPost I Ix (pre ++ [x]) rest W) (a₁ x) W)
    (hi : I pre rest W) (hS : Stands fn ts ps assign body D .ready none W) :
    YieldAt Fence.wide n Tryd.prog (D + 1) #[.string x] W fun e W' =>
      (e = .returned (.bool true) ∧ I (pre ++ [x]) rest W' ∧ Stands fn ts ps assign body D .ready none W') ∨
      (e = .returned (.bool false) ∧ Ix W' ∧ Stands fn ts ps assign body D .done (some .ret) W') := by
  have hy := run_yield (P := Tryd.prog) (args := #[.string x]) hS.1 hps.symm
  have hbegin := run_beginRound (P := Tryd.prog) hS.1 rfl
  have hS2 := hS.turned .busy none
  have hi2 := hS.kept hB (hI pre rest) hi .busy none
  refine ⟨fn, _, assign, body, hy, roundIn_of_wpIn trivial (hassign W _ ⟨_, hbegin, wpIn_mono (hbody _ hi2) ?_⟩)⟩
  intro ex a3 W3 hp
  match ex, hp with
  | .normal, ⟨hk, hi3⟩ =>
    have hS3 := hS2.keeps hk
    exact ⟨_, _, hS3.round_end none, .inl ⟨rfl, hS3.kept hB (hI _ rest) hi3 .ready none, hS3.turned .ready none⟩⟩
  | .ret, ⟨hk, hx3⟩ =>
    have hS3 := hS2.keeps hk
    exact ⟨_, _, hS3.round_end (some .ret), .inr ⟨rfl, hS3.kept hB hIx hx3 .done (some .ret), hS3.turned .done (some .ret)⟩⟩
end

/-- the statement 'for x := range strings.SplitSeq(s, blank)' -/
theorem wpIn_split {n : Nat} {g : Operand} {ps : Array Tmp} {assign body : Code} {Q : Exit → Act → World → Prop} {a : Act} {w : World} (h1 : 2 ≤ n) {b1 b2 b3 : Nat}
    (hg : a.eval g = .func (.func 23) #[] #[.pointer (some ⟨b1, 0, none⟩), .pointer (some ⟨b2, 0, none⟩), .pointer (some ⟨b3, 0, none⟩)]) (hps : ps.size = 1) (s : Str) (hs : s.size ≤ 1048576)
    (I : List Str → Str → World → Prop) (Ix : World → Prop) (hI : ∀ pre rest, Turns w.heap.size (I pre rest)) (hIx : Turns w.heap.size Ix)
    (hB : ∀ pre rest W, I pre rest W → Boxes b1 b2 b3 rest W) (hset : ∀ pre rest rest' W, I pre rest W → I pre rest' (W.setCell ⟨b2, 0, none⟩ (.string rest')))
    (h0 : I [] s w) (a₁ : Str → Act)
    (hassign : ∀ (l : Nat) (x : Str) (W : World) (K : Act → World → Prop), K (a₁ x) W →
      assign.wpIn (Fence.wide.inRound l) (n - 1 - 1) Tryd.prog (Exit.then K (fun _ _ _ => False)) { tmps := (ps.zip #[.string x]).foldl (fun t (p, v) => t.setIfInBounds p v) a.tmps, defers := [] } W)
    (hbody : ∀ (l : Nat) (pre : List Str) (x : Str) (more : List Str) (rest : Str) (W : World), I pre rest W → parts s = pre ++ x :: more → body.wpIn (Fence.wide.inRound l) (n - 1 - 1) Tryd.prog (splitPost I Ix (pre ++ [x]) rest W) (a₁ x) W)
    (hdone : ∀ (D : Nat) (rest : Str) (W : World), w.heap.size ≤ D → I (parts s) rest W → W.heap[D]? = some (.deferred (some [])) → Q .normal { a with defers := { target := .collected D, args := #[] } :: a.defers } W)
    (hstop : ∀ (D : Nat) (W : World), w.heap.size ≤ D → Ix W → W.heap[D]? = some (.deferred (some [])) → Code.ret.wpIn Fence.wide n Tryd.prog Q { a with defers := { target := .collected D, args := #[] } :: a.defers } W) :
    (Code.rangeFunc g ps assign body).wpIn Fence.wide n Tryd.prog Q a w := by
  apply wpIn_rangeFunc
  intro fn _
  have hS := Stands.laid fn a.tmps ps assign body w
  have hi1 := (hI [] s).alloc (s := ()) (.loop (recOf fn a.tmps ps assign body w.heap.size .ready none)) ((hI [] s).alloc (s := ()) (.deferred (some [])) h0)
  have hrun := run_enterLoop_outer (P := Tryd.prog) (w := w) fn a.tmps ps assign body
  obtain ⟨W1, hW1⟩ : ∃ W1, (w.alloc (.deferred (some []))).alloc (.loop (recOf fn a.tmps ps assign body w.heap.size .ready none)) = W1 := ⟨_, rfl⟩
  rw [hW1] at hS hi1
  have hcall := seq_in (n - 1) (by omega) (w.heap.size + 1) b1 b2 b3 s hs (fun pre rest W => I pre rest W ∧ Stands fn a.tmps ps assign body w.heap.size .ready none W) (fun W => Ix W ∧ Stands fn a.tmps ps assign body w.heap.size .done (some .ret) W)
    (fun pre rest W h => hB pre rest W h.1) (fun pre rest rest' W h => ⟨hset pre rest rest' W h.1, h.2.keeps (KeepsOthers.setCell W _ _)⟩)
    (fun pre x more rest W h hp => split_round hps (Nat.le_refl _) hI hIx (hassign _ x) (fun W' hi => hbody _ pre x more rest W' hi hp) h.1 h.2) W1 ⟨hi1, hS⟩
  refine ⟨_, _, W1, { target := .fn (.func 23) #[.pointer (some ⟨b1, 0, none⟩), .pointer (some ⟨b2, 0, none⟩), .pointer (some ⟨b3, 0, none⟩)], args := #[.func (.yield (w.heap.size + 1)) #[] #[]] }, W1, 23, _, W1,
    hrun.trans (by rw [← hW1]; rfl), ?_, fun _ _ => trivial, ?_, fun _ => by omega, hcall.mono ?_⟩
  · simp only [resolve, hg]
    simp [go_sem]
  · simp [invoke, go_sem, enters_of Tryd.func23 (by kernel_rfl) rfl]
  · rintro e W2 ⟨⟨v, rfl⟩, hend⟩
    rcases hend with ⟨rest, hi, hS2⟩ | ⟨hx, hS2⟩
    · exact ⟨none, _, run_endLoop hS2.1 (by simp [recOf]), hdone _ rest _ (Nat.le_refl _) (hS2.kept (Nat.le_refl _) (hI _ rest) hi .exhausted none) (hS2.turned .exhausted none).2⟩
    · exact ⟨some .ret, _, run_endLoop hS2.1 (by simp [recOf]), hstop _ _ (Nat.le_refl _) (hS2.kept (Nat.le_refl _) hIx hx .exhausted (some .ret)) (hS2.turned .exhausted (some .ret)).2⟩
end Go.Proofs.YtlpagnbfjechhaaDoor
