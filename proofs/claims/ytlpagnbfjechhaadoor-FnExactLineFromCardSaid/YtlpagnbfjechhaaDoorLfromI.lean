/-
  Contract of the program's LineFrom.
-/
import Derived.Test.YtlpagnbfjechhaaDoorRng
import Derived.Test.YtlpagnbfjechhaaDoorLfromS
namespace Go.Proofs.YtlpagnbfjechhaaDoor
open Go.RowKit Go.Shelf Go.Sort
set_option linter.unusedSimpArgs false
set_option linter.unusedVariables false
attribute [local go_sem] Oper.semAt_some

theorem own_nc {W W' : World} {row : Option Nat} {base n size : Nat} {e : TypeId} {v : Value} {xs : List Value} (h : W.ownsRow base e size v n xs) (hg : W.grownBy W' row) (hr : ∀ r, row = some r → ∃ o : Obj, W.heap[r]? = some o ∧ o.isCells = false) : W'.ownsRow base e size v n xs := by
  refine h.kept hg ?_
  rcases h.2 with ⟨rfl, _⟩ | ⟨g, cap, cur, rfl, _, hgb, _⟩
  · exact .inl rfl
  · refine .inr fun e' => ?_
    obtain ⟨o, ho, hc⟩ := hr g (by simpa [Value.ownBlock] using e'.symm)
    rw [hgb] at ho; cases ho; cases hc
theorem box_nc {W W' : World} {row : Option Nat} {B : Nat} {t : TypeId} {v : Value} (h : Boxed W B t v) (hg : W.grownBy W' row) (hr : ∀ r, row = some r → ∃ o : Obj, W.heap[r]? = some o ∧ o.isCells = false) : Boxed W' B t v := by
  refine h.kept hg fun e => ?_
  obtain ⟨o, ho, hc⟩ := hr B e.symm
  rw [show W.heap[B]? = _ from h] at ho; cases ho; cases hc
theorem own_box {W : World} {base n size B : Nat} {e t : TypeId} {v u : Value} {xs : List Value} (h : W.ownsRow base e size v n xs) (hb : Boxed W B t u) (hte : t ≠ e) (u' : Value) : (W.setCell ⟨B, 0, none⟩ u').ownsRow base e size v n xs :=
  h.kept (grownBy_setCell' W B u') (.inr (hb.not_row hte h).symm)
theorem box_other {W : World} {B B' : Nat} {t : TypeId} {v : Value} (h : Boxed W B t v) (hne : B ≠ B') (u : Value) : Boxed (W.setCell ⟨B', 0, none⟩ u) B t v := h.kept (grownBy_setCell' W B' u) (fun e => hne (by cases e; rfl))

/-- between two rounds: the line gathered so far in its box; the results' boxes; the sequence's boxes -/
structure LineIn (w : World) (pre : List Str) (rest : Str) (W : World) : Prop where
  line : ∃ v ys, Boxed W (w.heap.size + 3) 22 v ∧ W.ownsRow w.heap.size 32 2 v pre.length (flat wrtC ys) ∧ OutsL W w.heap.size ys ∧ formsOf ys = pre.map lfF ∧ pre.all wfOk = true ∧ pre.length ≤ 20
  r0 : Boxed W w.heap.size 22 (.slice none 0 0)
  r1 : Boxed W (w.heap.size + 1) 4 (.bool false)
  bx : Boxes (w.heap.size + 5) (w.heap.size + 4) (w.heap.size + 6) rest W
  bel : Below w.heap.size w W
/-- a round has returned -/
structure LineOut (w : World) (s : Str) (W : World) : Prop where
  r0 : Boxed W w.heap.size 22 (.slice none 0 0)
  r1 : Boxed W (w.heap.size + 1) 4 (.bool false)
  bad : lfGood (parts s) = false
  bel : Below w.heap.size w W
theorem lineIn_own (w : World) (B : Nat) (hB : w.heap.size ≤ B) (pre : List Str) (rest : Str) : Turns B (LineIn w pre rest) := fun _ W W' row hs hg hr => by
  have hr2 : ∀ r, row = some r → ∃ o : Obj, W.heap[r]? = some o ∧ o.isCells = false := fun r e => (hr r e).2
  obtain ⟨v, ys, h1, h2, h3, h4, h5, h6⟩ := hs.line
  exact ⟨⟨v, ys, box_nc h1 hg hr2, own_nc h2 hg hr2, ⟨fun y hy => own_nc (h3.1 y hy) hg hr2, h3.2⟩, h4, h5, h6⟩, box_nc hs.r0 hg hr2, box_nc hs.r1 hg hr2,
    ⟨box_nc hs.bx.1 hg hr2, box_nc hs.bx.2.1 hg hr2, box_nc hs.bx.2.2 hg hr2⟩, hs.bel.grown hg hs.bel.size (fun k e => Nat.le_trans hB (hr k e).1)⟩
theorem lineOut_own (w : World) (s : Str) (B : Nat) (hB : w.heap.size ≤ B) : Turns B (LineOut w s) := fun _ W W' row hs hg hr => by
  have hr2 : ∀ r, row = some r → ∃ o : Obj, W.heap[r]? = some o ∧ o.isCells = false := fun r e => (hr r e).2
  exact ⟨box_nc hs.r0 hg hr2, box_nc hs.r1 hg hr2, hs.bad, hs.bel.grown hg hs.bel.size (fun k e => Nat.le_trans hB (hr k e).1)⟩
theorem lineIn_set {w : World} {pre : List Str} {rest : Str} {W : World} (h : LineIn w pre rest W) (rest' : Str) : LineIn w pre rest' (W.setCell ⟨w.heap.size + 4, 0, none⟩ (.string rest')) := by
  obtain ⟨v, ys, h1, h2, h3, h4, h5, h6⟩ := h.line
  have b := h.bx.2.1
  exact ⟨⟨v, ys, box_other h1 (by omega) _, own_box h2 b (by decide) _, ⟨fun y hy => own_box (h3.1 y hy) b (by decide) _, h3.2⟩, h4, h5, h6⟩, box_other h.r0 (by omega) _, box_other h.r1 (by omega) _,
    ⟨box_other h.bx.1 (by omega) _, b.set _, box_other h.bx.2.2 (by omega) _⟩, h.bel.setCell (p := ⟨w.heap.size + 4, 0, none⟩) (by simp) _⟩

theorem box_at (X : World) (t : TypeId) (v : Value) (B : Nat) (h : X.heap.size = B) : Boxed (X.alloc (.cells #[v] t)) B t v := by subst h; exact Boxed.new X t v
/-- the world where the loop begins -/
def loopW (s : Str) (w : World) : World := seqW s ((((w.alloc (.cells #[.slice none 0 0] 22)).alloc (.cells #[.bool false] 4)).alloc (.cells #[] 32)).alloc (.cells #[.slice (some ⟨w.heap.size + 1 + 1, 0, none⟩) 0 0] 22))
theorem loopW_size (s : Str) (w : World) : (loopW s w).heap.size = w.heap.size + 7 := by simp [loopW, seqW]
theorem lineIn_start (s : Str) (w : World) : LineIn w [] s (loopW s w) := by
  have hown : (((w.alloc (.cells #[.slice none 0 0] 22)).alloc (.cells #[.bool false] 4)).alloc (.cells #[] 32)).ownsRow w.heap.size 32 2 (.slice (some ⟨w.heap.size + 1 + 1, 0, none⟩) 0 0) 0 [] :=
    (own_madeW ((w.alloc (.cells #[.slice none 0 0] 22)).alloc (.cells #[.bool false] 4)) w.heap.size (w.heap.size + 1 + 1) (by simp) (by simp; omega)).row
  refine ⟨⟨_, [], ?_, ((((hown.alloc _).alloc _).alloc _).alloc _), ⟨fun y hy => by simp at hy, fun i j y z h => by simp at h⟩, rfl, rfl, by simp⟩, ?_, ?_, ⟨?_, ?_, ?_⟩, ?_⟩
  · exact (((box_at _ _ _ _ (by simp)).alloc _).alloc _).alloc _
  · exact ((((((box_at _ _ _ _ rfl).alloc _).alloc _).alloc _).alloc _).alloc _).alloc _
  · exact (((((box_at _ _ _ _ (by simp)).alloc _).alloc _).alloc _).alloc _).alloc _
  · exact (box_at _ _ _ _ (by simp)).alloc _
  · exact ((box_at _ _ _ _ (by simp)).alloc _).alloc _
  · exact box_at _ _ _ _ (by simp)
  · exact bel_alloc (bel_alloc (bel_alloc (bel_alloc (bel_alloc (bel_alloc (bel_alloc (Below.refl _ _) _) _) _) _) _) _) _

theorem box_bel {W W' : World} {B : Nat} {t : TypeId} {v : Value} (h : Boxed W B t v) (hb : Below W.heap.size W W') : Boxed W' B t v := (hb.block B h.lt).trans h
theorem keeps_bel {W W' : World} (hb : Below W.heap.size W W') : KeepsOthers W W' := ⟨hb.size, fun k o hk _ => (hb.block k (Array.getElem?_eq_some_iff.1 hk).1).trans hk⟩
theorem keeps_own {W W' : World} {base n size : Nat} {e : TypeId} {v : Value} {xs : List Value} (h : W.ownsRow base e size v n xs) (hg : W.grownBy W' v.ownBlock) : KeepsOthers W W' :=
  KeepsOthers.of_grownBy hg fun j o ej hj => by
    rcases h.2 with ⟨rfl, _⟩ | ⟨g, cap, cur, rfl, _, hgb, _⟩
    · simp [Value.ownBlock] at ej
    · obtain rfl : g = j := by simpa [Value.ownBlock] using ej
      rw [hgb] at hj; cases hj; rfl
theorem boxes_bel {W W' : World} {b1 b2 b3 : Nat} {rest : Str} (h : Boxes b1 b2 b3 rest W) (hb : Below W.heap.size W W') : Boxes b1 b2 b3 rest W' := ⟨box_bel h.1 hb, box_bel h.2.1 hb, box_bel h.2.2 hb⟩
/-- one element, laid in a new block of its own, appended: in a round -/
theorem append_oneI {F : Fence} {m : Nat} {P : Program} {ops : Array Oper} {rest : List Oper} {o : Oper} {a : Act} {Q : Exit → Act → World → Prop} (H : Nat) (w : World) (hH : w.heap.size = H) (hgd : o.guard = none) (s x : Operand) (t : TypeId)
    (ho : o.op = .call { callee := .builtin .append, args := #[s, x], argTypes := #[t, t] })
    (base : Nat) (e : TypeId) (z : Value) (size bytes : Nat) (ht : P.underlying t = some (.slice e)) (hi : (P.info? e).map (fun i => (i.zero, i.size, i.bytes)) = some (some z, size, bytes))
    (hzs : z.cells.size = size) (hsz : 0 < size) (hby : bytes ≤ 64)
    (v : Value) (n : Nat) (xs : List Value) (hs : a.eval s = v) (hown : w.ownsRow base e size v n xs)
    (news : Array Value) (hx : a.eval x = .slice (some ⟨H, 0, none⟩) 1 1) (hl : news.size = size) (h1 : ∀ u ∈ news, u.oneCell' = true)
    (hn : n ≤ 8388608) (hbase : base ≤ w.heap.size)
    (h : ∀ v' w', w'.ownsRow base e size v' (n + 1) (xs ++ news.toList) → w.grownBy w' v.ownBlock → wpListIn F m P ops Q rest (a.put o.dst v') w') :
    wpListIn F m P ops Q (o :: rest) a (w.alloc (.cells news e)) := by
  subst hH
  obtain ⟨i, hi, hz0, hz1, hz2⟩ := info_parts hi
  refine wpListIn_append_own _ hgd s x t ho base e i z size bytes ht hi hz0 hz1 hz2 hzs hsz v n xs hs (hown.alloc _) ⟨w.heap.size, 0, none⟩ 1 1 news.toList hx (by simpa using hl) ?_ (by simpa using h1)
    (by simp only [maxLen]; omega) ?_ (by simp; omega) ?_
  · intro j u hu
    rw [addr_add]
    have hb := heap_alloc_new w (.cells news e)
    rw [cell_of_row _ _ _ _ _ _ hb]
    simpa using hu
  · have : (n + 1) * bytes ≤ 8388609 * 64 := Nat.mul_le_mul (by omega) hby
    omega
  · intro v' w' h2 h3 _
    refine h v' w' h2 ⟨h3.os, h3.tape, h3.output, Nat.le_trans (by simp) h3.size, fun k hk hne => ?_⟩
    rw [h3.block k (by simp; omega) hne]
    exact Below.heap_alloc w _ k hk

set_option maxRecDepth 100000 in
set_option maxHeartbeats 2000000 in
theorem impl_LineFrom (s : Str) (w : World) (hs : s.size ≤ 1048576) : Calls Tryd.prog 5 #[.string s] w (GaveLine (lfOf s) (lfOk s) w) := by
  by_cases h0 : s.size = 0
  · have HJ := Lib.hid (lf_empty h0)
    have hl0 : s.data.toList = [] := List.eq_nil_of_length_eq_zero (by simpa using h0)
    have z2 : ByteArray.toList s = [] := by rw [ByteArray.toList_eq]; exact hl0
    have z1 : (ByteArray.toList s == []) = true := by rw [z2]; rfl
    clear h0 hl0
    go_enter Tryd.func5, Tryd.ntmps5
    go_wp2
    refine bodyPost_ret (v := .tuple #[.slice (some ⟨w.heap.size + 1 + 1, 0, none⟩) 0 0, .bool true]) (by simp [results, Tryd.results5, go_sem]) rfl ⟨_, [], by rw [HJ.out.1], ?_, by rw [HJ.out.2]; rfl, ?_⟩
    · exact (own_madeW ((w.alloc (.cells #[.slice (some ⟨w.heap.size + 1 + 1, 0, none⟩) 0 0] 22)).alloc (.cells #[.bool true] 4)) w.heap.size (w.heap.size + 1 + 1) (by simp) (by simp; omega)).below (bel_alloc (Below.refl _ _) _)
    · exact bel_alloc (bel_alloc (bel_alloc (bel_alloc (Below.refl _ _) _) _) _) _
  have hne : (ByteArray.toList s == []) = false := by
    rw [ByteArray.toList_eq, beq_eq_false_iff_ne]
    intro e
    have h5 : s.data.toList.length = s.size := rfl
    rw [e] at h5
    simp at h5
    omega
  have HYES := Lib.hid (fun h => lf_yes h0 h)
  have HNO := Lib.hid (fun h => lf_no h0 h)
  have HSZ := Lib.hid (fun x hx => Nat.le_trans (parts_size s.size s (Nat.le_refl _) x hx) hs)
  clear h0
  refine (callsIn_wide (n := 5)).1 ?_
  refine callsIn_of_wp_marks Tryd.func5 rfl trivial ?_ rfl
  simp only [Tryd.ntmps5, List.size_toArray, List.length_cons, List.length_nil, Nat.reduceAdd, Nat.reduceSub, Array.replicate_succ, Array.replicate_zero, List.push_toArray, List.append_toArray, List.nil_append, List.cons_append]
  gi_wp2_with (refine ⟨trivial, ?_⟩; gi_at_call 11; refine (callsIn_wide.2 (strings_SplitSeq s _)).mono ?_; rintro e w' ⟨rfl, rfl⟩)
  refine wpIn_split (by decide) (b1 := w.heap.size + 5) (b2 := w.heap.size + 4) (b3 := w.heap.size + 6) rfl rfl s hs (LineIn w) (LineOut w s) (lineIn_own w _ (by simp [seqW]; omega)) (lineOut_own w s _ (by simp [seqW]; omega)) (fun _ _ _ h => h.bx) (fun _ _ rest' _ h => lineIn_set h rest') (lineIn_start s w)
    (fun x => { tmps := #[.string s, undef, .pointer (some ⟨w.heap.size, 0, none⟩), .pointer (some ⟨w.heap.size + 1, 0, none⟩), .pointer (some ⟨w.heap.size + 3, 0, none⟩), .string x, undef, undef,
        .slice (some ⟨w.heap.size + 2, 0, none⟩) 0 0, .string s, .bool false, undef, .string s,
        .func (.func 23) #[] #[.pointer (some ⟨w.heap.size + 5, 0, none⟩), .pointer (some ⟨w.heap.size + 4, 0, none⟩), .pointer (some ⟨w.heap.size + 6, 0, none⟩)],
        .string x, undef, undef, undef, undef, undef, undef, undef, undef, undef, undef, undef, undef, undef, undef, undef, undef, undef], defers := [] }) ?assign ?body ?done ?stop
  case assign =>
    intro l x W K hK
    gi_wp2
    exact hK
  case body =>
    rintro l pre x more rest W hI hp
    obtain ⟨v, ys, h1, h2, h3, h4, h5, h6⟩ := hI.line
    have hxs := HSZ.out x (by rw [hp]; simp)
    obtain ⟨A, c, rfl, _, _⟩ := own_form h2
    gi_wp2_with fail
    refine ⟨trivial, ?_⟩
    refine (CallsIn.inRound l (callsIn_wide.2 (impl_WrittenFrom x _ hxs))).mono ?_
    rintro e w3 ⟨v2, rfl, own2, b3⟩
    obtain ⟨A2, c2, rfl, _, _, _⟩ := own2.form
    have b4 := bel_alloc b3 (.cells #[.slice A2 (wfOf x).length c2, .int .i64 (wfP x)] 32)
    have k1 := box_bel h1 b4
    have k2 := own_below h2 b4
    have r0 := box_bel hI.r0 b4
    have r1 := box_bel hI.r1 b4
    have bx := boxes_bel hI.bx b4
    have bl := bel_trans hI.bel b4
    have HSN := Lib.hid ((OutsL.snoc (w' := w3) (B := 0) (p := wfP x) h3 (h3.below b3) hI.bel.size own2).below (bel_alloc (Below.refl w3.heap.size w3) (.cells #[.slice A2 (wfOf x).length c2, .int .i64 (wfP x)] 32)))
    have KO := keeps_bel b4
    have hc := k1.cell
    have hf := k1.frozen
    have hc0 := r0.frozen
    have hc1 := r1.frozen
    have hd0 := r0.cell
    have hd1 := r1.cell
    have H4 := Lib.hid h4
    have H5 := Lib.hid h5
    have HP := Lib.hid hp
    clear h1 h2 h3 h4 h5 hp own2 b3
    cases hok : wfOk x
    · have bad := good_miss HP.out hok
      gi_wp2
      exact ⟨(KO.trans (KeepsOthers.setCell _ _ _)).trans (KeepsOthers.setCell _ _ _), box_other (r0.set _) (by omega) _, (box_other r1 (by omega) _).set _, bad, (bl.setCell (p := ⟨w.heap.size, 0, none⟩) (Nat.le_refl _) _).setCell (p := ⟨w.heap.size + 1, 0, none⟩) (by simp) _⟩
    · by_cases h20 : pre.length = 20
      · have bad : lfGood (parts s) = false := good_long (by rw [HP.out, List.length_append, h20]; simp)
        have h20i : ((pre.length : Int) == 20) = true := by rw [beq_iff_eq]; omega
        have h20j : (pre.length : Int) = 20 := by omega
        gi_wp2
        exact ⟨(KO.trans (KeepsOthers.setCell _ _ _)).trans (KeepsOthers.setCell _ _ _), box_other (r0.set _) (by omega) _, (box_other r1 (by omega) _).set _, bad, (bl.setCell (p := ⟨w.heap.size, 0, none⟩) (Nat.le_refl _) _).setCell (p := ⟨w.heap.size + 1, 0, none⟩) (by simp) _⟩
      · have h20i : ((pre.length : Int) == 20) = false := by rw [beq_eq_false_iff_ne]; omega
        have h20j : ¬ (pre.length : Int) = 20 := by omega
        have HL := Lib.hid (show pre.length + 1 ≤ 20 by omega)
        have hbl := bl.size
        gi_wp2_with (gi_at_builtin; refine append_oneI (w3.heap.size + 1) _ (by simp) (by rfl) (.tmp 27) (.tmp 29) 22 (by rfl) w.heap.size 32 _ 2 32 Tryd.underlying22 info_wrt rfl (by decide) (by decide) _ _ _ (by rfl) k2 #[.slice A2 (wfOf x).length c2, .int .i64 (wfP x)] (by rfl) rfl (by simp [Value.oneCell']) (by omega) hbl ?_; intro v' w5 hown' hgrow; obtain ⟨A', c', rfl, _, _⟩ := own_form hown'; have j1 := k1.kept hgrow (k1.not_row (by decide) k2); have hc5 := j1.cell; have hf5 := j1.frozen)
        have R1 : w5.ownsRow w.heap.size 32 2 (.slice A' (pre.length + 1) c') (pre.length + 1) (flat wrtC (ys ++ [(((A2, c2, wfOf x), wfP x) : Wrt)])) := by rw [flat_snoc]; exact hown'
        have R3 := HSN.out.grew k2 (by decide) hgrow
        have q0 := r0.kept hgrow (r0.not_row (by decide) k2)
        have q1 := r1.kept hgrow (r1.not_row (by decide) k2)
        have x1 := bx.1.kept hgrow (bx.1.not_row (by decide) k2)
        have x2 := bx.2.1.kept hgrow (bx.2.1.not_row (by decide) k2)
        have x3 := bx.2.2.kept hgrow (bx.2.2.not_row (by decide) k2)
        have bl5 := own_grown_below bl k2 hgrow hbl
        refine ⟨(KO.trans (keeps_own k2 hgrow)).trans (KeepsOthers.setCell _ _ _), ⟨⟨_, ys ++ [(((A2, c2, wfOf x), wfP x) : Wrt)], j1.set _, ?_, ⟨fun y hy => own_box (R3.1 y hy) j1 (by decide) _, R3.2⟩, ?_, ?_, ?_⟩, box_other q0 (by omega) _, box_other q1 (by omega) _, ⟨box_other x1 (by omega) _, box_other x2 (by omega) _, box_other x3 (by omega) _⟩, bl5.setCell (p := ⟨w.heap.size + 3, 0, none⟩) (by simp) _⟩⟩
        · rw [len_snoc]; exact own_box R1 j1 (by decide) _
        · rw [formsOf_snoc, H4.out, List.map_append]; rfl
        · rw [List.all_append, H5.out]; simp [hok]
        · rw [len_snoc]; exact HL.out
  case done =>
    rintro D rest W hD hI hK
    obtain ⟨v, ys, h1, h2, h3, h4, h5, h6⟩ := hI.line
    obtain ⟨A, c, rfl, _, _⟩ := own_form h2
    have HJ := Lib.hid (HYES.out (good_all h6 h5))
    have H4 := Lib.hid h4
    have hyl : Hid ((parts s).length = ys.length) := by rw [Hid, ← formsOf_len, h4, List.length_map]
    have hc : W.cell? ⟨w.heap.size + 1 + 1 + 1, 0, none⟩ = some (.slice A (parts s).length c) := h1.cell
    have hc0 := hI.r0.cell
    have hf0 := hI.r0.frozen
    have hc1 := hI.r1.cell
    have hf1 := hI.r1.frozen
    have hDs : w.heap.size + 7 ≤ D := by simp [seqW] at hD; omega
    clear h4 h5 h6 hD
    gi_wp2
    have e0 := hI.r0.set (.slice A (parts s).length c)
    have e1 := box_other hI.r1 (show w.heap.size + 1 ≠ w.heap.size by omega) (.slice A (parts s).length c)
    have g0 := box_other e0 (show w.heap.size ≠ w.heap.size + 1 by omega) (.bool true)
    have g1 := e1.set (.bool true)
    have hK' := (KeepsOthers.setCell (W.setCell ⟨w.heap.size, 0, none⟩ (.slice A (parts s).length c)) ⟨w.heap.size + 1, 0, none⟩ (.bool true)).same D _ ((KeepsOthers.setCell W ⟨w.heap.size, 0, none⟩ (.slice A (parts s).length c)).same D _ hK rfl) rfl
    have hg := grownBy_putObj' ((W.setCell ⟨w.heap.size, 0, none⟩ (.slice A (parts s).length c)).setCell ⟨w.heap.size + 1, 0, none⟩ (.bool true)) D (.deferred none)
    have hr : ∀ r, some D = some r → ∃ o : Obj, ((W.setCell ⟨w.heap.size, 0, none⟩ (.slice A (parts s).length c)).setCell ⟨w.heap.size + 1, 0, none⟩ (.bool true)).heap[r]? = some o ∧ o.isCells = false := fun r e => by cases e; exact ⟨_, hK', rfl⟩
    refine ⟨by simp, .inl ⟨_, _, rfl, run_takeDeferred hK', ?_⟩⟩
    have p0 := (box_nc g0 hg hr).cell
    have p1 := (box_nc g1 hg hr).cell
    refine ⟨.tuple #[.slice A (parts s).length c, .bool true], ?_, _, ys, by rw [HJ.out.1], ⟨?_, fun y hy => own_nc (own_box (own_box (h3.1 y hy) hI.r0 (by decide) _) e1 (by decide) _) hg hr, h3.2⟩, by rw [HJ.out.2]; exact H4.out, ?_⟩
    · simp [results, Tryd.f5, go_sem, p0, p1]
    · rw [← hyl.out]; exact own_nc (own_box (own_box h2 hI.r0 (by decide) _) e1 (by decide) _) hg hr
    · exact ((hI.bel.setCell (p := ⟨w.heap.size, 0, none⟩) (Nat.le_refl _) _).setCell (p := ⟨w.heap.size + 1, 0, none⟩) (by simp) _).trans (belowK_b (w := w) (Nat.le_refl _) _ D _ _ (by omega) hK' rfl rfl)
  case stop =>
    rintro D W hD hX hK
    have HJ := Lib.hid (HNO.out hX.bad)
    gi_wp2
    refine ⟨by simp, .inl ⟨_, _, rfl, run_takeDeferred hK, ?_⟩⟩
    have p0 := (box_nc hX.r0 (grownBy_putObj' _ D (.deferred none)) (fun r e => by cases e; exact ⟨_, hK, rfl⟩)).cell
    have p1 := (box_nc hX.r1 (grownBy_putObj' _ D (.deferred none)) (fun r e => by cases e; exact ⟨_, hK, rfl⟩)).cell
    refine ⟨.tuple #[.slice none 0 0, .bool false], ?_, _, [], by rw [HJ.out.1], OwnLine.nil, by rw [HJ.out.2]; rfl, hX.bel.trans (belowK_b (w := w) (Nat.le_refl _) W D _ _ (by simp [seqW] at hD; omega) hK rfl rfl)⟩
    simp [results, Tryd.f5, go_sem, p0, p1]
end Go.Proofs.YtlpagnbfjechhaaDoor
