/-
  The closure of least: a token of a place, with the weight tokenCost and with the weight 1.
-/
import Derived.Test.YtgddklafeaoleaaCostP
namespace Go.Proofs.Ytgddklafeaoleaa
open Go.RowKit Go.Sort
set_option linter.unusedSimpArgs false
set_option linter.unusedVariables false

/-- two blocks alone are written -/
structure Grew2 (w w' : World) (q r : Nat) : Prop where
  os : w'.os = w.os
  tape : w'.tape = w.tape
  output : w'.output = w.output
  size : w.heap.size ≤ w'.heap.size
  block : ∀ k, k < w.heap.size → k ≠ q → k ≠ r → w'.heap[k]? = w.heap[k]?
theorem Grew2.refl (w : World) (q r : Nat) : Grew2 w w q r := ⟨rfl, rfl, rfl, Nat.le_refl _, fun _ _ _ _ => rfl⟩
theorem Grew2.trans {w1 w2 w3 : World} {q r : Nat} (h1 : Grew2 w1 w2 q r) (h2 : Grew2 w2 w3 q r) : Grew2 w1 w3 q r :=
  ⟨h2.os.trans h1.os, h2.tape.trans h1.tape, h2.output.trans h1.output, Nat.le_trans h1.size h2.size, fun k hk a b => (h2.block k (Nat.lt_of_lt_of_le hk h1.size) a b).trans (h1.block k hk a b)⟩
theorem Grew2.of_below {w w' : World} {q r : Nat} (h : Below w.heap.size w w') : Grew2 w w' q r := ⟨h.os, h.tape, h.output, h.size, fun k hk _ _ => h.block k hk⟩
theorem Grew2.setq (w : World) (q r o : Nat) (u : Value) : Grew2 w (w.setCell ⟨q, o, none⟩ u) q r :=
  ⟨rfl, rfl, rfl, by simp [World.setCell], fun k hk a _ => Below.heap_setCell w ⟨q, o, none⟩ u k (fun e => a e)⟩
theorem Grew2.setr (w : World) (q r o : Nat) (u : Value) : Grew2 w (w.setCell ⟨r, o, none⟩ u) q r :=
  ⟨rfl, rfl, rfl, by simp [World.setCell], fun k hk _ b => Below.heap_setCell w ⟨r, o, none⟩ u k (fun e => b e)⟩
theorem Grew2.below {w0 w w' : World} {q r base : Nat} (hb : Below base w0 w) (h : Grew2 w w' q r) (hs : base ≤ w.heap.size) (hq : base ≤ q) (hr : base ≤ r) : Below base w0 w' :=
  ⟨h.os.trans hb.os, h.tape.trans hb.tape, h.output.trans hb.output, Nat.le_trans hb.size h.size, fun k hk => (h.block k (by omega) (by omega) (by omega)).trans (hb.block k hk)⟩
theorem own_keep2 {w w' : World} {q r base : Nat} {e : TypeId} {size n : Nat} {v : Value} {xs : List Value} (h : w.ownsRow base e size v n xs) (hg : Grew2 w w' q r) (hq : q < base) (hr : r < base) : w'.ownsRow base e size v n xs := by
  refine ⟨h.1, ?_⟩
  rcases h.2 with h2 | ⟨g, cap, cur, hv, hb, hh, rr⟩
  · exact .inl h2
  · exact .inr ⟨g, cap, cur, hv, hb, (hg.block g (Array.getElem?_eq_some_iff.1 hh).1 (by omega) (by omega)).trans hh, rr⟩
theorem Grew2.cell {w w' : World} {q r b o : Nat} (hg : Grew2 w w' q r) (hb : b < w.heap.size) (hq : b ≠ q) (hr : b ≠ r) : w'.cell? ⟨b, o, none⟩ = w.cell? ⟨b, o, none⟩ :=
  World.cell?_of_block (a := ⟨b, o, none⟩) (hg.block b hb hq hr)

/-- the tables of least and the variables that lead to them: p to the costs q, s to the tokens r, u to the weight -/
structure Costs (w : World) (base p q s r u n : Nat) (F : Value) (f : Nat → Int) (fs : List Tok) : Prop where
  des : Desk w base p q (n + 1) f
  fst : Firsts w base r n fs
  sptr : w.cell? ⟨s, 0, none⟩ = some (.slice (some ⟨r, 0, none⟩) n n)
  uptr : w.cell? ⟨u, 0, none⟩ = some F
  slt : s < w.heap.size
  ult : u < w.heap.size
  apart : p ≠ r ∧ s ≠ q ∧ s ≠ r ∧ u ≠ q ∧ u ≠ r ∧ q ≠ r
section
variable {w w' : World} {base p q s r u n : Nat} {F : Value} {f g : Nat → Int} {fs : List Tok}
theorem Costs.below (h : Costs w base p q s r u n F f fs) (hb : Below w.heap.size w w') : Costs w' base p q s r u n F f fs :=
  ⟨h.des.below hb, h.fst.below hb, (hb.cell (p := ⟨s, 0, none⟩) h.slt).trans h.sptr, (hb.cell (p := ⟨u, 0, none⟩) h.ult).trans h.uptr, Nat.lt_of_lt_of_le h.slt hb.size, Nat.lt_of_lt_of_le h.ult hb.size, h.apart⟩
theorem Costs.congr (h : Costs w base p q s r u n F f fs) (hf : ∀ i, i < n + 1 → f i = g i) : Costs w base p q s r u n F g fs := ⟨h.des.congr hf, h.fst, h.sptr, h.uptr, h.slt, h.ult, h.apart⟩
theorem set_other {w : World} {b c o o' : Nat} {x y : Value} (h : w.cell? ⟨b, o, none⟩ = some x) (hne : b ≠ c) : (w.setCell ⟨c, o', none⟩ y).cell? ⟨b, o, none⟩ = some x := by
  rw [World.cell?_setCell_other _ _ _ _ (by intro e; injection e with e; exact hne e.symm)]; exact h
theorem firsts_set1 {w : World} {b o : Nat} {y : Value} (h : Firsts w base r n fs) (hne : r ≠ b) : Firsts (w.setCell ⟨b, o, none⟩ y) base r n fs := by
  refine ⟨h.1, own_grew (vm := .slice (some ⟨b, 0, none⟩) 0 0) h.2 (grow_set w b o 0 0 y) fun k h1 h2 => ?_⟩
  simp [Value.ownBlock] at h1 h2
  omega
theorem tab_set1 {w : World} {b o m : Nat} {y : Value} (h : Tab w base q m f) (hne : q ≠ b) : Tab (w.setCell ⟨b, o, none⟩ y) base q m f := by
  refine own_grew (vm := .slice (some ⟨b, 0, none⟩) 0 0) h (grow_set w b o 0 0 y) fun k h1 h2 => ?_
  simp [Value.ownBlock] at h1 h2
  omega
theorem Costs.setr (h : Costs w base p q s r u n F f fs) (k : Nat) (t : Tok) :
    Costs (((w.setCell ⟨r, k * 3, none⟩ (.int .i64 t.1)).setCell ⟨r, k * 3 + 1, none⟩ (.int .i64 (t.2.1 : Int))).setCell ⟨r, k * 3 + 2, none⟩ (.int .i64 t.2.2)) base p q s r u n F f (fs.set k t) := by
  obtain ⟨⟨dt, dp, d3, d4, d5⟩, hf, hs, hu, h1, h2, a1, a2, a3, a4, a5, a6⟩ := h
  exact ⟨⟨tab_set1 (tab_set1 (tab_set1 dt a6) a6) a6, set_other (set_other (set_other dp a1) a1) a1, d3, by simpa [World.setCell] using d4, d5⟩, hf.set k t, set_other (set_other (set_other hs a3) a3) a3, set_other (set_other (set_other hu a5) a5) a5, by simpa [World.setCell] using h1, by simpa [World.setCell] using h2, a1, a2, a3, a4, a5, a6⟩
theorem Costs.setq (h : Costs w base p q s r u n F f fs) (k : Nat) (v : Int) : Costs (w.setCell ⟨q, k, none⟩ (.int .i64 v)) base p q s r u n F (updF f k v) fs := by
  obtain ⟨hd, hf, hs, hu, h1, h2, a1, a2, a3, a4, a5, a6⟩ := h
  exact ⟨hd.set k v, firsts_set1 hf (Ne.symm a6), set_other hs a2, set_other hu a4, by simpa [World.setCell] using h1, by simpa [World.setCell] using h2, a1, a2, a3, a4, a5, a6⟩
end
theorem impl_tokenCost (a b c : Int) (w : World) : Calls Try.prog 66 #[.agg #[.int .i64 a, .int .i64 b, .int .i64 c]] w fun e w' => e = .returned (.int .i64 c) ∧ Below w.heap.size w w' := by
  go_enter Try.func66, Try.ntmps66
  go_wp2_with fail
  go_ret
  exact ⟨rfl, bel_alloc (Below.refl _ _) _⟩
theorem impl_shortOne (a b c : Int) (w : World) : Calls Try.prog 72 #[.agg #[.int .i64 a, .int .i64 b, .int .i64 c]] w fun e w' => e = .returned (.int .i64 1) ∧ Below w.heap.size w w' := by
  go_enter Try.func72, Try.ntmps72
  go_wp2_with fail
  go_ret
  exact ⟨rfl, bel_alloc (Below.refl _ _) _⟩

set_option maxRecDepth 100000 in
set_option maxHeartbeats 2000000 in
theorem stepPut_cost (k wd n : Nat) (tb tc : Int) (base p q s r u : Nat) (f : Nat → Int) (fs : List Tok) (x : Tok) (w : World) (h : Costs w base p q s r u n (Value.func (Fn.func 66) #[] #[]) f fs) (hx : fs[k]? = some x) (hk : k < n) (hkw : k + wd ≤ n) (hn : n ≤ 20) (h0 : 0 ≤ f k ∧ f k ≤ 1000) (h1 : 0 ≤ tc ∧ tc ≤ 1000) (h2 : 0 ≤ f (k + wd) ∧ f (k + wd) ≤ 1000) (hor : x.2.1 = 0 ∨ (1 ≤ x.2.1 ∧ tc + f (k + wd) < f k)) :
    Calls Try.prog 86 #[.int .i64 (k : Int), .agg #[.int .i64 tb, .int .i64 (wd : Int), .int .i64 tc], .pointer (some ⟨u, 0, none⟩), .pointer (some ⟨p, 0, none⟩), .pointer (some ⟨s, 0, none⟩)] w fun e w' => e = .returned (.tuple #[]) ∧ Costs w' base p q s r u n (Value.func (Fn.func 66) #[] #[]) (updF f k (tc + f (k + wd))) (fs.set k (tb, wd, tc)) ∧ Grew2 w w' q r := by
  have bA := bel_alloc (Below.refl w.heap.size w) (.cells #[.int .i64 tb, .int .i64 (wd : Int), .int .i64 tc] 70)
  have D1 := h.below bA
  have G1 : Grew2 w _ q r := Grew2.of_below bA
  have t0 : (w.alloc (.cells #[.int .i64 tb, .int .i64 (wd : Int), .int .i64 tc] 70)).cell? ⟨w.heap.size, 0, none⟩ = some (.int .i64 tb) := box_cell _ _ _ 0
  have t1 : (w.alloc (.cells #[.int .i64 tb, .int .i64 (wd : Int), .int .i64 tc] 70)).cell? ⟨w.heap.size, 1, none⟩ = some (.int .i64 (wd : Int)) := box_cell _ _ _ 1
  have t2 : (w.alloc (.cells #[.int .i64 tb, .int .i64 (wd : Int), .int .i64 tc] 70)).cell? ⟨w.heap.size, 2, none⟩ = some (.int .i64 tc) := box_cell _ _ _ 2
  have hbox : w.heap.size < (w.alloc (.cells #[.int .i64 tb, .int .i64 (wd : Int), .int .i64 tc] 70)).heap.size := by simp
  have hqw := h.des.tab.lt.2
  have hrw := h.fst.lt.2
  clear h
  go_enter Try.func86, Try.ntmps86
  go_wp2_with fail
  generalize hX : w.alloc (.cells #[.int .i64 tb, .int .i64 (wd : Int), .int .i64 tc] 70) = wx at *
  have HX := Lib.hid hX
  clear hX
  generalize w.heap.size = H at *
  have q0 := cell_regrown t0
  have q1 := cell_regrown t1
  have q2 := cell_regrown t2
  have q3 := cell_regrown D1.uptr
  have q4 := cell_regrown D1.des.ptr
  have q5 := cell_regrown (D1.des.tab.cell (i := k + wd) (by omega))
  have e1 : IntKind.i64.wrap ((k : Int) + (wd : Int)) = (k : Int) + (wd : Int) := IntWalk.i64_in _ (by omega)
  have e2 : ((k : Int) + (wd : Int)).toNat = k + wd := by omega
  have e3 : (0 : Int) ≤ (k : Int) + (wd : Int) := by omega
  have e4 : (k : Int) + (wd : Int) < (n : Int) + 1 := by omega
  have e5 : IntKind.i64.wrap (tc + f (k + wd)) = tc + f (k + wd) := IntWalk.i64_in _ (by omega)
  (refine wp_region_quiet_below (by kernel_rfl) (by kernel_rfl) ?_; (repeat (go_big_quiet_step (((go_at_call 66; exact Calls.regrown_of (impl_tokenCost tb (wd : Int) tc _)))))); refine wpQuiet_nil ?_; intro _ hw'; obtain ⟨⟨dq, osq⟩, hw''⟩ := hw'; subst hw'')
  have hq := below_regrown wx dq osq
  have c0 := q0 dq osq
  have c1 := q1 dq osq
  have c2 := q2 dq osq
  generalize grow (redrawn wx dq) osq = wq at *
  have D2 := D1.below hq
  have G2 := G1.trans (Grew2.of_below hq)
  clear q0 q1 q2 q3 q4 q5 t0 t1 t2 D1 G1 bA e5
  generalize hv : tc + f (k + wd) = v at *
  obtain ⟨_, x1, _⟩ := D2.fst.cell hx
  have y0 := D2.sptr
  have y1 := D2.des.ptr
  have y2 := D2.des.tab.cell (i := k) (by omega)
  have e6 : (k : Int) < (n : Int) := by omega
  have e7 : (k : Int) < (n : Int) + 1 := by omega
  have g0 := D2.fst.free (k * 3)
  have g1 := D2.fst.free (k * 3 + 1)
  have g2 := D2.fst.free (k * 3 + 2)
  have g3 := D2.des.tab.free k
  have hkl : k < fs.length := by rw [D2.fst.1]; exact hk
  obtain ⟨z0, z1, z2⟩ := D2.fst.cell hx
  have D3 := Lib.hid (((D2.setr k (tb, wd, tc)).setq k v).below (Below.refl _ _).drew)
  have G3 := Lib.hid (((((G2.trans (Grew2.setr _ q r (k * 3) (.int .i64 tb))).trans (Grew2.setr _ q r (k * 3 + 1) (.int .i64 (wd : Int)))).trans (Grew2.setr _ q r (k * 3 + 2) (.int .i64 tc))).trans (Grew2.setq _ q r k (.int .i64 v))).trans (Grew2.of_below (Below.refl _ _).drew))
  have hap := D2.apart
  obtain ⟨ap1, ap2, ap3, ap4, ap5, ap6⟩ := hap
  have ap7 : r ≠ q := Ne.symm ap6
  have hHq : H ≠ q := by omega
  have hHr : H ≠ r := by omega
  clear x1 D2 G2 hx
  obtain ⟨xb, xw, xc⟩ := x
  simp only at z0 z1 z2 hor
  rcases hor with rfl | ⟨hx1, hlt⟩
  · go_wp2_with fail
    go_region
    all_goals
      go_wp2_with fail
      go_end0
      exact ⟨rfl, (by rw [hv]; exact D3.out), G3.out⟩
  · have hxb : ((xw : Int) == 0) = false := beq_eq_false_iff_ne.2 (by omega)
    have hd : decide (v < f k) = true := decide_eq_true hlt
    generalize f k = fk at *
    go_wp2_with fail
    go_region
    all_goals
      go_wp2_with fail
      go_end0
      exact ⟨rfl, (by rw [hv]; exact D3.out), G3.out⟩
set_option maxRecDepth 100000 in
set_option maxHeartbeats 2000000 in
theorem stepStay_cost (k wd n : Nat) (tb tc : Int) (base p q s r u : Nat) (f : Nat → Int) (fs : List Tok) (x : Tok) (w : World) (h : Costs w base p q s r u n (Value.func (Fn.func 66) #[] #[]) f fs) (hx : fs[k]? = some x) (hk : k < n) (hkw : k + wd ≤ n) (hn : n ≤ 20) (h0 : 0 ≤ f k ∧ f k ≤ 1000) (h1 : 0 ≤ tc ∧ tc ≤ 1000) (h2 : 0 ≤ f (k + wd) ∧ f (k + wd) ≤ 1000) (hx1 : 1 ≤ x.2.1) (hlt : ¬ tc + f (k + wd) < f k) :
    Calls Try.prog 86 #[.int .i64 (k : Int), .agg #[.int .i64 tb, .int .i64 (wd : Int), .int .i64 tc], .pointer (some ⟨u, 0, none⟩), .pointer (some ⟨p, 0, none⟩), .pointer (some ⟨s, 0, none⟩)] w fun e w' => e = .returned (.tuple #[]) ∧ Costs w' base p q s r u n (Value.func (Fn.func 66) #[] #[]) f fs ∧ Grew2 w w' q r := by
  have bA := bel_alloc (Below.refl w.heap.size w) (.cells #[.int .i64 tb, .int .i64 (wd : Int), .int .i64 tc] 70)
  have D1 := h.below bA
  have G1 : Grew2 w _ q r := Grew2.of_below bA
  have t0 : (w.alloc (.cells #[.int .i64 tb, .int .i64 (wd : Int), .int .i64 tc] 70)).cell? ⟨w.heap.size, 0, none⟩ = some (.int .i64 tb) := box_cell _ _ _ 0
  have t1 : (w.alloc (.cells #[.int .i64 tb, .int .i64 (wd : Int), .int .i64 tc] 70)).cell? ⟨w.heap.size, 1, none⟩ = some (.int .i64 (wd : Int)) := box_cell _ _ _ 1
  have t2 : (w.alloc (.cells #[.int .i64 tb, .int .i64 (wd : Int), .int .i64 tc] 70)).cell? ⟨w.heap.size, 2, none⟩ = some (.int .i64 tc) := box_cell _ _ _ 2
  clear h
  go_enter Try.func86, Try.ntmps86
  go_wp2_with fail
  generalize hX : w.alloc (.cells #[.int .i64 tb, .int .i64 (wd : Int), .int .i64 tc] 70) = wx at *
  have HX := Lib.hid hX
  clear hX
  generalize w.heap.size = H at *
  have q0 := cell_regrown t0
  have q1 := cell_regrown t1
  have q2 := cell_regrown t2
  have q3 := cell_regrown D1.uptr
  have q4 := cell_regrown D1.des.ptr
  have q5 := cell_regrown (D1.des.tab.cell (i := k + wd) (by omega))
  have e1 : IntKind.i64.wrap ((k : Int) + (wd : Int)) = (k : Int) + (wd : Int) := IntWalk.i64_in _ (by omega)
  have e2 : ((k : Int) + (wd : Int)).toNat = k + wd := by omega
  have e3 : (0 : Int) ≤ (k : Int) + (wd : Int) := by omega
  have e4 : (k : Int) + (wd : Int) < (n : Int) + 1 := by omega
  have e5 : IntKind.i64.wrap (tc + f (k + wd)) = tc + f (k + wd) := IntWalk.i64_in _ (by omega)
  (refine wp_region_quiet_below (by kernel_rfl) (by kernel_rfl) ?_; (repeat (go_big_quiet_step (((go_at_call 66; exact Calls.regrown_of (impl_tokenCost tb (wd : Int) tc _)))))); refine wpQuiet_nil ?_; intro _ hw'; obtain ⟨⟨dq, osq⟩, hw''⟩ := hw'; subst hw'')
  have hq := below_regrown wx dq osq
  generalize grow (redrawn wx dq) osq = wq at *
  have D2 := D1.below hq
  have G2 := G1.trans (Grew2.of_below hq)
  clear q0 q1 q2 q3 q4 q5 t0 t1 t2 D1 G1 bA e5
  generalize hv : tc + f (k + wd) = v at *
  have y0 := D2.sptr
  have y1 := D2.des.ptr
  have y2 := D2.des.tab.cell (i := k) (by omega)
  have e6 : (k : Int) < (n : Int) := by omega
  have e7 : (k : Int) < (n : Int) + 1 := by omega
  obtain ⟨z0, z1, z2⟩ := D2.fst.cell hx
  have D3 := Lib.hid D2
  have G3 := Lib.hid G2
  clear D2 G2 hx
  obtain ⟨xb, xw, xc⟩ := x
  simp only at z0 z1 z2 hx1
  have hxb : ((xw : Int) == 0) = false := beq_eq_false_iff_ne.2 (by omega)
  have hd : decide (v < f k) = false := decide_eq_false (by omega)
  generalize f k = fk at *
  go_wp2_with fail
  go_end0
  exact ⟨rfl, D3.out, G3.out⟩

set_option maxRecDepth 100000 in
set_option maxHeartbeats 2000000 in
theorem stepPut_one (k wd n : Nat) (tb tc : Int) (base p q s r u : Nat) (f : Nat → Int) (fs : List Tok) (x : Tok) (w : World) (h : Costs w base p q s r u n (Value.func (Fn.func 72) #[] #[]) f fs) (hx : fs[k]? = some x) (hk : k < n) (hkw : k + wd ≤ n) (hn : n ≤ 20) (h0 : 0 ≤ f k ∧ f k ≤ 1000) (h1 : 0 ≤ (1 : Int) ∧ (1 : Int) ≤ 1000) (h2 : 0 ≤ f (k + wd) ∧ f (k + wd) ≤ 1000) (hor : x.2.1 = 0 ∨ (1 ≤ x.2.1 ∧ (1 : Int) + f (k + wd) < f k)) :
    Calls Try.prog 86 #[.int .i64 (k : Int), .agg #[.int .i64 tb, .int .i64 (wd : Int), .int .i64 tc], .pointer (some ⟨u, 0, none⟩), .pointer (some ⟨p, 0, none⟩), .pointer (some ⟨s, 0, none⟩)] w fun e w' => e = .returned (.tuple #[]) ∧ Costs w' base p q s r u n (Value.func (Fn.func 72) #[] #[]) (updF f k ((1 : Int) + f (k + wd))) (fs.set k (tb, wd, tc)) ∧ Grew2 w w' q r := by
  have bA := bel_alloc (Below.refl w.heap.size w) (.cells #[.int .i64 tb, .int .i64 (wd : Int), .int .i64 tc] 70)
  have D1 := h.below bA
  have G1 : Grew2 w _ q r := Grew2.of_below bA
  have t0 : (w.alloc (.cells #[.int .i64 tb, .int .i64 (wd : Int), .int .i64 tc] 70)).cell? ⟨w.heap.size, 0, none⟩ = some (.int .i64 tb) := box_cell _ _ _ 0
  have t1 : (w.alloc (.cells #[.int .i64 tb, .int .i64 (wd : Int), .int .i64 tc] 70)).cell? ⟨w.heap.size, 1, none⟩ = some (.int .i64 (wd : Int)) := box_cell _ _ _ 1
  have t2 : (w.alloc (.cells #[.int .i64 tb, .int .i64 (wd : Int), .int .i64 tc] 70)).cell? ⟨w.heap.size, 2, none⟩ = some (.int .i64 tc) := box_cell _ _ _ 2
  have hbox : w.heap.size < (w.alloc (.cells #[.int .i64 tb, .int .i64 (wd : Int), .int .i64 tc] 70)).heap.size := by simp
  have hqw := h.des.tab.lt.2
  have hrw := h.fst.lt.2
  clear h
  go_enter Try.func86, Try.ntmps86
  go_wp2_with fail
  generalize hX : w.alloc (.cells #[.int .i64 tb, .int .i64 (wd : Int), .int .i64 tc] 70) = wx at *
  have HX := Lib.hid hX
  clear hX
  generalize w.heap.size = H at *
  have q0 := cell_regrown t0
  have q1 := cell_regrown t1
  have q2 := cell_regrown t2
  have q3 := cell_regrown D1.uptr
  have q4 := cell_regrown D1.des.ptr
  have q5 := cell_regrown (D1.des.tab.cell (i := k + wd) (by omega))
  have e1 : IntKind.i64.wrap ((k : Int) + (wd : Int)) = (k : Int) + (wd : Int) := IntWalk.i64_in _ (by omega)
  have e2 : ((k : Int) + (wd : Int)).toNat = k + wd := by omega
  have e3 : (0 : Int) ≤ (k : Int) + (wd : Int) := by omega
  have e4 : (k : Int) + (wd : Int) < (n : Int) + 1 := by omega
  have e5 : IntKind.i64.wrap ((1 : Int) + f (k + wd)) = (1 : Int) + f (k + wd) := IntWalk.i64_in _ (by omega)
  (refine wp_region_quiet_below (by kernel_rfl) (by kernel_rfl) ?_; (repeat (go_big_quiet_step (((go_at_call 72; exact Calls.regrown_of (impl_shortOne tb (wd : Int) tc _)))))); refine wpQuiet_nil ?_; intro _ hw'; obtain ⟨⟨dq, osq⟩, hw''⟩ := hw'; subst hw'')
  have hq := below_regrown wx dq osq
  have c0 := q0 dq osq
  have c1 := q1 dq osq
  have c2 := q2 dq osq
  generalize grow (redrawn wx dq) osq = wq at *
  have D2 := D1.below hq
  have G2 := G1.trans (Grew2.of_below hq)
  clear q0 q1 q2 q3 q4 q5 t0 t1 t2 D1 G1 bA e5
  generalize hv : (1 : Int) + f (k + wd) = v at *
  obtain ⟨_, x1, _⟩ := D2.fst.cell hx
  have y0 := D2.sptr
  have y1 := D2.des.ptr
  have y2 := D2.des.tab.cell (i := k) (by omega)
  have e6 : (k : Int) < (n : Int) := by omega
  have e7 : (k : Int) < (n : Int) + 1 := by omega
  have g0 := D2.fst.free (k * 3)
  have g1 := D2.fst.free (k * 3 + 1)
  have g2 := D2.fst.free (k * 3 + 2)
  have g3 := D2.des.tab.free k
  have hkl : k < fs.length := by rw [D2.fst.1]; exact hk
  obtain ⟨z0, z1, z2⟩ := D2.fst.cell hx
  have D3 := Lib.hid (((D2.setr k (tb, wd, tc)).setq k v).below (Below.refl _ _).drew)
  have G3 := Lib.hid (((((G2.trans (Grew2.setr _ q r (k * 3) (.int .i64 tb))).trans (Grew2.setr _ q r (k * 3 + 1) (.int .i64 (wd : Int)))).trans (Grew2.setr _ q r (k * 3 + 2) (.int .i64 tc))).trans (Grew2.setq _ q r k (.int .i64 v))).trans (Grew2.of_below (Below.refl _ _).drew))
  have hap := D2.apart
  obtain ⟨ap1, ap2, ap3, ap4, ap5, ap6⟩ := hap
  have ap7 : r ≠ q := Ne.symm ap6
  have hHq : H ≠ q := by omega
  have hHr : H ≠ r := by omega
  clear x1 D2 G2 hx
  obtain ⟨xb, xw, xc⟩ := x
  simp only at z0 z1 z2 hor
  rcases hor with rfl | ⟨hx1, hlt⟩
  · go_wp2_with fail
    go_region
    all_goals
      go_wp2_with fail
      go_end0
      exact ⟨rfl, (by rw [hv]; exact D3.out), G3.out⟩
  · have hxb : ((xw : Int) == 0) = false := beq_eq_false_iff_ne.2 (by omega)
    have hd : decide (v < f k) = true := decide_eq_true hlt
    generalize f k = fk at *
    go_wp2_with fail
    go_region
    all_goals
      go_wp2_with fail
      go_end0
      exact ⟨rfl, (by rw [hv]; exact D3.out), G3.out⟩
set_option maxRecDepth 100000 in
set_option maxHeartbeats 2000000 in
theorem stepStay_one (k wd n : Nat) (tb tc : Int) (base p q s r u : Nat) (f : Nat → Int) (fs : List Tok) (x : Tok) (w : World) (h : Costs w base p q s r u n (Value.func (Fn.func 72) #[] #[]) f fs) (hx : fs[k]? = some x) (hk : k < n) (hkw : k + wd ≤ n) (hn : n ≤ 20) (h0 : 0 ≤ f k ∧ f k ≤ 1000) (h1 : 0 ≤ (1 : Int) ∧ (1 : Int) ≤ 1000) (h2 : 0 ≤ f (k + wd) ∧ f (k + wd) ≤ 1000) (hx1 : 1 ≤ x.2.1) (hlt : ¬ (1 : Int) + f (k + wd) < f k) :
    Calls Try.prog 86 #[.int .i64 (k : Int), .agg #[.int .i64 tb, .int .i64 (wd : Int), .int .i64 tc], .pointer (some ⟨u, 0, none⟩), .pointer (some ⟨p, 0, none⟩), .pointer (some ⟨s, 0, none⟩)] w fun e w' => e = .returned (.tuple #[]) ∧ Costs w' base p q s r u n (Value.func (Fn.func 72) #[] #[]) f fs ∧ Grew2 w w' q r := by
  have bA := bel_alloc (Below.refl w.heap.size w) (.cells #[.int .i64 tb, .int .i64 (wd : Int), .int .i64 tc] 70)
  have D1 := h.below bA
  have G1 : Grew2 w _ q r := Grew2.of_below bA
  have t0 : (w.alloc (.cells #[.int .i64 tb, .int .i64 (wd : Int), .int .i64 tc] 70)).cell? ⟨w.heap.size, 0, none⟩ = some (.int .i64 tb) := box_cell _ _ _ 0
  have t1 : (w.alloc (.cells #[.int .i64 tb, .int .i64 (wd : Int), .int .i64 tc] 70)).cell? ⟨w.heap.size, 1, none⟩ = some (.int .i64 (wd : Int)) := box_cell _ _ _ 1
  have t2 : (w.alloc (.cells #[.int .i64 tb, .int .i64 (wd : Int), .int .i64 tc] 70)).cell? ⟨w.heap.size, 2, none⟩ = some (.int .i64 tc) := box_cell _ _ _ 2
  clear h
  go_enter Try.func86, Try.ntmps86
  go_wp2_with fail
  generalize hX : w.alloc (.cells #[.int .i64 tb, .int .i64 (wd : Int), .int .i64 tc] 70) = wx at *
  have HX := Lib.hid hX
  clear hX
  generalize w.heap.size = H at *
  have q0 := cell_regrown t0
  have q1 := cell_regrown t1
  have q2 := cell_regrown t2
  have q3 := cell_regrown D1.uptr
  have q4 := cell_regrown D1.des.ptr
  have q5 := cell_regrown (D1.des.tab.cell (i := k + wd) (by omega))
  have e1 : IntKind.i64.wrap ((k : Int) + (wd : Int)) = (k : Int) + (wd : Int) := IntWalk.i64_in _ (by omega)
  have e2 : ((k : Int) + (wd : Int)).toNat = k + wd := by omega
  have e3 : (0 : Int) ≤ (k : Int) + (wd : Int) := by omega
  have e4 : (k : Int) + (wd : Int) < (n : Int) + 1 := by omega
  have e5 : IntKind.i64.wrap ((1 : Int) + f (k + wd)) = (1 : Int) + f (k + wd) := IntWalk.i64_in _ (by omega)
  (refine wp_region_quiet_below (by kernel_rfl) (by kernel_rfl) ?_; (repeat (go_big_quiet_step (((go_at_call 72; exact Calls.regrown_of (impl_shortOne tb (wd : Int) tc _)))))); refine wpQuiet_nil ?_; intro _ hw'; obtain ⟨⟨dq, osq⟩, hw''⟩ := hw'; subst hw'')
  have hq := below_regrown wx dq osq
  generalize grow (redrawn wx dq) osq = wq at *
  have D2 := D1.below hq
  have G2 := G1.trans (Grew2.of_below hq)
  clear q0 q1 q2 q3 q4 q5 t0 t1 t2 D1 G1 bA e5
  generalize hv : (1 : Int) + f (k + wd) = v at *
  have y0 := D2.sptr
  have y1 := D2.des.ptr
  have y2 := D2.des.tab.cell (i := k) (by omega)
  have e6 : (k : Int) < (n : Int) := by omega
  have e7 : (k : Int) < (n : Int) + 1 := by omega
  obtain ⟨z0, z1, z2⟩ := D2.fst.cell hx
  have D3 := Lib.hid D2
  have G3 := Lib.hid G2
  clear D2 G2 hx
  obtain ⟨xb, xw, xc⟩ := x
  simp only at z0 z1 z2 hx1
  have hxb : ((xw : Int) == 0) = false := beq_eq_false_iff_ne.2 (by omega)
  have hd : decide (v < f k) = false := decide_eq_false (by omega)
  generalize f k = fk at *
  go_wp2_with fail
  go_end0
  exact ⟨rfl, D3.out, G3.out⟩
end Go.Proofs.Ytgddklafeaoleaa
