/-
  Lists of written forms: the laws' helpers; LineValid (both texts).
-/
import Derived.Test.YtlpagnbfjechhaaDoorLine
namespace Go.Proofs.YtlpagnbfjechhaaDoor
open Go.RowKit Go.Sort
set_option linter.unusedSimpArgs false
set_option linter.unusedVariables false

def formsOf (ys : List Wrt) : List (List Stk × Int) := ys.map fun y => (y.1.2.2, y.2)
theorem formsOf_len (ys : List Wrt) : (formsOf ys).length = ys.length := by simp [formsOf]
theorem formsOf_at {ys : List Wrt} {k : Nat} {y : Wrt} (h : ys[k]? = some y) : (formsOf ys)[k]? = some (y.1.2.2, y.2) := by simp [formsOf, h]
theorem formsOf_snoc (ys : List Wrt) (y : Wrt) : formsOf (ys ++ [y]) = formsOf ys ++ [(y.1.2.2, y.2)] := by simp [formsOf]
def fAt (fs : List (List Stk × Int)) (k : Nat) : Bool := wrtOk (fs.getD k ([], 0)).1 (fs.getD k ([], 0)).2
def lineOk (fs : List (List Stk × Int)) : Bool := decide (fs.length ≤ 20) && allTo (fAt fs) fs.length
theorem fAt_eq {ys : List Wrt} {k : Nat} {y : Wrt} (h : ys[k]? = some y) : fAt (formsOf ys) k = wrtOk y.1.2.2 y.2 := by simp [fAt, List.getD, formsOf_at h]
/-- the outlines of a list of written forms, as they lie -/
def WrtsAt (w : World) (xs : List Wrt) : Prop := ∀ x ∈ xs, Seg w 0 w.heap.size x.1.1 (flat stkC x.1.2.2) ∧ x.1.2.2.length ≤ maxLen
theorem WrtsAt.below {w w' : World} {xs : List Wrt} (h : WrtsAt w xs) (hb : Below w.heap.size w w') : WrtsAt w' xs := fun x hx => ⟨((h x hx).1.below hb).top, (h x hx).2⟩
theorem Seg.wrt {w : World} {lo hi : Nat} {A : Option Addr} {xs : List Wrt} {k : Nat} {s : Wrt} (h : Seg w lo hi A (flat wrtC xs)) (hk : xs[k]? = some s) :
    ∃ g o, A = some ⟨g, o, none⟩ ∧ g < w.heap.size ∧ lo ≤ g ∧ g < hi ∧ w.cell? ⟨g, o + k * 2, none⟩ = some (rowV s.1) ∧ w.cell? ⟨g, o + k * 2 + 1, none⟩ = some (.int .i64 s.2) := by
  have h0 := flat_get wrtC_len hk (j := 0) (by decide)
  have h1 := flat_get wrtC_len hk (j := 1) (by decide)
  rcases h with h | ⟨g, o, rfl, a, b, c, d⟩
  · rw [h] at h0; simp [wrtC] at h0
  · exact ⟨g, o, rfl, c, a, b, by simpa [wrtC] using d _ _ h0, by simpa [wrtC, Nat.add_assoc] using d _ _ h1⟩
theorem row_wrts {w : World} {r : Row Wrt} (h : RowOk w wrtC (WrtOk w) r) : ∃ A c xs, rowV r = .slice A (xs : List Wrt).length c ∧ Seg w 0 w.heap.size A (flat wrtC xs) ∧ WrtsAt w xs ∧ xs.length ≤ c ∧ c ≤ maxLen := by
  obtain ⟨A, c, xs⟩ := r
  exact ⟨A, c, xs, rfl, h.1, fun x hx => ⟨(h.2.1 x hx).1.1, Nat.le_trans (h.2.1 x hx).1.2.2.1 (h.2.1 x hx).1.2.2.2⟩, h.2.2.1, h.2.2.2⟩
/-- one element more behind those that stand in a row of the call's own -/
theorem own_putS {α : Type} {cells : α → List Value} {size : Nat} (hc : ∀ a, (cells a).length = size) {w : World} {base : Nat} {e : TypeId} {g n cap k : Nat} {ys : List α} {z : List Value} {x : α}
    (h : w.ownsRow base e size (.slice (some ⟨g, 0, none⟩) n cap) n (flat cells ys ++ z)) (hk : ys.length = k) (hz : size ≤ z.length) :
    (setAll w g (k * size) (cells x)).ownsRow base e size (.slice (some ⟨g, 0, none⟩) n cap) n (flat cells (ys ++ [x]) ++ z.drop size) := by
  have hlen : (flat cells ys).length = k * size := by rw [flat_length hc, hk]
  have h2 := own_setAll (cells x) w (k * size) _ h (by simp [hlen, hc]; omega)
  have e1 : (flat cells ys ++ z).take (k * size) = flat cells ys := by rw [← hlen, List.take_left]
  have e2 : (flat cells ys ++ z).drop (k * size + (cells x).length) = z.drop size := by
    rw [List.drop_append, List.drop_of_length_le (by omega), hc, hlen, List.nil_append, Nat.add_sub_cancel_left]
  rw [e1, e2] at h2
  rwa [flat_snoc]
theorem own_roomS {α : Type} {cells : α → List Value} {size : Nat} (hc : ∀ a, (cells a).length = size) {w : World} {base : Nat} {e : TypeId} {g n cap k : Nat} {ys : List α} {z : List Value}
    (h : w.ownsRow base e size (.slice (some ⟨g, 0, none⟩) n cap) n (flat cells ys ++ z)) (hk : ys.length = k) (hz : size ≤ z.length) (j : Nat) (hj : j < size) :
    (∃ u, w.cell? ⟨g, k * size + j, none⟩ = some u) ∧ w.frozen? ⟨g, k * size + j, none⟩ = false := by
  have hlen : (flat cells ys).length = k * size := by rw [flat_length hc, hk]
  have hl2 : k * size + j < (flat cells ys ++ z).length := by simp [hlen]; omega
  have hn : (flat cells ys ++ z).length = n * size := h.1
  exact ⟨⟨_, (h.cellAt _ (by omega)).trans (List.getElem?_eq_getElem hl2)⟩, h.frozenAt _⟩
theorem info_wrt : (Tryd.prog.info? 32).map (fun i => (i.zero, i.size, i.bytes)) = some (some (.agg #[.slice none 0 0, .int .i64 0]), 2, 32) := by kernel_rfl

def ShortWrts (xs : List Wrt) (k : Nat) : Prop := ∀ i x, i < k → xs[i]? = some x → x.1.2.2.length ≤ 1048576
def OutsW (w : World) (base : Nat) (ys : List Wrt) : Prop := ∀ y ∈ ys, OwnStks w base (rowV y.1) y.1.2.2
theorem OutsW.below {w w' : World} {base : Nat} {es : List Wrt} (h : OutsW w base es) (hb : Below w.heap.size w w') : OutsW w' base es := fun e he => own_below (h e he) hb
theorem OutsW.at_ {w : World} {base : Nat} {ys : List Wrt} (h : OutsW w base ys) : WrtsAt w ys := fun y hy => by
  have h1 := h y hy
  refine ⟨(Seg.of_own h1).mono (Nat.zero_le _) (Nat.le_refl _), ?_⟩
  obtain ⟨A, c, _, h2, h3, _⟩ := h1.form
  omega
theorem wrts_eq (ys zs : List Wrt) (hf : formsOf ys = formsOf zs) (A B : Option Addr) (n c d : Nat) (hny : ys.length = n) (w : World) (hw : Seg w 0 w.heap.size A (flat wrtC ys)) (hv : Seg w 0 w.heap.size B (flat wrtC zs)) (ha : WrtsAt w ys) (hb : WrtsAt w zs) (hn : n ≤ 1048576) (hq : ∀ y ∈ ys, y.1.2.2.length ≤ 1048576) :
    Calls Tryd.prog 6 #[.slice A n c, .slice B n d] w fun e w' => e = .returned (.bool true) ∧ Below w.heap.size w w' := by
  have HF := Lib.hid hf
  have HN := Lib.hid hny
  clear hf hny
  go_enter Tryd.func6, Tryd.ntmps6
  go_wp2
  go_loopw [5] (fun i wr => ∃ k : Nat, k ≤ n ∧ i = .int .i64 k ∧ Below w.heap.size w wr) (fun i _ => n - (intOf i).toNat)
  case atStart => exact ⟨0, Nat.zero_le _, rfl, Below.refl _ _⟩
  case round =>
    obtain ⟨k, hk, rfl, hbl⟩ := hrel
    by_cases hlt : k < n
    · obtain ⟨⟨⟨yA, yc, yl⟩, yp⟩, hy⟩ := get_lt (l := ys) (k := k) (by rw [HN.out]; exact hlt)
      have hzl : k < zs.length := by
        have h1 := formsOf_len ys
        have h2 := formsOf_len zs
        rw [HF.out] at h1
        have := HN.out
        omega
      obtain ⟨⟨⟨zA, zc, zl⟩, zp⟩, hz⟩ := get_lt hzl
      have he : (yl, yp) = (zl, zp) := by
        have h1 := formsOf_at hy
        rw [HF.out, formsOf_at hz] at h1
        injection h1 with h1
        exact h1.symm
      injection he with he1 he2
      subst he1 he2
      obtain ⟨g, o, rfl, hg, _, _, hc1, hc2⟩ := (hw.below hbl).wrt hy
      obtain ⟨g', o', rfl, hg', _, _, hd1, hd2⟩ := (hv.below hbl).wrt hz
      simp only [rowV] at hc1 hc2 hd1 hd2
      have sy := ((ha _ (List.mem_of_getElem? hy)).1.below hbl).top
      have sz := ((hb _ (List.mem_of_getElem? hz)).1.below hbl).top
      have hql := hq _ (List.mem_of_getElem? hy)
      simp only at sy sz hql
      have q1 := cell_regrown hc1
      have q2 := cell_regrown hc2
      have q5 := cell_regrown hd1
      have q6 := cell_regrown hd2
      have HC := Lib.hid (fun dq osq => wrt_eq yl yp yA zA yc zc (grow (redrawn wr dq) osq) (sy.below (below_regrown wr dq osq)).top (sz.below (below_regrown wr dq osq)).top hql)
      clear hy hz hc1 hc2 hd1 hd2 sy sz
      go_wp2
      (refine wp_region_quiet_below (by kernel_rfl) (by kernel_rfl) ?_; (repeat (go_big_quiet_step (((go_at_call 13; exact Calls.regrown_of (HC.out _ _)))))); refine wpQuiet_nil ?_; intro _ hw'; obtain ⟨⟨dq, osq⟩, hw''⟩ := hw'; subst hw'')
      have hq := below_regrown wr dq osq
      generalize grow (redrawn wr dq) osq = wq at *
      clear q1 q2 q5 q6
      go_wp2
      go_roundw
      case rel => exact ⟨k + 1, by omega, by go_num, hbl.trans (hq.mono hbl.size)⟩
      case measure => simp [intOf]; omega
    · go_wp2
      go_ret
      exact ⟨rfl, hbl⟩

end Go.Proofs.YtlpagnbfjechhaaDoor
