/-
  Lists of written forms of the call's own: marked and held.
-/
import Derived.Test.YtlpagnbfjechhaaDoorLines
import Derived.Test.YtlpagnbfjechhaaDoorMrk2
namespace Go.Proofs.YtlpagnbfjechhaaDoor
open Go.RowKit Go.Sort
set_option linter.unusedSimpArgs false
set_option linter.unusedVariables false

/-- the outlines lie in blocks that differ -/
def Apart (ys : List Wrt) : Prop := ∀ (i j : Nat) (y z : Wrt), ys[i]? = some y → ys[j]? = some z → i ≠ j → ∀ k, (rowV y.1).ownBlock = some k → (rowV z.1).ownBlock = some k → False
structure OwnLine (w : World) (base : Nat) (v : Value) (ys : List Wrt) : Prop where
  row : w.ownsRow base 32 2 v ys.length (flat wrtC ys)
  outs : OutsW w base ys
  apart : Apart ys
theorem OwnLine.below {w w' : World} {base : Nat} {v : Value} {ys : List Wrt} (h : OwnLine w base v ys) (hb : Below w.heap.size w w') : OwnLine w' base v ys :=
  ⟨own_below h.row hb, h.outs.below hb, h.apart⟩
theorem OwnLine.mono {w : World} {base base' : Nat} {v : Value} {ys : List Wrt} (h : OwnLine w base v ys) (hb : base' ≤ base) : OwnLine w base' v ys :=
  ⟨own_mono h.row hb, fun y hy => own_mono (h.outs y hy) hb, h.apart⟩
theorem OwnLine.grew {w w' : World} {base base' n size : Nat} {v vm : Value} {e : TypeId} {xs : List Value} {ys : List Wrt} (h : OwnLine w base v ys) (g : w.grownBy w' vm.ownBlock) (hm : w.ownsRow base' e size vm n xs)
    (h1 : 32 ≠ e) (h2 : 46 ≠ e) : OwnLine w' base v ys :=
  ⟨own_grew h.row g (own_ne h.row hm h1), fun y hy => own_grew (h.outs y hy) g (own_ne (h.outs y hy) hm h2), h.apart⟩
theorem OwnLine.nil {w : World} {base : Nat} : OwnLine w base (.slice none 0 0) [] := ⟨⟨rfl, .inl ⟨rfl, rfl⟩⟩, fun y hy => by simp at hy, fun i j y z h => by simp at h⟩

def mk1 (k : Int) (y : Wrt) : Wrt := ((y.1.1, y.1.2.1, marksStk k y.1.2.2.length), k + 2 * (y.1.2.2.length : Int))
def offW : Int → List Wrt → Int
  | k, [] => k
  | k, y :: ys => offW (k + 2 * (y.1.2.2.length : Int) + 1) ys
def mkW : Int → List Wrt → List Wrt
  | _, [] => []
  | k, y :: ys => mk1 k y :: mkW (k + 2 * (y.1.2.2.length : Int) + 1) ys
theorem offW_snoc (y : Wrt) : ∀ (l : List Wrt) (k : Int), offW k (l ++ [y]) = offW k l + 2 * (y.1.2.2.length : Int) + 1
  | [], k => rfl
  | x :: l, k => offW_snoc y l _
theorem mkW_snoc (y : Wrt) : ∀ (l : List Wrt) (k : Int), mkW k (l ++ [y]) = mkW k l ++ [mk1 (offW k l) y]
  | [], k => rfl
  | x :: l, k => by simp only [List.cons_append, mkW, offW]; rw [mkW_snoc y l]
theorem mkW_len : ∀ (l : List Wrt) (k : Int), (mkW k l).length = l.length
  | [], k => rfl
  | x :: l, k => by simp [mkW, mkW_len l]
theorem offW_bound : ∀ (l : List Wrt) (k : Int), (∀ y ∈ l, y.1.2.2.length ≤ 1048576) → k ≤ offW k l ∧ offW k l ≤ k + 2097153 * (l.length : Int)
  | [], k, _ => by simp [offW]
  | x :: l, k, h => by
    have h1 := offW_bound l (k + 2 * (x.1.2.2.length : Int) + 1) (fun y hy => h y (List.mem_cons_of_mem _ hy))
    have h2 := h x (List.mem_cons_self ..)
    simp only [offW, List.length_cons]
    omega
theorem mkW_at {l : List Wrt} {i : Nat} {y : Wrt} (k : Int) (h : l[i]? = some y) : (mkW k l)[i]? = some (mk1 (offW k (l.take i)) y) := by
  induction l generalizing i k with
  | nil => simp at h
  | cons x l ih =>
    cases i with
    | zero => simp at h; subst h; rfl
    | succ i => simp at h; simp only [mkW, List.getElem?_cons_succ, List.take_succ_cons, offW]; exact ih _ h
theorem rowV_mk1 (k : Int) (y : Wrt) : rowV (mk1 k y).1 = rowV y.1 := by simp [rowV, mk1, marksStk]
theorem mkW_mem {l : List Wrt} {m : Wrt} {k : Int} (h : m ∈ mkW k l) : ∃ i y, l[i]? = some y ∧ m = mk1 (offW k (l.take i)) y := by
  obtain ⟨i, hi⟩ := List.mem_iff_getElem?.1 h
  have hl : i < l.length := by
    have := (List.getElem?_eq_some_iff.1 hi).1
    rwa [mkW_len] at this
  obtain ⟨y, hy⟩ := get_lt hl
  exact ⟨i, y, hy, by rw [mkW_at k hy] at hi; injection hi with hi; exact hi.symm⟩
def mixW (k0 : Int) (ys : List Wrt) (k : Nat) : List Value := flat wrtC (mkW k0 (ys.take k)) ++ flat wrtC (ys.drop k)
theorem drop_at {α : Type} {l : List α} {k : Nat} {y : α} (h : l[k]? = some y) : l.drop k = y :: l.drop (k + 1) := by
  obtain ⟨h1, rfl⟩ := List.getElem?_eq_some_iff.1 h
  exact List.drop_eq_getElem_cons h1
theorem mixW_len1 (k0 : Int) {ys : List Wrt} {k : Nat} (hk : k ≤ ys.length) : (flat wrtC (mkW k0 (ys.take k))).length = k * 2 := by
  rw [flat_length wrtC_len, mkW_len, List.length_take, Nat.min_eq_left hk]
theorem mixW_at (k0 : Int) {ys : List Wrt} {k : Nat} {y : Wrt} (h : ys[k]? = some y) : (mixW k0 ys k)[k * 2]? = some (rowV y.1) := by
  have hk : k < ys.length := (List.getElem?_eq_some_iff.1 h).1
  rw [mixW, List.getElem?_append_right (by rw [mixW_len1 k0 (Nat.le_of_lt hk)]; exact Nat.le_refl _), mixW_len1 k0 (Nat.le_of_lt hk), drop_at h]
  simp [flat, wrtC]
theorem mixW_set (k0 : Int) {ys : List Wrt} {k : Nat} {y : Wrt} (h : ys[k]? = some y) :
    (mixW k0 ys k).set (k * 2 + 1) (.int .i64 (offW k0 (ys.take k) + 2 * (y.1.2.2.length : Int))) = mixW k0 ys (k + 1) := by
  have hk : k < ys.length := (List.getElem?_eq_some_iff.1 h).1
  rw [mixW, List.set_append_right _ _ (by rw [mixW_len1 k0 (Nat.le_of_lt hk)]; omega), mixW_len1 k0 (Nat.le_of_lt hk), drop_at h, mixW, take_snoc' h, mkW_snoc, flat_snoc, List.append_assoc]
  have e : k * 2 + 1 - k * 2 = 1 := by omega
  rw [e]
  have e2 : wrtC (mk1 (offW k0 (ys.take k)) y) = [rowV y.1, .int .i64 (offW k0 (ys.take k) + 2 * (y.1.2.2.length : Int))] := by rw [wrtC, rowV_mk1]; rfl
  rw [e2]
  simp [flat, wrtC]
def OutsM (w : World) (base : Nat) (k0 : Int) (ys : List Wrt) (k : Nat) : Prop := ∀ i y, ys[i]? = some y → OwnStks w base (rowV y.1) (if i < k then marksStk (offW k0 (ys.take i)) y.1.2.2.length else y.1.2.2)

set_option maxRecDepth 100000 in
theorem wrts_markB (ys : List Wrt) (base : Nat) (A : Option Addr) (c : Nat) (k0 : Int) (w : World) (hl : OwnLine w base (.slice A ys.length c) ys) (hB : base ≤ w.heap.size) (hn : ys.length ≤ 1000) (hq : ∀ y ∈ ys, y.1.2.2.length ≤ 1048576) (hk0 : 1 ≤ k0) (hk1 : k0 ≤ 1000000) :
    Calls Tryd.prog 7 #[.slice A ys.length c, .int .i64 k0] w fun e w' => e = .returned (.int .i64 (offW k0 ys)) ∧ (w'.ownsRow base 32 2 (.slice A ys.length c) ys.length (flat wrtC (mkW k0 ys)) ∧ OutsW w' base (mkW k0 ys)) ∧ Below base w w' := by
  obtain ⟨hrow, houts, hap⟩ := hl
  have HAP := Lib.hid hap
  have HB0 : Below base w w := Below.refl _ _
  have HQ := Lib.hid hq
  have HM : Hid (OutsM w base k0 ys 0) := fun i y hy => by rw [if_neg (Nat.not_lt_zero i)]; exact houts y (List.mem_of_getElem? hy)
  have HR : w.ownsRow base 32 2 (.slice A ys.length c) ys.length (mixW k0 ys 0) := by simpa [mixW, mkW, flat] using hrow
  clear hap hrow houts hq
  go_enter Tryd.func7, Tryd.ntmps7
  go_wp2
  go_loopw [1, 5] (fun q i wr => ∃ k : Nat, k ≤ ys.length ∧ i = .int .i64 k ∧ q = .int .i64 (offW k0 (ys.take k)) ∧ Hid (OutsM wr base k0 ys k) ∧ wr.ownsRow base 32 2 (.slice A ys.length c) ys.length (mixW k0 ys k) ∧ Below base w wr) (fun _ i _ => ys.length - (intOf i).toNat)
  case atStart => exact ⟨0, Nat.zero_le _, rfl, rfl, HM, HR, HB0⟩
  case round =>
    obtain ⟨k, hk, rfl, rfl, hout, hown, hbel⟩ := hrel
    by_cases hlt : k < ys.length
    · obtain ⟨⟨⟨yA, yc, yl⟩, yp⟩, hy⟩ := get_lt hlt
      have hbd := offW_bound (ys.take k) k0 (fun y h => HQ.out y (List.mem_of_mem_take h))
      rw [List.length_take, Nat.min_eq_left (Nat.le_of_lt hlt)] at hbd
      obtain ⟨hbd1, hbd2⟩ := hbd
      have hql : yl.length ≤ 1048576 := HQ.out _ (List.mem_of_getElem? hy)
      have oy := hout.out k _ hy
      rw [if_neg (Nat.lt_irrefl k)] at oy
      simp only [rowV] at oy
      obtain ⟨b, c', hv, hb, hbs, _, _⟩ := own_head hown (by omega)
      injection hv with hA _ hc
      subst hA hc
      have hlen : (mixW k0 ys k).length = ys.length * 2 := hown.1
      have hc0 : wr.cell? ⟨b, k * 2, none⟩ = some (.slice yA yl.length yc) := (hown.cellAt (k * 2) (by omega)).trans (mixW_at k0 hy)
      have hB1 := Nat.le_trans hB hbel.size
      have HY := Lib.hid hy
      have HO := Lib.hid (offW_snoc (((yA, yc, yl), yp) : Wrt) (ys.take k) k0)
      rw [← take_snoc' hy] at HO
      have HX := Lib.hid (mixW_set k0 hy)
      simp only at HX HO
      generalize hoff : offW k0 (ys.take k) = z at *
      clear hy
      go_wp2_with fail
      refine (stks_markG yl base yA yc z wr oy hql (by omega) (by omega)).mono ?_
      rintro e w1 ⟨rfl, own1, g1⟩
      have hown1 := own_grew hown g1 (own_ne hown oy (by decide))
      have hbel1 := own_grown_below hbel oy g1 hB1
      have hB2 := Nat.le_trans hB hbel1.size
      have hl2 : k * 2 + 1 < (mixW k0 ys k).length := by omega
      have hcB : ∃ u, w1.cell? ⟨b, k * 2 + 1, none⟩ = some u := ⟨_, (hown1.cellAt _ (by omega)).trans (List.getElem?_eq_getElem hl2)⟩
      obtain ⟨u, hcB⟩ := hcB
      have hfB := hown1.frozenAt (k * 2 + 1)
      have hst := (hown1.stored (k * 2 + 1) (.int .i64 (z + 2 * (yl.length : Int)))).1
      rw [HX.out] at hst
      have g2 := grow_set w1 b (k * 2 + 1) ys.length c (.int .i64 (z + 2 * (yl.length : Int)))
      have hbel2 := own_grown_below hbel1 hown1 g2 hB2
      have HST := Lib.hid hst
      have HOUT : Hid (OutsM (w1.setCell ⟨b, k * 2 + 1, none⟩ (.int .i64 (z + 2 * (yl.length : Int)))) base k0 ys (k + 1)) := by
        intro i y hi
        have h3 : OwnStks w1 base (rowV y.1) (if i < k + 1 then marksStk (offW k0 (ys.take i)) y.1.2.2.length else y.1.2.2) := by
          by_cases e : i = k
          · subst e
            rw [HY.out] at hi
            injection hi with hi
            subst hi
            rw [if_pos (Nat.lt_succ_self _), hoff]
            show w1.ownsRow _ _ _ _ _ _
            simp only [rowV]
            rw [show (marksStk z yl.length).length = yl.length by simp [marksStk]]
            exact own1
          · have h4 := own_grew (hout.out i y hi) g1 (HAP.out i k y _ hi HY.out e)
            have e2 : (i < k + 1) = (i < k) := by apply propext; omega
            simp only [e2]
            exact h4
        exact own_grew h3 g2 (own_ne h3 hown1 (by decide))
      clear hout hown hown1 own1 oy g1 g2 hst hc0 hbel hbel1
      go_wp2
      go_roundw
      case rel => exact ⟨k + 1, by omega, by go_num, by rw [HO.out], HOUT, HST.out, hbel2⟩
      case measure => simp [intOf]; omega
    · obtain rfl : k = ys.length := by omega
      have e1 : mixW k0 ys ys.length = flat wrtC (mkW k0 ys) := by simp [mixW, flat]
      rw [e1] at hown
      have HF : Hid (OutsW wr base (mkW k0 ys)) := by
        intro m hm
        obtain ⟨i, y, hi, rfl⟩ := mkW_mem hm
        have h1 := hout.out i y hi
        rw [if_pos (List.getElem?_eq_some_iff.1 hi).1] at h1
        rw [rowV_mk1]
        exact h1
      rw [List.take_of_length_le (Nat.le_refl _)]
      clear hout e1
      go_wp2
      go_ret
      exact ⟨rfl, ⟨hown, HF.out⟩, hbel⟩

set_option maxRecDepth 100000 in
theorem wrts_heldB (ys : List Wrt) (A : Option Addr) (c : Nat) (k0 : Int) (w : World) (hw : Seg w 0 w.heap.size A (flat wrtC (mkW k0 ys))) (ha : WrtsAt w (mkW k0 ys)) (hn : ys.length ≤ 1000) (hq : ∀ y ∈ ys, y.1.2.2.length ≤ 1048576) (hk0 : 1 ≤ k0) (hk1 : k0 ≤ 1000000) :
    Calls Tryd.prog 8 #[.slice A ys.length c, .int .i64 k0] w fun e w' => e = .returned (.int .i64 (offW k0 ys)) ∧ Below w.heap.size w w' := by
  have HQ := Lib.hid hq
  have HA := Lib.hid ha
  clear hq ha
  go_enter Tryd.func8, Tryd.ntmps8
  go_wp2
  go_loopw [1, 5] (fun q i wr => ∃ k : Nat, k ≤ ys.length ∧ i = .int .i64 k ∧ q = .int .i64 (offW k0 (ys.take k)) ∧ Below w.heap.size w wr) (fun _ i _ => ys.length - (intOf i).toNat)
  case atStart => exact ⟨0, Nat.zero_le _, rfl, rfl, Below.refl _ _⟩
  case round =>
    obtain ⟨k, hk, rfl, rfl, hb⟩ := hrel
    by_cases hlt : k < ys.length
    · obtain ⟨⟨⟨yA, yc, yl⟩, yp⟩, hy⟩ := get_lt hlt
      have hbd := offW_bound (ys.take k) k0 (fun y h => HQ.out y (List.mem_of_mem_take h))
      rw [List.length_take, Nat.min_eq_left (Nat.le_of_lt hlt)] at hbd
      obtain ⟨hbd1, hbd2⟩ := hbd
      have hql : yl.length ≤ 1048576 := HQ.out _ (List.mem_of_getElem? hy)
      have HO := Lib.hid (offW_snoc (((yA, yc, yl), yp) : Wrt) (ys.take k) k0)
      rw [← take_snoc' hy] at HO
      have hm := mkW_at k0 hy
      obtain ⟨g, o, rfl, hg, _, _, hc1, hc2⟩ := (hw.below hb).wrt hm
      have sy := ((HA.out _ (List.mem_of_getElem? hm)).1.below hb).top
      rw [rowV_mk1] at hc1
      simp only [rowV, mk1] at hc1 hc2 sy
      simp only at HO
      generalize hoff : offW k0 (ys.take k) = z at *
      have HC2 := Lib.hid hc2
      clear hy hm hc2
      go_wp2_with fail
      refine (stks_heldB yl.length z yA yc wr sy hql (by omega) (by omega)).mono ?_
      rintro e w1 ⟨rfl, b1⟩
      have d2 := (b1.cell (p := ⟨g, o + k * 2 + 1, none⟩) hg).trans HC2.out
      have bal := hb.trans (b1.mono hb.size)
      clear hc1
      go_wp2
      go_roundw
      case rel => exact ⟨k + 1, by omega, by go_num, by rw [HO.out], bal⟩
      case measure => simp [intOf]; omega
    · obtain rfl : k = ys.length := by omega
      rw [List.take_of_length_le (Nat.le_refl _)]
      go_wp2
      go_ret
      exact ⟨rfl, hb⟩
end Go.Proofs.YtlpagnbfjechhaaDoor
