/-
  Lists of written forms: the laws' helpers; LineValid (both texts).
-/
import Derived.Test.YtnoffpicjhcpfaaLine
namespace Go.Proofs.Ytnoffpicjhcpfaa
open Go.RowKit Go.Sort
set_option linter.unusedSimpArgs false
set_option linter.unusedVariables false

def formsOf (ys : List Wrt) : List (List Stk × Int) := ys.map fun y => (y.1.2.2, y.2)
theorem formsOf_len (ys : List Wrt) : (formsOf ys).length = ys.length := by simp [formsOf]
theorem formsOf_at {ys : List Wrt} {k : Nat} {y : Wrt} (h : ys[k]? = some y) : (formsOf ys)[k]? = some (y.1.2.2, y.2) := by simp [formsOf, h]
theorem formsOf_snoc (ys : List Wrt) (y : Wrt) : formsOf (ys ++ [y]) = formsOf ys ++ [(y.1.2.2, y.2)] := by simp [formsOf]
def fAt (fs : List (List Stk × Int)) (k : Nat) : Bool := wrtOk (fs.getD k ([], 0)).1 (fs.getD k ([], 0)).2
def lineOk (fs : List (List Stk × Int)) : Bool := decide (fs.length ≤ 20) && allTo (fAt fs) fs.length
theorem fAt_eq {ys : List Wrt} {k : Nat} {y : Wrt} (h : ys[k]? = some y) : fAt (formsOf ys) k = wrtOk y.1.2.2 y.2 := by simp [fAt, List.getD, formsOf_at h]
/-- the outlines of a list of written forms, as they lie -/
def WrtsAt (w : World) (xs : List Wrt) : Prop := ∀ x ∈ xs, Seg w 0 w.heap.size x.1.1 (flat stkC x.1.2.2) ∧ x.1.2.2.length ≤ maxLen
theorem WrtsAt.below {w w' : World} {xs : List Wrt} (h : WrtsAt w xs) (hb : Below w.heap.size w w') : WrtsAt w' xs := fun x hx => ⟨((h x hx).1.below hb).top, (h x hx).2⟩
theorem Seg.wrt {w : World} {lo hi : Nat} {A : Option Addr} {xs : List Wrt} {k : Nat} {s : Wrt} (h : Seg w lo hi A (flat wrtC xs)) (hk : xs[k]? = some s) :
    ∃ g o, A = some ⟨g, o, none⟩ ∧ g < w.heap.size ∧ lo ≤ g ∧ g < hi ∧ w.cell? ⟨g, o + k * 2, none⟩ = some (rowV s.1) ∧ w.cell? ⟨g, o + k * 2 + 1, none⟩ = some (.int .i64 s.2) := by
  have h0 := flat_get wrtC_len hk (j := 0) (by decide)
  have h1 := flat_get wrtC_len hk (j := 1) (by decide)
  rcases h with h | ⟨g, o, rfl, a, b, c, d⟩
  · rw [h] at h0; simp [wrtC] at h0
  · exact ⟨g, o, rfl, c, a, b, by simpa [wrtC] using d _ _ h0, by simpa [wrtC, Nat.add_assoc] using d _ _ h1⟩
theorem row_wrts {w : World} {r : Row Wrt} (h : RowOk w wrtC (WrtOk w) r) : ∃ A c xs, rowV r = .slice A (xs : List Wrt).length c ∧ Seg w 0 w.heap.size A (flat wrtC xs) ∧ WrtsAt w xs ∧ xs.length ≤ c ∧ c ≤ maxLen := by
  obtain ⟨A, c, xs⟩ := r
  exact ⟨A, c, xs, rfl, h.1, fun x hx => ⟨(h.2.1 x hx).1.1, Nat.le_trans (h.2.1 x hx).1.2.2.1 (h.2.1 x hx).1.2.2.2⟩, h.2.2.1, h.2.2.2⟩
/-- one element more behind those that stand in a row of the call's own -/
theorem own_putS {α : Type} {cells : α → List Value} {size : Nat} (hc : ∀ a, (cells a).length = size) {w : World} {base : Nat} {e : TypeId} {g n cap k : Nat} {ys : List α} {z : List Value} {x : α}
    (h : w.ownsRow base e size (.slice (some ⟨g, 0, none⟩) n cap) n (flat cells ys ++ z)) (hk : ys.length = k) (hz : size ≤ z.length) :
    (setAll w g (k * size) (cells x)).ownsRow base e size (.slice (some ⟨g, 0, none⟩) n cap) n (flat cells (ys ++ [x]) ++ z.drop size) := by
  have hlen : (flat cells ys).length = k * size := by rw [flat_length hc, hk]
  have h2 := own_setAll (cells x) w (k * size) _ h (by simp [hlen, hc]; omega)
  have e1 : (flat cells ys ++ z).take (k * size) = flat cells ys := by rw [← hlen, List.take_left]
  have e2 : (flat cells ys ++ z).drop (k * size + (cells x).length) = z.drop size := by
    rw [List.drop_append, List.drop_of_length_le (by omega), hc, hlen, List.nil_append, Nat.add_sub_cancel_left]
  rw [e1, e2] at h2
  rwa [flat_snoc]
theorem own_roomS {α : Type} {cells : α → List Value} {size : Nat} (hc : ∀ a, (cells a).length = size) {w : World} {base : Nat} {e : TypeId} {g n cap k : Nat} {ys : List α} {z : List Value}
    (h : w.ownsRow base e size (.slice (some ⟨g, 0, none⟩) n cap) n (flat cells ys ++ z)) (hk : ys.length = k) (hz : size ≤ z.length) (j : Nat) (hj : j < size) :
    (∃ u, w.cell? ⟨g, k * size + j, none⟩ = some u) ∧ w.frozen? ⟨g, k * size + j, none⟩ = false := by
  have hlen : (flat cells ys).length = k * size := by rw [flat_length hc, hk]
  have hl2 : k * size + j < (flat cells ys ++ z).length := by simp [hlen]; omega
  have hn : (flat cells ys ++ z).length = n * size := h.1
  exact ⟨⟨_, (h.cellAt _ (by omega)).trans (List.getElem?_eq_getElem hl2)⟩, h.frozenAt _⟩
theorem info_wrt : (Try.prog.info? 47).map (fun i => (i.zero, i.size, i.bytes)) = some (some (.agg #[.slice none 0 0, .int .i64 0]), 2, 32) := by kernel_rfl

def ShortWrts (xs : List Wrt) (k : Nat) : Prop := ∀ i x, i < k → xs[i]? = some x → x.1.2.2.length ≤ 1048576
theorem wrts_szB (xs : List Wrt) (A : Option Addr) (c : Nat) (left : Int) (w : World) (hw : Seg w 0 w.heap.size A (flat wrtC xs)) (ho : WrtsAt w xs) (hn : xs.length ≤ maxLen) (h0 : 0 ≤ left) (h1 : left ≤ 1048576) :
    Calls Try.prog 48 #[.slice A xs.length c, .int .i64 left] w fun e w' => (∃ z, e = .returned (.int .i64 z) ∧ (z = -1 ∨ (0 ≤ z ∧ z ≤ left ∧ (xs.length : Int) ≤ left ∧ Hid (ShortWrts xs xs.length)))) ∧ Below w.heap.size w w' := by
  have hn' : xs.length ≤ 9223372036854775807 := hn
  by_cases hl : left - xs.length < 0
  · go_enter Try.func48, Try.ntmps48
    go_wp2
    go_ret
    exact ⟨⟨_, rfl, .inl rfl⟩, Below.refl _ _⟩
  · go_enter Try.func48, Try.ntmps48
    go_wp2
    go_loopw [1, 5] (fun v i wr => ∃ k : Nat, k ≤ xs.length ∧ i = .int .i64 k ∧ (∃ z : Int, v = .int .i64 z ∧ 0 ≤ z ∧ z ≤ left) ∧ Hid (ShortWrts xs k) ∧ Below w.heap.size w wr) (fun _ i _ => xs.length - (intOf i).toNat)
    case atStart => exact ⟨0, Nat.zero_le _, rfl, ⟨_, rfl, by omega, by omega⟩, fun i x hi => by omega, Below.refl _ _⟩
    case round =>
      obtain ⟨k, hk, rfl, ⟨z, rfl, hz0, hz1⟩, hsh, hb⟩ := hrel
      by_cases hlt : k < xs.length
      · obtain ⟨⟨⟨xA, xc, xs'⟩, xp⟩, hs⟩ := get_lt hlt
        obtain ⟨g, o, rfl, hg, _, hgw, hc1, hc2⟩ := (hw.below hb).wrt hs
        simp only [rowV] at hc1 hc2
        have hox := (ho _ (List.mem_of_getElem? hs)).2
        simp only at hox
        have HS := Lib.hid hs
        clear hs
        go_wp2_with fail
        refine (laws_szWritten xs' xp xA xc z _ hox hz0 (by omega)).mono ?_
        rintro e w1 ⟨⟨y, rfl, hy⟩, b1⟩
        have bal := hb.trans (b1.mono hb.size)
        clear hc1 hc2
        rcases hy with rfl | ⟨hy0, hy1, hy2⟩
        · go_wp2
          go_ret
          exact ⟨⟨_, rfl, .inl rfl⟩, bal⟩
        · have HSH : Hid (ShortWrts xs (k + 1)) := by
            intro i x hi hx
            by_cases e : i = k
            · subst e
              rw [HS.out] at hx
              injection hx with hx
              subst hx
              show xs'.length ≤ 1048576
              omega
            · exact hsh.out i x (by omega) hx
          go_wp2
          go_roundw
          case rel => exact ⟨k + 1, by omega, by go_num, ⟨y, rfl, hy0, by omega⟩, HSH, bal⟩
          case measure => simp [intOf]; omega
      · have HSH : Hid (ShortWrts xs xs.length) := by
          obtain rfl : k = xs.length := by omega
          exact hsh
        go_wp2
        go_ret
        exact ⟨⟨_, rfl, .inr ⟨hz0, hz1, by omega, HSH⟩⟩, hb⟩

def OutsW (w : World) (base : Nat) (ys : List Wrt) : Prop := ∀ y ∈ ys, OwnStks w base (rowV y.1) y.1.2.2
theorem OutsW.below {w w' : World} {base : Nat} {es : List Wrt} (h : OutsW w base es) (hb : Below w.heap.size w w') : OutsW w' base es := fun e he => own_below (h e he) hb
theorem OutsW.at_ {w : World} {base : Nat} {ys : List Wrt} (h : OutsW w base ys) : WrtsAt w ys := fun y hy => by
  have h1 := h y hy
  refine ⟨(Seg.of_own h1).mono (Nat.zero_le _) (Nat.le_refl _), ?_⟩
  obtain ⟨A, c, _, h2, h3, _⟩ := h1.form
  omega
set_option maxRecDepth 100000 in
set_option maxHeartbeats 1000000 in
theorem wrts_toO (xs : List Wrt) (A : Option Addr) (c : Nat) (w : World) (hw : Seg w 0 w.heap.size A (flat wrtC xs)) (ho : WrtsAt w xs) (hn : xs.length ≤ 1048576) (hq : ShortWrts xs xs.length) :
    Calls Try.prog 50 #[.slice A xs.length c] w fun e w' => ∃ A' ys, e = .returned (.slice A' xs.length xs.length) ∧ w'.ownsRow w.heap.size 47 2 (.slice A' xs.length xs.length) xs.length (flat wrtC (ys : List Wrt)) ∧ (OutsW w' w.heap.size ys ∧ formsOf ys = formsOf xs) ∧ Below w.heap.size w w' := by
  have hmk := make_n (P := Try.prog) 61 47 (.agg #[.slice none 0 0, .int .i64 0]) 2 32 Try.underlying61 info_wrt (by decide) xs.length (by omega)
  go_enter Try.func50, Try.ntmps50
  go_wp2
  clear hmk
  go_loopw [4] (fun i wr => ∃ k : Nat, ∃ ys : List Wrt, k ≤ xs.length ∧ i = .int .i64 k ∧ Below w.heap.size w wr ∧ Hid (ys.length = k ∧ formsOf ys = formsOf (xs.take k) ∧ OutsW wr w.heap.size ys) ∧ ∃ z, Hid (z.length = (xs.length - k) * 2) ∧ wr.ownsRow w.heap.size 47 2 (.slice (some ⟨w.heap.size, 0, none⟩) xs.length xs.length) xs.length (flat wrtC ys ++ z))
    (fun i _ => xs.length - (intOf i).toNat)
  case atStart => exact ⟨0, [], Nat.zero_le _, rfl, (Below.refl _ _).alloc (Nat.le_refl _) _, ⟨rfl, rfl, fun y hy => by simp at hy⟩, _, by simp [Hid, madeCells], World.ownsRow_lit w _ _ (Nat.le_refl _) (by simp [maxLen]; omega) (by simp [madeCells])⟩
  case round =>
    obtain ⟨k, ys, hk, rfl, hbel, hys, z, hz, hown⟩ := hrel
    by_cases hlt : k < xs.length
    · obtain ⟨⟨⟨xA, xc, xs'⟩, xp⟩, hs⟩ := get_lt hlt
      obtain ⟨g, o, rfl, hg, _, _, hc1, hc2⟩ := (hw.below hbel).wrt hs
      simp only [rowV] at hc1 hc2
      have hox := (ho _ (List.mem_of_getElem? hs)).1
      have hqx := hq k _ hlt hs
      simp only at hox hqx
      have HS := Lib.hid hs
      clear hs
      go_wp2_with fail
      refine (wrt_toO xs' xp xA xc _ (hox.below hbel).top hqx).mono ?_
      rintro e w1 ⟨A', rfl, ownx, hb1⟩
      have hown1 := own_below hown hb1
      have hbel1 := hbel.trans (hb1.mono hbel.size)
      have hz2 : 2 ≤ z.length := by have := hz.out; omega
      obtain ⟨⟨u, hcA⟩, hfA⟩ := own_roomS wrtC_len hown1 hys.out.1 hz2 0 (by decide)
      rw [Nat.add_zero] at hcA hfA
      obtain ⟨⟨u', hcB⟩, hfB⟩ := own_roomS wrtC_len hown1 hys.out.1 hz2 1 (by decide)
      have hput := Lib.hid (own_putS (x := (((A', xs'.length, xs'), xp) : Wrt)) wrtC_len hown1 hys.out.1 hz2)
      have hbx := bel_setAll (Nat.le_refl w.heap.size) (wrtC (((A', xs'.length, xs'), xp) : Wrt)) w1 (k * 2) hbel1
      have ownx2 : OwnStks w1 w.heap.size (rowV (A', xs'.length, xs')) xs' := own_mono ownx hbel.size
      have HO : Hid ((ys ++ [(((A', xs'.length, xs'), xp) : Wrt)]).length = k + 1 ∧ formsOf (ys ++ [(((A', xs'.length, xs'), xp) : Wrt)]) = formsOf (xs.take (k + 1)) ∧ OutsW (setAll w1 w.heap.size (k * 2) (wrtC (((A', xs'.length, xs'), xp) : Wrt))) w.heap.size (ys ++ [(((A', xs'.length, xs'), xp) : Wrt)])) := by
        refine ⟨by rw [List.length_append, hys.out.1]; rfl, by rw [formsOf_snoc, hys.out.2.1, take_snoc' HS.out, formsOf_snoc], fun y hy => ?_⟩
        have hy1 : OwnStks w1 w.heap.size (rowV y.1) y.1.2.2 := by
          rcases List.mem_append.1 hy with h | h
          · exact own_below (hys.out.2.2 y h) hb1
          · simp at h; subst h; exact ownx2
        have g1 := grow_set w1 w.heap.size (k * 2) xs.length xs.length (rowV (A', xs'.length, xs'))
        have hy2 := own_grew hy1 g1 (own_ne hy1 hown1 (by decide))
        have hown2 := (hown1.stored (k * 2) (rowV (A', xs'.length, xs'))).1
        have g2 := grow_set (w1.setCell ⟨w.heap.size, k * 2, none⟩ (rowV (A', xs'.length, xs'))) w.heap.size (k * 2 + 1) xs.length xs.length (.int .i64 xp)
        exact own_grew hy2 g2 (own_ne hy2 hown2 (by decide))
      have HZ : Hid ((z.drop 2).length = (xs.length - (k + 1)) * 2) := by have := hz.out; rw [Hid, List.length_drop]; omega
      clear hown hc1 hc2 hown1 ownx ownx2 hox
      go_wp2
      go_roundw
      case rel => exact ⟨k + 1, _, by omega, by go_num, hbx, HO, z.drop 2, HZ, hput.out⟩
      case measure => simp [intOf]; omega
    · have hke : k = xs.length := by omega
      have hz0 : z = [] := List.eq_nil_of_length_eq_zero (by have := hz.out; omega)
      rw [hz0, List.append_nil] at hown
      have HF : Hid (OutsW wr w.heap.size ys ∧ formsOf ys = formsOf xs) := by
        refine ⟨hys.out.2.2, ?_⟩
        have := hys.out.2.1
        rwa [List.take_of_length_le (by omega)] at this
      clear hke hz0
      go_wp2
      go_ret
      exact ⟨_, ys, rfl, hown, HF.out, hbel⟩

theorem wrts_eq (ys zs : List Wrt) (hf : formsOf ys = formsOf zs) (A B : Option Addr) (n c d : Nat) (hny : ys.length = n) (w : World) (hw : Seg w 0 w.heap.size A (flat wrtC ys)) (hv : Seg w 0 w.heap.size B (flat wrtC zs)) (ha : WrtsAt w ys) (hb : WrtsAt w zs) (hn : n ≤ 1048576) (hq : ∀ y ∈ ys, y.1.2.2.length ≤ 1048576) :
    Calls Try.prog 52 #[.slice A n c, .slice B n d] w fun e w' => e = .returned (.bool true) ∧ Below w.heap.size w w' := by
  have HF := Lib.hid hf
  have HN := Lib.hid hny
  clear hf hny
  go_enter Try.func52, Try.ntmps52
  go_wp2
  go_loopw [5] (fun i wr => ∃ k : Nat, k ≤ n ∧ i = .int .i64 k ∧ Below w.heap.size w wr) (fun i _ => n - (intOf i).toNat)
  case atStart => exact ⟨0, Nat.zero_le _, rfl, Below.refl _ _⟩
  case round =>
    obtain ⟨k, hk, rfl, hbl⟩ := hrel
    by_cases hlt : k < n
    · obtain ⟨⟨⟨yA, yc, yl⟩, yp⟩, hy⟩ := get_lt (l := ys) (k := k) (by rw [HN.out]; exact hlt)
      have hzl : k < zs.length := by
        have h1 := formsOf_len ys
        have h2 := formsOf_len zs
        rw [HF.out] at h1
        have := HN.out
        omega
      obtain ⟨⟨⟨zA, zc, zl⟩, zp⟩, hz⟩ := get_lt hzl
      have he : (yl, yp) = (zl, zp) := by
        have h1 := formsOf_at hy
        rw [HF.out, formsOf_at hz] at h1
        injection h1 with h1
        exact h1.symm
      injection he with he1 he2
      subst he1 he2
      obtain ⟨g, o, rfl, hg, _, _, hc1, hc2⟩ := (hw.below hbl).wrt hy
      obtain ⟨g', o', rfl, hg', _, _, hd1, hd2⟩ := (hv.below hbl).wrt hz
      simp only [rowV] at hc1 hc2 hd1 hd2
      have sy := ((ha _ (List.mem_of_getElem? hy)).1.below hbl).top
      have sz := ((hb _ (List.mem_of_getElem? hz)).1.below hbl).top
      have hql := hq _ (List.mem_of_getElem? hy)
      simp only at sy sz hql
      have q1 := cell_regrown hc1
      have q2 := cell_regrown hc2
      have q5 := cell_regrown hd1
      have q6 := cell_regrown hd2
      have HC := Lib.hid (fun dq osq => wrt_eq yl yp yA zA yc zc (grow (redrawn wr dq) osq) (sy.below (below_regrown wr dq osq)).top (sz.below (below_regrown wr dq osq)).top hql)
      clear hy hz hc1 hc2 hd1 hd2 sy sz
      go_wp2
      (refine wp_region_quiet_below (by kernel_rfl) (by kernel_rfl) ?_; (repeat (go_big_quiet_step (((go_at_call 37; exact Calls.regrown_of (HC.out _ _)))))); refine wpQuiet_nil ?_; intro _ hw'; obtain ⟨⟨dq, osq⟩, hw''⟩ := hw'; subst hw'')
      have hq := below_regrown wr dq osq
      generalize grow (redrawn wr dq) osq = wq at *
      clear q1 q2 q5 q6
      go_wp2
      go_roundw
      case rel => exact ⟨k + 1, by omega, by go_num, hbl.trans (hq.mono hbl.size)⟩
      case measure => simp [intOf]; omega
    · go_wp2
      go_ret
      exact ⟨rfl, hbl⟩

theorem spec_LineValid (xs : List Wrt) (A : Option Addr) (c : Nat) (w : World) (hw : Seg w 0 w.heap.size A (flat wrtC xs)) (ho : WrtsAt w xs) (hn : xs.length ≤ maxLen) :
    Calls Try.prog 49 #[.slice A xs.length c] w fun e w' => e = .returned (.bool (lineOk (formsOf xs))) ∧ Below w.heap.size w w' := by
  have hn' : xs.length ≤ 9223372036854775807 := hn
  go_enter Try.func49, Try.ntmps49
  go_wp2
  go_loopw [3] (fun i wr => ∃ k : Nat, k ≤ xs.length ∧ i = .int .i64 k ∧ Hid (allTo (fAt (formsOf xs)) k = true) ∧ Below w.heap.size w wr) (fun i _ => xs.length - (intOf i).toNat)
  case atStart => exact ⟨0, Nat.zero_le _, rfl, rfl, Below.refl _ _⟩
  case round =>
    obtain ⟨k, hk, rfl, hl, hb⟩ := hrel
    by_cases hlt : k < xs.length
    · obtain ⟨⟨⟨xA, xc, xs'⟩, xp⟩, hs⟩ := get_lt hlt
      obtain ⟨g, o, rfl, hg, _, hgw, hc1, hc2⟩ := (hw.below hb).wrt hs
      simp only [rowV] at hc1 hc2
      have hox := ho _ (List.mem_of_getElem? hs)
      simp only at hox
      have HF := Lib.hid (fAt_eq hs)
      clear hs
      go_wp2_with fail
      refine (spec_WrittenValid xs' xp xA xc _ (hox.1.below hb).top hox.2).mono ?_
      rintro e w1 ⟨rfl, b1⟩
      have bal := hb.trans (b1.mono hb.size)
      clear hc1 hc2 b1 hox
      cases hx : wrtOk xs' xp
      · have HO : Hid (lineOk (formsOf xs) = false) := by
          rw [Hid, lineOk, formsOf_len, allTo_not (k := k) (by rw [HF.out, hx]) hlt, Bool.and_false]
        go_wp2
        go_ret
        exact ⟨ret_bool HO.out.symm, bal⟩
      · have HN := Lib.hid (allTo_step hl.out (by rw [HF.out, hx]))
        go_wp2
        go_roundw
        case rel => exact ⟨k + 1, by omega, by go_num, HN, bal⟩
        case measure => simp [intOf]; omega
    · have HO : Hid (lineOk (formsOf xs) = decide ((xs.length : Int) ≤ 20)) := by
        obtain rfl : k = xs.length := by omega
        rw [Hid, lineOk, formsOf_len, hl.out, Bool.and_true, Bool.eq_iff_iff]; simp; omega
      go_wp2
      go_ret
      exact ⟨ret_bool HO.out.symm, hb⟩

theorem impl_LineValid (xs : List Wrt) (A : Option Addr) (c : Nat) (w : World) (hw : Seg w 0 w.heap.size A (flat wrtC xs)) (ho : WrtsAt w xs) (hn : xs.length ≤ maxLen) :
    Calls Try.prog 51 #[.slice A xs.length c] w fun e w' => e = .returned (.bool (lineOk (formsOf xs))) ∧ Below w.heap.size w w' := by
  have hn' : xs.length ≤ 9223372036854775807 := hn
  by_cases h20 : (20 : Int) < xs.length
  · have HO : Hid (lineOk (formsOf xs) = false) := by rw [Hid, lineOk, formsOf_len, decide_eq_false (by omega), Bool.false_and]
    go_enter Try.func51, Try.ntmps51
    go_wp2
    go_ret
    exact ⟨ret_bool HO.out.symm, Below.refl _ _⟩
  go_enter Try.func51, Try.ntmps51
  go_wp2
  go_loopw [10] (fun i wr => ∃ k : Nat, k ≤ xs.length ∧ i = .int .i64 k ∧ Hid (allTo (fAt (formsOf xs)) k = true) ∧ Below w.heap.size w wr) (fun i _ => xs.length - (intOf i).toNat)
  case atStart => exact ⟨0, Nat.zero_le _, rfl, rfl, Below.refl _ _⟩
  case round =>
    obtain ⟨k, hk, rfl, hl, hb⟩ := hrel
    by_cases hlt : k < xs.length
    · obtain ⟨⟨⟨xA, xc, xs'⟩, xp⟩, hs⟩ := get_lt hlt
      obtain ⟨g, o, rfl, hg, _, hgw, hc1, hc2⟩ := (hw.below hb).wrt hs
      simp only [rowV] at hc1 hc2
      have hox := ho _ (List.mem_of_getElem? hs)
      simp only at hox
      have HF := Lib.hid (fAt_eq hs)
      have bX := bel_alloc hb (.cells #[.slice xA xs'.length xc, .int .i64 xp] 47)
      have sx := (hox.1.below bX).top
      clear hs
      go_wp2_with fail
      refine (impl_WrittenValid xs' xp xA xc _ sx hox.2).mono ?_
      rintro e w1 ⟨rfl, b1⟩
      have bal := bX.trans (b1.mono bX.size)
      clear hc1 hc2 b1 hox sx bX
      cases hx : wrtOk xs' xp
      · have HO : Hid (lineOk (formsOf xs) = false) := by
          rw [Hid, lineOk, formsOf_len, allTo_not (k := k) (by rw [HF.out, hx]) hlt, Bool.and_false]
        go_wp2
        go_ret
        exact ⟨ret_bool HO.out.symm, bal⟩
      · have HN := Lib.hid (allTo_step hl.out (by rw [HF.out, hx]))
        go_wp2
        go_roundw
        case rel => exact ⟨k + 1, by omega, by go_num, HN, bal⟩
        case measure => simp [intOf]; omega
    · have HO : Hid (lineOk (formsOf xs) = true) := by
        obtain rfl : k = xs.length := by omega
        rw [Hid, lineOk, formsOf_len, hl.out, Bool.and_true, decide_eq_true (by omega)]
      go_wp2
      go_ret
      exact ⟨ret_bool HO.out.symm, hb⟩
end Go.Proofs.Ytnoffpicjhcpfaa
