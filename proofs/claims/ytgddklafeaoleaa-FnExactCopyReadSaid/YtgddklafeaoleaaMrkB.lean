/-
  Lists of briefs copied apart and marked; lists of texts held: the laws' helpers.
-/
import Derived.Test.YtgddklafeaoleaaBrfK
import Derived.Test.YtgddklafeaoleaaMrkT
namespace Go.Proofs.Ytgddklafeaoleaa
open Go.RowKit Go.Sort
set_option linter.unusedSimpArgs false
set_option linter.unusedVariables false

/-- the words of different briefs lie in blocks that differ -/
def ApartB (ys : List Brf) : Prop := ∀ (i j : Nat) (y z : Brf), ys[i]? = some y → ys[j]? = some z → i ≠ j → ∀ k, (rowV y.2).ownBlock = some k → (rowV z.2).ownBlock = some k → False
theorem apart_snoc {ys : List Brf} {x : Brf} {H : Nat} (h : ApartB ys) (hlo : ∀ y ∈ ys, ∀ k, (rowV y.2).ownBlock = some k → k < H) (hx : ∀ k, (rowV x.2).ownBlock = some k → H ≤ k) : ApartB (ys ++ [x]) := by
  intro i j y z hi hj hne k h1 h2
  have hl : (ys ++ [x]).length = ys.length + 1 := List.length_append
  have li := (List.getElem?_eq_some_iff.1 hi).1
  have lj := (List.getElem?_eq_some_iff.1 hj).1
  by_cases ei : i < ys.length
  · rw [List.getElem?_append_left ei] at hi
    by_cases ej : j < ys.length
    · rw [List.getElem?_append_left ej] at hj
      exact h i j y z hi hj hne k h1 h2
    · obtain rfl : j = ys.length := by omega
      rw [List.getElem?_append_right (Nat.le_refl _)] at hj
      simp at hj; subst hj
      have := hlo y (List.mem_of_getElem? hi) k h1
      have := hx k h2
      omega
  · obtain rfl : i = ys.length := by omega
    rw [List.getElem?_append_right (Nat.le_refl _)] at hi
    simp at hi; subst hi
    have ej : j < ys.length := by omega
    rw [List.getElem?_append_left ej] at hj
    have := hlo z (List.mem_of_getElem? hj) k h2
    have := hx k h1
    omega

/-- blocks from lo on and below hi alone are written -/
structure Mid (lo hi : Nat) (w w' : World) : Prop where
  os : w'.os = w.os
  tape : w'.tape = w.tape
  output : w'.output = w.output
  size : w.heap.size ≤ w'.heap.size
  block : ∀ k, k < w.heap.size → (k < lo ∨ hi ≤ k) → w'.heap[k]? = w.heap[k]?
theorem Mid.refl (lo hi : Nat) (w : World) : Mid lo hi w w := ⟨rfl, rfl, rfl, Nat.le_refl _, fun _ _ _ => rfl⟩
theorem Mid.trans {lo hi : Nat} {w1 w2 w3 : World} (h1 : Mid lo hi w1 w2) (h2 : Mid lo hi w2 w3) : Mid lo hi w1 w3 :=
  ⟨h2.os.trans h1.os, h2.tape.trans h1.tape, h2.output.trans h1.output, Nat.le_trans h1.size h2.size, fun k hk a => (h2.block k (Nat.lt_of_lt_of_le hk h1.size) a).trans (h1.block k hk a)⟩
theorem Mid.of_below {lo hi : Nat} {w w' : World} (h : Below w.heap.size w w') : Mid lo hi w w' := ⟨h.os, h.tape, h.output, h.size, fun k hk _ => h.block k hk⟩
theorem Mid.of_grown {lo hi : Nat} {w w' : World} {r : Option Nat} (h : w.grownBy w' r) (hr : ∀ k, r = some k → lo ≤ k ∧ k < hi) : Mid lo hi w w' :=
  ⟨h.os, h.tape, h.output, h.size, fun k hk a => h.block k hk fun e => by have := hr k e.symm; omega⟩
theorem Mid.below {base lo hi : Nat} {w0 w w' : World} (hb : Below base w0 w) (h : Mid lo hi w w') (hs : base ≤ w.heap.size) (hl : base ≤ lo) : Below base w0 w' :=
  ⟨h.os.trans hb.os, h.tape.trans hb.tape, h.output.trans hb.output, Nat.le_trans hb.size h.size, fun k hk => (h.block k (by omega) (.inl (by omega))).trans (hb.block k hk)⟩
theorem Mid.own {lo hi base n : Nat} {w w' : World} {e : TypeId} {size : Nat} {v : Value} {xs : List Value} (h : w.ownsRow base e size v n xs) (hm : Mid lo hi w w') (hv : ∀ k, v.ownBlock = some k → k < lo ∨ hi ≤ k) : w'.ownsRow base e size v n xs := by
  refine ⟨h.1, ?_⟩
  rcases h.2 with h2 | ⟨g, cap, cur, he, hg, hh, r⟩
  · exact .inl h2
  · exact .inr ⟨g, cap, cur, he, hg, (hm.block g (Array.getElem?_eq_some_iff.1 hh).1 (hv g (by rw [he]; simp [Value.ownBlock]))).trans hh, r⟩
theorem Mid.seg {lo hi l h' : Nat} {w w' : World} {A : Option Addr} {xs : List Value} (hm : Mid lo hi w w') (h : Seg w l h' A xs) (ha : h' ≤ lo ∨ hi ≤ l) : Seg w' l h' A xs :=
  h.keep hm.size fun k h1 h2 h3 => hm.block k h3 (by omega)

def WordsIn (cs : List Value) (ys : List Brf) : Prop := ∀ (i : Nat) (y : Brf), ys[i]? = some y → cs[i * 2 + 1]? = some (rowV y.2)
def OutsFrom (w : World) (base : Nat) (ys : List Brf) (i : Nat) : Prop := ∀ (j : Nat) (y : Brf), i ≤ j → ys[j]? = some y → OwnStrs w base y.2

set_option maxRecDepth 100000 in
set_option maxHeartbeats 1000000 in
theorem brfs_toA (xs : List Brf) (A : Option Addr) (c : Nat) (w : World) (hw : Seg w 0 w.heap.size A (flat brfC xs)) (ho : BrfsAt w xs) (hn : xs.length ≤ 1048576) (hq : ShortBrfs xs xs.length) :
    Calls Try.prog 16 #[.slice A xs.length c] w fun e w' => ∃ A' ys, e = .returned (.slice A' xs.length xs.length) ∧ w'.ownsRow w.heap.size 35 2 (.slice A' xs.length xs.length) xs.length (flat brfC (ys : List Brf)) ∧ ((OutsB w' w.heap.size ys ∧ ApartB ys) ∧ pbsOf ys = pbsOf xs) ∧ Below w.heap.size w w' := by
  have hmk := make_n (P := Try.prog) 25 35 (.agg #[.string ByteArray.empty, .slice none 0 0]) 2 40 Try.underlying25 info_brf (by decide) xs.length (by omega)
  go_enter Try.func16, Try.ntmps16
  go_wp2
  clear hmk
  go_loopw [4] (fun i wr => ∃ k : Nat, ∃ ys : List Brf, k ≤ xs.length ∧ i = .int .i64 k ∧ Below w.heap.size w wr ∧ Hid (ys.length = k ∧ pbsOf ys = pbsOf (xs.take k) ∧ OutsB wr w.heap.size ys ∧ ApartB ys) ∧ ∃ z, Hid (z.length = (xs.length - k) * 2) ∧ wr.ownsRow w.heap.size 35 2 (.slice (some ⟨w.heap.size, 0, none⟩) xs.length xs.length) xs.length (flat brfC ys ++ z))
    (fun i _ => xs.length - (intOf i).toNat)
  case atStart => exact ⟨0, [], Nat.zero_le _, rfl, (Below.refl _ _).alloc (Nat.le_refl _) _, ⟨rfl, rfl, (fun y hy => by simp at hy), fun i j y z h => by simp at h⟩, _, by simp [Hid, madeCells], World.ownsRow_lit w _ _ (Nat.le_refl _) (by simp [maxLen]; omega) (by simp [madeCells])⟩
  case round =>
    obtain ⟨k, ys, hk, rfl, hbel, hys, z, hz, hown⟩ := hrel
    by_cases hlt : k < xs.length
    · obtain ⟨⟨xm, xA, xc, xs'⟩, hs⟩ := get_lt hlt
      obtain ⟨g, o, rfl, hg, _, _, hc1, hc2⟩ := (hw.below hbel).brf hs
      simp only [rowV] at hc1 hc2
      have hox := (ho _ (List.mem_of_getElem? hs)).2.1
      have hqx := (hq k _ hlt hs).2
      simp only at hox hqx
      have HS := Lib.hid hs
      clear hs
      go_wp2_with fail
      refine (brf_toO xm xs' xA xc _ (hox.below hbel).top hqx).mono ?_
      rintro e w1 ⟨A', rfl, ownx, hb1⟩
      have hown1 := own_below hown hb1
      have hbel1 := hbel.trans (hb1.mono hbel.size)
      have hz2 : 2 ≤ z.length := by have := hz.out; omega
      obtain ⟨⟨u, hcA⟩, hfA⟩ := own_roomS brfC_len hown1 hys.out.1 hz2 0 (by decide)
      rw [Nat.add_zero] at hcA hfA
      obtain ⟨⟨u', hcB⟩, hfB⟩ := own_roomS brfC_len hown1 hys.out.1 hz2 1 (by decide)
      have hput := Lib.hid (own_putS (x := ((xm, (A', xs'.length, xs')) : Brf)) brfC_len hown1 hys.out.1 hz2)
      have hbx := bel_setAll (Nat.le_refl w.heap.size) (brfC ((xm, (A', xs'.length, xs')) : Brf)) w1 (k * 2) hbel1
      have ownx2 : OwnStrs w1 w.heap.size (A', xs'.length, xs') := own_mono ownx hbel.size
      have HO : Hid ((ys ++ [((xm, (A', xs'.length, xs')) : Brf)]).length = k + 1 ∧ pbsOf (ys ++ [((xm, (A', xs'.length, xs')) : Brf)]) = pbsOf (xs.take (k + 1)) ∧ OutsB (setAll w1 w.heap.size (k * 2) (brfC ((xm, (A', xs'.length, xs')) : Brf))) w.heap.size (ys ++ [((xm, (A', xs'.length, xs')) : Brf)]) ∧ ApartB (ys ++ [((xm, (A', xs'.length, xs')) : Brf)])) := by
        refine ⟨by rw [List.length_append, hys.out.1]; rfl, by rw [pbsOf_snoc, hys.out.2.1, take_snoc' HS.out, pbsOf_snoc], fun y hy => ?_, apart_snoc hys.out.2.2.2 (fun y hy k hk => (World.ownsRow.lt (hys.out.2.2.1 y hy) k hk).2) (fun k hk => (World.ownsRow.lt ownx k hk).1)⟩
        have hy1 : OwnStrs w1 w.heap.size y.2 := by
          rcases List.mem_append.1 hy with h | h
          · exact own_below (hys.out.2.2.1 y h) hb1
          · simp at h; subst h; exact ownx2
        have g1 := grow_set w1 w.heap.size (k * 2) xs.length xs.length (.string xm)
        have hy2 := own_grew hy1 g1 (own_ne hy1 hown1 (by decide))
        have hown2 := (hown1.stored (k * 2) (.string xm)).1
        have g2 := grow_set (w1.setCell ⟨w.heap.size, k * 2, none⟩ (.string xm)) w.heap.size (k * 2 + 1) xs.length xs.length (rowV (A', xs'.length, xs'))
        exact own_grew hy2 g2 (own_ne hy2 hown2 (by decide))
      have HZ : Hid ((z.drop 2).length = (xs.length - (k + 1)) * 2) := by have := hz.out; rw [Hid, List.length_drop]; omega
      clear hown hc1 hc2 hown1 ownx ownx2 hox
      go_wp2
      go_roundw
      case rel => exact ⟨k + 1, _, by omega, by go_num, hbx, HO, z.drop 2, HZ, hput.out⟩
      case measure => simp [intOf]; omega
    · have hke : k = xs.length := by omega
      have hz0 : z = [] := List.eq_nil_of_length_eq_zero (by have := hz.out; omega)
      rw [hz0, List.append_nil] at hown
      have HF : Hid ((OutsB wr w.heap.size ys ∧ ApartB ys) ∧ pbsOf ys = pbsOf xs) := by
        refine ⟨hys.out.2.2, ?_⟩
        have := hys.out.2.1
        rwa [List.take_of_length_le (by omega)] at this
      clear hke hz0
      go_wp2
      go_ret
      exact ⟨_, ys, rfl, hown, HF.out, hbel⟩


set_option maxRecDepth 100000 in
set_option maxHeartbeats 1000000 in
theorem brfs_markM (ys : List Brf) (base hi : Nat) (A : Option Addr) (c : Nat) (k0 : Int) (w : World) (hrow : w.ownsRow base 35 2 (.slice A ys.length c) ys.length (flat brfC ys)) (houts : OutsB w base ys) (hap : ApartB ys)
    (hh1 : ∀ k, (Value.slice A ys.length c).ownBlock = some k → k < hi) (hh2 : ∀ y ∈ ys, ∀ k, (rowV y.2).ownBlock = some k → k < hi) (hn : ys.length ≤ 1048576) (hq : ∀ y ∈ ys, ShortB y) (hk0 : 1 ≤ k0) (hk1 : k0 ≤ 1000) :
    Calls Try.prog 43 #[.slice A ys.length c, .int .i64 k0] w fun e w' => (∃ z : Int, e = .returned (.int .i64 z) ∧ 1 ≤ z ∧ z ≤ 2000000000000) ∧ Mid base hi w w' := by
  have HAP := Lib.hid hap
  have HQ := Lib.hid hq
  have H2 := Lib.hid hh2
  have HO : Hid (OutsFrom w base ys 0) := fun j y _ hy => houts y (List.mem_of_getElem? hy)
  have HW : Hid (WordsIn (flat brfC ys) ys) := fun i y hy => by have := flat_get brfC_len hy (j := 1) (by decide); simpa [brfC] using this
  clear hap hq hh2 houts
  go_enter Try.func43, Try.ntmps43
  go_wp2_with fail
  go_loopw [1, 5] (fun q i wr => ∃ k : Nat, k ≤ ys.length ∧ i = .int .i64 k ∧ (∃ z : Int, q = .int .i64 z ∧ 1 ≤ z ∧ z ≤ 1000 + 1048577 * (k : Int)) ∧ (∃ cs, wr.ownsRow base 35 2 (.slice A ys.length c) ys.length cs ∧ Hid (WordsIn cs ys)) ∧ Hid (OutsFrom wr base ys k) ∧ Mid base hi w wr) (fun _ i _ => ys.length - (intOf i).toNat)
  case atStart => exact ⟨0, Nat.zero_le _, rfl, ⟨_, rfl, hk0, by omega⟩, ⟨_, hrow, HW⟩, HO, Mid.refl _ _ _⟩
  case round =>
    obtain ⟨k, hk, rfl, ⟨z, rfl, hz0, hz1⟩, ⟨cs, hown, hws⟩, hout, hmid⟩ := hrel
    by_cases hlt : k < ys.length
    · obtain ⟨⟨ym, yA, yc, yl⟩, hy⟩ := get_lt hlt
      have HY := Lib.hid hy
      have hyl : yl.length ≤ 1048576 := (HQ.out _ (List.mem_of_getElem? hy)).2
      obtain ⟨b, c', hv, hb, hbs, _, _⟩ := own_head hown (by omega)
      injection hv with hA _ hc
      subst hA hc
      have hbh : b < hi := hh1 b (by simp [Value.ownBlock])
      have HH := Lib.hid hh1
      clear hy hh1
      go_wp2_with fail
      refine (laws_markText z _ hz0 (by omega)).mono ?_
      rintro e w1 ⟨rfl, b1⟩
      have hown1 := own_below hown b1
      have hlen : cs.length = ys.length * 2 := hown1.1
      have hl0 : k * 2 < cs.length := by omega
      obtain ⟨u, hcB⟩ : ∃ u, w1.cell? ⟨b, k * 2, none⟩ = some u := ⟨_, (hown1.cellAt _ (by omega)).trans (List.getElem?_eq_getElem hl0)⟩
      have hfB := hown1.frozenAt (k * 2)
      have hst := (hown1.stored (k * 2) (.string (mtext z))).1
      have HW2 : Hid (WordsIn (cs.set (k * 2) (.string (mtext z))) ys) := fun i y hi => by
        rw [List.getElem?_set_ne (by omega)]; exact hws.out i y hi
      have hc1 := (hst.cellAt (k * 2 + 1) (by omega)).trans (HW2.out k _ HY.out)
      simp only [rowV] at hc1
      have oy0 := hout.out k _ (Nat.le_refl _) HY.out
      have g1 := grow_set w1 b (k * 2) ys.length c (.string (mtext z))
      have oy1 := own_grew (own_below oy0 b1) g1 (own_ne (own_below oy0 b1) hown1 (by decide))
      have m2 : Mid base hi w (w1.setCell ⟨b, k * 2, none⟩ (.string (mtext z))) := (hmid.trans (Mid.of_below b1)).trans (Mid.of_grown g1 (fun k hk => by simp [Value.ownBlock] at hk; omega))
      have HO2 : Hid (OutsFrom (w1.setCell ⟨b, k * 2, none⟩ (.string (mtext z))) base ys k) := fun j y hj hyj => by
        have h3 := own_below (hout.out j y hj hyj) b1
        exact own_grew h3 g1 (own_ne h3 hown1 (by decide))
      have HOY : Hid ((w1.setCell ⟨b, k * 2, none⟩ (.string (mtext z))).ownsRow base 9 1 (.slice yA yl.length yc) yl.length (strs yl)) := oy1
      have HST := Lib.hid hst
      clear hown hown1 oy0 oy1 hout
      go_wp2_with fail
      refine (strs_markG yl base yA yc (z + 1) _ HOY.out hyl (by omega) (by omega)).mono ?_
      rintro e w3 ⟨rfl, _, g3⟩
      have hyb : ∀ q, (Value.slice yA yl.length yc).ownBlock = some q → base ≤ q ∧ q < hi := fun q hq => ⟨(World.ownsRow.lt HOY.out q hq).1, H2.out _ (List.mem_of_getElem? HY.out) q hq⟩
      have own3 := own_grew HST.out g3 (own_ne HST.out HOY.out (by decide))
      have m3 := m2.trans (Mid.of_grown g3 hyb)
      have HO3 : Hid (OutsFrom w3 base ys (k + 1)) := fun j y hj hyj => own_grew (HO2.out j y (by omega) hyj) g3 (fun q h1 h2 => HAP.out j k y _ hyj HY.out (by omega) q h1 h2)
      clear hc1 hcB hfB g1 hst
      go_wp2_with fail
      go_roundw
      case rel => exact ⟨k + 1, by omega, by go_num, ⟨_, rfl, by omega, by omega⟩, ⟨_, own3, HW2⟩, HO3, m3⟩
      case measure => simp [intOf]; omega
    · go_wp2_with fail
      go_ret
      exact ⟨⟨z, rfl, hz0, by omega⟩, hmid⟩

set_option maxRecDepth 100000 in
theorem strs_heldB (n : Nat) (k0 : Int) (A : Option Addr) (c : Nat) (w : World) (hw : Seg w 0 w.heap.size A (strs (marksStr k0 n))) (hn : n ≤ 1048576) (hk0 : 1 ≤ k0) (hk1 : k0 ≤ 1000) :
    Calls Try.prog 45 #[.slice A n c, .int .i64 k0] w fun e w' => e = .returned (.int .i64 (k0 + n)) ∧ Below w.heap.size w w' := by
  go_enter Try.func45, Try.ntmps45
  go_wp2_with fail
  go_loopw [1, 5] (fun q i wr => ∃ k : Nat, k ≤ n ∧ i = .int .i64 k ∧ q = .int .i64 (k0 + (k : Int)) ∧ Below w.heap.size w wr) (fun _ i _ => n - (intOf i).toNat)
  case atStart => exact ⟨0, Nat.zero_le _, rfl, by simp, Below.refl _ _⟩
  case round =>
    obtain ⟨k, hk, rfl, rfl, hb⟩ := hrel
    by_cases hlt : k < n
    · obtain ⟨g, o, rfl, hg, hcell⟩ := (hw.below hb).strk (marksStr_at k0 hlt)
      have q1 := cell_regrown hcell
      generalize hz : k0 + (k : Int) = z at *
      have hz0 : 1 ≤ z := by omega
      have hz1 : z ≤ 1000000000 := by omega
      have hzn : (ByteArray.toList (mtext z) != ByteArray.toList (mtext z)) = false := by simp
      have HZ := Lib.hid hz
      clear hcell hz
      go_wp2_with fail
      (refine wp_region_quiet_below (by kernel_rfl) (by kernel_rfl) ?_; (repeat (go_big_quiet_step (((go_at_call 80; exact Calls.regrown_of (laws_markText z _ hz0 (by omega))))))); refine wpQuiet_nil ?_; intro _ hw'; obtain ⟨⟨dq, osq⟩, hw''⟩ := hw'; subst hw'')
      have hq := below_regrown wr dq osq
      generalize grow (redrawn wr dq) osq = wq at *
      clear q1
      go_wp2_with fail
      go_roundw
      case rel => exact ⟨k + 1, by omega, by go_num, by rw [← HZ.out]; go_num, bel_trans hb hq⟩
      case measure => simp [intOf]; omega
    · obtain rfl : k = n := by omega
      go_wp2_with fail
      go_ret
      exact ⟨rfl, hb⟩
end Go.Proofs.Ytgddklafeaoleaa
