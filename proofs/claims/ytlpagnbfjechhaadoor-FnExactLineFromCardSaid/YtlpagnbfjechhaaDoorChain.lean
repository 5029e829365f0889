/-
  Contracts of the pens, of the chain of an outline and of OutlineValid.
-/
import Derived.Test.YtlpagnbfjechhaaDoorStks
namespace Go.Proofs.YtlpagnbfjechhaaDoor
open Go.RowKit Go.Sort
set_option linter.unusedSimpArgs false
set_option linter.unusedVariables false

/-! ### pens -/
def penOf (s : Stk) : Int := s.1 * 3 + s.2 - 1
def cornerZ (p q : Int) : Int := min ((q / 3 - p / 3 + 8) % 8) (8 - (q / 3 - p / 3 + 8) % 8)
def leads (p q : Int) : Bool := !decide (cornerZ p q = 0) && !decide (cornerZ p q = 4)
theorem penOf_dir {s : Stk} (h : stOk s = true) : penOf s / 3 = s.1 ∧ penOf s % 3 = s.2 - 1 ∧ 0 ≤ penOf s ∧ penOf s ≤ 23 := by
  have := stOk_iff.1 h
  unfold penOf
  omega
theorem leads_turns {a b : Stk} (ha : stOk a = true) (hb : stOk b = true) : leads (penOf a) (penOf b) = turns a b := by
  have h1 := stOk_iff.1 ha
  have h2 := stOk_iff.1 hb
  unfold leads turns cornerZ
  rw [(penOf_dir ha).1, (penOf_dir hb).1, Bool.eq_iff_iff]
  simp
  omega

theorem impl_pen_dir (p : Int) (w : World) (h0 : 0 ≤ p) (h1 : p ≤ 23) :
    Calls Tryd.prog 43 #[.int .i64 p] w fun e w' => e = .returned (.int .i64 (p / 3)) ∧ w = w' := by
  go_enter Tryd.func43, Tryd.ntmps43
  go_wp2
  go_ret
  exact ⟨rfl, rfl⟩
theorem impl_penOf (s : Stk) (w : World) (h : stOk s = true) :
    Calls Tryd.prog 39 #[.agg #[.int .i64 s.1, .int .i64 s.2]] w fun e w' => e = .returned (.int .i64 (penOf s)) ∧ w.alloc (stkB s) = w' := by
  obtain ⟨d, s⟩ := s
  have h' := stOk_iff.1 h
  obtain ⟨a, b, c, e⟩ := h'
  simp only at a b c e ⊢
  go_enter Tryd.func39, Tryd.ntmps39
  go_wp2
  go_ret
  exact ⟨rfl, rfl⟩
theorem impl_pen_corner (p q : Int) (w : World) (h0 : 0 ≤ p) (h1 : p ≤ 23) (h2 : 0 ≤ q) (h3 : q ≤ 23) :
    Calls Tryd.prog 42 #[.int .i64 p, .int .i64 q] w fun e w' => e = .returned (.int .i64 (cornerZ p q)) ∧ w = w' := by
  go_enter Tryd.func42, Tryd.ntmps42
  go_wp2_with (go_at_call 43; refine (impl_pen_dir _ _ (by omega) (by omega)).mono ?_; rintro e w' ⟨rfl, rfl⟩)
  all_goals
    go_ret
    exact ⟨ret_int (by unfold cornerZ; omega), rfl⟩
theorem impl_pen_canLead (p q : Int) (w : World) (h0 : 0 ≤ p) (h1 : p ≤ 23) (h2 : 0 ≤ q) (h3 : q ≤ 23) :
    Calls Tryd.prog 40 #[.int .i64 p, .int .i64 q] w fun e w' => e = .returned (.bool (leads p q)) ∧ w = w' := by
  cases hc : (cornerZ p q != 0)
  · go_enter Tryd.func40, Tryd.ntmps40
    go_wp2_with (go_at_call 42; refine (impl_pen_corner _ _ _ h0 h1 h2 h3).mono ?_; rintro e w' ⟨rfl, rfl⟩)
    go_ret
    exact ⟨ret_bool (by simp at hc; simp [leads, hc]), rfl⟩
  · go_enter Tryd.func40, Tryd.ntmps40
    go_wp2_with (go_at_call 42; refine (impl_pen_corner _ _ _ h0 h1 h2 h3).mono ?_; rintro e w' ⟨rfl, rfl⟩)
    go_ret
    exact ⟨ret_bool (by simp at hc; rw [Bool.eq_iff_iff]; simp [leads, hc]), rfl⟩

/-! ### the chain -/
def Chain (w : World) (lo : Nat) : Value → List Int → Prop
  | v, [] => v = .pointer none
  | v, p :: l => ∃ g q, v = .pointer (some ⟨g, 0, none⟩) ∧ lo ≤ g ∧ g < w.heap.size ∧ w.cell? ⟨g, 0, none⟩ = some (.int .i64 p) ∧ w.cell? ⟨g, 1, none⟩ = some q ∧ Chain w lo q l
theorem Chain.below {w w' : World} {lo : Nat} (hb : Below w.heap.size w w') : ∀ {l : List Int} {v : Value}, Chain w lo v l → Chain w' lo v l
  | [], _, h => h
  | _ :: _, _, ⟨g, q, h1, h2, h3, h4, h5, h6⟩ => ⟨g, q, h1, h2, Nat.lt_of_lt_of_le h3 hb.size, (hb.cell (p := ⟨g, 0, none⟩) h3).trans h4, (hb.cell (p := ⟨g, 1, none⟩) h3).trans h5, h6.below hb⟩
/-- what holds of an outline from a place on -/
def fromOk (os : List Stk) (k : Nat) : Bool := allTo (fun j => j < k || (stOk (stkAt os j) && (decide (j ≤ k) || turns (stkAt os (j - 1)) (stkAt os j)))) os.length
theorem fromOk_iff {os : List Stk} {k : Nat} : fromOk os k = true ↔ ∀ j, j < os.length → k ≤ j → stOk (stkAt os j) = true ∧ (k < j → turns (stkAt os (j - 1)) (stkAt os j) = true) := by
  rw [fromOk, allTo_iff]
  constructor
  · intro h j hj hk
    have := h j hj
    simp at this
    refine ⟨by rcases this with h | h; omega; exact h.1, fun hkj => ?_⟩
    rcases this with h | ⟨_, h | h⟩
    · omega
    · omega
    · exact h
  · intro h j hj
    simp
    by_cases hk : j < k
    · exact .inl hk
    · have := h j hj (by omega)
      refine .inr ⟨this.1, ?_⟩
      by_cases hkj : k < j
      · exact .inr (this.2 hkj)
      · exact .inl (by omega)
theorem fromOk_zero {os : List Stk} (h : fromOk os 0 = true) (hl : os.length ≤ 8) : outOk os = true := by
  simp only [outOk, Bool.and_eq_true, decide_eq_true_eq]
  refine ⟨hl, allTo_iff.2 fun i hi => ?_⟩
  have := fromOk_iff.1 h i hi (Nat.zero_le _)
  simp only [outAt, this.1, Bool.true_and, Bool.or_eq_true, beq_iff_eq]
  by_cases h0 : i = 0
  · exact .inl h0
  · exact .inr (this.2 (by omega))
theorem out_not_st {os : List Stk} {k : Nat} (hk : k < os.length) (h : stOk (stkAt os k) = false) : outOk os = false := by
  rw [outOk, allTo_not (k := k) (by rw [outAt, h]; rfl) hk, Bool.and_false]
theorem out_not_turn {os : List Stk} {k : Nat} (hk : k + 1 < os.length) (h : turns (stkAt os k) (stkAt os (k + 1)) = false) : outOk os = false := by
  rw [outOk, allTo_not (k := k + 1) (by simp [outAt, h]) hk, Bool.and_false]

theorem fromOk_step {os : List Stk} {k : Nat} (h : fromOk os (k + 1) = true) (hs : stOk (stkAt os k) = true) (ht : k + 1 < os.length → turns (stkAt os k) (stkAt os (k + 1)) = true) : fromOk os k = true := by
  refine fromOk_iff.2 fun j hj hkj => ?_
  by_cases e : j = k
  · subst e; exact ⟨hs, fun h => by omega⟩
  · have h1 := fromOk_iff.1 h j hj (by omega)
    refine ⟨h1.1, fun _ => ?_⟩
    by_cases e2 : j = k + 1
    · subst e2; exact ht hj
    · exact h1.2 (by omega)
theorem chain_push {w : World} {lo : Nat} {v : Value} {l : List Int} {t : TypeId} (h : Chain w lo v l) (hlo : lo ≤ w.heap.size) (p : Int) :
    Chain (w.alloc (.cells #[.int .i64 p, v] t)) lo (.pointer (some ⟨w.heap.size, 0, none⟩)) (p :: l) := by
  refine ⟨w.heap.size, v, rfl, hlo, by simp, ?_, ?_, h.below (bel_alloc (Below.refl _ _) _)⟩
  · rw [cell_of_row _ _ _ _ _ _ (heap_alloc_new w _)]; rfl
  · rw [cell_of_row _ _ _ _ _ _ (heap_alloc_new w _)]; rfl

def chained (w w' : World) (os : List Stk) (e : Ending) : Prop :=
  ∃ v, e = .returned (.tuple #[v, .bool (outOk os)]) ∧ Chain w' w.heap.size v (if outOk os then os.map penOf else []) ∧ Below w.heap.size w w'
theorem impl_chainOf (os : List Stk) (A : Option Addr) (c : Nat) (w : World) (hw : Seg w 0 w.heap.size A (flat stkC os)) (hn : os.length ≤ maxLen) :
    Calls Tryd.prog 33 #[.slice A os.length c] w fun e w' => chained w w' os e := by
  have hn' : os.length ≤ 9223372036854775807 := hn
  by_cases h2 : (8 : Int) < os.length
  · have HO : Hid (outOk os = false) := by rw [Hid, outOk, decide_eq_false (by omega), Bool.false_and]
    go_enter Tryd.func33, Tryd.ntmps33
    go_wp2
    go_ret2
    exact ⟨.pointer none, by rw [HO.out]; rfl, by rw [HO.out]; rfl, Below.refl _ _⟩
  go_enter Tryd.func33, Tryd.ntmps33
  go_wp2
  go_loopw [4, 5] (fun h i wr => ∃ k : Nat, k ≤ os.length ∧ i = .int .i64 ((k : Int) - 1) ∧ Hid (fromOk os k = true) ∧ Below w.heap.size w wr ∧ Hid (Chain wr w.heap.size h ((os.drop k).map penOf))) (fun _ i _ => ((intOf i) + 1).toNat)
  case atStart => exact ⟨os.length, Nat.le_refl _, rfl, fromOk_iff.2 (fun j h1 h2 => by omega), Below.refl _ _, by simp [Hid, Chain]⟩
  case round =>
    obtain ⟨k, hk, rfl, hl, hb, hch⟩ := hrel
    rcases k with _ | k
    · rw [show (((0 : Nat) : Int) - 1) = -1 by rfl]
      have HO : Hid (outOk os = true) := fromOk_zero hl.out (by omega)
      go_wp2
      go_ret2
      exact ⟨u4, by rw [HO.out]; rfl, by rw [HO.out]; exact hch.out, hb⟩
    · rw [show (((k + 1 : Nat) : Int) - 1) = (k : Int) by omega]
      obtain ⟨s, hs⟩ := get_lt (show k < os.length by omega)
      have HS := Lib.hid (stkAt_eq hs)
      obtain ⟨g, o, rfl, hg, _, _, hc1, hc2⟩ := (hw.below hb).stk hs
      cases hv : stOk s
      · have HO : Hid (outOk os = false) := out_not_st (k := k) (by omega) (by rw [HS.out, hv])
        clear hs
        go_wp2_with fail
        refine (impl_StrokeValid_of s false hv _).mono ?_
        rintro e w1 ⟨rfl, hb1⟩
        clear hc1 hc2
        go_wp2
        go_ret2
        exact ⟨.pointer none, by rw [HO.out]; rfl, by rw [HO.out]; rfl, hb.trans (hb1.mono hb.size)⟩
      · have hp := penOf_dir hv
        obtain ⟨hp1, hp2, hp3, hp4⟩ := hp
        have HP := Lib.hid hp1
        clear hp1 hp2
        have hdrop : Hid ((os.drop k).map penOf = penOf s :: (os.drop (k + 1)).map penOf) := by
          obtain ⟨h', rfl⟩ := List.getElem?_eq_some_iff.1 hs
          rw [Hid, List.drop_eq_getElem_cons h', List.map_cons]
        go_wp2_with fail
        refine (impl_StrokeValid_of s true hv _).mono ?_
        rintro e w1 ⟨rfl, hb1⟩
        have hb1' := hb.trans (hb1.mono hb.size)
        clear hc1 hc2
        obtain ⟨_, _, e', hg1, _, _, hc1, hc2⟩ := (hw.below hb1').stk hs
        injection e' with e'
        injection e' with e1 e2
        subst e1 e2
        go_wp2_with fail
        refine (impl_penOf s _ hv).mono ?_
        rintro e w2 ⟨rfl, rfl⟩
        have hb2' := bel_alloc hb1' (stkB s)
        have hch2 := Lib.hid (hch.out.below (hb1.trans (bel_alloc (Below.refl _ _) (stkB s) |>.mono hb1.size)))
        clear hc1 hc2
        generalize w1.alloc (stkB s) = w2 at *
        cases hd : (os.drop (k + 1)).map penOf with
        | nil =>
          have hu : u4 = .pointer none := by have := hch2.out; rw [hd] at this; exact this
          subst hu
          go_wp2
          have HF : Hid (fromOk os k = true) := fromOk_step hl.out (by rw [HS.out, hv]) (fun h => by
            have := congrArg List.length hd
            simp at this
            omega)
          have HC : Hid (Chain (w2.alloc (.cells #[.int .i64 (penOf s), .pointer none] 68)) w.heap.size (.pointer (some ⟨w2.heap.size, 0, none⟩)) ((os.drop k).map penOf)) := by
            rw [Hid, hdrop.out]
            exact chain_push hch2.out hb2'.size _
          clear hd
          go_roundw
          case rel => exact ⟨k, by omega, by go_num, HF, bel_alloc hb2' _, HC⟩
          case measure => simp [intOf]
        | cons q l =>
          have hlt : k + 1 < os.length := by
            have := congrArg List.length hd
            simp at this
            omega
          obtain ⟨s2, hs2⟩ := get_lt hlt
          have HS2 := Lib.hid (stkAt_eq hs2)
          have hv2 : stOk s2 = true := by have := (fromOk_iff.1 hl.out (k + 1) hlt (Nat.le_refl _)).1; rwa [HS2.out] at this
          have hq : q = penOf s2 := by
            obtain ⟨h', rfl⟩ := List.getElem?_eq_some_iff.1 hs2
            rw [List.drop_eq_getElem_cons h', List.map_cons] at hd
            injection hd with h1 h2
            exact h1.symm
          have hq2 := penOf_dir hv2
          rw [← hq] at hq2
          obtain ⟨_, _, hq3, hq4⟩ := hq2
          have hch3 := hch2.out
          rw [hd] at hch3
          obtain ⟨gh, qn, rfl, hgl, hgh, hcp, hcq, hrest⟩ := hch3
          have HR := Lib.hid hrest
          have HL := Lib.hid (leads_turns hv hv2)
          have HQ := Lib.hid hq
          have HD := Lib.hid hd
          clear hd hq hrest hs hs2
          cases hld : leads (penOf s) q
          · have HO : Hid (outOk os = false) := out_not_turn hlt (by rw [HS.out, HS2.out, ← HL.out, ← HQ.out, hld])
            go_wp2_with (go_at_call 40; refine (impl_pen_canLead _ _ _ hp3 hp4 hq3 hq4).mono ?_; rintro e w' ⟨rfl, rfl⟩; rw [hld])
            go_ret2
            exact ⟨.pointer none, by rw [HO.out]; rfl, by rw [HO.out]; rfl, hb2'⟩
          · have HF : Hid (fromOk os k = true) := fromOk_step hl.out (by rw [HS.out, hv]) (fun h => by rw [HS.out, HS2.out, ← HL.out, ← HQ.out, hld])
            have HC : Hid (Chain (w2.alloc (.cells #[.int .i64 (penOf s), .pointer (some ⟨gh, 0, none⟩)] 68)) w.heap.size (.pointer (some ⟨w2.heap.size, 0, none⟩)) ((os.drop k).map penOf)) := by
              rw [Hid, hdrop.out]
              exact chain_push hch2.out hb2'.size _
            go_wp2_with (go_at_call 40; refine (impl_pen_canLead _ _ _ hp3 hp4 hq3 hq4).mono ?_; rintro e w' ⟨rfl, rfl⟩; rw [hld])
            go_roundw
            case rel => exact ⟨k, by omega, by go_num, HF, bel_alloc hb2' _, HC⟩
            case measure => simp [intOf]

theorem impl_OutlineValid (os : List Stk) (A : Option Addr) (c : Nat) (w : World) (hw : Seg w 0 w.heap.size A (flat stkC os)) (hn : os.length ≤ maxLen) :
    Calls Tryd.prog 27 #[.slice A os.length c] w fun e w' => e = .returned (.bool (outOk os)) ∧ Below w.heap.size w w' := by
  go_enter Tryd.func27, Tryd.ntmps27
  go_wp2_with fail
  refine (impl_chainOf os A c _ hw hn).mono ?_
  rintro e w1 ⟨v, rfl, _, hb⟩
  go_wp2
  go_ret
  exact ⟨rfl, hb⟩
end Go.Proofs.YtlpagnbfjechhaaDoor
