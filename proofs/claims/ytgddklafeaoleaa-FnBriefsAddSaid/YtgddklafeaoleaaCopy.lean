/-
  Contracts of CopyRead and CopyCost (the program's).
-/
import Derived.Test.YtgddklafeaoleaaBrfW
namespace Go.Proofs.Ytgddklafeaoleaa
open Go.RowKit Go.Sort
set_option linter.unusedSimpArgs false
set_option linter.unusedVariables false

/-! ### plain -/
def brBy (bs : List PB) (t : Str) : Option PB := bs.find? fun b => decide (b.1 = t)
/-- the words for which a token stands -/
def crTok (bs : List PB) (t : Str) : Option (List Str) := match brBy bs t with
  | some b => some b.2
  | none => if wordOk t then some [t] else none
def crTo (bs : List PB) (ts : List Str) : Nat → Option (List Str)
  | 0 => some []
  | k + 1 => match crTo bs ts k, crTok bs (strAt ts k) with
    | some ws, some l => if (ws ++ l).length ≤ 20 then some (ws ++ l) else none
    | _, _ => none
def crOf (bs : List PB) (ts : List Str) : Option (List Str) := if bvOk bs then crTo bs ts ts.length else none
theorem crTo_none {bs : List PB} {ts : List Str} {k : Nat} (h : crTo bs ts k = none) : ∀ n, k ≤ n → crTo bs ts n = none
  | 0, hn => by obtain rfl : k = 0 := by omega
                exact h
  | n + 1, hn => by
    by_cases e : k = n + 1
    · subst e; exact h
    · rw [crTo, crTo_none h n (by omega)]
theorem crTo_step {bs : List PB} {ts : List Str} {k : Nat} {ws l : List Str} {t : Str} (h : crTo bs ts k = some ws) (ht : strAt ts k = t) (hl : crTok bs t = some l) (h20 : (ws ++ l).length ≤ 20) : crTo bs ts (k + 1) = some (ws ++ l) := by
  rw [crTo, h, ht, hl]; exact if_pos h20
theorem crTo_miss {bs : List PB} {ts : List Str} {k : Nat} {t : Str} (ht : strAt ts k = t) (hl : crTok bs t = none) : crTo bs ts (k + 1) = none := by
  rw [crTo, ht, hl]; split <;> simp_all
theorem crTo_long {bs : List PB} {ts : List Str} {k : Nat} {ws l : List Str} {t : Str} (h : crTo bs ts k = some ws) (ht : strAt ts k = t) (hl : crTok bs t = some l) (h20 : ¬ (ws ++ l).length ≤ 20) : crTo bs ts (k + 1) = none := by
  rw [crTo, h, ht, hl]; exact if_neg h20
theorem crOf_no {bs : List PB} {ts : List Str} (h : bvOk bs = false) : crOf bs ts = none := by rw [crOf, h]; rfl
theorem crOf_fail {bs : List PB} {ts : List Str} (hb : bvOk bs = true) {k : Nat} (hk : k < ts.length) (h : crTo bs ts (k + 1) = none) : crOf bs ts = none := by
  rw [crOf, hb]; exact crTo_none h _ (by omega)
theorem crOf_end {bs : List PB} {ts : List Str} (hb : bvOk bs = true) {ws : List Str} (h : crTo bs ts ts.length = some ws) : crOf bs ts = some ws := by rw [crOf, hb]; exact h
theorem brBy_hit {bs : List PB} {t : Str} {k : Nat} {b : PB} (hk : bs[k]? = some b) (he : b.1 = t) (hno : ∀ j, j < k → (pbAt bs j).1 ≠ t) : brBy bs t = some b := by
  induction bs generalizing k with
  | nil => simp at hk
  | cons y bs ih =>
    cases k with
    | zero => simp at hk; subst hk; simp [brBy, he]
    | succ k =>
      have h0 : y.1 ≠ t := hno 0 (by omega)
      have := ih (k := k) (by simpa using hk) (fun j hj => hno (j + 1) (by omega))
      simp only [brBy, List.find?_cons, decide_eq_false h0]
      exact this
theorem brBy_none {bs : List PB} {t : Str} (hno : ∀ j, j < bs.length → (pbAt bs j).1 ≠ t) : brBy bs t = none := by
  induction bs with
  | nil => rfl
  | cons y bs ih =>
    have h0 : y.1 ≠ t := hno 0 (by simp)
    have := ih (fun j hj => hno (j + 1) (by simp; omega))
    simp only [brBy, List.find?_cons, decide_eq_false h0]
    exact this
theorem cr_brief {bs : List PB} {t : Str} {b : PB} (h : brBy bs t = some b) : crTok bs t = some b.2 := by rw [crTok, h]
theorem cr_word {bs : List PB} {t : Str} (h : brBy bs t = none) (hw : wordOk t = true) : crTok bs t = some [t] := by rw [crTok, h, hw]; rfl
theorem cr_none {bs : List PB} {t : Str} (h : brBy bs t = none) (hw : wordOk t = false) : crTok bs t = none := by rw [crTok, h, hw]; rfl

def OwnS (w : World) (base : Nat) (v : Value) (ws : List Str) : Prop := w.ownsRow base 9 1 v ws.length (strs ws)
/-- what a function that returns a list of texts and whether there is one leaves -/
def GaveStrs (r : Option (List Str)) (w : World) (e : Ending) (w' : World) : Prop := ∃ v, e = .returned (.tuple #[v, .bool r.isSome]) ∧ OwnS w' w.heap.size v (r.getD []) ∧ Below w.heap.size w w'
theorem strs_one1 (xs : List Str) : ∀ u ∈ strs xs, u.oneCell' = true := by
  intro u hu
  simp only [strs, List.mem_map] at hu
  obtain ⟨x, _, rfl⟩ := hu
  rfl
theorem strs_app (a b : List Str) : strs (a ++ b) = strs a ++ strs b := by simp [strs]
theorem ownS_none (w : World) (base : Nat) : OwnS w base (.slice none 0 0) [] := ⟨rfl, .inl ⟨rfl, rfl⟩⟩
theorem ownS_made (w : World) (base H : Nat) (hH : w.heap.size = H) (hb : base ≤ H) : OwnS (w.alloc (.cells #[] 9)) base (.slice (some ⟨H, 0, none⟩) 0 0) [] := by
  subst hH; exact World.ownsRow_made w #[] 0 hb (by simp [maxLen]) (by simp)

/-! ### walks -/
theorem impl_markIs (m t : Str) (ws : List Str) (A : Option Addr) (c p : Nat) (w : World) (h1 : w.cell? ⟨p, 0, none⟩ = some (.string t)) :
    Calls Try.prog 78 #[.agg #[.string m, .slice A ws.length c], .pointer (some ⟨p, 0, none⟩)] w fun e w' => e = .returned (.bool (decide (m = t))) ∧ Below w.heap.size w w' := by
  have hp : p < w.heap.size := (cell_spot h1).2
  have bA := bel_alloc (Below.refl w.heap.size w) (.cells #[.string m, .slice A ws.length c] 35)
  have k1 := (bA.cell (p := ⟨p, 0, none⟩) hp).trans h1
  clear h1
  by_cases hm : m = t
  · subst hm
    have hbe : (ByteArray.toList m == ByteArray.toList m) = true := by simp
    go_enter Try.func78, Try.ntmps78
    go_wp2
    go_ret
    exact ⟨ret_bool (by simp), bA⟩
  · have hbe := str_ne hm
    have HM : Hid (decide (m = t) = false) := decide_eq_false hm
    clear hm
    go_enter Try.func78, Try.ntmps78
    go_wp2
    go_ret
    exact ⟨ret_bool HM.out.symm, bA⟩
def FoundB (bs : List PB) (t : Str) (i : Int) : Prop := (i = -1 ∧ brBy bs t = none) ∨ ∃ (k : Nat) (b : PB), i = k ∧ bs[k]? = some b ∧ brBy bs t = some b
theorem index_mark (xs : List Brf) (t : Str) (p : Nat) (A : Option Addr) (c : Nat) (w : World) (hw : Seg w 0 w.heap.size A (flat brfC xs)) (hn : xs.length ≤ maxLen) (h1 : w.cell? ⟨p, 0, none⟩ = some (.string t)) :
    Calls Try.prog 77 #[.slice A xs.length c, Value.func (Fn.func 78) #[] #[.pointer (some ⟨p, 0, none⟩)]] w fun e w' => (∃ i : Int, e = .returned (.int .i64 i) ∧ Hid (FoundB (pbsOf xs) t i)) ∧ Below w.heap.size w w' := by
  have hn' : xs.length ≤ 9223372036854775807 := hn
  have hp : p < w.heap.size := (cell_spot h1).2
  go_enter Try.func77, Try.ntmps77
  go_wp2
  go_loopw [8] (fun i wr => ∃ j : Nat, j ≤ xs.length ∧ i = .int .i64 j ∧ Hid (∀ q, q < j → (pbAt (pbsOf xs) q).1 ≠ t) ∧ Below w.heap.size w wr) (fun i _ => xs.length - (intOf i).toNat)
  case atStart => exact ⟨0, Nat.zero_le _, rfl, fun q hq => by omega, Below.refl _ _⟩
  case round =>
    obtain ⟨j, hj, rfl, hno, hb⟩ := hrel
    have K1 := Lib.hid ((hb.cell (p := ⟨p, 0, none⟩) hp).trans h1)
    by_cases hlt : j < xs.length
    · obtain ⟨⟨ym, yA, yc, yl⟩, hy⟩ := get_lt hlt
      obtain ⟨g, o, rfl, hg, _, _, e1, e2⟩ := (hw.below hb).brf hy
      simp only [rowV] at e1 e2
      have HP := Lib.hid (pbAt_of hy)
      have HY := Lib.hid (pbsOf_at hy)
      clear hy
      by_cases he : ym = t
      · have HF : Hid (FoundB (pbsOf xs) t j) := .inr ⟨j, (ym, yl), rfl, HY.out, brBy_hit HY.out he hno.out⟩
        have hd : decide (ym = t) = true := decide_eq_true he
        have HE := Lib.hid he
        clear he
        go_wp2_with (go_at_call 78; refine (impl_markIs ym t yl _ _ _ _ K1.out).mono ?_; rintro e w1 ⟨rfl, b1⟩; rw [hd])
        go_ret
        exact ⟨⟨_, rfl, HF⟩, hb.trans (b1.mono hb.size)⟩
      · have HN : Hid (∀ q, q < j + 1 → (pbAt (pbsOf xs) q).1 ≠ t) := by
          intro q hq
          by_cases e : q = j
          · subst e; rw [HP.out]; exact he
          · exact hno.out q (by omega)
        have hd : decide (ym = t) = false := decide_eq_false he
        have HE := Lib.hid he
        clear he
        go_wp2_with (go_at_call 78; refine (impl_markIs ym t yl _ _ _ _ K1.out).mono ?_; rintro e w1 ⟨rfl, b1⟩; rw [hd])
        have hb1 := hb.trans (b1.mono hb.size)
        clear b1
        go_roundw
        case rel => exact ⟨j + 1, by omega, by go_num, HN, hb1⟩
        case measure => simp [intOf]; omega
    · have HF : Hid (FoundB (pbsOf xs) t (-1)) := .inl ⟨rfl, brBy_none fun q hq => hno.out q (by rw [pbsOf_len] at hq; omega)⟩
      go_wp2
      go_ret
      exact ⟨⟨_, rfl, HF⟩, hb⟩

set_option maxRecDepth 100000 in
set_option maxHeartbeats 2000000 in
theorem impl_CopyRead (xs : List Brf) (ts : List Str) (A B : Option Addr) (c d : Nat) (w : World) (hw : Seg w 0 w.heap.size A (flat brfC xs)) (ho : BrfsAt w xs) (hv : Seg w 0 w.heap.size B (strs ts)) (hp : StrsOk ts) (hn : xs.length ≤ maxLen) (hc : xs.length ≤ c) (hcm : c ≤ maxLen) (hm : ts.length ≤ maxLen) :
    Calls Try.prog 42 #[.slice A xs.length c, .slice B ts.length d] w (GaveStrs (crOf (pbsOf xs) ts) w) := by
  have hm' : ts.length ≤ 9223372036854775807 := hm
  cases hbv : bvOk (pbsOf xs)
  · have HO : Hid (crOf (pbsOf xs) ts = none) := crOf_no hbv
    go_enter Try.func42, Try.ntmps42
    go_wp2_with fail
    refine (impl_BriefsValid xs A c _ hw ho hn hc hcm).mono ?_
    rintro e w1 ⟨rfl, b1⟩
    rw [hbv]
    go_wp2_with fail
    go_ret2
    exact ⟨_, by rw [HO.out]; rfl, by rw [HO.out]; exact ownS_none _ _, b1⟩
  have hx8 : xs.length ≤ 8 := by have := bv_len hbv; rwa [pbsOf_len] at this
  have hB1 : ∀ {w1 : World}, Below w.heap.size w w1 → w.heap.size ≤ w1.heap.size := fun h => h.size
  go_enter Try.func42, Try.ntmps42
  go_wp2_with fail
  refine (impl_BriefsValid xs A c _ hw ho hn hc hcm).mono ?_
  rintro e w1 ⟨rfl, b1⟩
  rw [hbv]
  have own0 := ownS_made w1 w.heap.size _ rfl b1.size
  have b0 := bel_alloc b1 (.cells #[] 9)
  go_wp2_with fail
  go_loopw [6, 16] (fun v i wr => ∃ k : Nat, ∃ ws : List Str, k ≤ ts.length ∧ i = .int .i64 k ∧ ws.length ≤ 20 ∧ wr.ownsRow w.heap.size 9 1 v ws.length (strs ws) ∧ Hid (crTo (pbsOf xs) ts k = some ws) ∧ Below w.heap.size w wr) (fun _ i _ => ts.length - (intOf i).toNat)
  case atStart => exact ⟨0, [], Nat.zero_le _, rfl, by simp, own0, rfl, b0⟩
  case round =>
    obtain ⟨k, ws, hk, rfl, hwl, hown, hcr, hb⟩ := hrel
    by_cases hlt : k < ts.length
    · obtain ⟨t, ht⟩ := get_lt hlt
      have HTA := Lib.hid (strAt_eq ht)
      have htm := hp.at_ ht
      obtain ⟨g, o, rfl, hg, hcell⟩ := (hv.below hb).strk ht
      have bX := bel_alloc hb (.cells #[.string t] 9)
      have own1 := hown.alloc (.cells #[.string t] 9)
      have bx : (wr.alloc (.cells #[.string t] 9)).cell? ⟨wr.heap.size, 0, none⟩ = some (.string t) := box_cell _ _ _ 0
      have HIX := Lib.hid (index_mark xs t wr.heap.size A c _ (hw.below bX).top hn bx)
      clear ht bx hown
      go_wp2_with fail
      refine HIX.out.mono ?_
      rintro e w3 ⟨⟨i, rfl, hf⟩, b3⟩
      have kx : w3.cell? ⟨wr.heap.size, 0, none⟩ = some (.string t) := box_later b3 0
      have hb3 := bX.trans (b3.mono bX.size)
      have own3 := own_below own1 b3
      have hB3 := hb3.size
      clear HIX own1 b3 hcell
      rcases hf.out with ⟨rfl, hnone⟩ | ⟨q, b, rfl, hbq, hsome⟩
      · cases hwk : wordOk t
        · have HO : Hid (crOf (pbsOf xs) ts = none) := crOf_fail hbv hlt (crTo_miss HTA.out (cr_none hnone hwk))
          have HN := Lib.hid hnone
          clear hnone own3
          go_wp2_with (go_at_call 79; refine (impl_WordValid _ _ htm).mono ?_; rintro e w' ⟨rfl, rfl⟩; rw [hwk])
          go_ret2
          exact ⟨_, by rw [HO.out]; rfl, by rw [HO.out]; exact ownS_none _ _, hb3⟩
        · have HCT : Hid (crTok (pbsOf xs) t = some [t]) := cr_word hnone hwk
          clear hnone
          have HL : Hid ((ws ++ [t]).length = ws.length + 1) := List.length_append
          by_cases h20 : ws.length + 1 ≤ 20
          · have h20i : ¬ (20 : Int) < (ws.length : Int) + 1 := by omega
            have HCS := Lib.hid (crTo_step hcr.out HTA.out HCT.out (by rw [HL.out]; exact h20))
            go_wp2_with (first
              | (go_at_call 79; refine (impl_WordValid _ _ htm).mono ?_; rintro e w' ⟨rfl, rfl⟩; rw [hwk])
              | (at_builtin; refine append_one w3 (by rfl) (.tmp 36) (.tmp 38) 30 (by rfl) (w.heap.size) 9 _ 1 16 Try.underlying30 info_str rfl (by decide) (by decide) (_) _ _ (by rfl) own3 #[.string t] (by rfl) rfl (by simp [Value.oneCell']) (by omega) hB3 ?_; intro v' w4 hown' hgrow
                 obtain ⟨A4, c4, hv4, _, _⟩ := own_form hown'
                 subst hv4
                 have R1 : w4.ownsRow w.heap.size 9 1 (.slice A4 (ws.length + 1) c4) (ws ++ [t]).length (strs (ws ++ [t])) := (by rw [HL.out, strs_app]; exact hown')
                 have R2 := own_grown_below hb3 own3 hgrow hB3
                 clear hown' hgrow own3 kx))
            go_roundw
            case rel => exact ⟨k + 1, ws ++ [t], by omega, by go_num, by rw [HL.out]; exact h20, R1, HCS, R2⟩
            case measure => simp [intOf]; omega
          · have h20i : (20 : Int) < (ws.length : Int) + 1 := by omega
            have HO : Hid (crOf (pbsOf xs) ts = none) := crOf_fail hbv hlt (crTo_long hcr.out HTA.out HCT.out (by rw [HL.out]; exact h20))
            go_wp2_with (first
              | (go_at_call 79; refine (impl_WordValid _ _ htm).mono ?_; rintro e w' ⟨rfl, rfl⟩; rw [hwk])
              | (at_builtin; refine append_one w3 (by rfl) (.tmp 36) (.tmp 38) 30 (by rfl) (w.heap.size) 9 _ 1 16 Try.underlying30 info_str rfl (by decide) (by decide) (_) _ _ (by rfl) own3 #[.string t] (by rfl) rfl (by simp [Value.oneCell']) (by omega) hB3 ?_; intro v' w4 hown' hgrow
                 obtain ⟨A4, c4, hv4, _, _⟩ := own_form hown'
                 subst hv4
                 have R2 := own_grown_below hb3 own3 hgrow hB3
                 clear hown' hgrow own3 kx))
            go_ret2
            exact ⟨_, by rw [HO.out]; rfl, by rw [HO.out]; exact ownS_none _ _, R2⟩
      · have hql : q < xs.length := by have := (List.getElem?_eq_some_iff.1 hbq).1; rwa [pbsOf_len] at this
        obtain ⟨⟨xm, xA, xc, xl⟩, hs⟩ := get_lt hql
        have hbe : (xm, xl) = b := by rw [pbsOf_at hs] at hbq; injection hbq
        have HCT : Hid (crTok (pbsOf xs) t = some xl) := by rw [Hid, cr_brief hsome, ← hbe]
        have hx3 : xl.length ≤ 3 := by
          have := (bv_words hbv (k := q) (by rw [pbsOf_len]; exact hql)).2
          rwa [pbAt_of hs] at this
        obtain ⟨g2, o2, rfl, hg2, _, hgw2, hc1, hc2⟩ := (hw.below hb3).brf hs
        simp only [rowV] at hc1 hc2
        have hxw := ((ho _ (List.mem_of_getElem? hs)).below hb3).2.1
        simp only at hxw
        have HL : Hid ((ws ++ xl).length = ws.length + xl.length) := List.length_append
        have HL1 : Hid ((strs xl).length = xl.length * 1) := by simp [Hid, strs]
        have H1A := Lib.hid (strs_one1 xl)
        have hqi : (0 : Int) ≤ (q : Int) := by omega
        have HBE := Lib.hid hbe
        have HSM := Lib.hid hsome
        have HBQ := Lib.hid hbq
        clear hs hbe hsome hbq kx
        by_cases h20 : ws.length + xl.length ≤ 20
        · have h20i : ¬ (20 : Int) < (ws.length : Int) + (xl.length : Int) := by omega
          have HCS := Lib.hid (crTo_step hcr.out HTA.out HCT.out (by rw [HL.out]; exact h20))
          go_wp2_with (at_builtin; refine append_seg _ (by rfl) (.tmp 26) (.tmp 31) 30 (by rfl) (w.heap.size) 9 _ 1 16 Try.underlying30 info_str rfl (by decide) (by decide) (_) _ _ (by rfl) own3 xA xl.length xc (strs xl) _ _ (by rfl) hxw HL1.out H1A.out (by omega) hB3 ?_; intro v' w4 hown' hgrow; obtain ⟨A4, c4, hv4, _, _⟩ := own_form hown'; subst hv4)
          have R1 : w4.ownsRow w.heap.size 9 1 (.slice A4 (ws.length + xl.length) c4) (ws ++ xl).length (strs (ws ++ xl)) := by rw [HL.out, strs_app]; exact hown'
          have R2 := own_grown_below hb3 own3 hgrow hB3
          clear hown' hgrow own3 hc1 hc2 hxw
          go_wp2_with fail
          go_roundw
          case rel => exact ⟨k + 1, ws ++ xl, by omega, by go_num, by rw [HL.out]; exact h20, R1, HCS, R2⟩
          case measure => simp [intOf]; omega
        · have h20i : (20 : Int) < (ws.length : Int) + (xl.length : Int) := by omega
          have HO : Hid (crOf (pbsOf xs) ts = none) := crOf_fail hbv hlt (crTo_long hcr.out HTA.out HCT.out (by rw [HL.out]; exact h20))
          go_wp2_with (at_builtin; refine append_seg _ (by rfl) (.tmp 26) (.tmp 31) 30 (by rfl) (w.heap.size) 9 _ 1 16 Try.underlying30 info_str rfl (by decide) (by decide) (_) _ _ (by rfl) own3 xA xl.length xc (strs xl) _ _ (by rfl) hxw HL1.out H1A.out (by omega) hB3 ?_; intro v' w4 hown' hgrow; obtain ⟨A4, c4, hv4, _, _⟩ := own_form hown'; subst hv4)
          have R2 := own_grown_below hb3 own3 hgrow hB3
          clear hown' hgrow own3 hc1 hc2 hxw
          go_wp2_with fail
          go_ret2
          exact ⟨_, by rw [HO.out]; rfl, by rw [HO.out]; exact ownS_none _ _, R2⟩
    · have HO : Hid (crOf (pbsOf xs) ts = some ws) := by
        obtain rfl : k = ts.length := by omega
        exact crOf_end hbv hcr.out
      have HOW := Lib.hid hown
      clear hown
      go_wp2_with fail
      go_ret2
      exact ⟨_, by rw [HO.out]; rfl, by rw [HO.out]; exact HOW.out, hb⟩
end Go.Proofs.Ytgddklafeaoleaa
