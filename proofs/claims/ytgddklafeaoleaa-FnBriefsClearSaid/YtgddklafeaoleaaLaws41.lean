/-
  Walk of the law FnBriefsClear.
-/
import Derived.Test.YtgddklafeaoleaaDrawC
import Derived.Test.YtgddklafeaoleaaBrfC
import Derived.Test.YtgddklafeaoleaaManyS
import Derived.Test.YtgddklafeaoleaaVarL
import Derived.IntWalk
import Derived.Deep.RegionHeld3
namespace Go.Proofs.Ytgddklafeaoleaa
open Go.RowKit Go.Sort
set_option linter.unusedSimpArgs false
set_option linter.unusedVariables false

theorem impl_CopyManyK (ys : List Brf) (ws : List Str) (n : Nat) (hn : ws.length = n) (A B : Option Addr) (c d : Nat) (w : World) (hy : BrfsIn w A c ys) (hw : Seg w 0 w.heap.size B (strs ws)) (ho : StrsOk ws) (hd : n ≤ d) (hdm : d ≤ maxLen) :
    Calls Try.prog 22 #[.slice A ys.length c, .slice B n d] w fun e w' => e = .returned (.int .i64 (manyOf (pbsOf ys) ws)) ∧ Below w.heap.size w w' := by
  subst hn
  exact impl_CopyMany ys ws A B c d w hy.seg hy.ats hw ho (Nat.le_trans hy.lc hy.cm) hy.lc hy.cm hd hdm
theorem impl_ClearK (ys : List Brf) (n : Nat) (hn : ys.length = n) (A : Option Addr) (c : Nat) (w : World) (hy : BrfsIn w A c ys) :
    Calls Try.prog 20 #[.slice A n c] w fun e w' => e = .returned (.bool (clOk (pbsOf ys))) ∧ Below w.heap.size w w' := by
  subst hn
  exact impl_BriefsClear ys A c w hy.seg hy.ats (Nat.le_trans hy.lc hy.cm) hy.lc hy.cm
theorem pbAt_take {bs : List PB} {k j : Nat} (h : j < k) : pbAt (bs.take k) j = pbAt bs j := by
  simp [pbAt, List.getD, List.getElem?_take, h]
theorem bv_take {bs : List PB} (h : bvOk bs = true) (k : Nat) : bvOk (bs.take k) = true := by
  simp only [bvOk, Bool.and_eq_true, decide_eq_true_eq] at h ⊢
  obtain ⟨h1, h2⟩ := h
  refine ⟨by rw [List.length_take]; omega, allTo_iff.2 fun j hj => ?_⟩
  rw [List.length_take] at hj
  have h3 := allTo_iff.1 h2 j (by omega)
  simp only [bvAt, Bool.and_eq_true] at h3 ⊢
  rw [pbAt_take (by omega)]
  refine ⟨h3.1, allTo_iff.2 fun i hi => ?_⟩
  have h4 := allTo_iff.1 h3.2 i hi
  rwa [pbAt_take (by omega)]
theorem clear_take {bs : List PB} (h : clOk bs = true) (k : Nat) : clOk (bs.take k) = true := by
  simp only [clOk, Bool.and_eq_true] at h ⊢
  refine ⟨bv_take h.1 k, allDiff_iff.2 ?_⟩
  have h1 := allDiff_iff.1 h.2
  obtain ⟨r, hr⟩ := allWords_prefix bs k
  rw [hr, List.pairwise_append] at h1
  exact h1.1
theorem clear_many {bs : List PB} (h : clOk bs = true) {i k : Nat} {a b : PB} (hi : bs[i]? = some a) (hk : bs[k]? = some b) : manyOf bs (a.2 ++ b.2) = 4 ∧ a.2.length ≤ 3 ∧ b.2.length ≤ 3 := by
  have hb : bvOk bs = true := by simp only [clOk, Bool.and_eq_true] at h; exact h.1
  have hil : i < bs.length := (List.getElem?_eq_some_iff.1 hi).1
  have hkl : k < bs.length := (List.getElem?_eq_some_iff.1 hk).1
  have f := clear_four h hil hkl
  have w1 := bv_words hb hil
  have w2 := bv_words hb hkl
  have p1 := (bv_at hb hil).1
  have p2 := (bv_at hb hkl).1
  rw [pbAt_eq hi] at f w1 p1
  rw [pbAt_eq hk] at f w2 p2
  have word : ∀ {p : PB}, pbOk p = true → ∀ s ∈ p.2, wordOk s = true := by
    intro p hp s hs
    simp only [pbOk, threeOk, Bool.and_eq_true] at hp
    obtain ⟨j, hj, he⟩ := List.getElem_of_mem hs
    have h1 := allTo_iff.1 hp.2.2 j hj
    rwa [strAt_eq (List.getElem?_eq_some_iff.2 ⟨hj, he⟩)] at h1
  have hsp : speechOk (a.2 ++ b.2) = true := by
    refine speechOk_iff.2 ⟨by rw [List.length_append]; omega, fun s hs => ?_⟩
    rcases List.mem_append.1 hs with h' | h'
    · exact word p1 s h'
    · exact word p2 s h'
  refine ⟨?_, w1.2, w2.2⟩
  rw [manyOf, cpOk, hb, hsp]
  exact f

set_option maxRecDepth 100000 in
set_option maxHeartbeats 2000000 in
theorem walk_FnBriefsClear (r0 r1 : Row UInt8) (w : World) (h0 : RowOk w byteC (fun _ => True) r0) (h1 : RowOk w byteC (fun _ => True) r1) : Calls Try.prog 9 #[rowV r0, rowV r1] w fun e w' => e = .returned (.bool true) ∧ Below w.heap.size w w' := by
  obtain ⟨A, c, l⟩ := r0
  obtain ⟨hw, _, hc, hm⟩ := h0
  obtain ⟨A0, c0, l1⟩ := r1
  obtain ⟨_, _, hc1, hm1⟩ := h1
  simp only at hw hc hm hc1 hm1
  have hm' : c ≤ 9223372036854775807 := hm
  have hm1' : c0 ≤ 9223372036854775807 := hm1
  show Calls Try.prog 9 #[.slice A l.length c, .slice A0 l1.length c0] w _
  by_cases hl : (1048576 : Int) < l.length
  · go_enter Try.func9, Try.ntmps9
    go_wp2
    go_ret
    exact ⟨rfl, Below.refl _ _⟩
  by_cases hl1 : (1048576 : Int) < l1.length
  · go_enter Try.func9, Try.ntmps9
    go_wp2
    go_ret
    exact ⟨rfl, Below.refl _ _⟩
  go_enter Try.func9, Try.ntmps9
  go_wp2_with fail
  refine (spec_DrawBriefsClear l A c _ hw hc hm).mono ?_
  rintro e w1 ⟨A1, c1, ys, rfl, I1, b1⟩
  have hcm' : c1 ≤ 9223372036854775807 := I1.cm
  have hlc := I1.lc
  have hys5 := I1.len
  go_wp2_with fail
  refine (impl_ClearK ys _ rfl A1 c1 _ I1).mono ?_
  rintro e w2 ⟨rfl, b2⟩
  have I2 := I1.below b2
  have B2 := bel_trans b1 b2
  clear I1 b1 b2
  go_wp2_with fail
  refine (spec_BriefsClear ys A1 c1 _ I2.seg I2.ats (Nat.le_trans hlc I2.cm)).mono ?_
  rintro e w3 ⟨rfl, b3⟩
  have I3 := I2.below b3
  have B3 := bel_trans B2 b3
  clear I2 B2 b3
  cases hok : clOk (pbsOf ys)
  · go_wp2
    go_ret
    exact ⟨rfl, B3⟩
  by_cases hn2 : ys.length < 2
  · have h2i : (ys.length : Int) < 2 := by omega
    have hd2 : decide ((ys.length : Int) < 2) = true := decide_eq_true h2i
    go_wp2_with fail
    refine (impl_ClearK [] 0 rfl A1 c1 _ ⟨Seg.nil, fun y hy => by simp at hy, talkB_nil, by simp, by simp, I3.cm⟩).mono ?_
    rintro e w4 ⟨rfl, b4⟩
    have B4 := bel_trans B3 b4
    have hz : clOk (pbsOf []) = true := by rfl
    rw [hz]
    clear I3 B3
    go_wp2
    go_ret
    exact ⟨rfl, B4⟩
  have h2i : ¬ (ys.length : Int) < 2 := by omega
  have hd2 : decide ((ys.length : Int) < 2) = false := decide_eq_false h2i
  have hi0 : l1.length % ys.length < ys.length := Nat.mod_lt _ (by omega)
  have q1 : ((l1.length : Int)).tmod ((ys.length : Int)) = ((l1.length % ys.length : Nat) : Int) := rfl
  have q2 : ((l1.length : Int)) % ((ys.length : Int)) = ((l1.length % ys.length : Nat) : Int) := by simp
  have q3 : ((l1.length : Int)).tdiv 7 = ((l1.length / 7 : Nat) : Int) := rfl
  have q4 : ((l1.length : Int)) / 7 = ((l1.length / 7 : Nat) : Int) := by simp
  have e0 : IntKind.i64.wrap ((ys.length : Int) - 1) = (ys.length : Int) - 1 := IntWalk.i64_in _ (by omega)
  have en : (ys.length : Int) - 1 = ((ys.length - 1 : Nat) : Int) := by omega
  have hj0 : (l1.length / 7) % (ys.length - 1) < ys.length - 1 := Nat.mod_lt _ (by omega)
  have q5 : (((l1.length / 7 : Nat) : Int)).tmod ((ys.length : Int) - 1) = (((l1.length / 7) % (ys.length - 1) : Nat) : Int) := by rw [en]; rfl
  have q6 : (((l1.length / 7 : Nat) : Int)) % ((ys.length : Int) - 1) = (((l1.length / 7) % (ys.length - 1) : Nat) : Int) := by rw [en]; simp
  clear en
  generalize l1.length % ys.length = i0 at *
  generalize l1.length / 7 = d0 at *
  generalize d0 % (ys.length - 1) = j0 at *
  have e1 : IntKind.i64.wrap ((i0 : Int) + 1) = (i0 : Int) + 1 := IntWalk.i64_in _ (by omega)
  have e2 : IntKind.i64.wrap ((i0 : Int) + 1 + (j0 : Int)) = (i0 : Int) + 1 + (j0 : Int) := IntWalk.i64_in _ (by omega)
  have hk0 : (i0 + 1 + j0) % ys.length < ys.length := Nat.mod_lt _ (by omega)
  have q7 : ((i0 : Int) + 1 + (j0 : Int)).tmod ((ys.length : Int)) = (((i0 + 1 + j0) % ys.length : Nat) : Int) := rfl
  have q8 : ((i0 : Int) + 1 + (j0 : Int)) % ((ys.length : Int)) = (((i0 + 1 + j0) % ys.length : Nat) : Int) := by simp
  generalize (i0 + 1 + j0) % ys.length = k0 at *
  have z1 : ¬ ((ys.length : Int) = 0) := by omega
  have z2 : ¬ ((ys.length : Int) - 1 = 0) := by omega
  have z3 : ¬ ys = [] := fun e => by rw [e] at hn2; simp at hn2
  obtain ⟨⟨aM, aA, aC, aL⟩, hsa⟩ := get_lt hi0
  obtain ⟨⟨bM, bA, bC, bL⟩, hsb⟩ := get_lt hk0
  obtain ⟨hman, hla, hlb⟩ := clear_many hok (pbsOf_at hsa) (pbsOf_at hsb)
  simp only at hman hla hlb
  have HMAN := Lib.hid hman
  have HTK := Lib.hid (clear_take hok i0)
  have hsA := (I3.ats _ (List.mem_of_getElem? hsa)).2
  have hsB := (I3.ats _ (List.mem_of_getElem? hsb)).2
  simp only at hsA hsB
  have SGA := Lib.hid hsA.1
  have SGB := Lib.hid hsB.1
  have OKAB : Hid (StrsOk (aL ++ bL)) := by
    intro s hs
    rcases List.mem_append.1 hs with h' | h'
    · exact hsA.2.1 s h'
    · exact hsB.2.1 s h'
  have I4 := Lib.hid I3
  obtain ⟨g, o, rfl, hg, _, _, ha1, ha2⟩ := I3.seg.brf hsa
  obtain ⟨g', o', he, _, _, _, hb1, hb2⟩ := I3.seg.brf hsb
  injection he with he
  injection he with hg' ho'
  subst hg' ho'
  simp only [rowV] at ha2 hb2
  have hii : (i0 : Int) < (ys.length : Int) := by omega
  have hki : (k0 : Int) < (ys.length : Int) := by omega
  clear hman hsa hsb hsA hsB ha1 hb1 hok I3
  go_wp2
  have hS : ∀ w', Below w3.heap.size w3 w' → w'.cell? ⟨g, o + i0 * 2 + 1, none⟩ = some (.slice aA aL.length aC) ∧ w'.cell? ⟨g, o + k0 * 2 + 1, none⟩ = some (.slice bA bL.length bC) := fun w' h => ⟨(h.cell (p := ⟨g, o + i0 * 2 + 1, none⟩) hg).trans ha2, (h.cell (p := ⟨g, o + k0 * 2 + 1, none⟩) hg).trans hb2⟩
  have hS1 := hS _ (Below.refl _ _)
  have bx1 : Below w3.heap.size w3 (w3.alloc (.cells #[] 9)).drew := (bel_alloc (Below.refl _ _) _).drew
  have o1 : (w3.alloc (.cells #[] 9)).drew.ownsRow w3.heap.size 9 1 (.slice (some ⟨w3.heap.size, 0, none⟩) 0 0) 0 [] := (World.ownsRow_made w3 #[] 0 (Nat.le_refl _) (by simp [maxLen]) (by simp)).drew
  have s1 := (SGA.out.below bx1).top
  have hsB : ∀ w', Below w3.heap.size w3 w' → Seg w' 0 w'.heap.size bA (strs bL) := fun w' h => (SGB.out.below h).top
  have fl1 : Hid ((strs aL).length = aL.length * 1) := by simp [Hid, strs]
  have fl2 : Hid ((strs bL).length = bL.length * 1) := by simp [Hid, strs]
  have H1A := Lib.hid (strs_one1 aL)
  have H1B := Lib.hid (strs_one1 bL)
  go_region_held3 (fun w' => w'.cell? ⟨g, o + i0 * 2 + 1, none⟩ = some (.slice aA aL.length aC) ∧ w'.cell? ⟨g, o + k0 * 2 + 1, none⟩ = some (.slice bA bL.length bC)) (first | exact hS1 | exact hS _ (Below.refl _ _) | exact hS _ (bel_alloc (Below.refl _ _) _) | exact hS _ (Below.refl _ _).drew | exact hS _ bx1 | go_keep)
    (first
      | (refine step_append_seg _ (by rfl) (.tmp 58) (.tmp 63) 30 (by rfl) (w3.heap.size) 9 _ 1 16 Try.underlying30 info_str rfl (by decide) (by decide) (_) _ _ (by rfl) o1 aA aL.length aC (strs aL) _ _ (by rfl) s1 fl1.out H1A.out (by omega) bx1.size ?_; intro v1 w4 own1 g1; rw [Nat.zero_add, List.nil_append] at own1; have b1x := own_grown_below bx1 o1 g1 bx1.size; have hS1 := hS w4 b1x; have s2 := hsB w4 b1x)
      | (refine step_append_seg _ (by rfl) (.tmp 64) (.tmp 69) 30 (by rfl) (w3.heap.size) 9 _ 1 16 Try.underlying30 info_str rfl (by decide) (by decide) (_) _ _ (by rfl) own1 bA bL.length bC (strs bL) _ _ (by rfl) s2 fl2.out H1B.out (by omega) b1x.size ?_; intro v2 w5 own2 g2; have b2x := own_grown_below b1x own1 g2 b1x.size; have hS1 := hS w5 b2x))
  all_goals
    have own3 : w5.ownsRow w3.heap.size 9 1 v2 (aL.length + bL.length) (strs (aL ++ bL)) := by rw [strs_append]; exact own2
    obtain ⟨A5, c5, rfl, h5a, h5b⟩ := own_form own3
    have I5 := I4.out.below b2x
    have B5 := bel_trans B3 b2x
    have HCL := Lib.hid (impl_ClearK (ys.take i0) i0 (by rw [List.length_take]; omega) _ _ _ (I5.take i0))
    rw [pbsOf_take, HTK.out] at HCL
    have sg5 := (Seg.of_own own3).mono (lo' := 0) (Nat.zero_le _) (Nat.le_refl _)
    have HMC : Hid (∀ w', Below w5.heap.size w5 w' → Calls Try.prog 22 #[.slice (some ⟨g, o, none⟩) ys.length c1, .slice A5 (aL.length + bL.length) c5] w' fun e w'' => e = .returned (.int .i64 4) ∧ Below w'.heap.size w' w'') := by
      intro w' hb
      have := impl_CopyManyK ys (aL ++ bL) (aL.length + bL.length) List.length_append _ A5 _ c5 w' (I5.below hb) (sg5.below hb).top OKAB.out h5a h5b
      rwa [HMAN.out] at this
    clear own1 own2 own3 g1 g2 b1x b2x hS hS1 bx1 o1 s1 s2 hsB I5 sg5 ha2 hb2 B3
    have hik : (i0 : Int) ≤ (c1 : Int) := by omega
    go_wp2_with fail
    refine HCL.out.mono ?_
    rintro e w6 ⟨rfl, b6⟩
    have B6 := bel_trans B5 b6
    have HMD := Lib.hid (HMC.out w6 b6)
    clear HCL HMC B5
    go_wp2_with fail
    refine HMD.out.mono ?_
    rintro e w7 ⟨rfl, b7⟩
    have B7 := bel_trans B6 b7
    go_wp2
    go_ret
    exact ⟨rfl, B7⟩
end Go.Proofs.Ytgddklafeaoleaa
