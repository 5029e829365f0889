/-
  Walk of the law FnCopyLeast.
-/
import Derived.Test.YtgddklafeaoleaaDrawC
import Derived.Test.YtgddklafeaoleaaCost4
import Derived.Test.YtgddklafeaoleaaVarL
import Derived.Test.YtgddklafeaoleaaLett
import Derived.IntWalk
import Derived.Deep.RegionHeld3
namespace Go.Proofs.Ytgddklafeaoleaa
open Go.RowKit Go.Sort
set_option linter.unusedSimpArgs false
set_option linter.unusedVariables false

theorem impl_CopyLeastK (ys : List Brf) (m : Nat) (hm : ys.length = m) (ws : List Str) (n : Nat) (hn : ws.length = n) (A B : Option Addr) (c d : Nat) (w : World) (hy : BrfsIn w A c ys) (hw : Seg w 0 w.heap.size B (strs ws)) (ho : StrsOk ws) (hd : n ≤ d) (hdm : d ≤ maxLen) :
    Calls Try.prog 29 #[.slice A m c, .slice B n d] w fun e w' => e = .returned (.int .i64 (leastOf wtC (pbsOf ys) ws)) ∧ Below w.heap.size w w' := by
  subst hn hm
  exact impl_CopyLeast ys ws A B c d w hy.seg hy.ats hw ho (Nat.le_trans hy.lc hy.cm) hy.lc hy.cm hd hdm
theorem spec_CopyLeastK (ys : List Brf) (ws : List Str) (n : Nat) (hn : ws.length = n) (A B : Option Addr) (c d : Nat) (w : World) (hy : BrfsIn w A c ys) (hw : Seg w 0 w.heap.size B (strs ws)) (ho : StrsOk ws) (hd : n ≤ d) (hdm : d ≤ maxLen) :
    Calls Try.prog 30 #[.slice A ys.length c, .slice B n d] w fun e w' => e = .returned (.int .i64 (leastOf wtC (pbsOf ys) ws)) ∧ Below w.heap.size w w' := by
  subst hn
  exact spec_CopyLeast ys ws A B c d w hy.seg hy.ats hw ho (Nat.le_trans hy.lc hy.cm) hd hdm
theorem strs_dropK {w : World} {lo hi : Nat} {B : Option Addr} {ws : List Str} (h : Seg w lo hi B (strs ws)) (k d : Nat) (hk : k ≤ ws.length) (hd : ws.length ≤ d) : Seg w lo hi (if d = k then B else B.map (·.add k)) (strs (ws.drop k)) := by
  have e : strs (ws.drop k) = (strs ws).drop k := by simp [strs]
  by_cases hck : d = k
  · have : ws.drop k = [] := List.drop_eq_nil_of_le (by omega)
    rw [this]; exact Seg.nil
  · rw [e]; exact h.drop k d (by omega)
theorem strs_takeK {w : World} {lo hi : Nat} {B : Option Addr} {ws : List Str} (h : Seg w lo hi B (strs ws)) (k : Nat) : Seg w lo hi B (strs (ws.take k)) := by
  have e : strs (ws.take k) = (strs ws).take k := by simp [strs]
  rw [e]; exact h.take k
theorem cp_parts {bs : List PB} {ws : List Str} (h : cpOk bs ws = true) : bvOk bs = true ∧ speechOk ws = true := by simpa [cpOk] using h
theorem least_ok {bs : List PB} {ws : List Str} (h : cpOk bs ws = true) : leastOf wtC bs ws = least lsz bs ws := by rw [leastOf, h]; rfl
theorem least_no {bs : List PB} {ws : List Str} (h : cpOk bs ws = false) : leastOf wtC bs ws = -1 := by rw [leastOf, h]; rfl
theorem least_small {bs : List PB} {ws : List Str} (h : cpOk bs ws = true) : 0 ≤ leastOf wtC bs ws ∧ leastOf wtC bs ws ≤ 260 := by
  obtain ⟨h1, h2⟩ := cp_parts h
  have h3 := lw_small okC h1 (speech_small h2) (speech_parts h2).1
  rw [leastOf, h]; exact h3
theorem letters_le {ws : List Str} (h : ∀ s ∈ ws, s.size ≤ 100) : 0 ≤ letters ws ∧ letters ws ≤ 100 * (ws.length : Int) := by
  induction ws with
  | nil => simp [letters, sumTo]
  | cons w rest ih =>
    have h1 := ih fun s hs => h s (List.mem_cons_of_mem _ hs)
    have h2 := h w List.mem_cons_self
    rw [letters_cons, List.length_cons]
    omega
theorem briefs_none (w : World) (A : Option Addr) : BrfsIn w A 0 [] := ⟨Seg.nil, fun y hy => by simp at hy, talkB_nil, by simp, by simp, by simp [maxLen]⟩

set_option maxRecDepth 100000 in
set_option maxHeartbeats 2000000 in
theorem walk_FnCopyLeast (r0 r1 : Row UInt8) (w : World) (h0 : RowOk w byteC (fun _ => True) r0) (h1 : RowOk w byteC (fun _ => True) r1) : Calls Try.prog 7 #[rowV r0, rowV r1] w fun e w' => e = .returned (.bool true) ∧ Below w.heap.size w w' := by
  obtain ⟨A, c, l⟩ := r0
  obtain ⟨hw, _, hc, hm⟩ := h0
  obtain ⟨A0, c0, l1⟩ := r1
  obtain ⟨_, _, hc1, hm1⟩ := h1
  simp only at hw hc hm hc1 hm1
  have hm' : c ≤ 9223372036854775807 := hm
  have hm1' : c0 ≤ 9223372036854775807 := hm1
  show Calls Try.prog 7 #[.slice A l.length c, .slice A0 l1.length c0] w _
  by_cases hl : (1048576 : Int) < l.length
  · go_enter Try.func7, Try.ntmps7
    go_wp2
    go_ret
    exact ⟨rfl, Below.refl _ _⟩
  by_cases hl1 : (1048576 : Int) < l1.length
  · go_enter Try.func7, Try.ntmps7
    go_wp2
    go_ret
    exact ⟨rfl, Below.refl _ _⟩
  go_enter Try.func7, Try.ntmps7
  go_wp2_with fail
  refine (spec_DrawCopyLeast l A c _ hw hc hm).mono ?_
  rintro e w1 ⟨A1, c1, ys, B, d, ws, rfl, I1, S1, b1⟩
  have hdm := S1.cm
  have hlc := S1.lc
  have hl100 := S1.len
  have hcm' : c1 ≤ 9223372036854775807 := I1.cm
  have hys5 := I1.len
  have hso := Lib.hid S1.strs
  have hlet := letters_le S1.ok
  go_wp2_with fail
  refine (impl_CopyLeastK ys _ rfl ws _ rfl A1 B c1 d _ I1 S1.seg S1.strs S1.lc S1.cm).mono ?_
  rintro e w2 ⟨rfl, b2⟩
  have I2 := I1.below b2
  have S2 := S1.below b2
  have B2 := bel_trans b1 b2
  clear I1 S1 b1 b2
  go_wp2_with fail
  refine (spec_CopyLeastK ys ws _ rfl A1 B c1 d _ I2 S2.seg S2.strs S2.lc S2.cm).mono ?_
  rintro e w3 ⟨rfl, b3⟩
  have I3 := I2.below b3
  have S3 := S2.below b3
  have B3 := bel_trans B2 b3
  clear I2 S2 B2 b3
  cases hok : cpOk (pbsOf ys) ws
  · rw [least_no hok]
    go_wp2
    go_ret
    exact ⟨rfl, B3⟩
  obtain ⟨hbv, hsp⟩ := cp_parts hok
  have hms := least_small hok
  have hkk : l1.length % (ws.length + 1) ≤ ws.length := by have := Nat.mod_lt l1.length (show 0 < ws.length + 1 by omega); omega
  have q1 : ((l1.length : Int)).tmod ((ws.length : Int) + 1) = ((l1.length % (ws.length + 1) : Nat) : Int) := rfl
  have q2 : ((l1.length : Int)) % ((ws.length : Int) + 1) = ((l1.length % (ws.length + 1) : Nat) : Int) := by simp
  generalize l1.length % (ws.length + 1) = kk at *
  have ok1 : cpOk (pbsOf ys) (ws.take kk) = true := by simp [cpOk, hbv, speech_take hsp]
  have ok2 : cpOk (pbsOf ys) (ws.drop kk) = true := by simp [cpOk, hbv, speech_drop hsp]
  have ok0 : cpOk (pbsOf []) ws = true := by simp [cpOk, hsp]; exact bv_nil
  have s1 := least_small ok1
  have s2 := least_small ok2
  have f1 : leastOf wtC (pbsOf ys) ws ≤ letters ws := by rw [least_ok hok]; exact least_letters hbv ws
  have f0 : leastOf wtC (pbsOf []) ws = letters ws := by rw [least_ok ok0]; exact least_none ws
  have f2 : leastOf wtC (pbsOf ys) ws ≤ leastOf wtC (pbsOf ys) (ws.take kk) + leastOf wtC (pbsOf ys) (ws.drop kk) := by rw [least_ok hok, least_ok ok1, least_ok ok2]; exact least_split hbv kk ws kk (Nat.le_refl _)
  have HL1 : Hid (∀ w', Below w3.heap.size w3 w' → Calls Try.prog 31 #[.slice B ws.length d] w' fun e w'' => e = .returned (.int .i64 (letters ws)) ∧ Below w3.heap.size w3 w'') := by
    intro w' hb
    refine (laws_lettersOf ws B d w' (S3.below hb).seg (Nat.le_trans hlc hdm) (by omega)).mono ?_
    rintro e w'' ⟨h, rfl⟩
    exact ⟨h, hb⟩
  have HC0 : Hid (∀ (AA : Option Addr) w', Below w3.heap.size w3 w' → Calls Try.prog 29 #[.slice AA 0 0, .slice B ws.length d] w' fun e w'' => e = .returned (.int .i64 (letters ws)) ∧ Below w3.heap.size w3 w'') := by
    intro AA w' hb
    have := impl_CopyLeastK [] 0 rfl ws _ rfl AA B 0 d w' (briefs_none _ _) (S3.below hb).seg hso.out hlc hdm
    rw [f0] at this
    exact this.mono fun e w'' ⟨h1, h2⟩ => ⟨h1, bel_trans hb h2⟩
  have HC1 : Hid (∀ w', Below w3.heap.size w3 w' → Calls Try.prog 29 #[.slice A1 ys.length c1, .slice B kk d] w' fun e w'' => e = .returned (.int .i64 (leastOf wtC (pbsOf ys) (ws.take kk))) ∧ Below w3.heap.size w3 w'') := by
    intro w' hb
    exact (impl_CopyLeastK ys _ rfl (ws.take kk) kk (by rw [List.length_take]; omega) A1 B c1 d w' (I3.below hb) (strs_takeK (S3.below hb).seg kk) (fun s h => hso.out s (List.mem_of_mem_take h)) (by omega) hdm).mono fun e w'' ⟨h1, h2⟩ => ⟨h1, bel_trans hb h2⟩
  have HC2 : Hid (∀ (AA : Option Addr) (nn dd : Nat) w', Below w3.heap.size w3 w' → Seg w' 0 w'.heap.size AA (strs (ws.drop kk)) → nn = ws.length - kk → nn ≤ dd → dd ≤ maxLen → Calls Try.prog 29 #[.slice A1 ys.length c1, .slice AA nn dd] w' fun e w'' => e = .returned (.int .i64 (leastOf wtC (pbsOf ys) (ws.drop kk))) ∧ Below w3.heap.size w3 w'') := by
    intro AA nn dd w' hb hs hnn h1 h2
    subst hnn
    exact (impl_CopyLeastK ys _ rfl (ws.drop kk) (ws.length - kk) List.length_drop A1 AA c1 dd w' (I3.below hb) hs (fun s h => hso.out s (List.mem_of_mem_drop h)) h1 h2).mono fun e w'' ⟨h1, h2⟩ => ⟨h1, bel_trans hb h2⟩
  have HSD : Hid (∀ w', Below w3.heap.size w3 w' → Seg w' 0 w'.heap.size (if d = kk then B else B.map (·.add kk)) (strs (ws.drop kk))) := fun w' hb => strs_dropK (S3.below hb).seg kk d hkk hlc
  generalize leastOf wtC (pbsOf ys) ws = V at *
  generalize leastOf wtC (pbsOf ys) (ws.take kk) = V1 at *
  generalize leastOf wtC (pbsOf ys) (ws.drop kk) = V2 at *
  generalize leastOf wtC (pbsOf []) ws = V0 at *
  generalize letters ws = LT at *
  have hkc : (kk : Int) ≤ (d : Int) := by omega
  have hkl : (kk : Int) ≤ (ws.length : Int) := by omega
  have hp1 : decide (V ≤ LT) = true := decide_eq_true f1
  have hp2 : decide (V ≤ V1 + V2) = true := decide_eq_true f2
  have e1 : IntKind.i64.wrap (V1 + V2) = V1 + V2 := IntWalk.i64_in _ (by omega)
  have hdm' : d ≤ 9223372036854775807 := hdm
  clear hok ok0 ok1 ok2 hbv hsp f0
  by_cases hck : d = kk
  · have hdw : d = ws.length := by omega
    subst hck
    have HSE : Hid (∀ (AA : Option Addr) w', Seg w' 0 w'.heap.size AA (strs (ws.drop d))) := fun AA w' => by rw [List.drop_eq_nil_of_le (by omega)]; exact Seg.nil
    subst hdw
    go_wp2
    go_region_held3 (fun w' => Below w3.heap.size w3 w') (first | assumption | exact Below.refl _ _ | exact (Below.refl _ _).drew | exact bel_alloc (by assumption) _ | exact Below.drew (by assumption))
      (first
        | (go_at_call 31; with_reducible refine Calls.mono (HL1.out _ ?hb) ?_; (case hb => assumption); rintro e w5 ⟨rfl, hS5⟩)
        | (go_at_call 29; with_reducible refine Calls.mono (HC1.out _ ?hb) ?_; (case hb => assumption); rintro e w5 ⟨rfl, hS5⟩)
        | (go_at_call 29; with_reducible refine Calls.mono (HC2.out _ _ _ _ ?hb ?hs ?hn ?h1 ?h2) ?_; (case hb => assumption); (case hs => exact HSE.out _ _); (case hn => simp); (case h1 => exact Nat.le_refl _); (case h2 => simp [maxLen]); rintro e w5 ⟨rfl, hS5⟩)
        | (go_at_call 29; with_reducible refine Calls.mono (HC0.out _ _ ?hb) ?_; (case hb => assumption); rintro e w5 ⟨rfl, hS5⟩))
    all_goals
      go_wp2
      go_ret
      exact ⟨rfl, bel_trans B3 (by assumption)⟩
  · have HSE : Hid (∀ w', Below w3.heap.size w3 w' → Seg w' 0 w'.heap.size (B.map (·.add kk)) (strs (ws.drop kk))) := fun w' hb => by
      have := HSD.out w' hb
      rwa [if_neg hck] at this
    go_wp2
    go_region_held3 (fun w' => Below w3.heap.size w3 w') (first | assumption | exact Below.refl _ _ | exact (Below.refl _ _).drew | exact bel_alloc (by assumption) _ | exact Below.drew (by assumption))
      (first
        | (go_at_call 31; with_reducible refine Calls.mono (HL1.out _ ?hb) ?_; (case hb => assumption); rintro e w5 ⟨rfl, hS5⟩)
        | (go_at_call 29; with_reducible refine Calls.mono (HC1.out _ ?hb) ?_; (case hb => assumption); rintro e w5 ⟨rfl, hS5⟩)
        | (go_at_call 29; with_reducible refine Calls.mono (HC2.out _ _ _ _ ?hb ?hs ?hn ?h1 ?h2) ?_; (case hb => assumption); (case hs => exact HSE.out _ (by assumption)); (case hn => rfl); (case h1 => omega); (case h2 => omega); rintro e w5 ⟨rfl, hS5⟩)
        | (go_at_call 29; with_reducible refine Calls.mono (HC0.out _ _ ?hb) ?_; (case hb => assumption); rintro e w5 ⟨rfl, hS5⟩))
    all_goals
      go_wp2
      go_ret
      exact ⟨rfl, bel_trans B3 (by assumption)⟩
end Go.Proofs.Ytgddklafeaoleaa
