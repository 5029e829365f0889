/-
  Walk of the law FnVaries.
-/
import Derived.Test.YtnoffpicjhcpfaaVarL
import Derived.Test.YtnoffpicjhcpfaaDrawS
import Derived.Test.YtnoffpicjhcpfaaMem2
import Derived.Test.YtnoffpicjhcpfaaOpen
import Derived.IntWalk
import Derived.Deep.RegionHeld3
namespace Go.Proofs.Ytnoffpicjhcpfaa
open Go.RowKit
set_option linter.unusedSimpArgs false
set_option linter.unusedVariables false

def SomeStrs (N n : Nat) (w : World) (e : Ending) (w' : World) : Prop := ∃ A c, ∃ ws : List Str, e = .returned (.slice A ws.length c) ∧ Seg w' 0 w'.heap.size A (strs ws) ∧ (∀ s ∈ ws, s.size ≤ N) ∧ ws.length ≤ n ∧ ws.length ≤ c ∧ c ≤ maxLen ∧ Below w.heap.size w w'
theorem spec_DrawSpeechVaries (l : List UInt8) (A : Option Addr) (c : Nat) (w : World) (hw : Seg w 0 w.heap.size A (flat byteC l)) (hc : l.length ≤ c) (hm : c ≤ maxLen) :
    Calls Try.prog 38 #[.slice A l.length c] w (SomeStrs 100 100 w) := by
  go_enter Try.func38, Try.ntmps38
  go_wp2_with fail
  refine (spec_l6Open l A c _ hw hc hm).mono ?_
  rintro e w1 ⟨rfl, hr, hb, _⟩
  go_wp2_with fail
  refine (spec_l91Speech _ 0 9 _ ⟨0, Nat.le_refl _, hr⟩ (by decide) (by decide) (by decide)).mono ?_
  rintro e w2 ⟨A2, c2, ws, rfl, sg, hs, hn, hlc, hcm, d⟩
  have hb2 := d.bel hb (Nat.le_refl _)
  rw [flat_strC] at sg
  have SG : Hid (Seg w2 0 w2.heap.size A2 (strs ws)) := sg.mono (Nat.zero_le _) (Nat.le_refl _)
  go_wp2
  go_ret
  exact ⟨A2, c2, ws, rfl, SG.out, hs, hn, hlc, hcm, hb2⟩
theorem impl_VariesN (ws : List Str) (n : Nat) (hwn : ws.length = n) (A : Option Addr) (c : Nat) (w : World) (hw : Seg w 0 w.heap.size A (strs ws)) (ho : StrsOk ws) (hn : n ≤ maxLen) (hc0 : n ≤ c) (hcm : c ≤ maxLen) :
    Calls Try.prog 30 #[.slice A n c] w fun e w' => e = .returned (.int .i64 (variesOf ws)) ∧ w = w' := by
  subst hwn; exact impl_SpeechVaries ws A c w hw ho hn hc0 hcm
theorem varies_le (ws : List Str) : -1 ≤ variesOf ws ∧ variesOf ws ≤ 20 := by
  unfold variesOf
  split
  · rename_i h
    have h1 := diffTo_le ws ws.length
    have h2 := speech_len h
    omega
  · omega
theorem strs_take (ws : List Str) (k : Nat) : strs (ws.take k) = (strs ws).take k := by simp [strs]
theorem strs_drop (ws : List Str) (k : Nat) : strs (ws.drop k) = (strs ws).drop k := by simp [strs]
theorem strs_one (xs : List Str) : ∀ u ∈ strs xs, u.oneCell' = true := by
  intro u hu
  simp only [strs, List.mem_map] at hu
  obtain ⟨x, _, rfl⟩ := hu
  rfl

set_option maxRecDepth 100000 in
set_option maxHeartbeats 2000000 in
theorem walk_FnVaries (r0 r1 : Row UInt8) (w : World) (h0 : RowOk w byteC (fun _ => True) r0) (h1 : RowOk w byteC (fun _ => True) r1) : Calls Try.prog 9 #[rowV r0, rowV r1] w fun e w' => e = .returned (.bool true) ∧ Below w.heap.size w w' := by
  obtain ⟨A, c, l⟩ := r0
  obtain ⟨hw, _, hc, hm⟩ := h0
  obtain ⟨A1, c1, l1⟩ := r1
  obtain ⟨_, _, hc1, hm1⟩ := h1
  simp only at hw hc hm hc1 hm1
  have hm' : c ≤ 9223372036854775807 := hm
  have hm1' : c1 ≤ 9223372036854775807 := hm1
  show Calls Try.prog 9 #[.slice A l.length c, .slice A1 l1.length c1] w _
  by_cases hl : (1048576 : Int) < l.length
  · go_enter Try.func9, Try.ntmps9
    go_wp2
    go_ret
    exact ⟨rfl, Below.refl _ _⟩
  by_cases hl1 : (1048576 : Int) < l1.length
  · go_enter Try.func9, Try.ntmps9
    go_wp2
    go_ret
    exact ⟨rfl, Below.refl _ _⟩
  go_enter Try.func9, Try.ntmps9
  go_wp2_with fail
  refine (spec_DrawSpeechVaries l A c _ hw hc hm).mono ?_
  rintro e w1 ⟨A2, c2, ws, rfl, sg, hs, hn, hlc, hcm, b1⟩
  have hso : StrsOk ws := fun s h => Nat.le_trans (hs s h) (by decide)
  have hnm : ws.length ≤ maxLen := Nat.le_trans hn (by decide)
  have hcm' : c2 ≤ 9223372036854775807 := hcm
  go_wp2_with fail
  refine (impl_SpeechVaries ws A2 c2 _ sg hso hnm hlc hcm).mono ?_
  rintro e w' ⟨rfl, rfl⟩
  go_wp2_with fail
  refine (spec_SpeechVaries ws A2 c2 _ sg hso hnm).mono ?_
  rintro e w' ⟨rfl, nd, rfl⟩
  have b2 := Below_drewN b1 nd
  have sg2 : Seg (w1.drewN nd) 0 (w1.drewN nd).heap.size A2 (strs ws) := sg
  generalize w1.drewN nd = w2 at *
  cases hsp : speechOk ws
  · have hv : variesOf ws = -1 := by rw [variesOf, hsp]; rfl
    rw [hv]
    clear hv
    go_wp2
    go_ret
    exact ⟨rfl, b2⟩
  have hv := varies_ok hsp
  have hvl := diffs_le ws
  have hn20 := speech_len hsp
  have hpos : ws ≠ [] → 1 ≤ diffs ws := diffs_pos
  have HPOS := Lib.hid hpos
  rw [hv]
  have hkk : l1.length % (ws.length + 1) ≤ ws.length := by have := Nat.mod_lt l1.length (show 0 < ws.length + 1 by omega); omega
  have q1 : ((l1.length : Int)).tmod ((ws.length : Int) + 1) = ((l1.length % (ws.length + 1) : Nat) : Int) := rfl
  have q2 : ((l1.length : Int)) % ((ws.length : Int) + 1) = ((l1.length % (ws.length + 1) : Nat) : Int) := by simp
  have hparts := varies_parts hsp (l1.length % (ws.length + 1))
  rw [hv] at hparts
  have hv1 := varies_le (ws.take (l1.length % (ws.length + 1)))
  have hv2 := varies_le (ws.drop (l1.length % (ws.length + 1)))
  have ht1 : StrsOk (ws.take (l1.length % (ws.length + 1))) := fun s h => hso s (List.mem_of_mem_take h)
  have ht2 : StrsOk (ws.drop (l1.length % (ws.length + 1))) := fun s h => hso s (List.mem_of_mem_drop h)
  have hj1 : ws.length ≠ 0 → ((l1.length : Int)).tmod ((ws.length : Int)) = ((l1.length % ws.length : Nat) : Int) := fun _ => rfl
  have hj2 : ws.length ≠ 0 → ((l1.length : Int)) % ((ws.length : Int)) = ((l1.length % ws.length : Nat) : Int) := fun _ => by simp
  have HJ1 := Lib.hid hj1
  have HJ2 := Lib.hid hj2
  have HV := Lib.hid hv
  clear hv hpos hj1 hj2
  generalize hVV : diffs ws = V at *
  have HVV := Lib.hid hVV
  clear hVV
  generalize l1.length % (ws.length + 1) = kk at *
  have sgt : Seg w2 0 w2.heap.size A2 (strs (ws.take kk)) := by rw [strs_take]; exact sg2.take kk
  have hlt : (ws.take kk).length = kk := by rw [List.length_take]; omega
  have hld : (ws.drop kk).length = ws.length - kk := by rw [List.length_drop]
  have HLT := Lib.hid hlt
  have HLD := Lib.hid hld
  generalize hV1 : variesOf (ws.take kk) = V1 at *
  generalize hV2 : variesOf (ws.drop kk) = V2 at *
  have HV1 := Lib.hid hV1
  have HV2 := Lib.hid hV2
  have hkc : (kk : Int) ≤ (c2 : Int) := by omega
  have hkl : (kk : Int) ≤ (ws.length : Int) := by omega
  clear hV1 hV2 hlt hld
  have hpl : decide (V1 + V2 < V) = false := decide_eq_false (by omega)
  have hpg : decide ((ws.length : Int) < V) = false := decide_eq_false (by omega)
  have e1 : IntKind.i64.wrap (V1 + V2) = V1 + V2 := IntWalk.i64_in _ (by omega)
  have hc01 : ∀ (w' : World), Seg w' 0 w'.heap.size A2 (strs (ws.take kk)) → Calls Try.prog 30 #[.slice A2 kk c2] w' fun e w'' => e = .returned (.int .i64 V1) ∧ w' = w'' := by
    intro w' h
    have := impl_VariesN (ws.take kk) kk HLT.out A2 c2 w' h ht1 (by omega) (by omega) hcm
    rwa [HV1.out] at this
  have HC1 := Lib.hid hc01
  have hdrop : ∀ w', Seg w' 0 w'.heap.size A2 (strs ws) → Seg w' 0 w'.heap.size (if c2 = kk then A2 else A2.map (·.add kk)) (strs (ws.drop kk)) := by
    intro w' h
    by_cases hck : c2 = kk
    · have : ws.drop kk = [] := List.drop_eq_nil_of_le (by omega)
      rw [this]; exact Seg.nil
    · rw [strs_drop]; exact h.drop kk c2 (by omega)
  have hc02 : ∀ (w' : World), Seg w' 0 w'.heap.size A2 (strs ws) → Calls Try.prog 30 #[.slice (if c2 = kk then A2 else A2.map (·.add kk)) (ws.length - kk) (c2 - kk)] w' fun e w'' => e = .returned (.int .i64 V2) ∧ w' = w'' := by
    intro w' h
    have := impl_VariesN (ws.drop kk) (ws.length - kk) HLD.out (if c2 = kk then A2 else A2.map (·.add kk)) (c2 - kk) w' (hdrop w' h) ht2 (by omega) (by omega) (by omega)
    rwa [HV2.out] at this
  have HC2 := Lib.hid hc02
  clear hdrop hc01 hc02
  go_wp2
  have hsgt : ∀ n, Seg (w2.drewN n) 0 (w2.drewN n).heap.size A2 (strs (ws.take kk)) := fun _ => sgt
  have hsg2 : ∀ n, Seg (w2.drewN n) 0 (w2.drewN n).heap.size A2 (strs ws) := fun _ => sg2
  have HG1 := Lib.hid hsgt
  have HG2 := Lib.hid hsg2
  clear hsgt hsg2
  go_quiet ((first
    | (go_at_call 30; with_reducible exact quietly (HC1.out _ (HG1.out _)))
    | (go_at_call 30; with_reducible exact quietly (HC2.out _ (HG2.out _)))))
  clear e1 hpl hpg HG1 HG2 HC1 HC2 sgt
  generalize (if c2 = kk then A2 else Option.map (fun x => x.add kk) A2) = AS
  have b3 := Below_drewN b2 nq
  have sg3 : Seg (w2.drewN nq) 0 (w2.drewN nq).heap.size A2 (strs ws) := sg2
  generalize w2.drewN nq = w3 at *
  by_cases hw0 : ws.length = 0
  · have hV0 : V = 0 := by omega
    have t1 : ((ws.length : Int) == 0) = true := by rw [beq_iff_eq]; omega
    have t2 : (V == 0) = true := by rw [beq_iff_eq]; omega
    have H1 := Lib.hid hw0
    have H2 := Lib.hid hV0
    clear hw0 hV0
    go_wp2
    go_ret
    exact ⟨rfl, b3⟩
  have hV1' : 1 ≤ V := HPOS.out (fun e => hw0 (by rw [e]; rfl))
  have t1 : ((ws.length : Int) == 0) = false := beq_eq_false_iff_ne.2 (by omega)
  have t2 : (V == 0) = false := beq_eq_false_iff_ne.2 (by omega)
  have H1 := Lib.hid hw0
  by_cases hw20 : ws.length = 20
  · have t3 : ((ws.length : Int) == 20) = true := by rw [beq_iff_eq]; omega
    have H2 := Lib.hid hw20
    clear hw20 hw0
    go_wp2
    go_ret
    exact ⟨rfl, b3⟩
  have t3 : ((ws.length : Int) == 20) = false := beq_eq_false_iff_ne.2 (by omega)
  have hlt20 : ws.length < 20 := by omega
  have hjl : l1.length % ws.length < ws.length := Nat.mod_lt _ (by omega)
  have q3 := HJ1.out hw0
  have q4 := HJ2.out hw0
  obtain ⟨x, hx⟩ := get_lt hjl
  obtain ⟨gx, ox, hA2, hgx, hcx⟩ := sg3.at_ (strs_at hx)
  have hxc := hcx _ _ (strs_at hx)
  have hmem := List.mem_of_getElem? hx
  have HTW : Hid (speechOk (ws ++ [x]) = true ∧ diffs (ws ++ [x]) = diffs ws) := ⟨speech_twice hsp hmem hlt20, diff_twice hmem⟩
  have hsx : x.size ≤ 100 := hs x hmem
  have H2 := Lib.hid hw20
  generalize l1.length % ws.length = j at *
  have hz1 : ¬ ((ws.length : Int) = 0) := by omega
  have hz2 : ¬ ws = [] := fun e => hw0 (by rw [e]; rfl)
  have hz3 : (1 : Int) ≤ (ws.length : Int) := by omega
  clear hx hcx hmem hw20
  subst hA2
  have hk0 : w3.cell? ⟨gx, ox + j, none⟩ = some (.string x) := hxc
  have fl1 : Hid ((strs ws).length = ws.length * 1) := by simp [Hid, strs]
  have H1A := Lib.hid (strs_one ws)
  have hji : (j : Int) < (ws.length : Int) := by omega
  go_wp2
  have hS : ∀ w1, Below w3.heap.size w3 w1 → w1.cell? ⟨gx, ox + j, none⟩ = some (.string x) := fun w1 h => (h.cell (p := ⟨gx, ox + j, none⟩) hgx).trans hk0
  have hsA : ∀ w1, Below w3.heap.size w3 w1 → Seg w1 0 w3.heap.size (some ⟨gx, ox, none⟩) (strs ws) := fun w1 h => sg3.belowB h (Nat.le_refl _)
  have bx1 : Below w3.heap.size w3 (w3.alloc (.cells #[] 9)).drew := (bel_alloc (Below.refl _ _) _).drew
  have bx2 : Below w3.heap.size w3 ((w3.alloc (.cells #[] 9)).alloc (.cells #[.string x] 9)).drew := (bel_alloc (bel_alloc (Below.refl _ _) _) _).drew
  have bx3 : Below w3.heap.size w3 ((w3.alloc (.cells #[.string x] 9)).alloc (.cells #[] 9)).drew := (bel_alloc (bel_alloc (Below.refl _ _) _) _).drew
  have o1 : (w3.alloc (.cells #[] 9)).drew.ownsRow w3.heap.size 9 1 (.slice (some ⟨w3.heap.size, 0, none⟩) 0 0) 0 [] := (World.ownsRow_made w3 #[] 0 (Nat.le_refl _) (by simp [maxLen]) (by simp)).drew
  have o2 : ((w3.alloc (.cells #[] 9)).alloc (.cells #[.string x] 9)).drew.ownsRow w3.heap.size 9 1 (.slice (some ⟨w3.heap.size, 0, none⟩) 0 0) 0 [] := ((World.ownsRow_made w3 #[] 0 (Nat.le_refl _) (by simp [maxLen]) (by simp)).alloc _).drew
  have o3 : ((w3.alloc (.cells #[.string x] 9)).alloc (.cells #[] 9)).drew.ownsRow w3.heap.size 9 1 (.slice (some ⟨w3.heap.size + 1, 0, none⟩) 0 0) 0 [] := by
    have h := (World.ownsRow_made (w3.alloc (.cells #[.string x] 9)) #[] 0 (base := w3.heap.size) (e := 9) (size := 1) (by simp) (by simp [maxLen]) (by simp)).drew
    have e : (w3.alloc (.cells #[.string x] 9)).heap.size = w3.heap.size + 1 := by simp
    rw [e] at h
    exact h
  have s1 := hsA _ bx1
  have s2 := hsA _ bx2
  have s3 := hsA _ bx3
  have lt1 : ∀ w1, (w3.alloc (.cells #[] 9)).drew.grownBy w1 (Value.slice (some ⟨w3.heap.size, 0, none⟩) 0 0).ownBlock → True := fun _ _ => trivial
  have lt2 : ∀ w1, ((w3.alloc (.cells #[] 9)).alloc (.cells #[.string x] 9)).drew.grownBy w1 (Value.slice (some ⟨w3.heap.size, 0, none⟩) 0 0).ownBlock → Seg w1 (w3.heap.size + 1) (w3.heap.size + 2) (some ⟨w3.heap.size + 1, 0, none⟩) [.string x] := by
    intro w1 g1
    have h := Seg.lit (w3.alloc (.cells #[] 9)) #[.string x] 9
    have e : (w3.alloc (.cells #[] 9)).heap.size = w3.heap.size + 1 := by simp
    have e2 : ((w3.alloc (.cells #[] 9)).alloc (.cells #[.string x] 9)).heap.size = w3.heap.size + 2 := by simp
    rw [e, e2] at h
    exact h.keep (w := ((w3.alloc (.cells #[] 9)).alloc (.cells #[.string x] 9)).drew) g1.size fun q h1 h2 h3 => g1.block q h3 fun e => by simp [Value.ownBlock] at e; omega
  have lt3 : ∀ w1, ((w3.alloc (.cells #[.string x] 9)).alloc (.cells #[] 9)).drew.grownBy w1 (Value.slice (some ⟨w3.heap.size + 1, 0, none⟩) 0 0).ownBlock → Seg w1 w3.heap.size (w3.heap.size + 1) (some ⟨w3.heap.size, 0, none⟩) [.string x] := by
    intro w1 g1
    have h := Seg.lit w3 #[.string x] 9
    have e2 : (w3.alloc (.cells #[.string x] 9)).heap.size = w3.heap.size + 1 := by simp
    rw [e2] at h
    exact (h.below (bel_alloc (Below.refl _ _) (.cells #[] 9)).drew).keep (w := ((w3.alloc (.cells #[.string x] 9)).alloc (.cells #[] 9)).drew) g1.size fun q h1 h2 h3 => g1.block q h3 fun e => by simp [Value.ownBlock] at e; omega
  go_region_held3 (fun w' => w'.cell? ⟨gx, ox + j, none⟩ = some (.string x)) (first | exact hS1 | exact hS _ (bel_alloc (Below.refl _ _) _) | exact hS _ (Below.refl _ _).drew | exact hS _ bx1 | exact hS _ bx2 | exact hS _ bx3 | exact hS _ (bel_alloc (Below.refl _ _) _).drew | exact hS _ (bel_alloc b1x _) | go_keep)
    (first
      | (refine step_append_seg _ (by rfl) (.tmp 71) (.tmp 72) 34 (by rfl) (w3.heap.size) 9 _ 1 16 Try.underlying34 info_str rfl (by decide) (by decide) (_) _ _ (by rfl) o1 (some ⟨gx, ox, none⟩) ws.length c2 (strs ws) _ _ (by rfl) s1 fl1.out H1A.out (by omega) bx1.size ?_; intro v1 w4 own1 g1; rw [Nat.zero_add, List.nil_append] at own1; have b1x := own_grown_below bx1 o1 g1 bx1.size; have hS1 := hS w4 b1x; have lit1 := lt1 w4 g1)
      | (refine step_append_seg _ (by rfl) (.tmp 71) (.tmp 72) 34 (by rfl) (w3.heap.size) 9 _ 1 16 Try.underlying34 info_str rfl (by decide) (by decide) (_) _ _ (by rfl) o2 (some ⟨gx, ox, none⟩) ws.length c2 (strs ws) _ _ (by rfl) s2 fl1.out H1A.out (by omega) bx2.size ?_; intro v1 w4 own1 g1; rw [Nat.zero_add, List.nil_append] at own1; have b1x := own_grown_below bx2 o2 g1 bx2.size; have hS1 := hS w4 b1x; have lit1 := lt2 w4 g1)
      | (refine step_append_seg _ (by rfl) (.tmp 71) (.tmp 72) 34 (by rfl) (w3.heap.size) 9 _ 1 16 Try.underlying34 info_str rfl (by decide) (by decide) (_) _ _ (by rfl) o3 (some ⟨gx, ox, none⟩) ws.length c2 (strs ws) _ _ (by rfl) s3 fl1.out H1A.out (by omega) bx3.size ?_; intro v1 w4 own1 g1; rw [Nat.zero_add, List.nil_append] at own1; have b1x := own_grown_below bx3 o3 g1 bx3.size; have hS1 := hS w4 b1x; have lit1 := lt3 w4 g1)
      | (refine step_append_seg _ (by rfl) (.tmp 73) (.tmp 82) 34 (by rfl) (w3.heap.size) 9 _ 1 16 Try.underlying34 info_str rfl (by decide) (by decide) (_) _ _ (by rfl) (own1.alloc _) (some ⟨w4.heap.size, 0, none⟩) 1 1 [.string x] _ _ (by rfl) (Seg.lit w4 #[.string x] 9) rfl (by simp [Value.oneCell']) (by omega) (bel_alloc b1x _).size ?_; intro v2 w5 own2 g2; have b2x := own_grown_below (bel_alloc b1x _) (own1.alloc _) g2 (bel_alloc b1x _).size)
      | (refine step_append_seg _ (by rfl) (.tmp 73) (.tmp 82) 34 (by rfl) (w3.heap.size) 9 _ 1 16 Try.underlying34 info_str rfl (by decide) (by decide) (_) _ _ (by rfl) own1 (some ⟨_, 0, none⟩) 1 1 [.string x] _ _ (by rfl) lit1 rfl (by simp [Value.oneCell']) (by omega) b1x.size ?_; intro v2 w5 own2 g2; have b2x := own_grown_below b1x own1 g2 b1x.size))
  all_goals
    have own3 : w5.ownsRow w3.heap.size 9 1 v2 (ws.length + 1) (strs (ws ++ [x])) := by rw [strs, List.map_append]; exact own2
    obtain ⟨A5, c5, rfl, h5a, h5b⟩ := own_form own3
    have hv3 := impl_VariesN (ws ++ [x]) (ws.length + 1) (by simp) A5 c5 w5 ((Seg.of_own own3).mono (Nat.zero_le _) (Nat.le_refl _)) (fun s h => by rcases List.mem_append.1 h with h | h; exact hso s h; simp at h; subst h; exact Nat.le_trans hsx (by decide)) (by unfold maxLen; omega) h5a h5b
    rw [varies_ok HTW.out.1, HTW.out.2, HVV.out] at hv3
    have HV3 := Lib.hid hv3
    have b6 : Below w.heap.size w w5 := bel_trans b3 b2x
    clear hv3 own1 own2 own3 g1 g2 b1x b2x hS hsA bx1 bx2 bx3 o1 o2 o3 s1 s2 s3 lt1 lt2 lt3 lit1 hS1 hk0 hxc
    go_wp2_with fail
    refine HV3.out.mono ?_
    rintro e w' ⟨rfl, rfl⟩
    go_wp2
    go_ret
    exact ⟨rfl, b6⟩
end Go.Proofs.Ytnoffpicjhcpfaa
