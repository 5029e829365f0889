/-
  Contracts of SystemAdd (both texts).
-/
import Derived.Test.YtbcbpcidfcjibaaPlan
import Derived.Test.YtbcbpcidfcjibaaKindSgn
import Derived.Test.YtbcbpcidfcjibaaJoin
import Derived.Test.YtbcbpcidfcjibaaMem2
import Derived.Deep.RegionHeld3
namespace Go.Proofs.Ytbcbpcidfcjibaa
open Go.RowKit
set_option linter.unusedSimpArgs false
set_option linter.unusedVariables false

/-- a list of signs of the call's own -/
def OwnSgns (w : World) (base : Nat) (v : Value) (xs : List Sgn) : Prop := w.ownsRow base 78 3 v xs.length (flat sgnC xs)
def GaveSgns (xs : List Sgn) (ok : Bool) (w : World) (e : Ending) (w' : World) : Prop := ∃ v, e = .returned (.tuple #[v, .bool ok]) ∧ OwnSgns w' w.heap.size v xs ∧ Below w.heap.size w w'
theorem OwnSgns.own {w : World} {base : Nat} {v : Value} {xs : List Sgn} (h : OwnSgns w base v xs) : w.ownsRow base 78 3 v xs.length (flat sgnC xs) := h
theorem OwnSgns.form {w : World} {base : Nat} {v : Value} {xs : List Sgn} (h : OwnSgns w base v xs) : ∃ A c, v = .slice A xs.length c ∧ xs.length ≤ c ∧ c ≤ maxLen ∧ Seg w base w.heap.size A (flat sgnC xs) := by
  obtain ⟨A, c, rfl, h1, h2⟩ := own_form h
  exact ⟨A, c, rfl, h1, h2, Seg.of_own h⟩
theorem OwnSgns.below {w w' : World} {base : Nat} {v : Value} {xs : List Sgn} (h : OwnSgns w base v xs) (hb : Below w.heap.size w w') : OwnSgns w' base v xs := own_below h hb
theorem sgns_none (w : World) (base : Nat) : OwnSgns w base (.slice none 0 0) [] := ⟨rfl, .inl ⟨rfl, rfl⟩⟩
theorem sgns_made0 (w : World) (base : Nat) (hb : base ≤ w.heap.size) : OwnSgns (w.alloc (.cells #[] 78)) base (.slice (some ⟨w.heap.size, 0, none⟩) 0 0) [] :=
  World.ownsRow_made w #[] 0 hb (by simp [maxLen]) (by simp)
theorem sgn_one (xs : List Sgn) : ∀ u ∈ flat sgnC xs, u.oneCell' = true := by
  intro u hu
  obtain ⟨x, _, h⟩ := List.mem_flatMap.1 hu
  simp [sgnC] at h
  rcases h with rfl | rfl | rfl <;> rfl
theorem ok_snoc {ss : List Sgn} {x : Sgn} (ho : OkSgns ss) (hx : x.1.size ≤ maxLen) : OkSgns (ss ++ [x]) := by
  intro y hy
  rcases List.mem_append.1 hy with h | h
  · exact ho y h
  · simp at h; subst h; exact hx

set_option maxRecDepth 100000 in
set_option maxHeartbeats 1000000 in
theorem spec_SystemAdd (ss : List Sgn) (x : Sgn) (A : Option Addr) (c : Nat) (w : World) (hw : Seg w 0 w.heap.size A (flat sgnC ss)) (ho : OkSgns ss) (hx : x.1.size ≤ maxLen) (hn : ss.length ≤ 1048576) :
    Calls Try.prog 43 #[.slice A ss.length c, .agg #[.string x.1, .int .i64 x.2.1, .int .i64 x.2.2]] w (GaveSgns (added ss x) (addOk ss x) w) := by
  have hB0 := bel_alloc (Below.refl w.heap.size w) (.cells #[.string x.1, .int .i64 x.2.1, .int .i64 x.2.2] 78)
  have h1a := sgn_one ss
  have H1A := Lib.hid h1a
  have fl1 := Lib.hid (flat_length sgnC_len ss)
  clear h1a
  go_enter Try.func43, Try.ntmps43
  go_wp2
  have k0 : (w.alloc (.cells #[.string x.1, .int .i64 x.2.1, .int .i64 x.2.2] 78)).cell? ⟨w.heap.size, 0, none⟩ = some (.string x.1) := box_cell _ _ _ 0
  have k1 : (w.alloc (.cells #[.string x.1, .int .i64 x.2.1, .int .i64 x.2.2] 78)).cell? ⟨w.heap.size, 1, none⟩ = some (.int .i64 x.2.1) := box_cell _ _ _ 1
  have k2 : (w.alloc (.cells #[.string x.1, .int .i64 x.2.1, .int .i64 x.2.2] 78)).cell? ⟨w.heap.size, 2, none⟩ = some (.int .i64 x.2.2) := box_cell _ _ _ 2
  have hbs : w.heap.size < (w.alloc (.cells #[.string x.1, .int .i64 x.2.1, .int .i64 x.2.2] 78)).heap.size := by simp
  generalize w.alloc (.cells #[.string x.1, .int .i64 x.2.1, .int .i64 x.2.2] 78) = w0 at *
  have hS : ∀ w1, Below w0.heap.size w0 w1 → w1.cell? ⟨w.heap.size, 0, none⟩ = some (.string x.1) ∧ w1.cell? ⟨w.heap.size, 1, none⟩ = some (.int .i64 x.2.1) ∧ w1.cell? ⟨w.heap.size, 2, none⟩ = some (.int .i64 x.2.2) := fun w1 h =>
    ⟨(h.cell (p := ⟨w.heap.size, 0, none⟩) hbs).trans k0, (h.cell (p := ⟨w.heap.size, 1, none⟩) hbs).trans k1, (h.cell (p := ⟨w.heap.size, 2, none⟩) hbs).trans k2⟩
  have hsA : ∀ w1, Below w0.heap.size w0 w1 → Seg w1 0 w.heap.size A (flat sgnC ss) := fun w1 h => (hw.below hB0).belowB h (Nat.le_of_lt hbs)
  have bx1 : Below w0.heap.size w0 (w0.alloc (.cells #[] 78)).drew := (bel_alloc (Below.refl _ _) _).drew
  have bx2 : Below w0.heap.size w0 ((w0.alloc (.cells #[] 78)).alloc (.cells #[.string x.1, .int .i64 x.2.1, .int .i64 x.2.2] 78)).drew := (bel_alloc (bel_alloc (Below.refl _ _) _) _).drew
  have bx3 : Below w0.heap.size w0 ((w0.alloc (.cells #[.string x.1, .int .i64 x.2.1, .int .i64 x.2.2] 78)).alloc (.cells #[] 78)).drew := (bel_alloc (bel_alloc (Below.refl _ _) _) _).drew
  have o1 : (w0.alloc (.cells #[] 78)).drew.ownsRow w0.heap.size 78 3 (.slice (some ⟨w0.heap.size, 0, none⟩) 0 0) 0 [] := (World.ownsRow_made w0 #[] 0 (Nat.le_refl _) (by simp [maxLen]) (by simp)).drew
  have o2 : ((w0.alloc (.cells #[] 78)).alloc (.cells #[.string x.1, .int .i64 x.2.1, .int .i64 x.2.2] 78)).drew.ownsRow w0.heap.size 78 3 (.slice (some ⟨w0.heap.size, 0, none⟩) 0 0) 0 [] := ((World.ownsRow_made w0 #[] 0 (Nat.le_refl _) (by simp [maxLen]) (by simp)).alloc _).drew
  have o3 : ((w0.alloc (.cells #[.string x.1, .int .i64 x.2.1, .int .i64 x.2.2] 78)).alloc (.cells #[] 78)).drew.ownsRow w0.heap.size 78 3 (.slice (some ⟨w0.heap.size + 1, 0, none⟩) 0 0) 0 [] := by
    have h := (World.ownsRow_made (w0.alloc (.cells #[.string x.1, .int .i64 x.2.1, .int .i64 x.2.2] 78)) #[] 0 (base := w0.heap.size) (e := 78) (size := 3) (by simp) (by simp [maxLen]) (by simp)).drew
    have e : (w0.alloc (.cells #[.string x.1, .int .i64 x.2.1, .int .i64 x.2.2] 78)).heap.size = w0.heap.size + 1 := by simp
    rw [e] at h
    exact h
  have s1 := hsA _ bx1
  have s2 := hsA _ bx2
  have s3 := hsA _ bx3
  have lt1 : ∀ w1, (w0.alloc (.cells #[] 78)).drew.grownBy w1 (Value.slice (some ⟨w0.heap.size, 0, none⟩) 0 0).ownBlock → True := fun _ _ => trivial
  have lt2 : ∀ w1, ((w0.alloc (.cells #[] 78)).alloc (.cells #[.string x.1, .int .i64 x.2.1, .int .i64 x.2.2] 78)).drew.grownBy w1 (Value.slice (some ⟨w0.heap.size, 0, none⟩) 0 0).ownBlock → Seg w1 (w0.heap.size + 1) (w0.heap.size + 2) (some ⟨w0.heap.size + 1, 0, none⟩) [.string x.1, .int .i64 x.2.1, .int .i64 x.2.2] := by
    intro w1 g1
    have h := Seg.lit (w0.alloc (.cells #[] 78)) #[.string x.1, .int .i64 x.2.1, .int .i64 x.2.2] 78
    have e : (w0.alloc (.cells #[] 78)).heap.size = w0.heap.size + 1 := by simp
    have e2 : ((w0.alloc (.cells #[] 78)).alloc (.cells #[.string x.1, .int .i64 x.2.1, .int .i64 x.2.2] 78)).heap.size = w0.heap.size + 2 := by simp
    rw [e, e2] at h
    exact Seg.grown (w := ((w0.alloc (.cells #[] 78)).alloc (.cells #[.string x.1, .int .i64 x.2.1, .int .i64 x.2.2] 78)).drew) h g1 (by intro k hk; simp [Value.ownBlock] at hk; omega)
  have lt3 : ∀ w1, ((w0.alloc (.cells #[.string x.1, .int .i64 x.2.1, .int .i64 x.2.2] 78)).alloc (.cells #[] 78)).drew.grownBy w1 (Value.slice (some ⟨w0.heap.size + 1, 0, none⟩) 0 0).ownBlock → Seg w1 w0.heap.size (w0.heap.size + 1) (some ⟨w0.heap.size, 0, none⟩) [.string x.1, .int .i64 x.2.1, .int .i64 x.2.2] := by
    intro w1 g1
    have h := Seg.lit w0 #[.string x.1, .int .i64 x.2.1, .int .i64 x.2.2] 78
    have e2 : (w0.alloc (.cells #[.string x.1, .int .i64 x.2.1, .int .i64 x.2.2] 78)).heap.size = w0.heap.size + 1 := by simp
    rw [e2] at h
    exact Seg.grown (w := ((w0.alloc (.cells #[.string x.1, .int .i64 x.2.1, .int .i64 x.2.2] 78)).alloc (.cells #[] 78)).drew) (h.below (bel_alloc (Below.refl _ _) _).drew) g1 (by intro k hk; simp [Value.ownBlock] at hk; omega)
  go_region_held3 (fun w' => w'.cell? ⟨w.heap.size, 0, none⟩ = some (.string x.1) ∧ w'.cell? ⟨w.heap.size, 1, none⟩ = some (.int .i64 x.2.1) ∧ w'.cell? ⟨w.heap.size, 2, none⟩ = some (.int .i64 x.2.2)) (first | exact hS1 | exact hS _ (bel_alloc (Below.refl _ _) _) | exact hS _ (Below.refl _ _).drew | exact hS _ bx1 | exact hS _ bx2 | exact hS _ bx3 | exact hS _ (bel_alloc (Below.refl _ _) _).drew | exact hS _ (bel_alloc b1 _) | go_keep)
    (first
      | (refine step_append_seg _ (by rfl) (.tmp 7) (.tmp 8) 23 (by rfl) (w0.heap.size) 78 _ 3 32 Try.underlying23 info_sgn rfl (by decide) (by decide) (_) _ _ (by rfl) o1 A ss.length c (flat sgnC ss) _ _ (by rfl) s1 fl1.out H1A.out (by omega) bx1.size ?_; intro v1 w1 own1 g1; rw [Nat.zero_add, List.nil_append] at own1; have b1 := own_grown_below bx1 o1 g1 bx1.size; have hS1 := hS w1 b1; have lit1 := lt1 w1 g1)
      | (refine step_append_seg _ (by rfl) (.tmp 7) (.tmp 8) 23 (by rfl) (w0.heap.size) 78 _ 3 32 Try.underlying23 info_sgn rfl (by decide) (by decide) (_) _ _ (by rfl) o2 A ss.length c (flat sgnC ss) _ _ (by rfl) s2 fl1.out H1A.out (by omega) bx2.size ?_; intro v1 w1 own1 g1; rw [Nat.zero_add, List.nil_append] at own1; have b1 := own_grown_below bx2 o2 g1 bx2.size; have hS1 := hS w1 b1; have lit1 := lt2 w1 g1)
      | (refine step_append_seg _ (by rfl) (.tmp 7) (.tmp 8) 23 (by rfl) (w0.heap.size) 78 _ 3 32 Try.underlying23 info_sgn rfl (by decide) (by decide) (_) _ _ (by rfl) o3 A ss.length c (flat sgnC ss) _ _ (by rfl) s3 fl1.out H1A.out (by omega) bx3.size ?_; intro v1 w1 own1 g1; rw [Nat.zero_add, List.nil_append] at own1; have b1 := own_grown_below bx3 o3 g1 bx3.size; have hS1 := hS w1 b1; have lit1 := lt3 w1 g1)
      | (refine step_append_seg _ (by rfl) (.tmp 9) (.tmp 11) 23 (by rfl) (w0.heap.size) 78 _ 3 32 Try.underlying23 info_sgn rfl (by decide) (by decide) (_) _ _ (by rfl) (own1.alloc _) (some ⟨w1.heap.size, 0, none⟩) 1 1 [.string x.1, .int .i64 x.2.1, .int .i64 x.2.2] _ _ (by rfl) (Seg.lit w1 #[.string x.1, .int .i64 x.2.1, .int .i64 x.2.2] 78) rfl (by simp [Value.oneCell']) (by omega) (bel_alloc b1 _).size ?_; intro v2 w2 own2 g2; have b2 := own_grown_below (bel_alloc b1 _) (own1.alloc _) g2 (bel_alloc b1 _).size)
      | (refine step_append_seg _ (by rfl) (.tmp 9) (.tmp 11) 23 (by rfl) (w0.heap.size) 78 _ 3 32 Try.underlying23 info_sgn rfl (by decide) (by decide) (_) _ _ (by rfl) own1 (some ⟨_, 0, none⟩) 1 1 [.string x.1, .int .i64 x.2.1, .int .i64 x.2.2] _ _ (by rfl) lit1 rfl (by simp [Value.oneCell']) (by omega) b1.size ?_; intro v2 w2 own2 g2; have b2 := own_grown_below b1 own1 g2 b1.size))
  all_goals
    have b3 : Below w.heap.size w w2 := bel_trans hB0 b2
    have own3 : OwnSgns w2 w.heap.size v2 (ss ++ [x]) := by
      rw [OwnSgns, List.length_append, flat_snoc]; exact own_mono own2 (Nat.le_of_lt hbs)
    have OWN := Lib.hid own3
    obtain ⟨A2, c2, rfl, _, _, sab⟩ := own3.form
    have hv3 := spec_SystemValid (ss ++ [x]) A2 c2 _ (sab.mono (Nat.zero_le _) (Nat.le_refl _)) (ok_snoc ho hx) (by rw [List.length_append]; unfold maxLen; simp; omega)
    rw [List.length_append] at hv3
    have HV3 := Lib.hid hv3
    clear hv3 own1 own2 own3 g1 g2 b1 b2 hS hsA bx1 bx2 bx3 o1 o2 o3 s1 s2 s3 lt1 lt2 lt3 lit1 hS1 k0 k1 k2
    go_wp2_with fail
    refine HV3.out.mono ?_
    rintro e w8 ⟨rfl, b8⟩
    have own5 := OWN.out.below b8
    rw [OwnSgns, List.length_append] at own5
    have OWN5 := Lib.hid own5
    have bal := b3.trans (b8.mono b3.size)
    clear own5
    cases oab : sysOk (ss ++ [x])
    · have HJ : Hid (addOk ss x = false ∧ added ss x = []) := by simp [Hid, addOk, added, oab]
      go_wp2
      go_ret2
      exact ⟨_, by rw [HJ.out.1]; rfl, by rw [HJ.out.2]; exact sgns_made0 w8 _ bal.size, bel_alloc bal _⟩
    · have HJ : Hid (addOk ss x = true ∧ added ss x = ss ++ [x]) := by simp [Hid, addOk, added, oab]
      go_wp2
      go_ret2
      exact ⟨.slice A2 (ss.length + 1) c2, by rw [HJ.out.1]; rfl, by rw [HJ.out.2, OwnSgns, List.length_append]; exact OWN5.out, bal⟩
end Go.Proofs.Ytbcbpcidfcjibaa
