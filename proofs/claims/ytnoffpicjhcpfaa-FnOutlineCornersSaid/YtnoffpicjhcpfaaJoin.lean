/-
  Contracts of OutlineJoin (both texts).
-/
import Derived.Test.YtnoffpicjhcpfaaChain
import Derived.Test.YtnoffpicjhcpfaaMem2
namespace Go.Proofs.Ytnoffpicjhcpfaa
open Go.RowKit
set_option linter.unusedSimpArgs false
set_option linter.unusedVariables false

/-- a list of strokes of the call's own -/
def OwnStks (w : World) (base : Nat) (v : Value) (xs : List Stk) : Prop := w.ownsRow base 74 2 v xs.length (flat stkC xs)
def joinOk (a b : List Stk) : Bool := outOk a && outOk b && outOk (a ++ b)
def joined (a b : List Stk) : List Stk := if joinOk a b then a ++ b else []
/-- what a function that returns a list of strokes and whether it did leaves -/
def GaveStks (xs : List Stk) (ok : Bool) (w : World) (e : Ending) (w' : World) : Prop := ∃ v, e = .returned (.tuple #[v, .bool ok]) ∧ OwnStks w' w.heap.size v xs ∧ Below w.heap.size w w'
theorem own_none (w : World) (base : Nat) : OwnStks w base (.slice none 0 0) [] := ⟨rfl, .inl ⟨rfl, rfl⟩⟩
theorem own_made0 (w : World) (base : Nat) (hb : base ≤ w.heap.size) : OwnStks (w.alloc (.cells #[] 74)) base (.slice (some ⟨w.heap.size, 0, none⟩) 0 0) [] :=
  World.ownsRow_made w #[] 0 hb (by simp [maxLen]) (by simp)
theorem stk_one (xs : List Stk) : ∀ u ∈ flat stkC xs, u.oneCell' = true := by
  intro u hu
  obtain ⟨x, _, h⟩ := List.mem_flatMap.1 hu
  simp [stkC] at h
  rcases h with rfl | rfl <;> rfl
theorem OwnStks.form {w : World} {base : Nat} {v : Value} {xs : List Stk} (h : OwnStks w base v xs) : ∃ A c, v = .slice A xs.length c ∧ xs.length ≤ c ∧ c ≤ maxLen ∧ Seg w base w.heap.size A (flat stkC xs) := by
  obtain ⟨A, c, rfl, h1, h2⟩ := own_form h
  exact ⟨A, c, rfl, h1, h2, Seg.of_own h⟩
theorem own_belowB {w w' : World} {base : Nat} {v : Value} {xs : List Stk} (h : OwnStks w base v xs) (hb : Below w.heap.size w w') : OwnStks w' base v xs := own_below h hb
/-- a segment is read the same where one row of the call's own is written -/
theorem Seg.grown {w w' : World} {lo hi : Nat} {A : Option Addr} {xs : List Value} {row : Option Nat} (h : Seg w lo hi A xs) (hg : w.grownBy w' row) (hne : ∀ k, row = some k → k < lo ∨ hi ≤ k) : Seg w' lo hi A xs :=
  h.keep hg.size fun g h1 h2 h3 => hg.block g h3 fun e => by have := hne g e.symm; omega

set_option maxRecDepth 100000 in
theorem spec_OutlineJoin (a b : List Stk) (A B : Option Addr) (c d : Nat) (w : World) (ha : Seg w 0 w.heap.size A (flat stkC a)) (hb : Seg w 0 w.heap.size B (flat stkC b)) (hla : a.length ≤ 1048576) (hlb : b.length ≤ 1048576) :
    Calls Try.prog 42 #[.slice A a.length c, .slice B b.length d] w (GaveStks (joined a b) (joinOk a b) w) := by
  have hna : a.length ≤ maxLen := by unfold maxLen; omega
  have hnb : b.length ≤ maxLen := by unfold maxLen; omega
  have hnab : (a ++ b).length ≤ maxLen := by rw [List.length_append]; unfold maxLen; omega
  have own0 : (w.alloc (.cells #[] 74)).ownsRow w.heap.size 74 2 (.slice (some ⟨w.heap.size, 0, none⟩) 0 0) 0 [] := own_made0 w w.heap.size (Nat.le_refl _)
  have ha0 := ha.below (bel_alloc (Below.refl w.heap.size w) (.cells #[] 74))
  have h1a := stk_one a
  have h1b := stk_one b
  have H1A := Lib.hid h1a
  have H1B := Lib.hid h1b
  have fl1 := Lib.hid (flat_length stkC_len a)
  have fl2 := Lib.hid (flat_length stkC_len b)
  have hB0 : w.heap.size ≤ (w.alloc (.cells #[] 74)).heap.size := by simp
  clear h1a h1b
  go_enter Try.func42, Try.ntmps42
  go_wp2_with (first
    | (at_builtin; refine append_seg _ (by rfl) (.tmp 7) (.tmp 8) 30 (by rfl) (w.heap.size) 74 _ 2 16 Try.underlying30 info_stk rfl (by decide) (by decide) (_) _ _ (by rfl) own0 A a.length c (flat stkC a) _ _ (by rfl) ha0 fl1.out H1A.out (by omega) hB0 ?_; intro v1 w1 own1 g1; rw [Nat.zero_add, List.nil_append] at own1; have b1 := own_grown_below (bel_alloc (Below.refl w.heap.size w) _) own0 g1 hB0; have hb1 := hb.below b1; have hB1 := b1.size; obtain ⟨A1, c1, rfl, _, _⟩ := own_form own1)
    | (at_builtin; refine append_seg _ (by rfl) (.tmp 9) (.tmp 10) 30 (by rfl) (w.heap.size) 74 _ 2 16 Try.underlying30 info_stk rfl (by decide) (by decide) (_) _ _ (by rfl) own1 B b.length d (flat stkC b) _ _ (by rfl) hb1 fl2.out H1B.out (by omega) hB1 ?_; intro v2 w2 own2 g2; have b2 := own_grown_below b1 own1 g2 hB1; rw [← flat_append] at own2; have own3 : OwnStks w2 w.heap.size v2 (a ++ b) := by (rw [OwnStks, List.length_append]; exact own2)
       have OWN := Lib.hid own3; obtain ⟨A2, c2, rfl, _, _, sab⟩ := own3.form; have ha2 := (ha.below b2).top; have hb2 := (hb.below b2).top; clear own0 own1 own2 own3 g1 g2 ha0 hb1 hB0 hB1))
  cases oa : outOk a
  · have HJ : Hid (joinOk a b = false ∧ joined a b = []) := by simp [Hid, joinOk, joined, oa]
    go_wp2_with fail
    refine (spec_OutlineValid a A c _ ha2 hna).mono ?_
    rintro e w3 ⟨rfl, b3⟩
    rw [oa]
    have bal := b2.trans (b3.mono b2.size)
    go_wp2
    go_ret2
    exact ⟨_, by rw [HJ.out.1]; rfl, by rw [HJ.out.2]; exact own_made0 w3 _ bal.size, bel_alloc bal _⟩
  cases ob : outOk b
  · have HJ : Hid (joinOk a b = false ∧ joined a b = []) := by simp [Hid, joinOk, joined, ob]
    go_wp2_with fail
    refine (spec_OutlineValid a A c _ ha2 hna).mono ?_
    rintro e w3 ⟨rfl, b3⟩
    rw [oa]
    have hb3 := (hb2.below b3).top
    go_wp2_with fail
    refine (spec_OutlineValid b B d _ hb3 hnb).mono ?_
    rintro e w4 ⟨rfl, b4⟩
    rw [ob]
    have bal := b2.trans ((bel_trans b3 b4).mono b2.size)
    go_wp2
    go_ret2
    exact ⟨_, by rw [HJ.out.1]; rfl, by rw [HJ.out.2]; exact own_made0 w4 _ bal.size, bel_alloc bal _⟩
  cases oab : outOk (a ++ b)
  · have HJ : Hid (joinOk a b = false ∧ joined a b = []) := by simp [Hid, joinOk, joined, oab]
    go_wp2_with fail
    refine (spec_OutlineValid a A c _ ha2 hna).mono ?_
    rintro e w3 ⟨rfl, b3⟩
    rw [oa]
    have hb3 := (hb2.below b3).top
    go_wp2_with fail
    refine (spec_OutlineValid b B d _ hb3 hnb).mono ?_
    rintro e w4 ⟨rfl, b4⟩
    rw [ob]
    have sab4 := ((sab.below b3).top.below b4).top
    have hv3 := spec_OutlineValid (a ++ b) A2 c2 _ (sab4.mono (Nat.zero_le _) (Nat.le_refl _)) hnab
    rw [List.length_append] at hv3
    have HV3 := Lib.hid hv3
    clear hv3
    go_wp2_with fail
    refine HV3.out.mono ?_
    rintro e w5 ⟨rfl, b5⟩
    rw [oab]
    have bal := b2.trans ((bel_trans b3 (bel_trans b4 b5)).mono b2.size)
    go_wp2
    go_ret2
    exact ⟨_, by rw [HJ.out.1]; rfl, by rw [HJ.out.2]; exact own_made0 w5 _ bal.size, bel_alloc bal _⟩
  · have HJ : Hid (joinOk a b = true ∧ joined a b = a ++ b) := by simp [Hid, joinOk, joined, oa, ob, oab]
    go_wp2_with fail
    refine (spec_OutlineValid a A c _ ha2 hna).mono ?_
    rintro e w3 ⟨rfl, b3⟩
    rw [oa]
    have hb3 := (hb2.below b3).top
    go_wp2_with fail
    refine (spec_OutlineValid b B d _ hb3 hnb).mono ?_
    rintro e w4 ⟨rfl, b4⟩
    rw [ob]
    have sab4 := ((sab.below b3).top.below b4).top
    have hv3 := spec_OutlineValid (a ++ b) A2 c2 _ (sab4.mono (Nat.zero_le _) (Nat.le_refl _)) hnab
    rw [List.length_append] at hv3
    have HV3 := Lib.hid hv3
    clear hv3
    go_wp2_with fail
    refine HV3.out.mono ?_
    rintro e w5 ⟨rfl, b5⟩
    rw [oab]
    have own5 := own_belowB OWN.out (bel_trans b3 (bel_trans b4 b5))
    rw [List.length_append] at own5
    have OWN5 := Lib.hid own5
    clear own5
    have bal := b2.trans ((bel_trans b3 (bel_trans b4 b5)).mono b2.size)
    go_wp2
    go_ret2
    exact ⟨.slice A2 (a.length + b.length) c2, by rw [HJ.out.1]; rfl, by rw [HJ.out.2]; exact OWN5.out, bal⟩

theorem make_0n {P : Program} (t e : TypeId) (z : Value) (size bytes : Nat) (ht : P.underlying t = some (.slice e)) (hi : (P.info? e).map (fun i => (i.zero, i.size, i.bytes)) = some (some z, size, bytes))
    (hby : bytes ≤ 64) (n : Nat) (hn : n ≤ 8388608) (w : World) :
    (Instr.makeSlice t (.int .i64 0) (.int .i64 (n : Int))).run P w = .ok (.slice (some ⟨w.heap.size, 0, none⟩) 0 n) (w.alloc (.cells (madeCells z.cells (n * size)) e)) := by
  obtain ⟨i, hi, hz0, hz1, hz2⟩ := info_parts hi
  have h1 : bytes * n ≤ 64 * 8388608 := Nat.mul_le_mul hby hn
  have h2 : ((bytes * n : Nat) : Int) = (bytes : Int) * n := Int.natCast_mul _ _
  have := run_make (P := P) w t e i z ht hi hz0 .i64 .i64 (0 : Int) n (by omega) (by omega) (by rw [hz2]; omega) (by omega)
  simpa [hz1] using this
set_option maxRecDepth 100000 in
theorem impl_OutlineJoin (a b : List Stk) (A B : Option Addr) (c d : Nat) (w : World) (ha : Seg w 0 w.heap.size A (flat stkC a)) (hb : Seg w 0 w.heap.size B (flat stkC b)) (hla : a.length ≤ 1048576) (hlb : b.length ≤ 1048576) :
    Calls Try.prog 43 #[.slice A a.length c, .slice B b.length d] w (GaveStks (joined a b) (joinOk a b) w) := by
  have hna : a.length ≤ maxLen := by unfold maxLen; omega
  have hnb : b.length ≤ maxLen := by unfold maxLen; omega
  have hnab : (a ++ b).length ≤ maxLen := by rw [List.length_append]; unfold maxLen; omega
  cases oa : outOk a
  · have HJ : Hid (joinOk a b = false ∧ joined a b = []) := by simp [Hid, joinOk, joined, oa]
    go_enter Try.func43, Try.ntmps43
    go_wp2_with fail
    refine (impl_OutlineValid a A c _ ha hna).mono ?_
    rintro e w3 ⟨rfl, b3⟩
    rw [oa]
    go_wp2
    go_ret2
    exact ⟨.slice none 0 0, by rw [HJ.out.1]; rfl, by rw [HJ.out.2]; exact own_none _ _, b3⟩
  cases ob : outOk b
  · have HJ : Hid (joinOk a b = false ∧ joined a b = []) := by simp [Hid, joinOk, joined, ob]
    go_enter Try.func43, Try.ntmps43
    go_wp2_with fail
    refine (impl_OutlineValid a A c _ ha hna).mono ?_
    rintro e w3 ⟨rfl, b3⟩
    rw [oa]
    have hb3 := (hb.below b3).top
    go_wp2_with fail
    refine (impl_OutlineValid b B d _ hb3 hnb).mono ?_
    rintro e w4 ⟨rfl, b4⟩
    rw [ob]
    have bal := bel_trans b3 b4
    go_wp2
    go_ret2
    exact ⟨.slice none 0 0, by rw [HJ.out.1]; rfl, by rw [HJ.out.2]; exact own_none _ _, bal⟩
  have h1a := stk_one a
  have h1b := stk_one b
  have H1A := Lib.hid h1a
  have H1B := Lib.hid h1b
  have fl1 := Lib.hid (flat_length stkC_len a)
  have fl2 := Lib.hid (flat_length stkC_len b)
  clear h1a h1b
  go_enter Try.func43, Try.ntmps43
  go_wp2_with fail
  refine (impl_OutlineValid a A c _ ha hna).mono ?_
  rintro e w3 ⟨rfl, b3⟩
  rw [oa]
  have hb3 := (hb.below b3).top
  go_wp2_with fail
  refine (impl_OutlineValid b B d _ hb3 hnb).mono ?_
  rintro e w4 ⟨rfl, b4⟩
  rw [ob]
  have bel0 := bel_trans b3 b4
  have hmk := make_0n (P := Try.prog) 30 74 (.agg #[.int .i64 0, .int .i64 0]) 2 16 Try.underlying30 info_stk (by decide) (a.length + b.length) (by omega) w4
  rw [show ((a.length + b.length : Nat) : Int) = (a.length : Int) + (b.length : Int) from by omega] at hmk
  have own0 : (w4.alloc (.cells (madeCells (Value.agg #[.int .i64 0, .int .i64 0]).cells ((a.length + b.length) * 2)) 74)).ownsRow w.heap.size 74 2 (.slice (some ⟨w4.heap.size, 0, none⟩) 0 (a.length + b.length)) 0 [] := World.ownsRow_made w4 _ _ bel0.size (by unfold maxLen; omega) (by simp [madeCells])
  generalize hW : w4.alloc (.cells (madeCells (Value.agg #[.int .i64 0, .int .i64 0]).cells ((a.length + b.length) * 2)) 74) = w5 at *
  have b5 : Below w.heap.size w w5 := by rw [← hW]; exact bel_alloc bel0 _
  clear hW
  have ha5 := ha.below b5
  have hb5 := hb.below b5
  have hB5 := b5.size
  go_wp2_with (first
    | (at_builtin; refine append_seg _ (by rfl) (.tmp 21) (.tmp 22) 30 (by rfl) (w.heap.size) 74 _ 2 16 Try.underlying30 info_stk rfl (by decide) (by decide) (_) _ _ (by rfl) own0 A a.length c (flat stkC a) _ _ (by rfl) ha5 fl1.out H1A.out (by omega) hB5 ?_; intro v1 w6 own1 g1; rw [Nat.zero_add, List.nil_append] at own1; have b6 := own_grown_below b5 own0 g1 hB5; have hb6 := hb.below b6; have hB6 := b6.size; obtain ⟨A1, c1, rfl, _, _⟩ := own_form own1)
    | (at_builtin; refine append_seg _ (by rfl) (.tmp 24) (.tmp 25) 30 (by rfl) (w.heap.size) 74 _ 2 16 Try.underlying30 info_stk rfl (by decide) (by decide) (_) _ _ (by rfl) own1 B b.length d (flat stkC b) _ _ (by rfl) hb6 fl2.out H1B.out (by omega) hB6 ?_; intro v2 w7 own2 g2; have b7 := own_grown_below b6 own1 g2 hB6; rw [← flat_append] at own2; have own3 : OwnStks w7 w.heap.size v2 (a ++ b) := by (rw [OwnStks, List.length_append]; exact own2)
       have OWN := Lib.hid own3; obtain ⟨A2, c2, rfl, _, _, sab⟩ := own3.form; have hv3 := impl_OutlineValid (a ++ b) A2 c2 _ (sab.mono (Nat.zero_le _) (Nat.le_refl _)) hnab; rw [List.length_append] at hv3; have HV3 := Lib.hid hv3; clear hv3 own0 own1 own2 own3 g1 g2 ha5 hb5 hb6 hB5 hB6))
  refine HV3.out.mono ?_
  rintro e w8 ⟨rfl, b8⟩
  have own5 := own_belowB OWN.out b8
  rw [List.length_append] at own5
  have OWN5 := Lib.hid own5
  have bal := b7.trans (b8.mono b7.size)
  clear own5
  cases oab : outOk (a ++ b)
  · have HJ : Hid (joinOk a b = false ∧ joined a b = []) := by simp [Hid, joinOk, joined, oab]
    go_wp2
    go_ret2
    exact ⟨.slice none 0 0, by rw [HJ.out.1]; rfl, by rw [HJ.out.2]; exact own_none _ _, bal⟩
  · have HJ : Hid (joinOk a b = true ∧ joined a b = a ++ b) := by simp [Hid, joinOk, joined, oa, ob, oab]
    go_wp2
    go_ret2
    exact ⟨.slice A2 (a.length + b.length) c2, by rw [HJ.out.1]; rfl, by rw [HJ.out.2]; exact OWN5.out, bal⟩
end Go.Proofs.Ytnoffpicjhcpfaa
