/-
  Contracts of SystemStroke (both texts).
-/
import Derived.Test.YtbcbpcidfcjibaaSigns
namespace Go.Proofs.Ytbcbpcidfcjibaa
open Go.RowKit Go.Sort
set_option linter.unusedSimpArgs false
set_option linter.unusedVariables false

theorem box_frozen (w : World) (cs : Array Value) (t : TypeId) (j : Nat) : (w.alloc (.cells cs t)).frozen? ⟨w.heap.size, j, none⟩ = false := by
  unfold World.frozen?
  simp only [heap_alloc_new]
  simp
/-- the stroke of a letter in a system -/
def strokeIn (ss : List Sgn) (l : Str) : Option Stk := (ss.find? (fun x => decide (x.1 = l))).map (·.2)
def strokeOf (ss : List Sgn) (l : Str) : Option Stk := if sysOk ss then strokeIn ss l else none
def stkOr (o : Option Stk) : Stk := o.getD (0, 0)
/-- what a function that returns a stroke and whether there is one leaves -/
def GaveStk (o : Option Stk) (w : World) (e : Ending) (w' : World) : Prop :=
  e = .returned (.tuple #[.agg #[.int .i64 (stkOr o).1, .int .i64 (stkOr o).2], .bool o.isSome]) ∧ Below w.heap.size w w'
theorem strokeIn_hit {ss : List Sgn} {l : Str} {k : Nat} {x : Sgn} (hx : ss[k]? = some x) (he : x.1 = l) (hno : ∀ j, j < k → (sgnAt ss j).1 ≠ l) : strokeIn ss l = some x.2 := by
  induction ss generalizing k with
  | nil => simp at hx
  | cons y ss ih =>
    cases k with
    | zero => simp at hx; subst hx; simp [strokeIn, he]
    | succ k =>
      have h0 : y.1 ≠ l := hno 0 (by omega)
      have := ih (k := k) (by simpa using hx) (fun j hj => hno (j + 1) (by omega))
      simp only [strokeIn, List.find?_cons, decide_eq_false h0]
      exact this
theorem strokeIn_none {ss : List Sgn} {l : Str} (hno : ∀ j, j < ss.length → (sgnAt ss j).1 ≠ l) : strokeIn ss l = none := by
  induction ss with
  | nil => rfl
  | cons y ss ih =>
    have h0 : y.1 ≠ l := hno 0 (by simp)
    have := ih (fun j hj => hno (j + 1) (by simp; omega))
    simp only [strokeIn, List.find?_cons, decide_eq_false h0]
    exact this

set_option maxHeartbeats 1000000 in
theorem spec_SystemStroke (ss : List Sgn) (l : Str) (A : Option Addr) (c : Nat) (w : World) (hw : Seg w 0 w.heap.size A (flat sgnC ss)) (ho : OkSgns ss) (hn : ss.length ≤ maxLen) :
    Calls Try.prog 33 #[.slice A ss.length c, .string l] w (GaveStk (strokeOf ss l) w) := by
  have hn' : ss.length ≤ 9223372036854775807 := hn
  go_enter Try.func33, Try.ntmps33
  go_wp2
  generalize hW0 : w.alloc (.cells #[.int .i64 0, .int .i64 0] 51) = w0
  have HW0 := Lib.hid hW0
  have hw00 : Below w.heap.size w w0 := by rw [← hW0]; exact bel_alloc (Below.refl _ _) _
  have hs0 : w.heap.size < w0.heap.size := by rw [← hW0]; simp
  clear hW0
  go_loopw [6] (fun i wr => ∃ k : Nat, k ≤ ss.length ∧ i = .int .i64 k ∧ Hid (k = 0 ∨ sysOk ss = true) ∧ Hid (∀ j, j < k → (sgnAt ss j).1 ≠ l) ∧ Below w0.heap.size w0 wr) (fun i _ => ss.length - (intOf i).toNat)
  case atStart => exact ⟨0, Nat.zero_le _, rfl, .inl rfl, fun j hj => by omega, Below.refl _ _⟩
  case round =>
    obtain ⟨k, hk, rfl, hsy, hno, hb⟩ := hrel
    have hbw : Below w.heap.size w wr := bel_trans hw00 hb
    have c0 : ∀ w1, Below w0.heap.size w0 w1 → w1.cell? ⟨w.heap.size, 0, none⟩ = some (.int .i64 0) ∧ w1.cell? ⟨w.heap.size, 1, none⟩ = some (.int .i64 0) ∧ w1.frozen? ⟨w.heap.size, 0, none⟩ = false ∧ w1.frozen? ⟨w.heap.size, 1, none⟩ = false := by
      intro w1 h1
      have e0 := HW0.out
      subst e0
      exact ⟨box_later h1 0, box_later h1 1, (h1.frozen (p := ⟨w.heap.size, 0, none⟩) (by simp)).trans (box_frozen _ _ _ _), (h1.frozen (p := ⟨w.heap.size, 1, none⟩) (by simp)).trans (box_frozen _ _ _ _)⟩
    have C0 := Lib.hid c0
    clear c0
    by_cases hlt : k < ss.length
    · have hd : decide ((k : Int) < (ss.length : Int)) = true := by simp; omega
      go_wp2_with fail
      refine (spec_SystemValid ss A c _ (hw.below hbw).top ho hn).mono ?_
      rintro e w1 ⟨rfl, b1⟩
      have hb1 := bel_trans hb b1
      have hbw1 := bel_trans hbw b1
      obtain ⟨f0, f1, f2, f3⟩ := C0.out w1 hb1
      cases hs : sysOk ss
      · have HR : Hid (strokeOf ss l = none) := by rw [Hid, strokeOf, hs]; rfl
        go_wp2
        exact bodyPost_ret (v := .tuple #[.agg #[.int .i64 0, .int .i64 0], .bool false]) (by simp [results, Try.results33, go_sem, f0, f1, f2, f3]) rfl ⟨by rw [HR.out]; rfl, (hbw1.setCell (p := ⟨w.heap.size, 0, none⟩) (Nat.le_refl _) _).setCell (p := ⟨w.heap.size, 1, none⟩) (Nat.le_refl _) _⟩
      · obtain ⟨x, hx⟩ := get_lt hlt
        obtain ⟨g, o, rfl, hg, _, _, hc1, hc2, hc3⟩ := (hw.below hbw1).sgn hx
        have hgw : g < w.heap.size := by assumption
        by_cases he : x.1 = l
        · have HR : Hid (strokeOf ss l = some x.2) := by rw [Hid, strokeOf, hs]; exact strokeIn_hit hx he hno.out
          rw [he] at hc1
          clear hx he
          go_wp2
          exact bodyPost_ret (v := .tuple #[.agg #[.int .i64 x.2.1, .int .i64 x.2.2], .bool true]) (by simp [results, Try.results33, go_sem, f0, f1, f2, f3]) rfl ⟨by rw [HR.out]; rfl, (hbw1.setCell (p := ⟨w.heap.size, 0, none⟩) (Nat.le_refl _) _).setCell (p := ⟨w.heap.size, 1, none⟩) (Nat.le_refl _) _⟩
        · have hxe := str_ne he
          have HN : Hid (∀ j, j < k + 1 → (sgnAt ss j).1 ≠ l) := by
            intro j hj
            by_cases e : j = k
            · subst e; rw [sgnAt_eq hx]; exact he
            · exact hno.out j (by omega)
          clear hx he
          go_wp2
          go_roundw
          case rel => exact ⟨k + 1, by omega, by go_num, .inr hs, HN, hb1⟩
          case measure => simp [intOf]; omega
    · obtain ⟨f0, f1, f2, f3⟩ := C0.out wr hb
      have hd : decide ((k : Int) < (ss.length : Int)) = false := by simp; omega
      have hdn : decide (k < ss.length) = false := by simp; omega
      have HR : Hid (strokeOf ss l = none) := by
        have h1 := strokeIn_none (ss := ss) (l := l) (fun j hj => hno.out j (by omega))
        rw [Hid, strokeOf]
        split
        · exact h1
        · rfl
      go_wp2
      exact bodyPost_ret (v := .tuple #[.agg #[.int .i64 0, .int .i64 0], .bool false]) (by simp [results, Try.results33, go_sem, f0, f1, f2, f3]) rfl ⟨by rw [HR.out]; rfl, (hbw.setCell (p := ⟨w.heap.size, 0, none⟩) (Nat.le_refl _) _).setCell (p := ⟨w.heap.size, 1, none⟩) (Nat.le_refl _) _⟩

theorem strokeIn_ent {ss : List Sgn} (hs : sysOk ss = true) {l : Str} (hl : l.size = 1) :
    (∀ p ∈ ss.map ent, p.1 ≠ keyB l) → strokeIn ss l = none := by
  intro h
  refine strokeIn_none fun j hj he => ?_
  obtain ⟨x, hx⟩ := get_lt hj
  rw [sgnAt_eq hx] at he
  exact h (ent x) (List.mem_map.2 ⟨x, List.mem_of_getElem? hx, rfl⟩) (by simp [ent, he])
theorem strokeIn_find {ss : List Sgn} (hs : sysOk ss = true) {l : Str} (hl : l.size = 1) {y : Sgn} (hy : y ∈ ss) (hk : keyB y.1 = keyB l) : strokeIn ss l = some y.2 := by
  simp only [sysOk, Bool.and_eq_true] at hs
  obtain ⟨k, hk'⟩ := List.getElem?_of_mem hy
  have hkl := (List.getElem?_eq_some_iff.1 hk').1
  have hat := allTo_iff.1 hs.2 k hkl
  rw [sysAt, sgnAt_eq hk', Bool.and_eq_true] at hat
  have hc : consOk y.1 = true := by have := hat.1; rw [sgnOk, Bool.and_eq_true] at this; exact this.1
  have he : y.1 = l := by
    simp only [consOk, Bool.and_eq_true, decide_eq_true_eq] at hc
    apply str_ext
    rw [one_list hc.1.1, one_list hl]
    unfold keyB at hk
    injection hk with _ hk
    have : (byteAt y.1 0).toNat = (byteAt l 0).toNat := by omega
    rw [UInt8.toNat_inj.1 this]
  refine strokeIn_hit hk' he fun j hj hje => ?_
  have := allTo_iff.1 hat.2 j hj
  rw [hje, he] at this
  simp at this

end Go.Proofs.Ytbcbpcidfcjibaa
