/-
  Contracts of deskOf and CopyMany (the program's).
-/
import Derived.Test.YtgddklafeaoleaaVisM
namespace Go.Proofs.Ytgddklafeaoleaa
open Go.RowKit Go.Sort
set_option linter.unusedSimpArgs false
set_option linter.unusedVariables false

def cpOk (bs : List PB) (ws : List Str) : Bool := bvOk bs && speechOk ws
def manyOf (bs : List PB) (ws : List Str) : Int := if cpOk bs ws then ways bs ws else -1
theorem speech_parts {ws : List Str} (h : speechOk ws = true) : ws.length ≤ 20 ∧ ∀ s ∈ ws, wordOk s = true := by
  simp only [speechOk, Bool.and_eq_true, decide_eq_true_eq] at h
  refine ⟨h.1, fun s hs => ?_⟩
  obtain ⟨k, hk⟩ := List.getElem?_of_mem hs
  have := allTo_iff.1 h.2 k (List.getElem?_eq_some_iff.1 hk).1
  rwa [strAt_eq hk] at this
theorem speech_small {ws : List Str} (h : speechOk ws = true) : ∀ s ∈ ws, s.size ≤ 12 := fun s hs => (wordOk_size ((speech_parts h).2 s hs)).2

/-- what deskOf leaves -/
def GaveDesk (ok : Bool) (A B : Option Addr) (n c m d : Nat) (w : World) (e : Ending) (w' : World) : Prop :=
  ((ok = true ∧ e = .returned (.tuple #[.agg #[.slice A n c, .slice B m d], .bool true])) ∨ (ok = false ∧ e = .returned (.tuple #[.agg #[.slice none 0 0, .slice none 0 0], .bool false]))) ∧ Below w.heap.size w w'
set_option maxRecDepth 100000 in
theorem impl_deskOf (xs : List Brf) (ws : List Str) (A B : Option Addr) (c d : Nat) (w : World) (hw : Seg w 0 w.heap.size A (flat brfC xs)) (ho : BrfsAt w xs) (hn : xs.length ≤ maxLen) (hc : xs.length ≤ c) (hcm : c ≤ maxLen) (hv : Seg w 0 w.heap.size B (strs ws)) (hp : StrsOk ws) (hm : ws.length ≤ d) (hdm : d ≤ maxLen) :
    Calls Try.prog 60 #[.slice A xs.length c, .slice B ws.length d] w (GaveDesk (cpOk (pbsOf xs) ws) A B xs.length c ws.length d w) := by
  have bA := bel_alloc (Below.refl w.heap.size w) (.cells #[.slice none 0 0, .slice none 0 0] 64)
  go_enter Try.func60, Try.ntmps60
  go_wp2_with fail
  refine (impl_BriefsValid xs A c _ (hw.below bA).top (ho.below bA) hn hc hcm).mono ?_
  rintro e w1 ⟨rfl, b1⟩
  have b01 := bel_trans bA b1
  obtain ⟨hcc, hff⟩ := bcell b1
  have hzs : w.heap.size < w1.heap.size := by have := b1.size; simp at this; omega
  cases hbv : bvOk (pbsOf xs)
  · have HO : Hid (cpOk (pbsOf xs) ws = false) := by rw [Hid, cpOk, hbv]; rfl
    go_wp2_with fail
    exact bodyPost_ret (v := .tuple #[.agg #[.slice none 0 0, .slice none 0 0], .bool false]) (by simp [results, Try.results60, go_sem, hcc]) rfl ⟨.inr ⟨HO.out, rfl⟩, (b01.setCell (by simp) _).setCell (by simp) _⟩
  · go_wp2_with fail
    refine (impl_SpeechValid ws B d _ (hv.below b01).top hp (Nat.le_trans hm hdm)).mono ?_
    rintro e w' ⟨rfl, rfl⟩
    cases hsp : speechOk ws
    · have HO : Hid (cpOk (pbsOf xs) ws = false) := by rw [Hid, cpOk, hsp, Bool.and_false]
      go_wp2_with fail
      exact bodyPost_ret (v := .tuple #[.agg #[.slice none 0 0, .slice none 0 0], .bool false]) (by simp [results, Try.results60, go_sem, hcc]) rfl ⟨.inr ⟨HO.out, rfl⟩, (b01.setCell (by simp) _).setCell (by simp) _⟩
    · have HO : Hid (cpOk (pbsOf xs) ws = true) := by rw [Hid, cpOk, hbv, hsp]; rfl
      go_wp2_with fail
      exact bodyPost_ret (v := .tuple #[.agg #[.slice A xs.length c, .slice B ws.length d], .bool true]) (by simp [results, Try.results60, go_sem, hcc]) rfl ⟨.inl ⟨HO.out, rfl⟩, (b01.setCell (by simp) _).setCell (by simp) _⟩

theorem Tab.madeH (w : World) (base n H : Nat) (hH : w.heap.size = H) (hb : base ≤ H) (hn : n ≤ 8388608) : Tab (w.alloc (.cells (madeCells #[Value.int .i64 0] n) 3)) base H n (fun _ => 0) := by
  subst hH
  have h := Tab.made w base n hb hn
  rw [Nat.mul_one] at h
  exact h
theorem Desk.madeH (w : World) (base n H : Nat) (hH : w.heap.size = H) (hb : base ≤ H) (hn : n ≤ 8388608) :
    Desk ((w.alloc (.cells (madeCells #[Value.int .i64 0] n) 3)).alloc (.cells #[.slice (some ⟨H, 0, none⟩) n n] 67)) base (H + 1) H n (fun _ => 0) := by
  have h1 := Tab.madeH w base n H hH hb hn
  have hs : (w.alloc (.cells (madeCells #[Value.int .i64 0] n) 3)).heap.size = H + 1 := by simp [hH]
  refine ⟨h1.below (bel_alloc (Below.refl _ _) _), ?_, by omega, by simp [hH], by omega⟩
  have := box_cell (w.alloc (.cells (madeCells #[Value.int .i64 0] n) 3)) #[.slice (some ⟨H, 0, none⟩) n n] 67 0
  rw [hs] at this
  exact this

set_option maxRecDepth 100000 in
set_option maxHeartbeats 1000000 in
theorem impl_CopyMany (xs : List Brf) (ws : List Str) (A B : Option Addr) (c d : Nat) (w : World) (hw : Seg w 0 w.heap.size A (flat brfC xs)) (ho : BrfsAt w xs) (hv : Seg w 0 w.heap.size B (strs ws)) (hp : StrsOk ws) (hn : xs.length ≤ maxLen) (hc : xs.length ≤ c) (hcm : c ≤ maxLen) (hm : ws.length ≤ d) (hdm : d ≤ maxLen) :
    Calls Try.prog 22 #[.slice A xs.length c, .slice B ws.length d] w fun e w' => e = .returned (.int .i64 (manyOf (pbsOf xs) ws)) ∧ Below w.heap.size w w' := by
  go_enter Try.func22, Try.ntmps22
  go_wp2_with fail
  refine (impl_deskOf xs ws A B c d _ hw ho hn hc hcm hv hp hm hdm).mono ?_
  rintro e w1 ⟨hres, b1⟩
  rcases hres with ⟨hok, rfl⟩ | ⟨hok, rfl⟩
  case inr =>
    have HO : Hid (manyOf (pbsOf xs) ws = -1) := by rw [Hid, manyOf, hok]; rfl
    have bal := bel_alloc b1 (.cells #[.slice none 0 0, .slice none 0 0] 64)
    go_wp2_with fail
    go_ret
    exact ⟨ret_int HO.out.symm, bal⟩
  have HO : Hid (manyOf (pbsOf xs) ws = ways (pbsOf xs) ws) := by rw [Hid, manyOf, hok]; rfl
  simp only [cpOk, Bool.and_eq_true] at hok
  obtain ⟨hbv, hsp⟩ := hok
  have h20 := (speech_parts hsp).1
  have hmk := make_n (P := Try.prog) 67 3 (.int .i64 0) 1 8 Try.underlying67 info_int (by decide) (ws.length + 1) (by omega)
  have ec : ((ws.length + 1 : Nat) : Int) = (ws.length : Int) + 1 := by omega
  rw [ec] at hmk
  clear ec
  have hsz1 : (w1.alloc (.cells #[.slice A xs.length c, .slice B ws.length d] 64)).heap.size = w1.heap.size + 1 := by simp
  have D3 := Desk.madeH (w1.alloc (.cells #[.slice A xs.length c, .slice B ws.length d] 64)) w.heap.size (ws.length + 1) (w1.heap.size + 1) hsz1 (by have := b1.size; omega) (by omega)
  have b3 := bel_alloc (bel_alloc (bel_alloc b1 (.cells #[.slice A xs.length c, .slice B ws.length d] 64)) (.cells (madeCells #[Value.int .i64 0] (ws.length + 1)) 3)) (.cells #[.slice (some ⟨w1.heap.size + 1, 0, none⟩) (ws.length + 1) (ws.length + 1)] 67)
  have c0 := D3.tab.cell (i := ws.length) (by omega)
  have f0 := D3.tab.free ws.length
  have EW : (((w1.alloc (.cells #[.slice A xs.length c, .slice B ws.length d] 64)).alloc (.cells (madeCells #[Value.int .i64 0] (ws.length + 1)) 3)).alloc (.cells #[.slice (some ⟨w1.heap.size + 1, 0, none⟩) (ws.length + 1) (ws.length + 1)] 67)).setCell ⟨w1.heap.size + 1, ws.length, none⟩ (.int .i64 1)
      = ((w1.alloc (.cells #[.slice A xs.length c, .slice B ws.length d] 64)).alloc (.cells ((madeCells #[Value.int .i64 0] (ws.length + 1)).setIfInBounds ws.length (.int .i64 1)) 3)).alloc (.cells #[.slice (some ⟨w1.heap.size + 1, 0, none⟩) (ws.length + 1) (ws.length + 1)] 67) := by
    go_simp
  have D4 := ((D3.set ws.length 1).congr (g := manyF (pbsOf xs) ws ws.length) (fun i hi => by
    unfold updF manyF
    by_cases h : i = ws.length
    · rw [if_pos h, if_neg (by omega), h, List.drop_length, ways_nil]
    · rw [if_neg h, if_pos (by omega)]))
  have b4 := (b3.setCell (p := ⟨w1.heap.size + 1, ws.length, none⟩) (by have := b1.size; show w.heap.size ≤ w1.heap.size + 1; omega) (.int .i64 1))
  rw [EW] at D4 b4
  have hv := (visit_many xs ws A B c d (w1.heap.size + 1 + 1) (w1.heap.size + 1) w hw ho hv hp hbv h20 (speech_small hsp) hm hdm ws.length 0 (by omega) _ b4 D4)
  have hv0 : ((0 : Nat) : Int) = 0 := rfl
  rw [hv0] at hv
  have HV := Lib.hid hv
  have B4 := Lib.hid b4
  clear hv hv0 EW D4 b4
  have hq := D3.tab.lt.1
  have hW := Lib.hid hmk
  clear D3 b3 hsz1
  go_wp2_with fail
  refine HV.out.mono ?_
  rintro e w5 ⟨rfl, D5, g5⟩
  have b5 := B4.out.grown g5 B4.out.size (fun k hk => by injection hk with hk; omega)
  have c1 := D5.ptr
  have c2 := D5.tab.cell (i := 0) (by omega)
  have HF : Hid (manyF (pbsOf xs) ws 0 0 = ways (pbsOf xs) ws) := by unfold manyF; simp [Hid]
  rw [HF.out] at c2
  have h0 : (0 : Int) < ((ws.length + 1 : Nat) : Int) := by omega
  clear c0 f0 D5 g5 hmk HV
  go_wp2_with fail
  go_ret
  exact ⟨ret_int HO.out.symm, b5⟩
end Go.Proofs.Ytgddklafeaoleaa
