/-
  Contracts of least, CopyLeast and CopyShort (the program's).
-/
import Derived.Test.YtgddklafeaoleaaCost2
namespace Go.Proofs.Ytgddklafeaoleaa
open Go.RowKit Go.Sort
set_option linter.unusedSimpArgs false
set_option linter.unusedVariables false

theorem Costs.madeH (w1 : World) (base n H u : Nat) (F : Value) (hH : w1.heap.size = H) (hb : base ≤ H) (hn : n ≤ 1000) (hu : w1.cell? ⟨u, 0, none⟩ = some F) (hul : u < H) :
    Costs ((((w1.alloc (.cells (madeCells #[Value.int .i64 0, Value.int .i64 0, Value.int .i64 0] (n * 3)) 70)).alloc (.cells #[.slice (some ⟨H, 0, none⟩) n n] 74)).alloc (.cells (madeCells #[Value.int .i64 0] (n + 1)) 3)).alloc (.cells #[.slice (some ⟨H + 1 + 1, 0, none⟩) (n + 1) (n + 1)] 67)) base (H + 1 + 1 + 1) (H + 1 + 1) (H + 1) H u n F (fun _ => 0) (List.replicate n (0, 0, 0)) := by
  have f1 := Firsts.madeH w1 base n H hH hb (by omega)
  generalize hw2 : w1.alloc (.cells (madeCells #[Value.int .i64 0, Value.int .i64 0, Value.int .i64 0] (n * 3)) 70) = w2 at *
  have s2 : w2.heap.size = H + 1 := by rw [← hw2]; simp [hH]
  have u2 : w2.cell? ⟨u, 0, none⟩ = some F := by rw [← hw2]; exact ((bel_alloc (Below.refl w1.heap.size w1) _).cell (p := ⟨u, 0, none⟩) (by show u < _; omega)).trans hu
  have b3 := bel_alloc (Below.refl w2.heap.size w2) (.cells #[.slice (some ⟨H, 0, none⟩) n n] 74)
  have p3 := box_cell w2 #[.slice (some ⟨H, 0, none⟩) n n] 74 0
  rw [s2] at p3
  have s3 : (w2.alloc (.cells #[.slice (some ⟨H, 0, none⟩) n n] 74)).heap.size = H + 1 + 1 := by simp [s2]
  generalize w2.alloc (.cells #[.slice (some ⟨H, 0, none⟩) n n] 74) = w3 at *
  have D := Desk.madeH w3 base (n + 1) (H + 1 + 1) s3 (by omega) (by omega)
  have b5 := bel_alloc (bel_alloc (Below.refl w3.heap.size w3) (.cells (madeCells #[Value.int .i64 0] (n + 1)) 3)) (.cells #[.slice (some ⟨H + 1 + 1, 0, none⟩) (n + 1) (n + 1)] 67)
  refine ⟨D, (f1.below b3).below b5, (b5.cell (p := ⟨H + 1, 0, none⟩) (by show H + 1 < _; omega)).trans p3, (b5.cell (p := ⟨u, 0, none⟩) (by show u < _; omega)).trans ((b3.cell (p := ⟨u, 0, none⟩) (by show u < _; omega)).trans u2), ?_, ?_, by omega⟩
  · have := b5.size; omega
  · have := b5.size; omega
theorem costF_zero (wt : Wt) (bs : List PB) (ws : List Str) (i : Nat) (hi : i < ws.length + 1) : (0 : Int) = costF wt bs ws ws.length i := by
  unfold costF
  by_cases h : i < ws.length
  · rw [if_pos h]
  · obtain rfl : i = ws.length := by omega
    rw [if_neg h, List.drop_length, lw_nil]
/-- what least leaves: the second list begins with the least cost -/
def GaveCosts (v : Int) (n : Nat) (w : World) (e : Ending) (w' : World) : Prop := ∃ r q, e = .returned (.tuple #[.slice (some ⟨r, 0, none⟩) n n, .slice (some ⟨q, 0, none⟩) (n + 1) (n + 1)]) ∧ w'.cell? ⟨q, 0, none⟩ = some (.int .i64 v) ∧ Below w.heap.size w w'

set_option maxRecDepth 100000 in
set_option maxHeartbeats 2000000 in
theorem least_cost (xs : List Brf) (ws : List Str) (A B : Option Addr) (c d : Nat) (w : World) (hw : Seg w 0 w.heap.size A (flat brfC xs)) (ho : BrfsAt w xs) (hv : Seg w 0 w.heap.size B (strs ws)) (hp : StrsOk ws) (hok : cpOk (pbsOf xs) ws = true) (hm : ws.length ≤ d) (hdm : d ≤ maxLen) :
    Calls Try.prog 65 #[.agg #[.slice A xs.length c, .slice B ws.length d], Value.func (Fn.func 66) #[] #[]] w (GaveCosts (lw wtC (pbsOf xs) ws) ws.length w) := by
  simp only [cpOk, Bool.and_eq_true] at hok
  obtain ⟨hbv, hsp⟩ := hok
  have h20 := (speech_parts hsp).1
  have hmk := make_n (P := Try.prog) 67 3 (.int .i64 0) 1 8 Try.underlying67 info_int (by decide) (ws.length + 1) (by omega)
  have hmt := make_n (P := Try.prog) 74 70 (.agg #[.int .i64 0, .int .i64 0, .int .i64 0]) 3 24 Try.underlying74 info_tok (by decide) ws.length (by omega)
  have ec : ((ws.length + 1 : Nat) : Int) = (ws.length : Int) + 1 := by omega
  rw [ec] at hmk
  clear ec
  have b0 := bel_alloc (bel_alloc (Below.refl w.heap.size w) (.cells #[.slice A xs.length c, .slice B ws.length d] 64)) (.cells #[Value.func (Fn.func 66) #[] #[]] 77)
  have u0 : ((w.alloc (.cells #[.slice A xs.length c, .slice B ws.length d] 64)).alloc (.cells #[Value.func (Fn.func 66) #[] #[]] 77)).cell? ⟨w.heap.size + 1, 0, none⟩ = some (Value.func (Fn.func 66) #[] #[]) := by
    have := box_cell (w.alloc (.cells #[.slice A xs.length c, .slice B ws.length d] 64)) #[Value.func (Fn.func 66) #[] #[]] 77 0
    rwa [show (w.alloc (.cells #[.slice A xs.length c, .slice B ws.length d] 64)).heap.size = w.heap.size + 1 by simp] at this
  have s0 : ((w.alloc (.cells #[.slice A xs.length c, .slice B ws.length d] 64)).alloc (.cells #[Value.func (Fn.func 66) #[] #[]] 77)).heap.size = w.heap.size + 1 + 1 := by simp
  go_enter Try.func65, Try.ntmps65
  go_wp2_with fail
  have C5 := (Costs.madeH ((w.alloc (.cells #[.slice A xs.length c, .slice B ws.length d] 64)).alloc (.cells #[Value.func (Fn.func 66) #[] #[]] 77)) w.heap.size ws.length (w.heap.size + 1 + 1) (w.heap.size + 1) _ s0 (by omega) (by omega) u0 (by omega)).congr fun i hi => costF_zero wtC (pbsOf xs) ws i hi
  have b5 := bel_alloc (bel_alloc (bel_alloc (bel_alloc b0 (.cells (madeCells #[Value.int .i64 0, Value.int .i64 0, Value.int .i64 0] (ws.length * 3)) 70)) (.cells #[.slice (some ⟨w.heap.size + 1 + 1, 0, none⟩) ws.length ws.length] 74)) (.cells (madeCells #[Value.int .i64 0] (ws.length + 1)) 3)) (.cells #[.slice (some ⟨w.heap.size + 1 + 1 + 1 + 1, 0, none⟩) (ws.length + 1) (ws.length + 1)] 67)
  have hv := visit_cost xs ws A B c d (w.heap.size + 1 + 1 + 1 + 1 + 1) (w.heap.size + 1 + 1 + 1 + 1) (w.heap.size + 1 + 1 + 1) (w.heap.size + 1 + 1) (w.heap.size + 1) w hw ho hv hp hbv h20 (speech_small hsp) hm hdm ws.length 0 (by omega) _ _ b5 C5 (zero_rep _ _)
  have hv0 : ((0 : Nat) : Int) = 0 := rfl
  rw [hv0] at hv
  have q1 := C5.des.tab.lt.1
  have q2 := C5.fst.lt.1
  have HB5 := Lib.hid b5
  clear hv0 C5 b5 b0
  refine hv.mono ?_
  rintro e w6 ⟨rfl, ⟨fs, D6, _⟩, g6⟩
  have b6 : Below w.heap.size w w6 := g6.below HB5.out HB5.out.size q1 q2
  have c0 := D6.sptr
  have c1 := D6.des.ptr
  have c2 := D6.des.tab.cell (i := 0) (by omega)
  have HF : Hid (costF wtC (pbsOf xs) ws 0 0 = lw wtC (pbsOf xs) ws) := by unfold costF; simp [Hid]
  rw [HF.out] at c2
  have C2 := Lib.hid c2
  clear D6 g6 c2 hmk hmt hv u0
  go_wp2_with fail
  go_quiet (fail)
  go_wp2_with fail
  go_ret2
  exact ⟨_, _, rfl, C2.out, Below_drewN b6 _⟩
theorem impl_CopyLeast (xs : List Brf) (ws : List Str) (A B : Option Addr) (c d : Nat) (w : World) (hw : Seg w 0 w.heap.size A (flat brfC xs)) (ho : BrfsAt w xs) (hv : Seg w 0 w.heap.size B (strs ws)) (hp : StrsOk ws) (hn : xs.length ≤ maxLen) (hc : xs.length ≤ c) (hcm : c ≤ maxLen) (hm : ws.length ≤ d) (hdm : d ≤ maxLen) :
    Calls Try.prog 29 #[.slice A xs.length c, .slice B ws.length d] w fun e w' => e = .returned (.int .i64 (leastOf wtC (pbsOf xs) ws)) ∧ Below w.heap.size w w' := by
  go_enter Try.func29, Try.ntmps29
  go_wp2_with fail
  refine (impl_deskOf xs ws A B c d _ hw ho hn hc hcm hv hp hm hdm).mono ?_
  rintro e w1 ⟨hres, b1⟩
  rcases hres with ⟨hok, rfl⟩ | ⟨hok, rfl⟩
  case inr =>
    have HO : Hid (leastOf wtC (pbsOf xs) ws = -1) := by rw [Hid, leastOf, hok]; rfl
    have bal := bel_alloc b1 (.cells #[.slice none 0 0, .slice none 0 0] 64)
    go_wp2_with fail
    go_ret
    exact ⟨ret_int HO.out.symm, bal⟩
  have HO : Hid (leastOf wtC (pbsOf xs) ws = lw wtC (pbsOf xs) ws) := by rw [Hid, leastOf, hok]; rfl
  have bal := bel_alloc b1 (.cells #[.slice A xs.length c, .slice B ws.length d] 64)
  have HOK := Lib.hid hok
  clear hok
  go_wp2_with fail
  refine (least_cost xs ws A B c d _ (hw.below bal).top (ho.below bal) (hv.below bal).top hp HOK.out hm hdm).mono ?_
  rintro e w2 ⟨r, q, rfl, hcell, b2⟩
  have bal2 := bel_trans bal b2
  have h0 : (0 : Int) < ((ws.length + 1 : Nat) : Int) := by omega
  go_wp2_with fail
  go_ret
  exact ⟨ret_int HO.out.symm, bal2⟩

set_option maxRecDepth 100000 in
set_option maxHeartbeats 2000000 in
theorem least_one (xs : List Brf) (ws : List Str) (A B : Option Addr) (c d : Nat) (w : World) (hw : Seg w 0 w.heap.size A (flat brfC xs)) (ho : BrfsAt w xs) (hv : Seg w 0 w.heap.size B (strs ws)) (hp : StrsOk ws) (hok : cpOk (pbsOf xs) ws = true) (hm : ws.length ≤ d) (hdm : d ≤ maxLen) :
    Calls Try.prog 65 #[.agg #[.slice A xs.length c, .slice B ws.length d], Value.func (Fn.func 72) #[] #[]] w (GaveCosts (lw wtO (pbsOf xs) ws) ws.length w) := by
  simp only [cpOk, Bool.and_eq_true] at hok
  obtain ⟨hbv, hsp⟩ := hok
  have h20 := (speech_parts hsp).1
  have hmk := make_n (P := Try.prog) 67 3 (.int .i64 0) 1 8 Try.underlying67 info_int (by decide) (ws.length + 1) (by omega)
  have hmt := make_n (P := Try.prog) 74 70 (.agg #[.int .i64 0, .int .i64 0, .int .i64 0]) 3 24 Try.underlying74 info_tok (by decide) ws.length (by omega)
  have ec : ((ws.length + 1 : Nat) : Int) = (ws.length : Int) + 1 := by omega
  rw [ec] at hmk
  clear ec
  have b0 := bel_alloc (bel_alloc (Below.refl w.heap.size w) (.cells #[.slice A xs.length c, .slice B ws.length d] 64)) (.cells #[Value.func (Fn.func 72) #[] #[]] 77)
  have u0 : ((w.alloc (.cells #[.slice A xs.length c, .slice B ws.length d] 64)).alloc (.cells #[Value.func (Fn.func 72) #[] #[]] 77)).cell? ⟨w.heap.size + 1, 0, none⟩ = some (Value.func (Fn.func 72) #[] #[]) := by
    have := box_cell (w.alloc (.cells #[.slice A xs.length c, .slice B ws.length d] 64)) #[Value.func (Fn.func 72) #[] #[]] 77 0
    rwa [show (w.alloc (.cells #[.slice A xs.length c, .slice B ws.length d] 64)).heap.size = w.heap.size + 1 by simp] at this
  have s0 : ((w.alloc (.cells #[.slice A xs.length c, .slice B ws.length d] 64)).alloc (.cells #[Value.func (Fn.func 72) #[] #[]] 77)).heap.size = w.heap.size + 1 + 1 := by simp
  go_enter Try.func65, Try.ntmps65
  go_wp2_with fail
  have C5 := (Costs.madeH ((w.alloc (.cells #[.slice A xs.length c, .slice B ws.length d] 64)).alloc (.cells #[Value.func (Fn.func 72) #[] #[]] 77)) w.heap.size ws.length (w.heap.size + 1 + 1) (w.heap.size + 1) _ s0 (by omega) (by omega) u0 (by omega)).congr fun i hi => costF_zero wtO (pbsOf xs) ws i hi
  have b5 := bel_alloc (bel_alloc (bel_alloc (bel_alloc b0 (.cells (madeCells #[Value.int .i64 0, Value.int .i64 0, Value.int .i64 0] (ws.length * 3)) 70)) (.cells #[.slice (some ⟨w.heap.size + 1 + 1, 0, none⟩) ws.length ws.length] 74)) (.cells (madeCells #[Value.int .i64 0] (ws.length + 1)) 3)) (.cells #[.slice (some ⟨w.heap.size + 1 + 1 + 1 + 1, 0, none⟩) (ws.length + 1) (ws.length + 1)] 67)
  have hv := visit_one xs ws A B c d (w.heap.size + 1 + 1 + 1 + 1 + 1) (w.heap.size + 1 + 1 + 1 + 1) (w.heap.size + 1 + 1 + 1) (w.heap.size + 1 + 1) (w.heap.size + 1) w hw ho hv hp hbv h20 (speech_small hsp) hm hdm ws.length 0 (by omega) _ _ b5 C5 (zero_rep _ _)
  have hv0 : ((0 : Nat) : Int) = 0 := rfl
  rw [hv0] at hv
  have q1 := C5.des.tab.lt.1
  have q2 := C5.fst.lt.1
  have HB5 := Lib.hid b5
  clear hv0 C5 b5 b0
  refine hv.mono ?_
  rintro e w6 ⟨rfl, ⟨fs, D6, _⟩, g6⟩
  have b6 : Below w.heap.size w w6 := g6.below HB5.out HB5.out.size q1 q2
  have c0 := D6.sptr
  have c1 := D6.des.ptr
  have c2 := D6.des.tab.cell (i := 0) (by omega)
  have HF : Hid (costF wtO (pbsOf xs) ws 0 0 = lw wtO (pbsOf xs) ws) := by unfold costF; simp [Hid]
  rw [HF.out] at c2
  have C2 := Lib.hid c2
  clear D6 g6 c2 hmk hmt hv u0
  go_wp2_with fail
  go_quiet (fail)
  go_wp2_with fail
  go_ret2
  exact ⟨_, _, rfl, C2.out, Below_drewN b6 _⟩
theorem impl_CopyShort (xs : List Brf) (ws : List Str) (A B : Option Addr) (c d : Nat) (w : World) (hw : Seg w 0 w.heap.size A (flat brfC xs)) (ho : BrfsAt w xs) (hv : Seg w 0 w.heap.size B (strs ws)) (hp : StrsOk ws) (hn : xs.length ≤ maxLen) (hc : xs.length ≤ c) (hcm : c ≤ maxLen) (hm : ws.length ≤ d) (hdm : d ≤ maxLen) :
    Calls Try.prog 36 #[.slice A xs.length c, .slice B ws.length d] w fun e w' => e = .returned (.int .i64 (leastOf wtO (pbsOf xs) ws)) ∧ Below w.heap.size w w' := by
  go_enter Try.func36, Try.ntmps36
  go_wp2_with fail
  refine (impl_deskOf xs ws A B c d _ hw ho hn hc hcm hv hp hm hdm).mono ?_
  rintro e w1 ⟨hres, b1⟩
  rcases hres with ⟨hok, rfl⟩ | ⟨hok, rfl⟩
  case inr =>
    have HO : Hid (leastOf wtO (pbsOf xs) ws = -1) := by rw [Hid, leastOf, hok]; rfl
    have bal := bel_alloc b1 (.cells #[.slice none 0 0, .slice none 0 0] 64)
    go_wp2_with fail
    go_ret
    exact ⟨ret_int HO.out.symm, bal⟩
  have HO : Hid (leastOf wtO (pbsOf xs) ws = lw wtO (pbsOf xs) ws) := by rw [Hid, leastOf, hok]; rfl
  have bal := bel_alloc b1 (.cells #[.slice A xs.length c, .slice B ws.length d] 64)
  have HOK := Lib.hid hok
  clear hok
  go_wp2_with fail
  refine (least_one xs ws A B c d _ (hw.below bal).top (ho.below bal) (hv.below bal).top hp HOK.out hm hdm).mono ?_
  rintro e w2 ⟨r, q, rfl, hcell, b2⟩
  have bal2 := bel_trans bal b2
  have h0 : (0 : Int) < ((ws.length + 1 : Nat) : Int) := by omega
  go_wp2_with fail
  go_ret
  exact ⟨ret_int HO.out.symm, bal2⟩
end Go.Proofs.Ytgddklafeaoleaa
