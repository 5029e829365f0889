/-
  DrawSystemAdd, sameSigns, and the plain facts of a sign added.
-/
import Derived.Test.YtniemanapimjoaaDrawO
import Derived.Test.YtniemanapimjoaaDrawSys
import Derived.Test.YtniemanapimjoaaWritL
import Derived.Test.YtniemanapimjoaaSysL
namespace Go.Proofs.Ytniemanapimjoaa
open Go.RowKit Go.Sort
set_option linter.unusedSimpArgs false
set_option linter.unusedVariables false

theorem strokeIn_mem {ss : List Sgn} (hs : sysOk ss = true) {x : Sgn} (hx : x ∈ ss) : strokeIn ss x.1 = some x.2 := by
  obtain ⟨k, hk⟩ := List.getElem?_of_mem hx
  refine strokeIn_hit hk rfl fun j hj => ?_
  obtain ⟨y, hy⟩ := get_lt (l := ss) (k := j) (by have := (List.getElem?_eq_some_iff.1 hk).1; omega)
  rw [sgnAt_eq hy]
  exact ((sys_at hs hk).2.2.2.2.2 j y hj hy).1
theorem strokeOf_mem {ss : List Sgn} (hs : sysOk ss = true) {x : Sgn} (hx : x ∈ ss) : strokeOf ss x.1 = some x.2 := by rw [strokeOf, hs, if_pos rfl]; exact strokeIn_mem hs hx
theorem add_again {ss : List Sgn} {x : Sgn} : addOk (ss ++ [x]) x = false := by
  cases h : addOk (ss ++ [x]) x
  · rfl
  · exfalso
    have h1 : (ss ++ [x] ++ [x])[ss.length + 1]? = some x := by simp
    have h2 : (ss ++ [x] ++ [x])[ss.length]? = some x := by simp
    exact ((sys_at h h1).2.2.2.2.2 ss.length x (Nat.lt_succ_self _) h2).1 rfl

theorem sgns_same (xs : List Sgn) (A B : Option Addr) (c d : Nat) (w : World) (hw : Seg w 0 w.heap.size A (flat sgnC xs)) (hv : Seg w 0 w.heap.size B (flat sgnC xs)) (hn : xs.length ≤ 1048576) :
    Calls Try.prog 45 #[.slice A xs.length c, .slice B xs.length d] w fun e w' => e = .returned (.bool true) ∧ Below w.heap.size w w' := by
  go_enter Try.func45, Try.ntmps45
  go_wp2
  go_loopw [5] (fun i wr => ∃ k : Nat, k ≤ xs.length ∧ i = .int .i64 k ∧ Hid (∃ n, wr = w.drewN n)) (fun i _ => xs.length - (intOf i).toNat)
  case atStart => exact ⟨0, Nat.zero_le _, rfl, 0, rfl⟩
  case round =>
    obtain ⟨k, hk, rfl, hd⟩ := hrel
    by_cases hlt : k < xs.length
    · obtain ⟨s, hs⟩ := get_lt hlt
      obtain ⟨g, o, rfl, hg, _, _, e1, e2, e3⟩ := hw.sgn hs
      obtain ⟨g', o', rfl, hg', _, _, f1, f2, f3⟩ := hv.sgn hs
      obtain ⟨m, hm⟩ := hd.out
      have d1 : wr.cell? ⟨g, o + k * 3, none⟩ = some (.string s.1) := by rw [hm]; exact e1
      have d2 : wr.cell? ⟨g, o + k * 3 + 1, none⟩ = some (.int .i64 s.2.1) := by rw [hm]; exact e2
      have d3 : wr.cell? ⟨g, o + k * 3 + 2, none⟩ = some (.int .i64 s.2.2) := by rw [hm]; exact e3
      have d4 : wr.cell? ⟨g', o' + k * 3, none⟩ = some (.string s.1) := by rw [hm]; exact f1
      have d5 : wr.cell? ⟨g', o' + k * 3 + 1, none⟩ = some (.int .i64 s.2.1) := by rw [hm]; exact f2
      have d6 : wr.cell? ⟨g', o' + k * 3 + 2, none⟩ = some (.int .i64 s.2.2) := by rw [hm]; exact f3
      clear hs e1 e2 e3 f1 f2 f3 hm
      go_wp2
      go_quiet (fail)
      go_wp2
      go_roundw
      case rel => exact ⟨k + 1, by omega, by go_num, by obtain ⟨m, hm⟩ := hd.out; exact ⟨m + nq, by rw [hm, World.drewN_drewN]⟩⟩
      case measure => simp [intOf]; omega
    · go_wp2
      go_ret
      exact ⟨rfl, by obtain ⟨m, hm⟩ := hd.out; rw [hm]; exact Below_drewN (Below.refl _ _) _⟩

def SomeSysSign (w : World) (e : Ending) (w' : World) : Prop := ∃ A c, ∃ ss : List Sgn, ∃ x : Sgn, e = .returned (.tuple #[.slice A ss.length c, .agg #[.string x.1, .int .i64 x.2.1, .int .i64 x.2.2]]) ∧ Seg w' 0 w'.heap.size A (flat sgnC ss) ∧ OkSgns ss ∧ ss.length ≤ 8 ∧ x.1.size ≤ 100 ∧ Below w.heap.size w w'
def nilS : Str := ⟨#[]⟩
set_option maxRecDepth 100000 in
theorem spec_DrawSystemAdd (l : List UInt8) (A : Option Addr) (c : Nat) (w : World) (hw : Seg w 0 w.heap.size A (flat byteC l)) (hc : l.length ≤ c) (hm : c ≤ maxLen) :
    Calls Try.prog 42 #[.slice A l.length c] w (SomeSysSign w) := by
  have bX := bel_alloc (Below.refl w.heap.size w) (.cells #[.string ⟨#[]⟩, .int .i64 0, .int .i64 0] 59)
  have own0 := World.ownsRow_lit (size := 3) (e := 59) (base := w.heap.size) w #[.string ⟨#[]⟩, .int .i64 0, .int .i64 0] 1 (Nat.le_refl _) (by simp [maxLen]) (by simp)
  have hw1 := (hw.below bX).top
  have hsz0 : w.heap.size < (w.alloc (.cells #[.string ⟨#[]⟩, .int .i64 0, .int .i64 0] 59)).heap.size := by simp
  go_enter Try.func42, Try.ntmps42
  go_wp2_with fail
  generalize w.alloc (.cells #[.string ⟨#[]⟩, .int .i64 0, .int .i64 0] 59) = w0 at *
  refine (spec_l6Open l A c _ hw1 hc hm).mono ?_
  rintro e w1 ⟨rfl, hr, hb, hsz⟩
  have own1 := own_below own0 hb
  have hb01 := bel_trans bX hb
  have hgl := hr.lt
  clear own0 hw1
  go_wp2_with fail
  refine (spec_l91System _ 0 _ ⟨0, Nat.le_refl _, hr⟩ (by decide)).mono ?_
  rintro e w2 ⟨A2, c2, ss, rfl, own2, hs, hn, hlc, hcm, d⟩
  have hgw : w.heap.size ≤ w0.heap.size := Nat.le_of_lt hsz0
  have hlo : w0.heap.size < w1.heap.size := hgl
  have hb2 := d.bel hb01 hgw
  have box2 := own1.kept d.2 (.inr (fun e => by simp [Value.ownBlock] at e; omega))
  have sg2 := Seg.of_own own2
  have HS := Lib.hid hs
  clear own2 own1 hr hs
  go_wp2_with fail
  refine (ofB 13 _ 6 w0.heap.size (0 + 16) w2 rfl rfl (by decide) (by decide) d.1 (by decide)).mono ?_
  rintro e w3 ⟨x, rfl, hx, d3⟩
  have hb3 := d3.bel hb2 hgw
  have box3 := box2.kept d3.2 (.inr (fun e => by simp [Value.ownBlock] at e; omega))
  have sg3 := d3.seg sg2 hlo
  clear box2 sg2
  go_wp2_with fail
  refine (spec_l91Stroke w0.heap.size (0 + 16 + 1) w3 d3.1 (by decide)).mono ?_
  rintro e w4 ⟨a, b, rfl, d4⟩
  have hb4 := d4.bel hb3 hgw
  have box4 := box3.kept d4.2 (.inr (fun e => by simp [Value.ownBlock] at e; omega))
  have sg4 := d4.seg sg3 hlo
  have f0 := box4.cellAt 0 (by decide)
  have f1 := box4.cellAt 1 (by decide)
  have f2 := box4.cellAt 2 (by decide)
  have g0 := box4.frozenAt 0
  have g1 := box4.frozenAt 1
  have g2 := box4.frozenAt 2
  have hne : ∀ k, (Value.slice (some ⟨w.heap.size, 0, none⟩) 1 1).ownBlock = some k → k < w1.heap.size ∨ w2.heap.size ≤ k := fun k hk => by simp [Value.ownBlock] at hk; omega
  have SG := Lib.hid ((((sg4.grown (grow_set w4 w.heap.size 0 1 1 (.string x)) hne).grown (grow_set _ w.heap.size 1 1 1 (.int .i64 a)) hne).grown (grow_set _ w.heap.size 2 1 1 (.int .i64 b)) hne).top.mono (lo' := 0) (Nat.zero_le _) (Nat.le_refl _))
  have BB := Lib.hid (((hb4.setCell (p := ⟨w.heap.size, 0, none⟩) (Nat.le_refl _) (.string x)).setCell (p := ⟨w.heap.size, 1, none⟩) (Nat.le_refl _) (.int .i64 a)).setCell (p := ⟨w.heap.size, 2, none⟩) (Nat.le_refl _) (.int .i64 b))
  clear box3 box4 sg3 sg4 d d3 d4 hb2 hb3 hb4 hne
  go_wp2
  exact bodyPost_ret (v := .tuple #[.slice A2 ss.length c2, .agg #[.string x, .int .i64 a, .int .i64 b]]) (by simp [results, Try.results42, go_sem, f0, f1, f2, g0, g1, g2]) rfl ⟨A2, c2, ss, (x, (a, b)), rfl, SG.out, fun y hy => Nat.le_trans (HS.out y hy) (by decide), hn, by show x.size ≤ 100; omega, BB.out⟩
end Go.Proofs.Ytniemanapimjoaa
