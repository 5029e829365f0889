/-
  Contract of the sequence that strings.SplitSeq hands back, at a blank: for every loop body that keeps the three captured boxes.
-/
import Derived.RangeFuncBox
import Derived.RangeFuncCalls
import Derived.RangeFuncLeaves
import Derived.Shelf.Abstract
import Derived.Shelf.RegionOpen
import Derived.WalkKit
import Derived.OwnWalkIn
import Derived.TacticsInMore
import Derived.LoopNIn
import Derived.LoopIn
import Derived.Test.YtlpagnbfjechhaaDoorIdx
namespace Go.Proofs.YtlpagnbfjechhaaDoor
open Go.RowKit Go.Shelf
set_option linter.unusedSimpArgs false
set_option linter.unusedVariables false
attribute [local go_sem] Oper.semAt_some

/-- the three captured boxes: the blank, the rest of the text, nought -/
def Boxes (b1 b2 b3 : Nat) (rest : Str) (W : World) : Prop := Boxed W b1 9 (.string ⟨#[32]⟩) ∧ Boxed W b2 9 (.string rest) ∧ Boxed W b3 3 (.int .i64 0)
/-- how long the rest is -/
def restLen (b2 : Nat) (W : World) : Nat := match W.cell? ⟨b2, 0, none⟩ with | some (.string t) => t.size | _ => 0
theorem restLen_eq {b2 : Nat} {W : World} {rest : Str} (h : Boxed W b2 9 (.string rest)) : restLen b2 W = rest.size := by rw [restLen, h.cell]

set_option maxRecDepth 100000 in
set_option maxHeartbeats 1000000 in
theorem seq_in (n : Nat) (hn : 1 ≤ n) (l b1 b2 b3 : Nat) (s : Str) (hs : s.size ≤ 1048576) (J : List Str → Str → World → Prop) (Jx : World → Prop)
    (hB : ∀ pre rest W, J pre rest W → Boxes b1 b2 b3 rest W)
    (hset : ∀ pre rest rest' W, J pre rest W → J pre rest' (W.setCell ⟨b2, 0, none⟩ (.string rest')))
    (hY : ∀ pre x more rest W, J pre rest W → parts s = pre ++ x :: more → YieldAt Fence.wide (n - 1) Tryd.prog l #[.string x] W fun e W' => (e = .returned (.bool true) ∧ J (pre ++ [x]) rest W') ∨ (e = .returned (.bool false) ∧ Jx W'))
    (W : World) (h0 : J [] s W) :
    CallsIn Fence.wide n Tryd.prog 23 #[.func (.yield l) #[] #[], .pointer (some ⟨b1, 0, none⟩), .pointer (some ⟨b2, 0, none⟩), .pointer (some ⟨b3, 0, none⟩)] W fun e W' => (∃ v, e = .returned v) ∧ ((∃ rest, J (parts s) rest W') ∨ Jx W') := by
  obtain ⟨x1, x2, x3⟩ := hB _ _ _ h0
  have c1 := x1.cell
  refine callsIn_of_wp Tryd.func23 rfl trivial ?_ rfl
  simp only [Tryd.ntmps23, List.size_toArray, List.length_cons, List.length_nil, Nat.reduceAdd, Nat.reduceSub, Array.replicate_succ, Array.replicate_zero, List.push_toArray, List.append_toArray, List.nil_append, List.cons_append]
  gi_wp2
  clear c1 x1 x2 x3
  gi_loopw [7] (fun _ wr => ∃ (pre : List Str) (rest : Str), rest.size ≤ 1048576 ∧ Hid (parts s = pre ++ parts rest) ∧ J pre rest wr)
    (fun _ wr => restLen b2 wr)
  case atStart => exact ⟨[], s, hs, by simp [Hid], h0⟩
  case round =>
    obtain ⟨pre, rest, hrs, hps, hJ⟩ := hrel
    obtain ⟨x1, x2, x3⟩ := hB _ _ _ hJ
    have c1 := x1.cell
    have c2 := x2.cell
    have c3 := x3.cell
    have f2 := x2.frozen
    have hge := Lib.indexByte_ge rest.data.toList 32
    by_cases hi : Lib.indexByte rest.data.toList 32 < 0
    · have hp : parts s = pre ++ rest :: [] := by rw [hps.out, parts_none hi]
      have hp2 := Lib.hid hp
      obtain ⟨fn, tmps, assign, body, hy, hR⟩ := hY pre rest [] rest wr hJ hp
      clear hp
      gi_wp2_with (refine ⟨trivial, ?_⟩; gi_at_call 25; refine (callsIn_wide.2 (strings_Index rest _)).mono ?_; rintro e w' ⟨rfl, rfl⟩)
      refine hR.mono ?_
      rintro e W3 (⟨rfl, hJ3⟩ | ⟨rfl, hJ3⟩)
      · gi_wp2
        go_end0
        exact ⟨⟨_, rfl⟩, .inl ⟨_, by rw [hp2.out]; exact hJ3⟩⟩
      · gi_wp2
        go_end0
        exact ⟨⟨_, rfl⟩, .inr hJ3⟩
    · obtain ⟨i, hi2⟩ : ∃ i : Nat, Lib.indexByte rest.data.toList 32 = (i : Int) := ⟨(Lib.indexByte rest.data.toList 32).toNat, by omega⟩
      have hlt : i < rest.size := by
        have h1 := (List.getElem?_eq_some_iff.1 (Lib.indexByte_some hi2).1).1
        simpa using h1
      have hp : parts s = pre ++ rest.extract 0 i :: parts (rest.extract (i + 1) rest.size) := by rw [hps.out, parts_some hi2]
      have hp2 := Lib.hid hp
      have HI := Lib.hid hi2
      obtain ⟨fn, tmps, assign, body, hy, hR⟩ := hY pre (rest.extract 0 i) _ rest wr hJ hp
      clear hp hge hi hi2
      gi_wp2_with (refine ⟨trivial, ?_⟩; gi_at_call 25; refine (callsIn_wide.2 (strings_Index rest _)).mono ?_; rintro e w' ⟨rfl, rfl⟩; rw [HI.out])
      refine hR.mono ?_
      rintro e W3 (⟨rfl, hJ3⟩ | ⟨rfl, hJ3⟩)
      · obtain ⟨y1, y2, y3⟩ := hB _ _ _ hJ3
        have d1 := y1.cell
        have d2 := y2.cell
        have d3 := y3.cell
        have g2 := y2.frozen
        have hJ4 := hset _ _ (rest.extract (i + 1) rest.size) _ hJ3
        gi_wp2
        go_roundw
        case rel => exact ⟨_, _, by rw [ByteArray.size_extract]; omega, by rw [Hid, hp2.out]; simp, hJ4⟩
        case measure =>
          rw [restLen_eq (hB _ _ _ hJ4).2.1, restLen_eq x2, ByteArray.size_extract]; omega
      · gi_wp2
        refine bodyPost_ret (results_none rfl _ _ _) rfl ?_
        exact ⟨⟨_, rfl⟩, .inr hJ3⟩
end Go.Proofs.YtlpagnbfjechhaaDoor
