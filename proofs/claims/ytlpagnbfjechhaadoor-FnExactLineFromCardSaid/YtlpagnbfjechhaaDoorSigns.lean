/-
  Contracts of signsOf and of the program's SystemValid.
-/
import Derived.Test.YtlpagnbfjechhaaDoorSys
import Derived.StillTailTactics
import Derived.Outline
namespace Go.Proofs.YtlpagnbfjechhaaDoor
open Go.RowKit Go.Sort
set_option linter.unusedSimpArgs false
set_option linter.unusedVariables false

def keyB (s : Str) : Value := .int .u8 ((byteAt s 0).toNat : Int)
def ent (x : Sgn) : Value × Value := (keyB x.1, .agg #[.int .i64 x.2.1, .int .i64 x.2.2])
def entL (x : Sgn) : Value × Value := (.agg #[.int .i64 x.2.1, .int .i64 x.2.2], keyB x.1)
theorem ent_keys (l : List Sgn) : ∀ p ∈ l.map ent, byteK p.1 := by
  intro p hp
  obtain ⟨x, _, rfl⟩ := List.mem_map.1 hp
  exact ⟨_, rfl⟩
theorem entL_keys (l : List Sgn) : ∀ p ∈ l.map entL, stkK p.1 := by
  intro p hp
  obtain ⟨x, _, rfl⟩ := List.mem_map.1 hp
  exact ⟨_, rfl⟩
theorem one_list {s : Str} (h : s.size = 1) : s.data.toList = [byteAt s 0] := by
  have hl : s.data.toList.length = 1 := by simpa using h
  match hd : s.data.toList, hl with
  | [c], _ => simp [byteAt, hd]
theorem keyB_inj {a b : Str} (ha : consOk a = true) (hb : consOk b = true) (h : keyB a = keyB b) : a = b := by
  simp only [consOk, Bool.and_eq_true, decide_eq_true_eq] at ha hb
  apply str_ext
  rw [one_list ha.1.1, one_list hb.1.1]
  unfold keyB at h
  injection h with _ h
  have : (byteAt a 0).toNat = (byteAt b 0).toNat := by omega
  rw [UInt8.toNat_inj.1 this]
theorem stkV_inj {a b : Stk} (h : Value.agg #[.int .i64 a.1, .int .i64 a.2] = .agg #[.int .i64 b.1, .int .i64 b.2]) : a = b := by
  obtain ⟨d, s⟩ := a
  obtain ⟨d', s'⟩ := b
  simpa using h
theorem sys_prev {ss : List Sgn} {k : Nat} (h : allTo (sysAt ss) k = true) {x : Sgn} (hx : x ∈ ss.take k) (hk : k ≤ ss.length) : sgnOk x = true ∧ ∃ j, j < k ∧ ss[j]? = some x := by
  obtain ⟨j, hj⟩ := List.getElem?_of_mem hx
  have hjk : j < k := by have := (List.getElem?_eq_some_iff.1 hj).1; simp at this; omega
  rw [List.getElem?_take_of_lt hjk] at hj
  have := allTo_iff.1 h j hjk
  rw [sysAt, sgnAt_eq hj, Bool.and_eq_true] at this
  exact ⟨this.1, j, hjk, hj⟩
theorem new_of_miss {ss : List Sgn} {k : Nat} {x : Sgn} (hk : k ≤ ss.length) (h1 : ∀ p ∈ (ss.take k).map ent, p.1 ≠ keyB x.1) (h2 : ∀ p ∈ (ss.take k).map entL, p.1 ≠ .agg #[.int .i64 x.2.1, .int .i64 x.2.2]) : sgnNew ss x k = true := by
  refine allTo_iff.2 fun j hj => ?_
  obtain ⟨y, hy⟩ := get_lt (show j < ss.length by omega)
  rw [sgnAt_eq hy]
  have hm : y ∈ ss.take k := List.mem_of_getElem? (i := j) (by rw [List.getElem?_take_of_lt hj]; exact hy)
  have a1 := h1 _ (List.mem_map.2 ⟨y, hm, rfl⟩)
  have a2 := h2 _ (List.mem_map.2 ⟨y, hm, rfl⟩)
  have b1 : y.1 ≠ x.1 := fun e => a1 (by simp [ent, e])
  have b2 : y.2 ≠ x.2 := fun e => a2 (by simp [entL, e])
  simp [b1, b2]

/-- what signsOf leaves -/
def Signed (ss : List Sgn) (w : World) (e : Ending) (w' : World) : Prop :=
  ∃ v, e = .returned (.tuple #[v, .bool (sysOk ss)]) ∧ (sysOk ss = true → ∃ b, v = .map (some b) ∧ w.heap.size ≤ b ∧ MapIs w' b (ss.map ent)) ∧ Below w.heap.size w w'
theorem signed_no {ss : List Sgn} {w w' : World} (h : sysOk ss = false) (hb : Below w.heap.size w w') : Signed ss w (.returned (.tuple #[.map none, .bool false])) w' :=
  by
    refine ⟨.map none, by rw [h], ?_, hb⟩
    intro h'
    rw [h] at h'
    cases h'
theorem consOk_eq (s : Str) : consOk s = (decide (s.size = 1) && (letterOk (byteAt s 0) && !vowel (byteAt s 0))) := Bool.and_assoc _ _ _

end Go.Proofs.YtlpagnbfjechhaaDoor
