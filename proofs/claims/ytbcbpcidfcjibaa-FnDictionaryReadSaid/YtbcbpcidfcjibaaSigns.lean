/-
  Contracts of signsOf and of the program's SystemValid.
-/
import Derived.Test.YtbcbpcidfcjibaaSys
import Derived.StillTailTactics
import Derived.Outline
namespace Go.Proofs.Ytbcbpcidfcjibaa
open Go.RowKit Go.Sort
set_option linter.unusedSimpArgs false
set_option linter.unusedVariables false

def keyB (s : Str) : Value := .int .u8 ((byteAt s 0).toNat : Int)
def ent (x : Sgn) : Value × Value := (keyB x.1, .agg #[.int .i64 x.2.1, .int .i64 x.2.2])
def entL (x : Sgn) : Value × Value := (.agg #[.int .i64 x.2.1, .int .i64 x.2.2], keyB x.1)
theorem ent_keys (l : List Sgn) : ∀ p ∈ l.map ent, byteK p.1 := by
  intro p hp
  obtain ⟨x, _, rfl⟩ := List.mem_map.1 hp
  exact ⟨_, rfl⟩
theorem entL_keys (l : List Sgn) : ∀ p ∈ l.map entL, stkK p.1 := by
  intro p hp
  obtain ⟨x, _, rfl⟩ := List.mem_map.1 hp
  exact ⟨_, rfl⟩
theorem one_list {s : Str} (h : s.size = 1) : s.data.toList = [byteAt s 0] := by
  have hl : s.data.toList.length = 1 := by simpa using h
  match hd : s.data.toList, hl with
  | [c], _ => simp [byteAt, hd]
theorem keyB_inj {a b : Str} (ha : consOk a = true) (hb : consOk b = true) (h : keyB a = keyB b) : a = b := by
  simp only [consOk, Bool.and_eq_true, decide_eq_true_eq] at ha hb
  apply str_ext
  rw [one_list ha.1.1, one_list hb.1.1]
  unfold keyB at h
  injection h with _ h
  have : (byteAt a 0).toNat = (byteAt b 0).toNat := by omega
  rw [UInt8.toNat_inj.1 this]
theorem stkV_inj {a b : Stk} (h : Value.agg #[.int .i64 a.1, .int .i64 a.2] = .agg #[.int .i64 b.1, .int .i64 b.2]) : a = b := by
  obtain ⟨d, s⟩ := a
  obtain ⟨d', s'⟩ := b
  simpa using h
theorem sys_prev {ss : List Sgn} {k : Nat} (h : allTo (sysAt ss) k = true) {x : Sgn} (hx : x ∈ ss.take k) (hk : k ≤ ss.length) : sgnOk x = true ∧ ∃ j, j < k ∧ ss[j]? = some x := by
  obtain ⟨j, hj⟩ := List.getElem?_of_mem hx
  have hjk : j < k := by have := (List.getElem?_eq_some_iff.1 hj).1; simp at this; omega
  rw [List.getElem?_take_of_lt hjk] at hj
  have := allTo_iff.1 h j hjk
  rw [sysAt, sgnAt_eq hj, Bool.and_eq_true] at this
  exact ⟨this.1, j, hjk, hj⟩
theorem new_of_miss {ss : List Sgn} {k : Nat} {x : Sgn} (hk : k ≤ ss.length) (h1 : ∀ p ∈ (ss.take k).map ent, p.1 ≠ keyB x.1) (h2 : ∀ p ∈ (ss.take k).map entL, p.1 ≠ .agg #[.int .i64 x.2.1, .int .i64 x.2.2]) : sgnNew ss x k = true := by
  refine allTo_iff.2 fun j hj => ?_
  obtain ⟨y, hy⟩ := get_lt (show j < ss.length by omega)
  rw [sgnAt_eq hy]
  have hm : y ∈ ss.take k := List.mem_of_getElem? (i := j) (by rw [List.getElem?_take_of_lt hj]; exact hy)
  have a1 := h1 _ (List.mem_map.2 ⟨y, hm, rfl⟩)
  have a2 := h2 _ (List.mem_map.2 ⟨y, hm, rfl⟩)
  have b1 : y.1 ≠ x.1 := fun e => a1 (by simp [ent, e])
  have b2 : y.2 ≠ x.2 := fun e => a2 (by simp [entL, e])
  simp [b1, b2]

/-- what signsOf leaves -/
def Signed (ss : List Sgn) (w : World) (e : Ending) (w' : World) : Prop :=
  ∃ v, e = .returned (.tuple #[v, .bool (sysOk ss)]) ∧ (sysOk ss = true → ∃ b, v = .map (some b) ∧ w.heap.size ≤ b ∧ MapIs w' b (ss.map ent)) ∧ Below w.heap.size w w'
theorem signed_no {ss : List Sgn} {w w' : World} (h : sysOk ss = false) (hb : Below w.heap.size w w') : Signed ss w (.returned (.tuple #[.map none, .bool false])) w' :=
  by
    refine ⟨.map none, by rw [h], ?_, hb⟩
    intro h'
    rw [h] at h'
    cases h'
theorem consOk_eq (s : Str) : consOk s = (decide (s.size = 1) && (letterOk (byteAt s 0) && !vowel (byteAt s 0))) := Bool.and_assoc _ _ _

set_option maxRecDepth 100000 in
set_option maxHeartbeats 2000000 in
theorem impl_signsOf (ss : List Sgn) (A : Option Addr) (c : Nat) (w : World) (hw : Seg w 0 w.heap.size A (flat sgnC ss)) (ho : OkSgns ss) (hn : ss.length ≤ maxLen) :
    Calls Try.prog 26 #[.slice A ss.length c] w (Signed ss w) := by
  have hn' : ss.length ≤ 9223372036854775807 := hn
  by_cases h21 : (21 : Int) < ss.length
  · have HO : Hid (sysOk ss = false) := by rw [Hid, sysOk, decide_eq_false (by omega), Bool.false_and]
    go_enter Try.func26, Try.ntmps26
    go_wp2
    go_ret2
    exact signed_no HO.out (Below.refl _ _)
  have mk1 : ∀ (n : Int) (w : World), (Instr.makeMap 57 (some (.int .i64 n))).run Try.prog w = .ok (.map (some w.heap.size)) (w.alloc (.map #[] 0)) := fun n w => by kernel_rfl
  have mk2 : ∀ (n : Int) (w : World), (Instr.makeMap 76 (some (.int .i64 n))).run Try.prog w = .ok (.map (some w.heap.size)) (w.alloc (.map #[] 0)) := fun n w => by kernel_rfl
  have M1 : Hid (MapIs ((w.alloc (.map #[] 0)).alloc (.map #[] 0)) w.heap.size []) := (MapIs.new w).below (bel_alloc (Below.refl _ _) _)
  have M2 : Hid (MapIs ((w.alloc (.map #[] 0)).alloc (.map #[] 0)) (w.heap.size + 1) []) := by
    have h2 := MapIs.new (w.alloc (.map #[] 0))
    have e2 : (w.alloc (.map #[] 0)).heap.size = w.heap.size + 1 := by simp
    rw [e2] at h2
    exact h2
  go_enter Try.func26, Try.ntmps26
  go_wp2
  clear mk1 mk2
  go_loopw [7, 8, 9, 10, 11, 23] (fun _ _ _ _ _ i wr => ∃ k : Nat, k ≤ ss.length ∧ i = .int .i64 k ∧ Hid (allTo (sysAt ss) k = true) ∧ Hid (MapIs wr w.heap.size ((ss.take k).map ent)) ∧ Hid (MapIs wr (w.heap.size + 1) ((ss.take k).map entL)) ∧ Below w.heap.size w wr) (fun _ _ _ _ _ i _ => ss.length - (intOf i).toNat)
  case atStart => exact ⟨0, Nat.zero_le _, rfl, rfl, M1, M2, bel_alloc (bel_alloc (Below.refl _ _) _) _⟩
  case round =>
    obtain ⟨k, hk, rfl, hl, hm1, hm2, hb⟩ := hrel
    by_cases hlt : k < ss.length
    · obtain ⟨x, hs⟩ := get_lt hlt
      have HS := Lib.hid (sgnAt_eq hs)
      have hsm := ho.at_ hs
      have hsm' : x.1.size ≤ 9223372036854775807 := hsm
      obtain ⟨g, o, rfl, hg, _, hgw, hc1, hc2, hc3⟩ := (hw.below hb).sgn hs
      have hbad : sgnOk x = false → sysOk ss = false := fun h => by
        rw [sysOk, allTo_not (k := k) (by rw [sysAt, HS.out, h]; rfl) hlt, Bool.and_false]
      have HBAD := Lib.hid hbad
      have HHS := Lib.hid hs
      clear hbad hs
      by_cases h1 : x.1.size = 1
      · have z1 : ((x.1.size : Int) != 1) = false := by rw [bne_eq_false_iff_eq]; omega
        have h1' : 0 < x.1.size := by omega
        have HB0 := Lib.hid (byteAt_get x.1 0 h1')
        have H1 := Lib.hid h1
        clear h1
        cases hcs : (letterOk x.1[0] && !vowel x.1[0])
        · have HO : Hid (sysOk ss = false) := HBAD.out (by rw [sgnOk, consOk_eq, ← HB0.out, hcs]; simp)
          go_wp2_with (go_at_call 41; refine (impl_isConsonant _ _).mono ?_; rintro e w' ⟨rfl, rfl⟩; rw [hcs])
          go_ret2
          exact signed_no HO.out (bel_alloc hb _)
        cases hst : stOk x.2
        · have HO : Hid (sysOk ss = false) := HBAD.out (by rw [sgnOk, hst, Bool.and_false])
          go_wp2_with (first
            | (go_at_call 41; refine (impl_isConsonant _ _).mono ?_; rintro e w' ⟨rfl, rfl⟩; rw [hcs])
            | (go_at_call 42; refine (impl_StrokeValid_of x.2 false hst _).mono ?_; rintro e w1 ⟨rfl, b1⟩))
          have bal := bel_trans (bel_alloc hb _) b1
          go_wp2
          go_ret2
          exact signed_no HO.out bal
        have HK : Hid (consOk x.1 = true) := by rw [Hid, consOk_eq, ← HB0.out, hcs, decide_eq_true H1.out]; rfl
        have HKK : Hid (sgnOk x = true) := by rw [Hid, sgnOk, HK.out, hst]; rfl
        go_wp2_with (go_at_call 41; refine (impl_isConsonant _ _).mono ?_; rintro e w' ⟨rfl, rfl⟩; rw [hcs])
        refine (impl_StrokeValid_of x.2 true hst _).mono ?_
        rintro e w1 ⟨rfl, b1⟩
        have bal := bel_trans (bel_alloc hb _) b1
        have k0 : w1.cell? ⟨wr.heap.size, 0, none⟩ = some (.string x.1) := box_later b1 0
        have k1 : w1.cell? ⟨wr.heap.size, 1, none⟩ = some (.int .i64 x.2.1) := box_later b1 1
        have k2 : w1.cell? ⟨wr.heap.size, 2, none⟩ = some (.int .i64 x.2.2) := box_later b1 2
        have hbs : wr.heap.size < w1.heap.size := by have := b1.size; simp at this; omega
        have hbw : w.heap.size + 1 < wr.heap.size := by have := hm2.out.lt; omega
        have bx := (bel_alloc (Below.refl wr.heap.size wr) (.cells #[.string x.1, .int .i64 x.2.1, .int .i64 x.2.2] 78))
        have m1 := hm1.out.below (bel_trans bx b1)
        have m2 := hm2.out.below (bel_trans bx b1)
        have M1' := Lib.hid m1
        have M2' := Lib.hid m2
        have hz1 : (zeroValue 51).run Try.prog w1 = .ok (.agg #[.int .i64 0, .int .i64 0]) w1 := by kernel_rfl
        clear hc1 hc2 hc3 b1 hg bx m1 m2
        rcases map_lookup (byte_key Try.underlying5) Try.underlying57 hz1 M1'.out (ent_keys _) (key := keyB x.1) ⟨_, rfl⟩ with ⟨hl1, miss1⟩ | ⟨p, hp, hpe, hl1⟩
        · rw [keyB, ← HB0.out] at hl1
          have MISS1 := Lib.hid miss1
          have hz2 : (zeroValue 5).run Try.prog (w1.alloc (.cells #[.int .i64 0, .int .i64 0] 51)) = .ok (.int .u8 0) (w1.alloc (.cells #[.int .i64 0, .int .i64 0] 51)) := by kernel_rfl
          have m2' := M2'.out.below (bel_alloc (Below.refl _ w1) (.cells #[.int .i64 0, .int .i64 0] 51))
          rcases map_lookup stk_key Try.underlying76 hz2 m2' (entL_keys _) (key := .agg #[.int .i64 x.2.1, .int .i64 x.2.2]) ⟨x.2, rfl⟩ with ⟨hl2, miss2⟩ | ⟨p, hp, hpe, hl2⟩
          · have MISS2 := Lib.hid miss2
            have HNEW := Lib.hid (new_of_miss hk MISS1.out MISS2.out)
            have bB := bel_alloc (Below.refl w1.heap.size w1) (.cells #[.int .i64 0, .int .i64 0] 51)
            have m1' := M1'.out.below bB
            have k0' : (w1.alloc (.cells #[.int .i64 0, .int .i64 0] 51)).cell? ⟨wr.heap.size, 0, none⟩ = some (.string x.1) := (bB.cell (p := ⟨wr.heap.size, 0, none⟩) hbs).trans k0
            have k1' : (w1.alloc (.cells #[.int .i64 0, .int .i64 0] 51)).cell? ⟨wr.heap.size, 1, none⟩ = some (.int .i64 x.2.1) := (bB.cell (p := ⟨wr.heap.size, 1, none⟩) hbs).trans k1
            have k2' : (w1.alloc (.cells #[.int .i64 0, .int .i64 0] 51)).cell? ⟨wr.heap.size, 2, none⟩ = some (.int .i64 x.2.2) := (bB.cell (p := ⟨wr.heap.size, 2, none⟩) hbs).trans k2
            have balW := bel_alloc bal (.cells #[.int .i64 0, .int .i64 0] 51)
            have hszW : wr.heap.size < (w1.alloc (.cells #[.int .i64 0, .int .i64 0] 51)).heap.size := by simp; omega
            clear miss1 miss2 hz1 hz2
            go_wp2
            generalize w1.alloc (.cells #[.int .i64 0, .int .i64 0] 51) = w2 at *
            clear k0 k1 k2 bB hl1 hl2
            obtain ⟨w3, hr3, m3, g3, s3⟩ := map_update (byte_key Try.underlying5) Try.underlying57 (w := w2.drew) m1' (ent_keys _) (key := keyB x.1) (val := .agg #[.int .i64 x.2.1, .int .i64 x.2.2]) ⟨_, rfl⟩ MISS1.out
            rw [keyB, ← HB0.out] at hr3
            have c0 : w3.cell? ⟨wr.heap.size, 0, none⟩ = some (.string x.1) := (World.cell?_of_block (g3.block _ hszW (by simp; omega))).trans k0'
            have c1 : w3.cell? ⟨wr.heap.size, 1, none⟩ = some (.int .i64 x.2.1) := (World.cell?_of_block (g3.block _ hszW (by simp; omega))).trans k1'
            have c2 : w3.cell? ⟨wr.heap.size, 2, none⟩ = some (.int .i64 x.2.2) := (World.cell?_of_block (g3.block _ hszW (by simp; omega))).trans k2'
            have m2w3 : MapIs w3 (w.heap.size + 1) ((ss.take k).map entL) := MapIs.grown (w := w2.drew) m2' g3 (by simp)
            have b3 : Below w.heap.size w w3 := balW.drew.grown g3 balW.size (fun q hq => by injection hq with hq; omega)
            obtain ⟨w4, hr4, m4, g4, s4⟩ := map_update stk_key Try.underlying76 (w := w3.drew) m2w3 (entL_keys _) (key := .agg #[.int .i64 x.2.1, .int .i64 x.2.2]) (val := keyB x.1) ⟨x.2, rfl⟩ MISS2.out
            have m1w4 : MapIs w4 w.heap.size ((ss.take k).map ent ++ [(keyB x.1, .agg #[.int .i64 x.2.1, .int .i64 x.2.2])]) := MapIs.grown (w := w3.drew) m3 g4 (by simp)
            have b4 : Below w.heap.size w w4 := b3.drew.grown g4 b3.size (fun q hq => by injection hq with hq; omega)
            rw [keyB, ← HB0.out] at hr4
            have R1 : Hid (MapIs w4 w.heap.size ((ss.take (k + 1)).map ent)) := by rw [Hid, take_snoc' HHS.out, List.map_append]; exact m1w4
            have R2 : Hid (MapIs w4 (w.heap.size + 1) ((ss.take (k + 1)).map entL)) := by rw [Hid, take_snoc' HHS.out, List.map_append]; exact m4
            have RA := Lib.hid (allTo_step hl.out (show sysAt ss k = true by rw [sysAt, HS.out, HKK.out, HNEW.out]; rfl))
            clear m3 m4 g3 g4 s3 s4 m2w3 m1w4 m1' m2' balW
            go_still_tail 6, (by kernel_rfl)
            go_wp2
            clear k0' k1' k2' hr3
            go_still_tail 6, (by kernel_rfl)
            go_wp2
            go_roundw
            case rel => exact ⟨k + 1, by omega, by go_num, RA, R1, R2, b4⟩
            case measure => simp [intOf]; omega
          · obtain ⟨y, hy, rfl⟩ := List.mem_map.1 hp
            obtain ⟨hyk, j, hj, hjy⟩ := sys_prev hl.out hy hk
            have HO : Hid (sysOk ss = false) := by
              rw [Hid, sysOk, allTo_not (k := k) (by rw [sysAt, HS.out, sgnNew_not hjy hj (.inr (stkV_inj hpe)), Bool.and_false]) hlt, Bool.and_false]
            simp only [entL, keyB] at hl2
            clear miss1 hz1 hz2 m2' hp hpe hy hyk hjy
            have bal2 := bel_alloc bal (.cells #[.int .i64 0, .int .i64 0] 51)
            go_wp2
            go_ret2
            exact signed_no HO.out bal2
        · rw [keyB, ← HB0.out] at hl1
          obtain ⟨y, hy, rfl⟩ := List.mem_map.1 hp
          obtain ⟨hyk, j, hj, hjy⟩ := sys_prev hl.out hy hk
          have hyc : consOk y.1 = true := by rw [sgnOk, Bool.and_eq_true] at hyk; exact hyk.1
          have HO : Hid (sysOk ss = false) := by
            rw [Hid, sysOk, allTo_not (k := k) (by rw [sysAt, HS.out, sgnNew_not hjy hj (.inl (keyB_inj hyc HK.out hpe)), Bool.and_false]) hlt, Bool.and_false]
          simp only [ent] at hl1
          have hz2 : (zeroValue 5).run Try.prog (w1.alloc (.cells #[.int .i64 y.2.1, .int .i64 y.2.2] 51)) = .ok (.int .u8 0) (w1.alloc (.cells #[.int .i64 y.2.1, .int .i64 y.2.2] 51)) := by kernel_rfl
          have m2' := M2'.out.below (bel_alloc (Below.refl _ w1) (.cells #[.int .i64 y.2.1, .int .i64 y.2.2] 51))
          have bal2 := bel_alloc bal (.cells #[.int .i64 y.2.1, .int .i64 y.2.2] 51)
          rcases map_lookup stk_key Try.underlying76 hz2 m2' (entL_keys _) (key := .agg #[.int .i64 x.2.1, .int .i64 x.2.2]) ⟨x.2, rfl⟩ with ⟨hl2, miss2⟩ | ⟨p2, hp2, _, hl2⟩
          · clear miss2 hz1 hz2 m2' hp hpe hy hyk hjy hyc
            go_wp2
            go_ret2
            exact signed_no HO.out bal2
          · obtain ⟨y2, _, rfl⟩ := List.mem_map.1 hp2
            simp only [entL, keyB] at hl2
            clear hz1 hz2 m2' hp hpe hy hyk hjy hyc hp2
            go_wp2
            go_ret2
            exact signed_no HO.out bal2
      · have z1 : ((x.1.size : Int) != 1) = true := by rw [bne_iff_ne]; omega
        have HO : Hid (sysOk ss = false) := HBAD.out (by rw [sgnOk, consOk, decide_eq_false h1]; simp)
        have H1 := Lib.hid h1
        clear h1
        go_wp2
        go_ret2
        exact signed_no HO.out (bel_alloc hb _)
    · have HO : Hid (sysOk ss = true) := by
        obtain rfl : k = ss.length := by omega
        rw [Hid, sysOk, hl.out, decide_eq_true (by omega)]; rfl
      have HM : Hid (MapIs wr w.heap.size (ss.map ent)) := by
        have := hm1.out
        rwa [List.take_of_length_le (by omega)] at this
      go_wp2
      go_ret2
      exact ⟨.map (some w.heap.size), by rw [HO.out]; rfl, fun _ => ⟨_, rfl, Nat.le_refl _, HM.out⟩, hb⟩

end Go.Proofs.Ytbcbpcidfcjibaa
