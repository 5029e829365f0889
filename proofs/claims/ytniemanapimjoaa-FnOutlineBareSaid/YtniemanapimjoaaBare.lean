/-
  Contracts of OutlineBare (both texts).
-/
import Derived.Test.YtniemanapimjoaaPlan
import Derived.Test.YtniemanapimjoaaJoin
import Derived.Test.YtniemanapimjoaaChain
import Derived.Test.YtniemanapimjoaaWords2
import Derived.Test.YtniemanapimjoaaWordsP
import Derived.Test.YtniemanapimjoaaOpen
namespace Go.Proofs.Ytniemanapimjoaa
open Go.RowKit Go.Sort
set_option linter.unusedSimpArgs false
set_option linter.unusedVariables false

/-- the sign of a stroke in a system -/
def signBy (ss : List Sgn) (st : Stk) : Option Sgn := ss.find? (fun x => decide (x.2 = st))
def letBy (ss : List Sgn) (st : Stk) : UInt8 := match signBy ss st with | some x => byteAt x.1 0 | none => 0
def allBy (ss : List Sgn) (os : List Stk) (k : Nat) : Bool := allTo (fun i => (signBy ss (stkAt os i)).isSome) k
def letsBy (ss : List Sgn) (os : List Stk) (n : Nat) : List UInt8 := (List.range n).map fun i => letBy ss (stkAt os i)
def obOk (ss : List Sgn) (os : List Stk) : Bool := sysOk ss && outOk os && allBy ss os os.length
def obOf (ss : List Sgn) (os : List Stk) : Str := if obOk ss os then ⟨(letsBy ss os os.length).toArray⟩ else ByteArray.empty
theorem letsBy_len (ss : List Sgn) (os : List Stk) (n : Nat) : (letsBy ss os n).length = n := by simp [letsBy]
theorem letsBy_succ (ss : List Sgn) (os : List Stk) (n : Nat) : letsBy ss os (n + 1) = letsBy ss os n ++ [letBy ss (stkAt os n)] := by simp [letsBy, List.range_succ]
theorem ob_sys {ss : List Sgn} {os : List Stk} (h : sysOk ss = false) : obOk ss os = false ∧ obOf ss os = ByteArray.empty := by
  have : obOk ss os = false := by simp [obOk, h]
  exact ⟨this, by simp [obOf, this]⟩
theorem ob_out {ss : List Sgn} {os : List Stk} (h : outOk os = false) : obOk ss os = false ∧ obOf ss os = ByteArray.empty := by
  have : obOk ss os = false := by simp [obOk, h]
  exact ⟨this, by simp [obOf, this]⟩
theorem ob_miss {ss : List Sgn} {os : List Stk} {k : Nat} (hk : k < os.length) (h : signBy ss (stkAt os k) = none) : obOk ss os = false ∧ obOf ss os = ByteArray.empty := by
  have h1 : allBy ss os os.length = false := allTo_not (k := k) (by rw [h]; rfl) hk
  have : obOk ss os = false := by simp [obOk, h1]
  exact ⟨this, by simp [obOf, this]⟩
theorem ob_full {ss : List Sgn} {os : List Stk} (hs : sysOk ss = true) (ho : outOk os = true) (h : allBy ss os os.length = true) : obOk ss os = true ∧ obOf ss os = ⟨(letsBy ss os os.length).toArray⟩ := by
  have : obOk ss os = true := by simp [obOk, hs, ho, h]
  exact ⟨this, by simp [obOf, this]⟩
theorem signBy_hit {ss : List Sgn} {st : Stk} {k : Nat} {x : Sgn} (hx : ss[k]? = some x) (he : x.2 = st) (hno : ∀ j, j < k → (sgnAt ss j).2 ≠ st) : signBy ss st = some x := by
  induction ss generalizing k with
  | nil => simp at hx
  | cons y ss ih =>
    cases k with
    | zero => simp at hx; subst hx; simp [signBy, he]
    | succ k =>
      have h0 : y.2 ≠ st := hno 0 (by omega)
      have := ih (k := k) (by simpa using hx) (fun j hj => hno (j + 1) (by omega))
      simp only [signBy, List.find?_cons, decide_eq_false h0]
      exact this
theorem signBy_none {ss : List Sgn} {st : Stk} (hno : ∀ j, j < ss.length → (sgnAt ss j).2 ≠ st) : signBy ss st = none := by
  induction ss with
  | nil => rfl
  | cons y ss ih =>
    have h0 : y.2 ≠ st := hno 0 (by simp)
    have := ih (fun j hj => hno (j + 1) (by simp; omega))
    simp only [signBy, List.find?_cons, decide_eq_false h0]
    exact this
theorem sys_at {ss : List Sgn} (hs : sysOk ss = true) {k : Nat} {x : Sgn} (hx : ss[k]? = some x) : x.1.size = 1 ∧ x.1 = oneS (byteAt x.1 0) ∧ letterOk (byteAt x.1 0) = true ∧ vowel (byteAt x.1 0) = false ∧ stOk x.2 = true ∧ ∀ j y, j < k → ss[j]? = some y → y.1 ≠ x.1 ∧ y.2 ≠ x.2 := by
  simp only [sysOk, Bool.and_eq_true] at hs
  have h := allTo_iff.1 hs.2 k (List.getElem?_eq_some_iff.1 hx).1
  rw [sysAt, sgnAt_eq hx, Bool.and_eq_true] at h
  obtain ⟨h1, h2⟩ := h
  simp only [sgnOk, consOk, Bool.and_eq_true, decide_eq_true_eq] at h1
  refine ⟨h1.1.1.1, str_ext (by rw [one_list h1.1.1.1]; rfl), h1.1.1.2, by simpa using h1.1.2, h1.2, fun j y hj hy => ?_⟩
  have h3 := allTo_iff.1 h2 j hj
  rw [sgnAt_eq hy] at h3
  simpa using h3

/-- how far the reference's search has come -/
def Sought (ss : List Sgn) (st : Stk) (pre : List UInt8) (k : Nat) (fb : Bool) (l : List UInt8) : Prop :=
  (fb = false ∧ l = pre ∧ ∀ j, j < k → (sgnAt ss j).2 ≠ st) ∨ (fb = true ∧ ∃ x j, j < k ∧ ss[j]? = some x ∧ x.2 = st ∧ signBy ss st = some x ∧ l = pre ++ [byteAt x.1 0])
theorem sought_no {ss : List Sgn} {st : Stk} {pre l : List UInt8} {k : Nat} {fb : Bool} {y : Sgn} (h : Sought ss st pre k fb l) (hy : ss[k]? = some y) (hne : y.2 ≠ st) : Sought ss st pre (k + 1) fb l := by
  rcases h with ⟨h1, h2, h3⟩ | ⟨h1, x, j, hj, h2⟩
  · refine .inl ⟨h1, h2, fun j hj => ?_⟩
    by_cases e : j = k
    · subst e; rw [sgnAt_eq hy]; exact hne
    · exact h3 j (by omega)
  · exact .inr ⟨h1, x, j, by omega, h2⟩
theorem sought_yes {ss : List Sgn} (hs : sysOk ss = true) {st : Stk} {pre l : List UInt8} {k : Nat} {fb : Bool} {y : Sgn} (h : Sought ss st pre k fb l) (hy : ss[k]? = some y) (he : y.2 = st) : Sought ss st pre (k + 1) true (l ++ [byteAt y.1 0]) := by
  rcases h with ⟨h1, h2, h3⟩ | ⟨h1, x, j, hj, h2, h4, _⟩
  · exact .inr ⟨rfl, y, k, by omega, hy, he, signBy_hit hy he h3, by rw [h2]⟩
  · exact absurd (h4.trans he.symm) ((sys_at hs hy).2.2.2.2.2 j x hj h2).2

set_option maxRecDepth 100000 in
set_option maxHeartbeats 1000000 in
theorem spec_OutlineBare (ss : List Sgn) (os : List Stk) (A B : Option Addr) (c d : Nat) (w : World) (hw : Seg w 0 w.heap.size A (flat sgnC ss)) (hv : Seg w 0 w.heap.size B (flat stkC os)) (ho : OkSgns ss) (hn : ss.length ≤ maxLen) (hm : os.length ≤ maxLen) :
    Calls Try.prog 49 #[.slice A ss.length c, .slice B os.length d] w fun e w' => e = .returned (.tuple #[.string (obOf ss os), .bool (obOk ss os)]) ∧ Below w.heap.size w w' := by
  have hn' : ss.length ≤ 9223372036854775807 := hn
  cases hs : sysOk ss
  · have HJ := Lib.hid (ob_sys (os := os) hs)
    go_enter Try.func49, Try.ntmps49
    go_wp2_with fail
    refine (spec_SystemValid ss A c _ hw ho hn).mono ?_
    rintro e w1 ⟨rfl, b1⟩
    rw [hs]
    go_wp2
    go_ret2
    exact ⟨by rw [HJ.out.1, HJ.out.2]; rfl, b1⟩
  cases hu : outOk os
  · have HJ := Lib.hid (ob_out (ss := ss) hu)
    go_enter Try.func49, Try.ntmps49
    go_wp2_with fail
    refine (spec_SystemValid ss A c _ hw ho hn).mono ?_
    rintro e w1 ⟨rfl, b1⟩
    rw [hs]
    have hv1 := (hv.below b1).top
    go_wp2_with fail
    refine (spec_OutlineValid os B d _ hv1 hm).mono ?_
    rintro e w2 ⟨rfl, b2⟩
    rw [hu]
    have bal := bel_trans b1 b2
    go_wp2
    go_ret2
    exact ⟨by rw [HJ.out.1, HJ.out.2]; rfl, bal⟩
  have hol : os.length ≤ 8 := by simp only [outOk, Bool.and_eq_true, decide_eq_true_eq] at hu; exact hu.1
  have hsl := sys_len hs
  go_enter Try.func49, Try.ntmps49
  go_wp2_with fail
  refine (spec_SystemValid ss A c _ hw ho hn).mono ?_
  rintro e w1 ⟨rfl, b1⟩
  rw [hs]
  have hv1 := (hv.below b1).top
  go_wp2_with fail
  refine (spec_OutlineValid os B d _ hv1 hm).mono ?_
  rintro e w2 ⟨rfl, b2⟩
  rw [hu]
  have bal := bel_trans b1 b2
  go_wp2
  go_loopw [6, 7, 8, 9] (fun v i _ _ wr => ∃ k : Nat, k ≤ os.length ∧ i = .int .i64 k ∧ v = .string ⟨(letsBy ss os k).toArray⟩ ∧ Hid (allBy ss os k = true) ∧ Below w.heap.size w wr) (fun _ i _ _ _ => os.length - (intOf i).toNat)
  case atStart => exact ⟨0, Nat.zero_le _, rfl, rfl, rfl, bal⟩
  case round =>
    obtain ⟨k, hk, rfl, rfl, hl, hb⟩ := hrel
    by_cases hlt : k < os.length
    · generalize wr = w3 at *
      obtain ⟨st, hst⟩ := get_lt hlt
      have HST := Lib.hid (stkAt_eq hst)
      obtain ⟨g, o, rfl, hg, _, _, hc1, hc2⟩ := (hv.below hb).stk hst
      have hkd : decide ((k : Int) < (os.length : Int)) = true := by simp; omega
      have hkdn : decide (k < os.length) = true := by simp; omega
      have lpre := letsBy_len ss os k
      have HSU : Hid (letsBy ss os (k + 1) = letsBy ss os k ++ [letBy ss st]) := by rw [Hid, letsBy_succ, HST.out]
      generalize letsBy ss os k = pre at *
      have HLP := Lib.hid lpre
      clear hst lpre
      go_wp2
      go_loopw [6, 8, 9] (fun v f i wi => ∃ j : Nat, ∃ fb : Bool, ∃ l : List UInt8, j ≤ ss.length ∧ i = .int .i64 j ∧ f = .bool fb ∧ v = .string ⟨l.toArray⟩ ∧ l.length ≤ 9 ∧ Hid (Sought ss st pre j fb l) ∧ Hid (∃ n, wi = w3.drewN n)) (fun _ _ i _ => ss.length - (intOf i).toNat)
      case atStart => exact ⟨0, false, pre, Nat.zero_le _, rfl, rfl, rfl, by have := HLP.out; omega, .inl ⟨rfl, rfl, fun j hj => by omega⟩, 0, rfl⟩
      case round =>
        obtain ⟨j, fb, l, hj, rfl, rfl, rfl, hll, hso, hd⟩ := hrel
        by_cases hjl : j < ss.length
        · obtain ⟨y, hy⟩ := get_lt hjl
          obtain ⟨g', o', rfl, hg', _, _, e1, e2, e3⟩ := (hw.below hb).sgn hy
          obtain ⟨m, hm⟩ := hd.out
          have d1 : wr.cell? ⟨g', o' + j * 3, none⟩ = some (.string y.1) := by rw [hm]; exact e1
          have d2 : wr.cell? ⟨g', o' + j * 3 + 1, none⟩ = some (.int .i64 y.2.1) := by rw [hm]; exact e2
          have d3 : wr.cell? ⟨g', o' + j * 3 + 2, none⟩ = some (.int .i64 y.2.2) := by rw [hm]; exact e3
          have f1 : wr.cell? ⟨g, o + k * 2, none⟩ = some (.int .i64 st.1) := by rw [hm]; exact hc1
          have f2 : wr.cell? ⟨g, o + k * 2 + 1, none⟩ = some (.int .i64 st.2) := by rw [hm]; exact hc2
          have hjd : decide ((j : Int) < (ss.length : Int)) = true := by simp; omega
          have hjdn : decide (j < ss.length) = true := by simp; omega
          clear e1 e2 e3 hc1 hc2 hm
          by_cases he : y.2 = st
          · have hys := (sys_at hs hy).1
            have HC : Hid ((⟨l.toArray⟩ : ByteArray) ++ y.1 = ⟨(l ++ [byteAt y.1 0]).toArray⟩) := by rw [Hid, str_append, one_list hys]
            have HS2 := Lib.hid (sought_yes hs hso.out hy he)
            have HLN : Hid ((l ++ [byteAt y.1 0]).length ≤ 9) := by
              have h9 := HLP.out
              rcases HS2.out with ⟨h, _⟩ | ⟨_, x, j', _, _, _, _, h⟩
              · cases h
              · rw [Hid, h, List.length_append, h9]; simp; omega
            have hy1 : y.1.size ≤ 1 := by omega
            rw [he] at d2 d3
            clear he hy hys
            go_wp2
            go_quiet (fail)
            go_wp2
            go_roundw
            case rel => exact ⟨j + 1, true, _, by omega, by go_num, rfl, by rw [HC.out], HLN.out, HS2, by obtain ⟨m, hm⟩ := hd.out; exact ⟨m + nq, by rw [hm, World.drewN_drewN]⟩⟩
            case measure => simp [intOf]; omega
          · have HS2 := Lib.hid (sought_no hso.out hy he)
            obtain ⟨yl, ya, yb⟩ := y
            obtain ⟨sa, sb⟩ := st
            simp only at d1 d2 d3 f1 f2 he
            clear hy
            by_cases hda : ya = sa
            · have hdb : ¬ yb = sb := fun h => he (by rw [hda, h])
              subst hda
              clear he
              go_wp2
              go_quiet (fail)
              go_wp2
              go_roundw
              case rel => exact ⟨j + 1, fb, l, by omega, by go_num, rfl, rfl, hll, HS2, by obtain ⟨m, hm⟩ := hd.out; exact ⟨m + nq, by rw [hm, World.drewN_drewN]⟩⟩
              case measure => simp [intOf]; omega
            · clear he
              go_wp2
              go_quiet (fail)
              go_wp2
              go_roundw
              case rel => exact ⟨j + 1, fb, l, by omega, by go_num, rfl, rfl, hll, HS2, by obtain ⟨m, hm⟩ := hd.out; exact ⟨m + nq, by rw [hm, World.drewN_drewN]⟩⟩
              case measure => simp [intOf]; omega
        · have hje : j = ss.length := by omega
          have hb3 : Hid (Below w.heap.size w wr) := by obtain ⟨m, hm⟩ := hd.out; rw [Hid, hm]; exact Below_drewN hb m
          have hjd : decide ((j : Int) < (ss.length : Int)) = false := by simp; omega
          have hjdn : decide (j < ss.length) = false := by simp; omega
          cases fb with
          | false =>
            have HJ : Hid (obOk ss os = false ∧ obOf ss os = ByteArray.empty) := by
              rcases hso.out with ⟨_, _, h3⟩ | ⟨h, _⟩
              · exact ob_miss hlt (by rw [HST.out]; exact signBy_none (by rw [← hje]; exact h3))
              · cases h
            clear hje
            go_wp2
            go_ret2
            exact ⟨by rw [HJ.out.1, HJ.out.2]; rfl, hb3.out⟩
          | true =>
            have HX : Hid (l = letsBy ss os (k + 1) ∧ (signBy ss (stkAt os k)).isSome = true) := by
              rcases hso.out with ⟨h, _⟩ | ⟨_, x, j', _, _, _, h1, h2⟩
              · cases h
              · exact ⟨by rw [HSU.out, h2, letBy, h1], by rw [HST.out, h1]; rfl⟩
            have HAL := Lib.hid (allTo_step hl.out HX.out.2)
            clear hje
            go_wp2
            go_roundw
            case rel => exact ⟨k + 1, by omega, by go_num, by rw [HX.out.1], HAL, hb3.out⟩
            case measure => simp [intOf]; omega
    · have hke : k = os.length := by omega
      have HJ : Hid (obOk ss os = true ∧ obOf ss os = ⟨(letsBy ss os k).toArray⟩) := by
        have := ob_full (ss := ss) (os := os) hs hu (by rw [← hke]; exact hl.out)
        rwa [← hke] at this
      have hkd : decide ((k : Int) < (os.length : Int)) = false := by simp; omega
      have hkdn : decide (k < os.length) = false := by simp; omega
      clear hke
      go_wp2
      go_ret2
      exact ⟨by rw [HJ.out.1, HJ.out.2]; rfl, hb⟩

/-! ### the program's -/
def Found (ss : List Sgn) (st : Stk) (i : Int) : Prop := (i = -1 ∧ signBy ss st = none) ∨ ∃ (k : Nat) (x : Sgn), i = k ∧ ss[k]? = some x ∧ signBy ss st = some x
theorem impl_bare_same (x : Sgn) (p : Nat) (st : Stk) (w : World) (h1 : w.cell? ⟨p, 0, none⟩ = some (.int .i64 st.1)) (h2 : w.cell? ⟨p, 1, none⟩ = some (.int .i64 st.2)) :
    Calls Try.prog 85 #[.agg #[.string x.1, .int .i64 x.2.1, .int .i64 x.2.2], .pointer (some ⟨p, 0, none⟩)] w fun e w' => e = .returned (.bool (decide (x.2 = st))) ∧ Below w.heap.size w w' := by
  obtain ⟨xl, xa, xb⟩ := x
  obtain ⟨sa, sb⟩ := st
  have hp : p < w.heap.size := (cell_spot h1).2
  have k1 : (w.alloc (.cells #[.string xl, .int .i64 xa, .int .i64 xb] 59)).cell? ⟨p, 0, none⟩ = some (.int .i64 sa) := ((bel_alloc (Below.refl w.heap.size w) _).cell (p := ⟨p, 0, none⟩) hp).trans h1
  have k2 : (w.alloc (.cells #[.string xl, .int .i64 xa, .int .i64 xb] 59)).cell? ⟨p, 1, none⟩ = some (.int .i64 sb) := ((bel_alloc (Below.refl w.heap.size w) _).cell (p := ⟨p, 1, none⟩) hp).trans h2
  clear h1 h2
  by_cases h1 : xa = sa
  · by_cases h2 : xb = sb
    · subst h1 h2
      go_enter Try.func85, Try.ntmps85
      go_wp2
      go_ret
      exact ⟨ret_bool (by simp), bel_alloc (Below.refl _ _) _⟩
    · subst h1
      go_enter Try.func85, Try.ntmps85
      go_wp2
      go_ret
      exact ⟨ret_bool (by simp [h2]), bel_alloc (Below.refl _ _) _⟩
  · go_enter Try.func85, Try.ntmps85
    go_wp2
    go_ret
    exact ⟨ret_bool (by simp [h1]), bel_alloc (Below.refl _ _) _⟩

theorem index_bare (ss : List Sgn) (st : Stk) (p : Nat) (A : Option Addr) (c : Nat) (w : World) (hw : Seg w 0 w.heap.size A (flat sgnC ss)) (hn : ss.length ≤ maxLen) (h1 : w.cell? ⟨p, 0, none⟩ = some (.int .i64 st.1)) (h2 : w.cell? ⟨p, 1, none⟩ = some (.int .i64 st.2)) :
    Calls Try.prog 84 #[.slice A ss.length c, Value.func (Fn.func 85) #[] #[.pointer (some ⟨p, 0, none⟩)]] w fun e w' => (∃ i, e = .returned (.int .i64 i) ∧ Hid (Found ss st i)) ∧ Below w.heap.size w w' := by
  have hn' : ss.length ≤ 9223372036854775807 := hn
  have hp : p < w.heap.size := (cell_spot h1).2
  go_enter Try.func84, Try.ntmps84
  go_wp2
  go_loopw [8] (fun i wr => ∃ j : Nat, j ≤ ss.length ∧ i = .int .i64 j ∧ Hid (∀ q, q < j → (sgnAt ss q).2 ≠ st) ∧ Below w.heap.size w wr) (fun i _ => ss.length - (intOf i).toNat)
  case atStart => exact ⟨0, Nat.zero_le _, rfl, fun q hq => by omega, Below.refl _ _⟩
  case round =>
    obtain ⟨j, hj, rfl, hno, hb⟩ := hrel
    have k1 := (hb.cell (p := ⟨p, 0, none⟩) hp).trans h1
    have k2 := (hb.cell (p := ⟨p, 1, none⟩) hp).trans h2
    have K1 := Lib.hid k1
    have K2 := Lib.hid k2
    clear k1 k2
    by_cases hlt : j < ss.length
    · obtain ⟨y, hy⟩ := get_lt hlt
      obtain ⟨g, o, rfl, hg, _, _, e1, e2, e3⟩ := (hw.below hb).sgn hy
      by_cases he : y.2 = st
      · have HF : Hid (Found ss st j) := .inr ⟨j, y, rfl, hy, signBy_hit hy he hno.out⟩
        have hd : decide (y.2 = st) = true := decide_eq_true he
        have HE := Lib.hid he
        clear hy he
        go_wp2_with (go_at_call 85; refine (impl_bare_same y p st _ K1.out K2.out).mono ?_; rintro e w1 ⟨rfl, b1⟩; rw [hd])
        go_ret
        exact ⟨⟨_, rfl, HF⟩, hb.trans (b1.mono hb.size)⟩
      · have HN : Hid (∀ q, q < j + 1 → (sgnAt ss q).2 ≠ st) := by
          intro q hq
          by_cases e : q = j
          · subst e; rw [sgnAt_eq hy]; exact he
          · exact hno.out q (by omega)
        have hd : decide (y.2 = st) = false := decide_eq_false he
        have HE := Lib.hid he
        clear hy he
        go_wp2_with (go_at_call 85; refine (impl_bare_same y p st _ K1.out K2.out).mono ?_; rintro e w1 ⟨rfl, b1⟩; rw [hd])
        have hb1 := hb.trans (b1.mono hb.size)
        clear b1
        go_roundw
        case rel => exact ⟨j + 1, by omega, by go_num, HN, hb1⟩
        case measure => simp [intOf]; omega
    · have HF : Hid (Found ss st (-1)) := .inl ⟨rfl, signBy_none fun q hq => hno.out q (by omega)⟩
      go_wp2
      go_ret
      exact ⟨⟨_, rfl, HF⟩, hb⟩

set_option maxRecDepth 100000 in
set_option maxHeartbeats 1000000 in
theorem impl_OutlineBare (ss : List Sgn) (os : List Stk) (A B : Option Addr) (c d : Nat) (w : World) (hw : Seg w 0 w.heap.size A (flat sgnC ss)) (hv : Seg w 0 w.heap.size B (flat stkC os)) (ho : OkSgns ss) (hn : ss.length ≤ maxLen) (hm : os.length ≤ maxLen) :
    Calls Try.prog 50 #[.slice A ss.length c, .slice B os.length d] w fun e w' => e = .returned (.tuple #[.string (obOf ss os), .bool (obOk ss os)]) ∧ Below w.heap.size w w' := by
  have hn' : ss.length ≤ 9223372036854775807 := hn
  cases hs : sysOk ss
  · have HJ := Lib.hid (ob_sys (os := os) hs)
    go_enter Try.func50, Try.ntmps50
    go_wp2_with fail
    refine (impl_SystemValid ss A c _ hw ho hn).mono ?_
    rintro e w1 ⟨rfl, b1⟩
    rw [hs]
    go_wp2
    go_ret2
    exact ⟨by rw [HJ.out.1, HJ.out.2]; rfl, b1⟩
  cases hu : outOk os
  · have HJ := Lib.hid (ob_out (ss := ss) hu)
    go_enter Try.func50, Try.ntmps50
    go_wp2_with fail
    refine (impl_SystemValid ss A c _ hw ho hn).mono ?_
    rintro e w1 ⟨rfl, b1⟩
    rw [hs]
    have hv1 := (hv.below b1).top
    go_wp2_with fail
    refine (impl_OutlineValid os B d _ hv1 hm).mono ?_
    rintro e w2 ⟨rfl, b2⟩
    rw [hu]
    have bal := bel_trans b1 b2
    go_wp2
    go_ret2
    exact ⟨by rw [HJ.out.1, HJ.out.2]; rfl, bal⟩
  have hol : os.length ≤ 8 := by simp only [outOk, Bool.and_eq_true, decide_eq_true_eq] at hu; exact hu.1
  go_enter Try.func50, Try.ntmps50
  go_wp2_with fail
  refine (impl_SystemValid ss A c _ hw ho hn).mono ?_
  rintro e w1 ⟨rfl, b1⟩
  rw [hs]
  have hv1 := (hv.below b1).top
  go_wp2_with fail
  refine (impl_OutlineValid os B d _ hv1 hm).mono ?_
  rintro e w2 ⟨rfl, b2⟩
  rw [hu]
  have bal := bel_trans b1 b2
  have own0 : Hid ((w2.alloc (.cells #[] 5)).ownsRow w.heap.size 5 1 (.slice (some ⟨w2.heap.size, 0, none⟩) 0 0) 0 ((letsBy ss os 0).map byteCell)) := World.ownsRow_made w2 #[] 0 bal.size (by simp [maxLen]) (by simp)
  have bal2 := bel_alloc bal (.cells #[] 5)
  go_wp2
  go_loopw [6, 21] (fun v i wr => ∃ k : Nat, k ≤ os.length ∧ i = .int .i64 k ∧ wr.ownsRow w.heap.size 5 1 v k ((letsBy ss os k).map byteCell) ∧ Hid (allBy ss os k = true) ∧ Below w.heap.size w wr) (fun _ i _ => os.length - (intOf i).toNat)
  case atStart => exact ⟨0, Nat.zero_le _, rfl, own0.out, rfl, bal2⟩
  case round =>
    obtain ⟨k, hk, rfl, hown, hl, hb⟩ := hrel
    by_cases hlt : k < os.length
    · obtain ⟨st, hst⟩ := get_lt hlt
      have HST := Lib.hid (stkAt_eq hst)
      obtain ⟨g, o, rfl, hg, _, _, hc1, hc2⟩ := (hv.below hb).stk hst
      clear hst
      have bb := bel_alloc hb (.cells #[.int .i64 st.1, .int .i64 st.2] 52)
      have b01 := bel_alloc (Below.refl wr.heap.size wr) (.cells #[.int .i64 st.1, .int .i64 st.2] 52)
      have own1 := own_below hown b01
      have hw1 := (hw.below bb).top
      have bx1 : (wr.alloc (.cells #[.int .i64 st.1, .int .i64 st.2] 52)).cell? ⟨wr.heap.size, 0, none⟩ = some (.int .i64 st.1) := box_cell _ _ _ 0
      have bx2 : (wr.alloc (.cells #[.int .i64 st.1, .int .i64 st.2] 52)).cell? ⟨wr.heap.size, 1, none⟩ = some (.int .i64 st.2) := box_cell _ _ _ 1
      have HI := Lib.hid (index_bare ss st wr.heap.size A c _ hw1 hn bx1 bx2)
      clear hown b01 bx1 bx2
      go_wp2_with fail
      refine HI.out.mono ?_
      rintro e w3 ⟨⟨i, rfl, hf⟩, b3⟩
      have bal3 := bb.trans (b3.mono bb.size)
      have own3 := own_below own1 b3
      have hB3 := bal3.size
      have hw3 := hw.below bal3
      clear own1 hw1 bb b3 hc1 hc2
      rcases hf.out with ⟨rfl, hnone⟩ | ⟨j, x, rfl, hx, hsome⟩
      · have HJ : Hid (obOk ss os = false ∧ obOf ss os = ByteArray.empty) := ob_miss hlt (by rw [HST.out]; exact hnone)
        clear hnone own3
        go_wp2
        go_ret2
        exact ⟨by rw [HJ.out.1, HJ.out.2]; rfl, bal3⟩
      · obtain ⟨g', o', rfl, hg', _, _, e1, e2, e3⟩ := hw3.sgn hx
        have hxs := sys_at hs hx
        have hx1 : 0 < x.1.size := by omega
        have hjl : j < ss.length := (List.getElem?_eq_some_iff.1 hx).1
        have HB0 := Lib.hid (byteAt_get x.1 0 hx1)
        have HAL := Lib.hid (allTo_step hl.out (show (signBy ss (stkAt os k)).isSome = true by rw [HST.out, hsome]; rfl))
        have HSU : Hid ((letsBy ss os (k + 1)).map byteCell = (letsBy ss os k).map byteCell ++ [byteCell x.1[0]]) := by
          rw [Hid, letsBy_succ, HST.out, letBy, hsome, List.map_append, HB0.out]; rfl
        clear hx hsome hxs hw3
        go_wp2_with (at_builtin; refine append_one w3 (by rfl) (.tmp 30) (.tmp 37) 57 (by rfl) (w.heap.size) 5 _ 1 1 Try.underlying57 info_u8 rfl (by decide) (by decide) (u6) _ _ (by rfl) own3 #[byteCell x.1[0]] (by rfl) rfl (by simp [byteCell, Value.oneCell']) (by omega) hB3 ?_; intro v' w4 hown' hgrow)
        have R1 : w4.ownsRow w.heap.size 5 1 v' (k + 1) ((letsBy ss os (k + 1)).map byteCell) := by rw [HSU.out]; exact hown'
        have R2 := own_grown_below bal3 own3 hgrow hB3
        clear hown' hgrow own3
        go_wp2
        go_roundw
        case rel => exact ⟨k + 1, by omega, by go_num, R1, HAL, R2⟩
        case measure => simp [intOf]; omega
    · have hke : k = os.length := by omega
      have HJ : Hid (obOk ss os = true ∧ obOf ss os = ⟨(letsBy ss os k).toArray⟩) := by
        have := ob_full (ss := ss) (os := os) hs hu (by rw [← hke]; exact hl.out)
        rwa [← hke] at this
      obtain ⟨A2, c2, rfl, _, _⟩ := own_form hown
      have hcv := bytes_string (P := Try.prog) (c := c2) (n := k) Try.underlying57 Try.underlying5 Try.underlying9 (base := 0) (Seg.of_own hown) (letsBy_len ss os k).symm
      clear hke
      go_wp2
      go_ret2
      exact ⟨by rw [HJ.out.1, HJ.out.2]; rfl, hb⟩
end Go.Proofs.Ytniemanapimjoaa
