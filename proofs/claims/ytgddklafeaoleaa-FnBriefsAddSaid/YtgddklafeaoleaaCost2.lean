/-
  Contracts of visit with the closure of least, of least, CopyLeast and CopyShort (the program's).
-/
import Derived.Test.YtgddklafeaoleaaCost1
namespace Go.Proofs.Ytgddklafeaoleaa
open Go.RowKit Go.Sort
set_option linter.unusedSimpArgs false
set_option linter.unusedVariables false

def wtC : Wt := fun n => n
def wtO : Wt := fun _ => 1
theorem okC : okWt wtC := fun n h => ⟨h, by show n ≤ n + 1; omega⟩
theorem okO : okWt wtO := fun n h => ⟨by show (0 : Int) ≤ 1; omega, by show (1 : Int) ≤ n + 1; omega⟩
def leastOf (wt : Wt) (bs : List PB) (ws : List Str) : Int := if cpOk bs ws then lw wt bs ws else -1
def ZeroT (fs : List Tok) (k : Nat) : Prop := ∀ i t, fs[i]? = some t → i < k → t.2.1 = 0
def AtT (fs : List Tok) (k j : Nat) : Prop := ∀ t, fs[k]? = some t → (j = 0 → t.2.1 = 0) ∧ (0 < j → 1 ≤ t.2.1)
theorem zero_down {fs : List Tok} {k : Nat} (h : ZeroT fs (k + 1)) : ZeroT fs k ∧ AtT fs k 0 :=
  ⟨fun i t ht hi => h i t ht (by omega), fun t ht => ⟨fun _ => h k t ht (by omega), fun h0 => by omega⟩⟩
theorem zero_set {fs : List Tok} {k j : Nat} {t : Tok} (h : ZeroT fs k) (ht : 1 ≤ t.2.1) : ZeroT (fs.set k t) k ∧ AtT (fs.set k t) k (j + 1) := by
  constructor
  · intro i x hx hi
    rw [List.getElem?_set_ne (by omega)] at hx
    exact h i x hx hi
  · intro x hx
    refine ⟨fun h0 => by omega, fun _ => ?_⟩
    have hl : k < (fs.set k t).length := (List.getElem?_eq_some_iff.1 hx).1
    rw [List.length_set] at hl
    rw [List.getElem?_set_self hl] at hx
    injection hx with hx
    subst hx
    exact ht
theorem at_up {fs : List Tok} {k j : Nat} (h : AtT fs k j) (hj : 0 < j) : AtT fs k (j + 1) := fun t ht => ⟨fun h0 => by omega, fun _ => (h t ht).2 hj⟩
theorem Seg.tokL {w : World} {lo hi : Nat} {A : Option Addr} {xs : List Tok} {k : Nat} {s : Tok} (h : Seg w lo hi A (flat tokC xs)) (hk : xs[k]? = some s) :
    ∃ g o, A = some ⟨g, o, none⟩ ∧ g < w.heap.size ∧ w.cell? ⟨g, o + k * 3, none⟩ = some (.int .i64 s.1) ∧ w.cell? ⟨g, o + k * 3 + 1, none⟩ = some (.int .i64 (s.2.1 : Int)) ∧ w.cell? ⟨g, o + k * 3 + 2, none⟩ = some (.int .i64 s.2.2) := by
  have h0 := flat_get tokC_len hk (j := 0) (by decide)
  have h1 := flat_get tokC_len hk (j := 1) (by decide)
  have h2 := flat_get tokC_len hk (j := 2) (by decide)
  rcases h with h | ⟨g, o, rfl, a, b, c, d⟩
  · rw [h] at h0; simp [tokC] at h0
  · exact ⟨g, o, rfl, c, by simpa [tokC] using d _ _ h0, by simpa [tokC, Nat.add_assoc] using d _ _ h1, by simpa [tokC, Nat.add_assoc] using d _ _ h2⟩
theorem flat_zero3 (n : Nat) : flat tokC (List.replicate n ((0, 0, 0) : Tok)) = List.replicate (n * 3) (Value.int .i64 0) := by
  induction n with
  | zero => rfl
  | succ n ih =>
    rw [List.replicate_succ, flat_cons, ih, Nat.succ_mul, Nat.add_comm, ← List.replicate_append_replicate]; rfl
theorem made3 (n : Nat) : (madeCells #[Value.int .i64 0, Value.int .i64 0, Value.int .i64 0] (n * 3)).toList = flat tokC (List.replicate n ((0, 0, 0) : Tok)) := by
  rw [flat_zero3]
  apply List.ext_getElem?
  intro j
  by_cases hl : j < n * 3
  · have h3 : j % 3 = 0 ∨ j % 3 = 1 ∨ j % 3 = 2 := by omega
    rw [List.getElem?_replicate, if_pos hl]
    rcases h3 with h | h | h <;> simp [madeCells, hl, h]
  · rw [List.getElem?_eq_none (by simp [madeCells]; omega), List.getElem?_eq_none (by simp; omega)]
theorem Firsts.madeH (w : World) (base n H : Nat) (hH : w.heap.size = H) (hb : base ≤ H) (hn : n ≤ 1048576) : Firsts (w.alloc (.cells (madeCells #[Value.int .i64 0, Value.int .i64 0, Value.int .i64 0] (n * 3)) 70)) base H n (List.replicate n (0, 0, 0)) := by
  subst hH
  refine ⟨by simp, ?_⟩
  have h := World.ownsRow_lit (size := 3) (e := 70) (base := base) w (madeCells #[Value.int .i64 0, Value.int .i64 0, Value.int .i64 0] (n * 3)) n hb (by simp [maxLen]; omega) (by simp [madeCells])
  rw [made3] at h
  exact h
theorem zero_rep (n k : Nat) : ZeroT (List.replicate n ((0, 0, 0) : Tok)) k := by
  intro i t ht _
  rw [List.getElem?_replicate] at ht
  split at ht
  · injection ht with ht; subst ht; rfl
  · cases ht

set_option maxRecDepth 100000 in
set_option maxHeartbeats 4000000 in
theorem visit_cost (xs : List Brf) (ws : List Str) (A B : Option Addr) (c d p q s r u : Nat) (w0 : World) (hw : Seg w0 0 w0.heap.size A (flat brfC xs)) (ho : BrfsAt w0 xs) (hv : Seg w0 0 w0.heap.size B (strs ws)) (hp : StrsOk ws) (hbv : bvOk (pbsOf xs) = true) (h20 : ws.length ≤ 20) (hz : ∀ s ∈ ws, s.size ≤ 12) (hm : ws.length ≤ d) (hdm : d ≤ maxLen) :
    ∀ (m k : Nat), k + m = ws.length → ∀ (w : World) (fs0 : List Tok), Below w0.heap.size w0 w → Costs w w0.heap.size p q s r u ws.length (Value.func (Fn.func 66) #[] #[]) (costF wtC (pbsOf xs) ws ws.length) fs0 → ZeroT fs0 ws.length →
    Calls Try.prog 61 #[.agg #[.slice A xs.length c, .slice B ws.length d], .int .i64 (k : Int), Value.func (Fn.func 86) #[] #[.pointer (some ⟨u, 0, none⟩), .pointer (some ⟨p, 0, none⟩), .pointer (some ⟨s, 0, none⟩)]] w fun e w' => e = .returned (.tuple #[]) ∧ (∃ fs, Costs w' w0.heap.size p q s r u ws.length (Value.func (Fn.func 66) #[] #[]) (costF wtC (pbsOf xs) ws k) fs ∧ ZeroT fs k) ∧ Grew2 w w' q r := by
  have hx8 : xs.length ≤ 8 := by have := bv_len hbv; rwa [pbsOf_len] at this
  intro m
  induction m with
  | zero =>
    intro k hk w fs0 hb hD hZ
    obtain rfl : k = ws.length := by omega
    have bA := bel_alloc (Below.refl w.heap.size w) (.cells #[.slice A xs.length c, .slice B ws.length d] 64)
    have D1 := Lib.hid (hD.below bA)
    have HZ := Lib.hid hZ
    clear hD hZ
    go_enter Try.func61, Try.ntmps61
    go_wp2_with fail
    (try simp only [Exit.inBlock, Exit.then]); refine bodyPost_ret (results_none rfl _ _ _) rfl ?_
    exact ⟨rfl, ⟨_, D1.out, HZ.out⟩, Grew2.of_below bA⟩
  | succ m ih =>
    intro k hk w fs0 hb hD hZ
    have bA := bel_alloc (Below.refl w.heap.size w) (.cells #[.slice A xs.length c, .slice B ws.length d] 64)
    have hb1 := hb.trans (bA.mono hb.size)
    have D1 := hD.below bA
    have hqlt := hD.des.tab.lt
    have hrlt := hD.fst.lt
    have HI := Lib.hid (ih (k + 1) (by omega) _ _ hb1 D1 hZ)
    have hki : ¬ ((ws.length : Int) ≤ (k : Int)) := by omega
    have hkin : ¬ ws.length ≤ k := by omega
    clear hD D1 ih hZ
    go_enter Try.func61, Try.ntmps61
    go_wp2_with fail
    refine HI.out.mono ?_
    rintro e w2 ⟨rfl, ⟨fs2, D2, Z2⟩, g2⟩
    have hbx : w.heap.size < (w.alloc (.cells #[.slice A xs.length c, .slice B ws.length d] 64)).heap.size := by simp
    have k0 : w2.cell? ⟨w.heap.size, 0, none⟩ = some (.slice A xs.length c) := (g2.cell hbx (by omega) (by omega)).trans (box_cell _ _ _ 0)
    have k1 : w2.cell? ⟨w.heap.size, 1, none⟩ = some (.slice B ws.length d) := (g2.cell hbx (by omega) (by omega)).trans (box_cell _ _ _ 1)
    have hb2 : Below w0.heap.size w0 w2 := g2.below hb1 hb1.size hqlt.1 hrlt.1
    have g02 : Grew2 w w2 q r := (Grew2.of_below bA).trans g2
    have hq2 := D2.des.tab.lt.2
    have hr2 := D2.fst.lt.2
    clear HI hbx
    go_wp2_with fail
    refine (impl_tokensAt xs ws k A B c d w2 (hw.below hb2).top (ho.below hb2) (hv.below hb2).top hp hx8 hm hdm (by omega)).mono ?_
    rintro e w3 ⟨v, rfl, own3, b3⟩
    obtain ⟨A3, c3, rfl, _, _⟩ := own_form own3
    have D3 : Hid (∃ fs, Costs w3 w0.heap.size p q s r u ws.length (Value.func (Fn.func 66) #[] #[]) (costJ wtC (pbsOf xs) ws k 0) fs ∧ ZeroT fs k ∧ AtT fs k 0) :=
      ⟨fs2, (D2.below b3).congr fun i _ => costJ_start wtC (pbsOf xs) ws k i, (zero_down Z2).1, (zero_down Z2).2⟩
    have g03 : Grew2 w w3 q r := g02.trans (Grew2.of_below b3)
    have hb3 := bel_trans hb2 b3
    have HTF : Hid (∀ t ∈ toks (pbsOf xs) (ws.drop k), 1 ≤ t.2.1 ∧ k + t.2.1 ≤ ws.length ∧ 0 ≤ t.2.2 ∧ t.2.2 ≤ 12) := by
      intro t ht
      have h := tok_fit hbv (ws := ws.drop k) (by intro e; have := congrArg List.length e; simp at this; omega) (fun s hs => hz s (List.mem_of_mem_drop hs)) ht
      rw [List.length_drop] at h
      omega
    have HEND := Lib.hid (fun i => costJ_end (wt := wtC) hbv (ws := ws) (k := k) (by omega) i)
    have HONE := Lib.hid (fun (t : Tok) (ht : (toks (pbsOf xs) (ws.drop k))[0]? = some t) => costL_one (wt := wtC) (bs := pbsOf xs) (ws := ws) (k := k) ht)
    have HNXT := Lib.hid (fun (j : Nat) (t : Tok) (ht : (toks (pbsOf xs) (ws.drop k))[j]? = some t) (hj : 0 < j) => costL_next (wt := wtC) (bs := pbsOf xs) (ws := ws) (k := k) ht hj)
    have HSML := Lib.hid (fun j => costL_small (wt := wtC) okC hbv (ws := ws) hz h20 (k := k) (by omega) j)
    have HLWS := Lib.hid (fun n => lw_small (wt := wtC) okC hbv (ws := ws.drop n) (fun s hs => hz s (List.mem_of_mem_drop hs)) (by rw [List.length_drop]; omega))
    have hll : (toks (pbsOf xs) (ws.drop k)).length ≤ 9 := by have := (toks_len (pbsOf xs) (ws.drop k)).2; have := pbsOf_len xs; omega
    generalize toks (pbsOf xs) (ws.drop k) = l at *
    clear k0 k1 D2 g2 b3 Z2
    go_wp2_with fail
    go_loopw [22] (fun i wr => ∃ j : Nat, j ≤ l.length ∧ i = .int .i64 j ∧ wr.ownsRow w2.heap.size 70 3 (.slice A3 l.length c3) l.length (flat tokC l) ∧ Hid (∃ fs, Costs wr w0.heap.size p q s r u ws.length (Value.func (Fn.func 66) #[] #[]) (costJ wtC (pbsOf xs) ws k j) fs ∧ ZeroT fs k ∧ AtT fs k j) ∧ Grew2 w wr q r) (fun i _ => l.length - (intOf i).toNat)
    case atStart => exact ⟨0, Nat.zero_le _, rfl, own3, D3, g03⟩
    case round =>
      obtain ⟨j, hj, rfl, hown, hD, hg⟩ := hrel
      by_cases hlt : j < l.length
      · obtain ⟨t, ht⟩ := get_lt hlt
        have hf := HTF.out t (List.mem_of_getElem? ht)
        obtain ⟨g, o, rfl, hgl, e0, e1, e2⟩ := (Seg.of_own hown).tokL ht
        have bX := bel_alloc (Below.refl wr.heap.size wr) (.cells #[.int .i64 t.1, .int .i64 (t.2.1 : Int), .int .i64 t.2.2] 70)
        have ownX := own_below hown bX
        have gX : Grew2 w _ q r := hg.trans (Grew2.of_below bX)
        have HC : Hid (Calls Try.prog 86 #[.int .i64 (k : Int), .agg #[.int .i64 t.1, .int .i64 (t.2.1 : Int), .int .i64 t.2.2], .pointer (some ⟨u, 0, none⟩), .pointer (some ⟨p, 0, none⟩), .pointer (some ⟨s, 0, none⟩)] (wr.alloc (.cells #[.int .i64 t.1, .int .i64 (t.2.1 : Int), .int .i64 t.2.2] 70)) fun e w' => e = .returned (.tuple #[]) ∧ (∃ fs, Costs w' w0.heap.size p q s r u ws.length (Value.func (Fn.func 66) #[] #[]) (costJ wtC (pbsOf xs) ws k (j + 1)) fs ∧ ZeroT fs k ∧ AtT fs k (j + 1)) ∧ Grew2 (wr.alloc (.cells #[.int .i64 t.1, .int .i64 (t.2.1 : Int), .int .i64 t.2.2] 70)) w' q r) := by
          obtain ⟨fs, hC, hZ, hA⟩ := hD.out
          obtain ⟨x, hx⟩ := get_lt (l := fs) (k := k) (by rw [hC.fst.1]; omega)
          have DX := hC.below bX
          have hfk := costJ_at wtC (pbsOf xs) ws k j
          have hff := costJ_far wtC (pbsOf xs) ws k j (n := t.2.1) hf.1
          have s0 := HSML.out j
          have s1 := HLWS.out (k + t.2.1)
          have hWT : wtC t.2.2 = t.2.2 := rfl
          have put : (x.2.1 = 0 ∨ (1 ≤ x.2.1 ∧ t.2.2 + costJ wtC (pbsOf xs) ws k j (k + t.2.1) < costJ wtC (pbsOf xs) ws k j k)) → costL wtC (pbsOf xs) ws k (j + 1) = t.2.2 + costJ wtC (pbsOf xs) ws k j (k + t.2.1) → Calls Try.prog 86 #[.int .i64 (k : Int), .agg #[.int .i64 t.1, .int .i64 (t.2.1 : Int), .int .i64 t.2.2], .pointer (some ⟨u, 0, none⟩), .pointer (some ⟨p, 0, none⟩), .pointer (some ⟨s, 0, none⟩)] (wr.alloc (.cells #[.int .i64 t.1, .int .i64 (t.2.1 : Int), .int .i64 t.2.2] 70)) fun e w' => e = .returned (.tuple #[]) ∧ (∃ fs, Costs w' w0.heap.size p q s r u ws.length (Value.func (Fn.func 66) #[] #[]) (costJ wtC (pbsOf xs) ws k (j + 1)) fs ∧ ZeroT fs k ∧ AtT fs k (j + 1)) ∧ Grew2 (wr.alloc (.cells #[.int .i64 t.1, .int .i64 (t.2.1 : Int), .int .i64 t.2.2] 70)) w' q r := fun h1 h2 =>
            (stepPut_cost k t.2.1 ws.length t.1 t.2.2 w0.heap.size p q s r u _ fs x _ DX hx (by omega) (by omega) h20 (by rw [hfk]; omega) (by omega) (by rw [hff]; omega) h1).mono fun e w' ⟨a1, a2, a3⟩ =>
              ⟨a1, ⟨_, a2.congr fun i _ => costJ_put h2 i, (zero_set (j := j) hZ hf.1).1, (zero_set hZ hf.1).2⟩, a3⟩
          by_cases hj0 : j = 0
          · subst hj0
            exact put (.inl ((hA x hx).1 rfl)) (by rw [hff, HONE.out t ht, hWT])
          · have hx1 := (hA x hx).2 (by omega)
            have hn := HNXT.out j t ht (by omega)
            rw [hWT] at hn
            by_cases hlt2 : t.2.2 + costJ wtC (pbsOf xs) ws k j (k + t.2.1) < costJ wtC (pbsOf xs) ws k j k
            · exact put (.inr ⟨hx1, hlt2⟩) (by rw [hfk] at hlt2; rw [hff] at hlt2 ⊢; rw [hn]; omega)
            · refine (stepStay_cost k t.2.1 ws.length t.1 t.2.2 w0.heap.size p q s r u _ fs x _ DX hx (by omega) (by omega) h20 (by rw [hfk]; omega) (by omega) (by rw [hff]; omega) hx1 hlt2).mono fun e w' ⟨a1, a2, a3⟩ =>
                ⟨a1, ⟨_, a2.congr fun i _ => costJ_stay (by rw [hn]; rw [hfk, hff] at hlt2; omega) i, hZ, at_up hA (by omega)⟩, a3⟩
        clear ht hown hD
        go_wp2_with fail
        refine HC.out.mono ?_
        rintro e w5 ⟨rfl, D5, g5⟩
        have D6 := Lib.hid D5
        have own5 := own_keep2 ownX g5 hq2 hr2
        have g6 : Grew2 w w5 q r := gX.trans g5
        clear e0 e1 e2 D5 ownX HC
        go_wp2_with fail
        go_roundw
        case rel => exact ⟨j + 1, by omega, by go_num, own5, D6, g6⟩
        case measure => simp [intOf]; omega
      · obtain rfl : j = l.length := by omega
        have DE : Hid (∃ fs, Costs wr w0.heap.size p q s r u ws.length (Value.func (Fn.func 66) #[] #[]) (costF wtC (pbsOf xs) ws k) fs ∧ ZeroT fs k) := by
          obtain ⟨fs, hC, hZ, _⟩ := hD.out
          exact ⟨fs, hC.congr fun i _ => HEND.out i, hZ⟩
        clear hD hown
        go_wp2_with fail
        go_end0
        exact ⟨rfl, DE.out, hg⟩

set_option maxRecDepth 100000 in
set_option maxHeartbeats 4000000 in
theorem visit_one (xs : List Brf) (ws : List Str) (A B : Option Addr) (c d p q s r u : Nat) (w0 : World) (hw : Seg w0 0 w0.heap.size A (flat brfC xs)) (ho : BrfsAt w0 xs) (hv : Seg w0 0 w0.heap.size B (strs ws)) (hp : StrsOk ws) (hbv : bvOk (pbsOf xs) = true) (h20 : ws.length ≤ 20) (hz : ∀ s ∈ ws, s.size ≤ 12) (hm : ws.length ≤ d) (hdm : d ≤ maxLen) :
    ∀ (m k : Nat), k + m = ws.length → ∀ (w : World) (fs0 : List Tok), Below w0.heap.size w0 w → Costs w w0.heap.size p q s r u ws.length (Value.func (Fn.func 72) #[] #[]) (costF wtO (pbsOf xs) ws ws.length) fs0 → ZeroT fs0 ws.length →
    Calls Try.prog 61 #[.agg #[.slice A xs.length c, .slice B ws.length d], .int .i64 (k : Int), Value.func (Fn.func 86) #[] #[.pointer (some ⟨u, 0, none⟩), .pointer (some ⟨p, 0, none⟩), .pointer (some ⟨s, 0, none⟩)]] w fun e w' => e = .returned (.tuple #[]) ∧ (∃ fs, Costs w' w0.heap.size p q s r u ws.length (Value.func (Fn.func 72) #[] #[]) (costF wtO (pbsOf xs) ws k) fs ∧ ZeroT fs k) ∧ Grew2 w w' q r := by
  have hx8 : xs.length ≤ 8 := by have := bv_len hbv; rwa [pbsOf_len] at this
  intro m
  induction m with
  | zero =>
    intro k hk w fs0 hb hD hZ
    obtain rfl : k = ws.length := by omega
    have bA := bel_alloc (Below.refl w.heap.size w) (.cells #[.slice A xs.length c, .slice B ws.length d] 64)
    have D1 := Lib.hid (hD.below bA)
    have HZ := Lib.hid hZ
    clear hD hZ
    go_enter Try.func61, Try.ntmps61
    go_wp2_with fail
    (try simp only [Exit.inBlock, Exit.then]); refine bodyPost_ret (results_none rfl _ _ _) rfl ?_
    exact ⟨rfl, ⟨_, D1.out, HZ.out⟩, Grew2.of_below bA⟩
  | succ m ih =>
    intro k hk w fs0 hb hD hZ
    have bA := bel_alloc (Below.refl w.heap.size w) (.cells #[.slice A xs.length c, .slice B ws.length d] 64)
    have hb1 := hb.trans (bA.mono hb.size)
    have D1 := hD.below bA
    have hqlt := hD.des.tab.lt
    have hrlt := hD.fst.lt
    have HI := Lib.hid (ih (k + 1) (by omega) _ _ hb1 D1 hZ)
    have hki : ¬ ((ws.length : Int) ≤ (k : Int)) := by omega
    have hkin : ¬ ws.length ≤ k := by omega
    clear hD D1 ih hZ
    go_enter Try.func61, Try.ntmps61
    go_wp2_with fail
    refine HI.out.mono ?_
    rintro e w2 ⟨rfl, ⟨fs2, D2, Z2⟩, g2⟩
    have hbx : w.heap.size < (w.alloc (.cells #[.slice A xs.length c, .slice B ws.length d] 64)).heap.size := by simp
    have k0 : w2.cell? ⟨w.heap.size, 0, none⟩ = some (.slice A xs.length c) := (g2.cell hbx (by omega) (by omega)).trans (box_cell _ _ _ 0)
    have k1 : w2.cell? ⟨w.heap.size, 1, none⟩ = some (.slice B ws.length d) := (g2.cell hbx (by omega) (by omega)).trans (box_cell _ _ _ 1)
    have hb2 : Below w0.heap.size w0 w2 := g2.below hb1 hb1.size hqlt.1 hrlt.1
    have g02 : Grew2 w w2 q r := (Grew2.of_below bA).trans g2
    have hq2 := D2.des.tab.lt.2
    have hr2 := D2.fst.lt.2
    clear HI hbx
    go_wp2_with fail
    refine (impl_tokensAt xs ws k A B c d w2 (hw.below hb2).top (ho.below hb2) (hv.below hb2).top hp hx8 hm hdm (by omega)).mono ?_
    rintro e w3 ⟨v, rfl, own3, b3⟩
    obtain ⟨A3, c3, rfl, _, _⟩ := own_form own3
    have D3 : Hid (∃ fs, Costs w3 w0.heap.size p q s r u ws.length (Value.func (Fn.func 72) #[] #[]) (costJ wtO (pbsOf xs) ws k 0) fs ∧ ZeroT fs k ∧ AtT fs k 0) :=
      ⟨fs2, (D2.below b3).congr fun i _ => costJ_start wtO (pbsOf xs) ws k i, (zero_down Z2).1, (zero_down Z2).2⟩
    have g03 : Grew2 w w3 q r := g02.trans (Grew2.of_below b3)
    have hb3 := bel_trans hb2 b3
    have HTF : Hid (∀ t ∈ toks (pbsOf xs) (ws.drop k), 1 ≤ t.2.1 ∧ k + t.2.1 ≤ ws.length ∧ 0 ≤ t.2.2 ∧ t.2.2 ≤ 12) := by
      intro t ht
      have h := tok_fit hbv (ws := ws.drop k) (by intro e; have := congrArg List.length e; simp at this; omega) (fun s hs => hz s (List.mem_of_mem_drop hs)) ht
      rw [List.length_drop] at h
      omega
    have HEND := Lib.hid (fun i => costJ_end (wt := wtO) hbv (ws := ws) (k := k) (by omega) i)
    have HONE := Lib.hid (fun (t : Tok) (ht : (toks (pbsOf xs) (ws.drop k))[0]? = some t) => costL_one (wt := wtO) (bs := pbsOf xs) (ws := ws) (k := k) ht)
    have HNXT := Lib.hid (fun (j : Nat) (t : Tok) (ht : (toks (pbsOf xs) (ws.drop k))[j]? = some t) (hj : 0 < j) => costL_next (wt := wtO) (bs := pbsOf xs) (ws := ws) (k := k) ht hj)
    have HSML := Lib.hid (fun j => costL_small (wt := wtO) okO hbv (ws := ws) hz h20 (k := k) (by omega) j)
    have HLWS := Lib.hid (fun n => lw_small (wt := wtO) okO hbv (ws := ws.drop n) (fun s hs => hz s (List.mem_of_mem_drop hs)) (by rw [List.length_drop]; omega))
    have hll : (toks (pbsOf xs) (ws.drop k)).length ≤ 9 := by have := (toks_len (pbsOf xs) (ws.drop k)).2; have := pbsOf_len xs; omega
    generalize toks (pbsOf xs) (ws.drop k) = l at *
    clear k0 k1 D2 g2 b3 Z2
    go_wp2_with fail
    go_loopw [22] (fun i wr => ∃ j : Nat, j ≤ l.length ∧ i = .int .i64 j ∧ wr.ownsRow w2.heap.size 70 3 (.slice A3 l.length c3) l.length (flat tokC l) ∧ Hid (∃ fs, Costs wr w0.heap.size p q s r u ws.length (Value.func (Fn.func 72) #[] #[]) (costJ wtO (pbsOf xs) ws k j) fs ∧ ZeroT fs k ∧ AtT fs k j) ∧ Grew2 w wr q r) (fun i _ => l.length - (intOf i).toNat)
    case atStart => exact ⟨0, Nat.zero_le _, rfl, own3, D3, g03⟩
    case round =>
      obtain ⟨j, hj, rfl, hown, hD, hg⟩ := hrel
      by_cases hlt : j < l.length
      · obtain ⟨t, ht⟩ := get_lt hlt
        have hf := HTF.out t (List.mem_of_getElem? ht)
        obtain ⟨g, o, rfl, hgl, e0, e1, e2⟩ := (Seg.of_own hown).tokL ht
        have bX := bel_alloc (Below.refl wr.heap.size wr) (.cells #[.int .i64 t.1, .int .i64 (t.2.1 : Int), .int .i64 t.2.2] 70)
        have ownX := own_below hown bX
        have gX : Grew2 w _ q r := hg.trans (Grew2.of_below bX)
        have HC : Hid (Calls Try.prog 86 #[.int .i64 (k : Int), .agg #[.int .i64 t.1, .int .i64 (t.2.1 : Int), .int .i64 t.2.2], .pointer (some ⟨u, 0, none⟩), .pointer (some ⟨p, 0, none⟩), .pointer (some ⟨s, 0, none⟩)] (wr.alloc (.cells #[.int .i64 t.1, .int .i64 (t.2.1 : Int), .int .i64 t.2.2] 70)) fun e w' => e = .returned (.tuple #[]) ∧ (∃ fs, Costs w' w0.heap.size p q s r u ws.length (Value.func (Fn.func 72) #[] #[]) (costJ wtO (pbsOf xs) ws k (j + 1)) fs ∧ ZeroT fs k ∧ AtT fs k (j + 1)) ∧ Grew2 (wr.alloc (.cells #[.int .i64 t.1, .int .i64 (t.2.1 : Int), .int .i64 t.2.2] 70)) w' q r) := by
          obtain ⟨fs, hC, hZ, hA⟩ := hD.out
          obtain ⟨x, hx⟩ := get_lt (l := fs) (k := k) (by rw [hC.fst.1]; omega)
          have DX := hC.below bX
          have hfk := costJ_at wtO (pbsOf xs) ws k j
          have hff := costJ_far wtO (pbsOf xs) ws k j (n := t.2.1) hf.1
          have s0 := HSML.out j
          have s1 := HLWS.out (k + t.2.1)
          have hWT : wtO t.2.2 = (1 : Int) := rfl
          have put : (x.2.1 = 0 ∨ (1 ≤ x.2.1 ∧ (1 : Int) + costJ wtO (pbsOf xs) ws k j (k + t.2.1) < costJ wtO (pbsOf xs) ws k j k)) → costL wtO (pbsOf xs) ws k (j + 1) = (1 : Int) + costJ wtO (pbsOf xs) ws k j (k + t.2.1) → Calls Try.prog 86 #[.int .i64 (k : Int), .agg #[.int .i64 t.1, .int .i64 (t.2.1 : Int), .int .i64 t.2.2], .pointer (some ⟨u, 0, none⟩), .pointer (some ⟨p, 0, none⟩), .pointer (some ⟨s, 0, none⟩)] (wr.alloc (.cells #[.int .i64 t.1, .int .i64 (t.2.1 : Int), .int .i64 t.2.2] 70)) fun e w' => e = .returned (.tuple #[]) ∧ (∃ fs, Costs w' w0.heap.size p q s r u ws.length (Value.func (Fn.func 72) #[] #[]) (costJ wtO (pbsOf xs) ws k (j + 1)) fs ∧ ZeroT fs k ∧ AtT fs k (j + 1)) ∧ Grew2 (wr.alloc (.cells #[.int .i64 t.1, .int .i64 (t.2.1 : Int), .int .i64 t.2.2] 70)) w' q r := fun h1 h2 =>
            (stepPut_one k t.2.1 ws.length t.1 t.2.2 w0.heap.size p q s r u _ fs x _ DX hx (by omega) (by omega) h20 (by rw [hfk]; omega) (by omega) (by rw [hff]; omega) h1).mono fun e w' ⟨a1, a2, a3⟩ =>
              ⟨a1, ⟨_, a2.congr fun i _ => costJ_put h2 i, (zero_set (j := j) hZ hf.1).1, (zero_set hZ hf.1).2⟩, a3⟩
          by_cases hj0 : j = 0
          · subst hj0
            exact put (.inl ((hA x hx).1 rfl)) (by rw [hff, HONE.out t ht, hWT])
          · have hx1 := (hA x hx).2 (by omega)
            have hn := HNXT.out j t ht (by omega)
            rw [hWT] at hn
            by_cases hlt2 : (1 : Int) + costJ wtO (pbsOf xs) ws k j (k + t.2.1) < costJ wtO (pbsOf xs) ws k j k
            · exact put (.inr ⟨hx1, hlt2⟩) (by rw [hfk] at hlt2; rw [hff] at hlt2 ⊢; rw [hn]; omega)
            · refine (stepStay_one k t.2.1 ws.length t.1 t.2.2 w0.heap.size p q s r u _ fs x _ DX hx (by omega) (by omega) h20 (by rw [hfk]; omega) (by omega) (by rw [hff]; omega) hx1 hlt2).mono fun e w' ⟨a1, a2, a3⟩ =>
                ⟨a1, ⟨_, a2.congr fun i _ => costJ_stay (by rw [hn]; rw [hfk, hff] at hlt2; omega) i, hZ, at_up hA (by omega)⟩, a3⟩
        clear ht hown hD
        go_wp2_with fail
        refine HC.out.mono ?_
        rintro e w5 ⟨rfl, D5, g5⟩
        have D6 := Lib.hid D5
        have own5 := own_keep2 ownX g5 hq2 hr2
        have g6 : Grew2 w w5 q r := gX.trans g5
        clear e0 e1 e2 D5 ownX HC
        go_wp2_with fail
        go_roundw
        case rel => exact ⟨j + 1, by omega, by go_num, own5, D6, g6⟩
        case measure => simp [intOf]; omega
      · obtain rfl : j = l.length := by omega
        have DE : Hid (∃ fs, Costs wr w0.heap.size p q s r u ws.length (Value.func (Fn.func 72) #[] #[]) (costF wtO (pbsOf xs) ws k) fs ∧ ZeroT fs k) := by
          obtain ⟨fs, hC, hZ, _⟩ := hD.out
          exact ⟨fs, hC.congr fun i _ => HEND.out i, hZ⟩
        clear hD hown
        go_wp2_with fail
        go_end0
        exact ⟨rfl, DE.out, hg⟩
end Go.Proofs.Ytgddklafeaoleaa
