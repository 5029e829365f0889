/-
  Contract of visit with CopyMany's closure; CopyMany (the program's).
-/
import Derived.Test.YtgddklafeaoleaaTab
namespace Go.Proofs.Ytgddklafeaoleaa
open Go.RowKit Go.Sort
set_option linter.unusedSimpArgs false
set_option linter.unusedVariables false

/-- the table when all places from k on are counted -/
def manyF (bs : List PB) (ws : List Str) (k : Nat) : Nat → Int := fun i => if i < k then 0 else ways bs (ws.drop i)
/-- the table when j tokens of place k are counted -/
def manyJ (bs : List PB) (ws : List Str) (k j : Nat) : Nat → Int := fun i => if i < k then 0 else if i = k then isum (((toks bs (ws.drop k)).take j).map fun t => ways bs (ws.drop (k + t.2.1))) else ways bs (ws.drop i)
theorem manyJ_start (bs : List PB) (ws : List Str) (k i : Nat) : manyF bs ws (k + 1) i = manyJ bs ws k 0 i := by
  unfold manyF manyJ
  by_cases h1 : i < k
  · rw [if_pos (by omega), if_pos h1]
  · by_cases h2 : i = k
    · rw [if_pos (by omega), if_neg h1, if_pos h2]; simp [isum]
    · rw [if_neg (by omega), if_neg h1, if_neg h2]
theorem manyJ_end {bs : List PB} (hb : bvOk bs = true) {ws : List Str} {k : Nat} (hk : k < ws.length) (i : Nat) : manyJ bs ws k (toks bs (ws.drop k)).length i = manyF bs ws k i := by
  unfold manyF manyJ
  by_cases h1 : i < k
  · rw [if_pos h1, if_pos h1]
  · by_cases h2 : i = k
    · subst h2
      have hne : ws.drop i ≠ [] := by intro e; have := congrArg List.length e; simp at this; omega
      rw [if_neg h1, if_pos rfl, if_neg h1, List.take_length, ← ways_toks hb hne]
      simp [List.drop_drop]
    · rw [if_neg h1, if_neg h2, if_neg h1]
theorem manyJ_step {bs : List PB} {ws : List Str} {k j : Nat} {t : Tok} (ht : (toks bs (ws.drop k))[j]? = some t) (h1 : 1 ≤ t.2.1) (i : Nat) :
    updF (manyJ bs ws k j) k (manyJ bs ws k j k + manyJ bs ws k j (k + t.2.1)) i = manyJ bs ws k (j + 1) i := by
  by_cases h2 : i = k
  · subst h2
    rw [updF_same]
    unfold manyJ
    rw [if_neg (Nat.lt_irrefl i), if_pos rfl, if_neg (by omega : ¬ i + t.2.1 < i), if_neg (by omega : ¬ i + t.2.1 = i), if_neg (Nat.lt_irrefl i), if_pos rfl, take_snoc' ht, List.map_append, List.map_cons, List.map_nil, isum_snoc]
  · rw [updF_other _ _ h2]
    unfold manyJ
    by_cases h3 : i < k
    · rw [if_pos h3, if_pos h3]
    · rw [if_neg h3, if_neg h2, if_neg h3, if_neg h2]
theorem ways_le {bs : List PB} (hb : bvOk bs = true) {ws : List Str} (hl : ws.length ≤ 20) (i : Nat) : 0 ≤ ways bs (ws.drop i) ∧ ways bs (ws.drop i) ≤ 1099511627776 := by
  have := ways_small hb (ws := ws.drop i) (by rw [List.length_drop]; omega); omega
theorem manyJ_le {bs : List PB} (hb : bvOk bs = true) {ws : List Str} (hl : ws.length ≤ 20) (k j i : Nat) : 0 ≤ manyJ bs ws k j i ∧ manyJ bs ws k j i ≤ 1000000000000000 := by
  unfold manyJ
  split
  · omega
  · split
    · have h := isum_small (l := ((toks bs (ws.drop k)).take j).map fun t => ways bs (ws.drop (k + t.2.1))) (M := 1099511627776) (fun x hx => by
        obtain ⟨t, _, rfl⟩ := List.mem_map.1 hx
        exact ways_le hb hl _)
      have h2 : (((toks bs (ws.drop k)).take j).map fun t => ways bs (ws.drop (k + t.2.1))).length ≤ 9 := by
        have := (toks_len bs (ws.drop k)).2
        have := bv_len hb
        rw [List.length_map, List.length_take]; omega
      omega
    · have := ways_le hb hl i; omega
theorem Seg.tok {w : World} {lo hi : Nat} {A : Option Addr} {xs : List Tok} {k : Nat} {s : Tok} (h : Seg w lo hi A (flat tokC xs)) (hk : xs[k]? = some s) :
    ∃ g o, A = some ⟨g, o, none⟩ ∧ g < w.heap.size ∧ w.cell? ⟨g, o + k * 3, none⟩ = some (.int .i64 s.1) ∧ w.cell? ⟨g, o + k * 3 + 1, none⟩ = some (.int .i64 (s.2.1 : Int)) ∧ w.cell? ⟨g, o + k * 3 + 2, none⟩ = some (.int .i64 s.2.2) := by
  have h0 := flat_get tokC_len hk (j := 0) (by decide)
  have h1 := flat_get tokC_len hk (j := 1) (by decide)
  have h2 := flat_get tokC_len hk (j := 2) (by decide)
  rcases h with h | ⟨g, o, rfl, a, b, c, d⟩
  · rw [h] at h0; simp [tokC] at h0
  · exact ⟨g, o, rfl, c, by simpa [tokC] using d _ _ h0, by simpa [tokC, Nat.add_assoc] using d _ _ h1, by simpa [tokC, Nat.add_assoc] using d _ _ h2⟩

set_option maxRecDepth 100000 in
set_option maxHeartbeats 2000000 in
theorem visit_many (xs : List Brf) (ws : List Str) (A B : Option Addr) (c d p q : Nat) (w0 : World) (hw : Seg w0 0 w0.heap.size A (flat brfC xs)) (ho : BrfsAt w0 xs) (hv : Seg w0 0 w0.heap.size B (strs ws)) (hp : StrsOk ws) (hbv : bvOk (pbsOf xs) = true) (h20 : ws.length ≤ 20) (hz : ∀ s ∈ ws, s.size ≤ 12) (hm : ws.length ≤ d) (hdm : d ≤ maxLen) :
    ∀ (m k : Nat), k + m = ws.length → ∀ (w : World), Below w0.heap.size w0 w → Desk w w0.heap.size p q (ws.length + 1) (manyF (pbsOf xs) ws ws.length) →
    Calls Try.prog 61 #[.agg #[.slice A xs.length c, .slice B ws.length d], .int .i64 (k : Int), Value.func (Fn.func 62) #[] #[.pointer (some ⟨p, 0, none⟩)]] w fun e w' => e = .returned (.tuple #[]) ∧ Desk w' w0.heap.size p q (ws.length + 1) (manyF (pbsOf xs) ws k) ∧ w.grownBy w' (some q) := by
  have hx8 : xs.length ≤ 8 := by have := bv_len hbv; rwa [pbsOf_len] at this
  intro m
  induction m with
  | zero =>
    intro k hk w hb hD
    obtain rfl : k = ws.length := by omega
    have bA := bel_alloc (Below.refl w.heap.size w) (.cells #[.slice A xs.length c, .slice B ws.length d] 64)
    have D1 := Lib.hid (hD.below bA)
    clear hD
    go_enter Try.func61, Try.ntmps61
    go_wp2_with fail
    (try simp only [Exit.inBlock, Exit.then]); refine bodyPost_ret (results_none rfl _ _ _) rfl ?_
    exact ⟨rfl, D1.out, grow_below bA⟩
  | succ m ih =>
    intro k hk w hb hD
    have bA := bel_alloc (Below.refl w.heap.size w) (.cells #[.slice A xs.length c, .slice B ws.length d] 64)
    have hb1 := hb.trans (bA.mono hb.size)
    have D1 := hD.below bA
    have hqlt := hD.tab.lt
    have HI := Lib.hid (ih (k + 1) (by omega) _ hb1 D1)
    have hki : ¬ ((ws.length : Int) ≤ (k : Int)) := by omega
    have hkin : ¬ ws.length ≤ k := by omega
    clear hD D1 ih
    go_enter Try.func61, Try.ntmps61
    go_wp2_with fail
    refine HI.out.mono ?_
    rintro e w2 ⟨rfl, D2, g2⟩
    have hbx : w.heap.size < (w.alloc (.cells #[.slice A xs.length c, .slice B ws.length d] 64)).heap.size := by simp
    have k0 : w2.cell? ⟨w.heap.size, 0, none⟩ = some (.slice A xs.length c) := (World.cell?_of_block (g2.block _ hbx (by simp; omega))).trans (box_cell _ _ _ 0)
    have k1 : w2.cell? ⟨w.heap.size, 1, none⟩ = some (.slice B ws.length d) := (World.cell?_of_block (g2.block _ hbx (by simp; omega))).trans (box_cell _ _ _ 1)
    have hb2 : Below w0.heap.size w0 w2 := hb1.grown g2 hb1.size (fun k hk => by injection hk with hk; omega)
    have g02 := grow_trans (grow_below (r := some q) bA) g2
    clear HI hbx
    go_wp2_with fail
    refine (impl_tokensAt xs ws k A B c d w2 (hw.below hb2).top (ho.below hb2) (hv.below hb2).top hp hx8 hm hdm (by omega)).mono ?_
    rintro e w3 ⟨v, rfl, own3, b3⟩
    obtain ⟨A3, c3, rfl, _, _⟩ := own_form own3
    have D3 := (D2.below b3).congr fun i _ => manyJ_start (pbsOf xs) ws k i
    have g03 := grow_trans g02 (grow_below (r := some q) b3)
    have hb3 := bel_trans hb2 b3
    have HTF : Hid (∀ t ∈ toks (pbsOf xs) (ws.drop k), 1 ≤ t.2.1 ∧ k + t.2.1 ≤ ws.length) := by
      intro t ht
      have h := tok_fit hbv (ws := ws.drop k) (by intro e; have := congrArg List.length e; simp at this; omega) (fun s hs => hz s (List.mem_of_mem_drop hs)) ht
      rw [List.length_drop] at h
      omega
    have HEND := Lib.hid (fun i => manyJ_end hbv (ws := ws) (k := k) (by omega) i)
    have HSTEP := Lib.hid (fun (j : Nat) (t : Tok) (ht : (toks (pbsOf xs) (ws.drop k))[j]? = some t) (h1 : 1 ≤ t.2.1) (i : Nat) => manyJ_step (bs := pbsOf xs) (ws := ws) (k := k) ht h1 i)
    have hll : (toks (pbsOf xs) (ws.drop k)).length ≤ 9 := by have := (toks_len (pbsOf xs) (ws.drop k)).2; have := pbsOf_len xs; omega
    generalize toks (pbsOf xs) (ws.drop k) = l at *
    clear k0 k1 D2 g2 b3
    go_wp2_with fail
    go_loopw [22] (fun i wr => ∃ j : Nat, j ≤ l.length ∧ i = .int .i64 j ∧ wr.ownsRow w2.heap.size 70 3 (.slice A3 l.length c3) l.length (flat tokC l) ∧ Hid (Desk wr w0.heap.size p q (ws.length + 1) (manyJ (pbsOf xs) ws k j)) ∧ w.grownBy wr (some q)) (fun i _ => l.length - (intOf i).toNat)
    case atStart => exact ⟨0, Nat.zero_le _, rfl, own3, D3, g03⟩
    case round =>
      obtain ⟨j, hj, rfl, hown, hD, hg⟩ := hrel
      by_cases hlt : j < l.length
      · obtain ⟨t, ht⟩ := get_lt hlt
        have hf := HTF.out t (List.mem_of_getElem? ht)
        obtain ⟨g, o, rfl, hgl, e0, e1, e2⟩ := (Seg.of_own hown).tok ht
        have HS := Lib.hid (HSTEP.out j t ht hf.1)
        have h1 := manyJ_le hbv h20 k j k
        have h2 := manyJ_le hbv h20 k j (k + t.2.1)
        have bX := bel_alloc (Below.refl wr.heap.size wr) (.cells #[.int .i64 t.1, .int .i64 (t.2.1 : Int), .int .i64 t.2.2] 70)
        have DX := hD.out.below bX
        have ownX := own_below hown bX
        have gX := grow_trans hg (grow_below (r := some q) bX)
        have HC := Lib.hid (impl_manyStep k t.2.1 (ws.length + 1) t.1 t.2.2 w0.heap.size p q _ _ DX (by omega) (by omega) h1 h2)
        have HTQ := Lib.hid DX.tab
        clear ht h1 h2 DX hown
        go_wp2_with fail
        refine HC.out.mono ?_
        rintro e w5 ⟨rfl, D5, g5⟩
        have D6 : Hid (Desk w5 w0.heap.size p q (ws.length + 1) (manyJ (pbsOf xs) ws k (j + 1))) := D5.congr fun i _ => HS.out i
        have own5 := own_grew (vm := .slice (some ⟨q, 0, none⟩) (ws.length + 1) (ws.length + 1)) ownX g5 (own_ne ownX HTQ.out (by decide))
        have g6 := grow_trans gX g5
        clear e0 e1 e2 D5 ownX
        go_wp2_with fail
        go_roundw
        case rel => exact ⟨j + 1, by omega, by go_num, own5, D6, g6⟩
        case measure => simp [intOf]; omega
      · obtain rfl : j = l.length := by omega
        have DE : Hid (Desk wr w0.heap.size p q (ws.length + 1) (manyF (pbsOf xs) ws k)) := hD.out.congr fun i _ => HEND.out i
        clear hD hown
        go_wp2_with fail
        go_end0
        exact ⟨rfl, DE.out, hg⟩
end Go.Proofs.Ytgddklafeaoleaa
