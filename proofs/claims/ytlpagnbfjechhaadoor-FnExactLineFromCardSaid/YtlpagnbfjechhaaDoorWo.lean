/-
  Contracts of WordOutline (both texts) and of the program's outline.
-/
import Derived.Test.YtlpagnbfjechhaaDoorPlan
import Derived.Test.YtlpagnbfjechhaaDoorJoin
import Derived.Test.YtlpagnbfjechhaaDoorChain
import Derived.Test.YtlpagnbfjechhaaDoorWords2
import Derived.Test.YtlpagnbfjechhaaDoorWordsP
namespace Go.Proofs.YtlpagnbfjechhaaDoor
open Go.RowKit Go.Sort
set_option linter.unusedSimpArgs false
set_option linter.unusedVariables false

/-- what is needed of the bare form as a text -/
def BareIs (s bs : Str) : Prop := bs.size = (bareOf s).length ∧ (∀ k, k < bs.size → bs.extract k (k + 1) = oneS ((bareOf s).getD k 0)) ∧ ∀ k (h : k < bs.size), bs[k] = (bareOf s).getD k 0
theorem bareIs (s : Str) : BareIs s ⟨(bareOf s).toArray⟩ := by
  have h0 : (⟨(bareOf s).toArray⟩ : ByteArray).size = (bareOf s).length := size_mk _
  refine ⟨h0, fun k hk => ?_, fun k hk => ?_⟩
  · rw [extract_oneS _ k hk, byteAt_mk _ _ (by omega), List.getD_eq_getElem?_getD, List.getElem?_eq_getElem (by omega)]; rfl
  · rw [byteAt_get _ k hk, byteAt_mk _ _ (by omega), List.getD_eq_getElem?_getD, List.getElem?_eq_getElem (by omega)]; rfl

theorem own_made0H (w : World) (base H : Nat) (hH : w.heap.size = H) (hb : base ≤ w.heap.size) : OwnStks (w.alloc (.cells #[] 46)) base (.slice (some ⟨H, 0, none⟩) 0 0) [] := by
  subst hH; exact own_made0 w base hb
theorem keyB_one (b : UInt8) : keyB (oneS b) = .int .u8 (b.toNat : Int) := rfl
end Go.Proofs.YtlpagnbfjechhaaDoor
