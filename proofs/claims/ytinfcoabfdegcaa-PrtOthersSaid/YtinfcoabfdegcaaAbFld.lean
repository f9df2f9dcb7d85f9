/- What a struct argument's fields are known to be, slices and all. -/
import Derived.Test.YtinfcoabfdegcaaAbList
import Derived.Test.YtinfcoabfdegcaaAbPure
import Derived.Test.YtinfcoabfdegcaaAbRow
namespace Ab
open Go
variable [Uni] [Cod]
theorem fldM {kd : Nat → List KC} {ks : List CK} {l : List Cl} (h : All2 (CK.has kd) ks l) (i : Nat) {k k' : IntKind} {n : Int} (hk : ks[i]? = some (.plain (.int k))) (hl : l[i]? = some (.int k' n)) : (Lit.int k n).wf = true := by
  obtain ⟨b, hb, hr⟩ := h.get hk
  rw [hl] at hb
  cases hb
  exact hr.2
theorem fldMR {kd : Nat → List KC} {ks : List CK} {l : List Cl} (h : All2 (CK.has kd) ks l) (i : Nat) {c c' : Nat} {L : List (Uni.val c')} (hk : ks[i]? = some (.rows c)) (hl : l[i]? = some (.rs c' L)) : L.length ≤ maxLen ∧ ∀ y ∈ L, All2 KC.has (kd c') (Cod.enc c' y) := by
  obtain ⟨b, hb, M, rfl, h1, h2⟩ := h.get hk
  rw [hl] at hb
  cases hb
  exact ⟨h1, h2⟩
end Ab
