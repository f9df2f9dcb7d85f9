/- Seat 25: the plain laws: a link that nobody made is none. -/
import Derived.Test.YtdflhpknkcjfpaaAb25b
import Derived.Test.YtdflhpknkcjfpaaAbArith
import Derived.Test.YtdflhpknkcjfpaaAbList
set_option maxRecDepth 100000
set_option maxHeartbeats 1000000
set_option linter.unusedVariables false
set_option linter.unusedSimpArgs false
namespace Ab25
open Go Ab

theorem w64 {n : Int} (h : -9223372036854775808 ≤ n ∧ n ≤ 9223372036854775807) : IntKind.i64.wrap n = n := by
  rw [wr_i64]; split <;> omega

theorem awake : g8 = some true := by kernel_rfl

theorem nobody (x : S1) : g6 x = some true := by
  have h : (decide (0 ≤ (mnI (x.f3.length : Int) 100)) && decide ((mnI (x.f3.length : Int) 100) ≤ (x.f3.length : Int))) = true := by
    have : 0 ≤ (mnI (x.f3.length : Int) 100) ∧ (mnI (x.f3.length : Int) 100) ≤ (x.f3.length : Int) := by
      unfold mnI; split <;> omega
    simp [this.1, this.2]
  unfold g6 g6T
  rw [get_br, h]
  change _ = some true
  kernel_rfl
end Ab25
