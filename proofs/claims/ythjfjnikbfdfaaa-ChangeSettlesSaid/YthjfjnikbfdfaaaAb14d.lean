/- Seat 14: more plain laws. -/
import Derived.Test.YthjfjnikbfdfaaaAb14c
set_option maxRecDepth 100000
set_option maxHeartbeats 400000
set_option linter.unusedVariables false
set_option linter.unusedSimpArgs false
namespace Ab14
open Go Ab

def pq (r : S0) (f a l b : Bool) : S0 := { r with f7 := f, f8 := a, f9 := l, f10 := b }
def st (p : S0) (a b : Bool) : S0 := { p with f8 := a, f10 := b }
theorem st_eta (p : S0) (a b : Bool) : ({ p with f8 := a, f10 := b } : S0) = st p a b := rfl
theorem st_q (r : S0) (f a l b c d : Bool) : st (pq r f a l b) c d = pq r f c l d := rfl
theorem pq_self (p : S0) : pq p p.f7 p.f8 p.f9 p.f10 = p := rfl
def nxA (f a l b : Bool) : Bool := bif (b || a) && !l then false else bif a && !f then false else bif l && !b then a else bif b && f && !a then true else a
def nxB (f a l b : Bool) : Bool := bif (b || a) && !l then false else bif a && !f then b else bif l && !b then true else b
def nxO (f a l b : Bool) : Bool := ((b || a) && !l) || (a && !f) || (l && !b) || (b && f && !a)
theorem g19_q (r : S0) (f a l b : Bool) : g19 (pq r f a l b) = (pq r f (nxA f a l b) l (nxB f a l b), nxO f a l b) := by
  cases f <;> cases a <;> cases l <;> cases b <;> rfl
theorem pq7 (r : S0) (f a l b : Bool) : (pq r f a l b).f7 = f := rfl
theorem pq8 (r : S0) (f a l b : Bool) : (pq r f a l b).f8 = a := rfl
theorem pq9 (r : S0) (f a l b : Bool) : (pq r f a l b).f9 = l := rfl
theorem pq10 (r : S0) (f a l b : Bool) : (pq r f a l b).f10 = b := rfl
theorem law9q (r : S0) (f a l b : Bool) : g9 (pq r f a l b) = some true := by
  simp only [g9, g9T, get_br, st_eta, awake_true, get_optS, get_leaf]
  simp only [g19_q, st_q, pq7, pq8, pq9, pq10]
  cases f <;> cases a <;> cases l <;> cases b <;> simp only [nxA, nxB, nxO, eqS0_self, Bool.not_true, Bool.not_false, Bool.and_true, Bool.and_false, Bool.true_and, Bool.false_and, Bool.or_true, Bool.or_false, Bool.true_or, Bool.false_or, cond_true, cond_false, beq_self_eq_true]
theorem law9 (p : S0) : g9 p = some true := by rw [← pq_self p]; exact law9q _ _ _ _ _

end Ab14
