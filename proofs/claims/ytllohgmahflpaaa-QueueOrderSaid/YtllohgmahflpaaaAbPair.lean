/- Two blocks made, in whatever order. -/
import Derived.Test.YtllohgmahflpaaaAbCall
set_option linter.unusedSectionVars false
set_option linter.unusedSimpArgs false
set_option linter.unusedVariables false
namespace Ab
open Go
section
variable [Uni] [Cod]
variable {P : Program} {e : Env} {X Y : Cx} {h i : List Blk} {w w' : World}

theorem pair_good (hH : RelH X h w) (g : Good X h w X h w') {l1 l2 : List Cl} {vs1 vs2 : List Value} {k1 k2 : Nat} {e1 e2 : TypeId} (hk1 : w.heap.size ≤ k1) (hk2 : w.heap.size ≤ k2) (hne : k1 ≠ k2)
    (hw1 : w'.heap[k1]? = some (.cells vs1.toArray e1 (0, 0))) (hw2 : w'.heap[k2]? = some (.cells vs2.toArray e2 (0, 0))) (r1 : RepL X h w l1 vs1) (r2 : RepL X h w l2 vs2) :
    ∃ Y, Good X h w Y (h ++ [.cells l1] ++ [.cells l2]) w' ∧ RepC Y (h ++ [.cells l1] ++ [.cells l2]) w' (.ptr h.length 0) (.pointer (some ⟨k1, 0, none⟩)) ∧
      RepC Y (h ++ [.cells l1] ++ [.cells l2]) w' (.ptr (h.length + 1) 0) (.pointer (some ⟨k2, 0, none⟩)) := by
  have nofoot : ∀ k, w.heap.size ≤ k → ∀ b q, ¬ foot X h b k q := fun k hk b q hf => by
    have := foot_lt hH hf; omega
  have noF : ∀ k, w.heap.size ≤ k → ∀ q, ¬ X.F k q := fun k hk q hf => by
    have := hH.fsz k q hf; omega
  have g1 := g.adopt hH hk1 hw1 (r1.mono g.mono (g.extF hH)) (nofoot k1 hk1) (noF k1 hk1)
  have hlen : (h ++ [Blk.cells l1]).length = h.length + 1 := by simp
  have g2 := g1.adopt hH hk2 hw2 (r2.mono g1.mono (g1.extF hH)) (fun b q hf => by
    have hb := foot_blt hf
    simp at hb
    rcases Nat.lt_or_ge b h.length with hlt | hge
    · rw [foot_push hlt] at hf
      exact nofoot k2 hk2 b q hf
    · have : b = h.length := by omega
      subst this
      unfold foot at hf
      simp [Cx.push] at hf
      exact hne hf.1.symm) (noF k2 hk2)
  refine ⟨_, g2, ?_, ?_⟩
  · have := @RepC.ptr _ _ ((X.push h.length k1 True).push (h ++ [Blk.cells l1]).length k2 True) (h ++ [.cells l1] ++ [.cells l2]) w' h.length 0 (by simp)
    rw [show ((X.push h.length k1 True).push (h ++ [Blk.cells l1]).length k2 True).addr h.length 0 = ⟨k1, 0, none⟩ by simp [Cx.addr, Cx.push]] at this
    exact this
  · have := @RepC.ptr _ _ ((X.push h.length k1 True).push (h ++ [Blk.cells l1]).length k2 True) (h ++ [.cells l1] ++ [.cells l2]) w' (h.length + 1) 0 (by simp)
    rw [show ((X.push h.length k1 True).push (h ++ [Blk.cells l1]).length k2 True).addr (h.length + 1) 0 = ⟨k2, 0, none⟩ by simp [Cx.addr, Cx.push]] at this
    exact this
end
end Ab
