/- Two blocks made, in whatever order. -/
import Derived.Test.YtnadglhkghmdlaaAbCall
set_option linter.unusedSectionVars false
set_option linter.unusedSimpArgs false
set_option linter.unusedVariables false
namespace Ab
open Go
section
variable [Uni] [Cod]
variable {P : Program} {e : Env} {X Y : Cx} {h i : List Blk} {w w' : World}

/-- A block that was made behind 'w' is taken as the run's own. -/
theorem Good.adopt (hH : RelH X h w) (g : Good X h w Y i w') {l : List Cl} {vs : List Value} {k : Nat} {el : TypeId} (hk : w.heap.size ≤ k)
    (hw : w'.heap[k]? = some (.cells vs.toArray el (0, 0))) (r : RepL Y i w' l vs) (hno : ∀ b q, ¬ foot Y i b k q) (hF : ∀ q, ¬ Y.F k q) :
    Good X h w (Y.push i.length k True) (i ++ [.cells l]) w' := by
  have hH' := g.rel
  have m := mono_push (X := Y) (h := i) (bl := .cells l) k True
  have ex := Ext.refl Y.F w'
  have key : ∀ b k' q, foot (Y.push i.length k True) (i ++ [.cells l]) b k' q → (b < i.length ∧ foot Y i b k' q) ∨ (b = i.length ∧ k' = k) := by
    intro b k' q hf
    have hb := foot_blt hf
    simp at hb
    rcases Nat.lt_or_ge b i.length with hlt | hge
    · left
      rw [foot_push hlt] at hf
      exact ⟨hlt, hf⟩
    · have : b = i.length := by omega
      subst this
      right
      unfold foot at hf
      simp [Cx.push] at hf
      exact ⟨rfl, hf.1⟩
  have rel : RelH (Y.push i.length k True) (i ++ [.cells l]) w' := by
    refine ⟨fun b bl hb => ?_, fun b b' k' q hf hf' => ?_, fun b k' q hf hF' => ?_, fun k' q hf => hH'.fsz k' q hf⟩
    · rcases Nat.lt_or_ge b i.length with hlt | hge
      · rw [List.getElem?_append_left hlt] at hb
        exact (hH'.blk b bl hb).keep hb m ex (fun _ _ _ => rfl)
      · have hbe : b = i.length := by
          have := lt_of_list hb; simp at this; omega
        subst hbe
        simp at hb; subst hb
        refine ⟨vs.toArray, el, ⟨(0, 0), by simpa [Cx.push] using hw, .inl rfl⟩, by simp [Cx.push, r.len], fun j x hx => ?_⟩
        obtain ⟨u, hu, ru⟩ := r.get hx
        exact ⟨u, by simpa [Cx.push] using hu, ru.mono m ex⟩
    · rcases key b k' q hf with ⟨h1, h2⟩ | ⟨h1, h2⟩ <;> rcases key b' k' q hf' with ⟨h3, h4⟩ | ⟨h3, h4⟩
      · exact hH'.disj b b' k' q h2 h4
      · subst h4; exact absurd h2 (hno b q)
      · subst h2; exact absurd h4 (hno b' q)
      · omega
    · rcases key b k' q hf with ⟨h1, h2⟩ | ⟨h1, h2⟩
      · exact hH'.free b k' q h2 hF'
      · subst h2; exact hF q hF'
  refine ⟨rel, g.mono.trans m, g.ext, fun k' q hf => g.fnew k' q hf, fun b k' q hf => ?_⟩
  rcases key b k' q hf with ⟨h1, h2⟩ | ⟨h1, h2⟩
  · exact g.ffoot b k' q h2
  · exact .inl (by omega)

theorem pair_good (hH : RelH X h w) (g : Good X h w X h w') {l1 l2 : List Cl} {vs1 vs2 : List Value} {k1 k2 : Nat} {e1 e2 : TypeId} (hk1 : w.heap.size ≤ k1) (hk2 : w.heap.size ≤ k2) (hne : k1 ≠ k2)
    (hw1 : w'.heap[k1]? = some (.cells vs1.toArray e1 (0, 0))) (hw2 : w'.heap[k2]? = some (.cells vs2.toArray e2 (0, 0))) (r1 : RepL X h w l1 vs1) (r2 : RepL X h w l2 vs2) :
    ∃ Y, Good X h w Y (h ++ [.cells l1] ++ [.cells l2]) w' ∧ RepC Y (h ++ [.cells l1] ++ [.cells l2]) w' (.ptr h.length 0) (.pointer (some ⟨k1, 0, none⟩)) ∧
      RepC Y (h ++ [.cells l1] ++ [.cells l2]) w' (.ptr (h.length + 1) 0) (.pointer (some ⟨k2, 0, none⟩)) := by
  have nofoot : ∀ k, w.heap.size ≤ k → ∀ b q, ¬ foot X h b k q := fun k hk b q hf => by
    have := foot_lt hH hf; omega
  have noF : ∀ k, w.heap.size ≤ k → ∀ q, ¬ X.F k q := fun k hk q hf => by
    have := hH.fsz k q hf; omega
  have g1 := g.adopt hH hk1 hw1 (r1.mono g.mono (g.extF hH)) (nofoot k1 hk1) (noF k1 hk1)
  have hlen : (h ++ [Blk.cells l1]).length = h.length + 1 := by simp
  have g2 := g1.adopt hH hk2 hw2 (r2.mono g1.mono (g1.extF hH)) (fun b q hf => by
    have hb := foot_blt hf
    simp at hb
    rcases Nat.lt_or_ge b h.length with hlt | hge
    · rw [foot_push hlt] at hf
      exact nofoot k2 hk2 b q hf
    · have : b = h.length := by omega
      subst this
      unfold foot at hf
      simp [Cx.push] at hf
      exact hne hf.1.symm) (noF k2 hk2)
  refine ⟨_, g2, ?_, ?_⟩
  · have := @RepC.ptr _ _ ((X.push h.length k1 True).push (h ++ [Blk.cells l1]).length k2 True) (h ++ [.cells l1] ++ [.cells l2]) w' h.length 0 (by simp)
    rw [show ((X.push h.length k1 True).push (h ++ [Blk.cells l1]).length k2 True).addr h.length 0 = ⟨k1, 0, none⟩ by simp [Cx.addr, Cx.push]] at this
    exact this
  · have := @RepC.ptr _ _ ((X.push h.length k1 True).push (h ++ [Blk.cells l1]).length k2 True) (h ++ [.cells l1] ++ [.cells l2]) w' (h.length + 1) 0 (by simp)
    rw [show ((X.push h.length k1 True).push (h ++ [Blk.cells l1]).length k2 True).addr (h.length + 1) 0 = ⟨k2, 0, none⟩ by simp [Cx.addr, Cx.push]] at this
    exact this
end
end Ab
