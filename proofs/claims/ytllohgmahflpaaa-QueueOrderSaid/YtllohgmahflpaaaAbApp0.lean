/- append of nothing. -/
import Derived.Test.YtllohgmahflpaaaAbNewsB
set_option linter.unusedSectionVars false
set_option linter.unusedSimpArgs false
set_option linter.unusedVariables false
namespace Ab
open Go
section
variable [Uni] [Cod]
variable {P : Program} {w : World}

theorem run_append_zero (t ty el : TypeId) (i : TypeInfo) (ht : P.underlying t = some (.slice el)) (hi : P.info? el = some i) (a b : Option Addr) (n cap c : Nat) (hn : n ≤ cap) (h0 : a = none → n = 0 ∧ cap = 0) :
    (Builtin.append_ #[t, t] ty #[.slice a n cap, .slice b 0 c]).run P w = .ok (.slice a n cap) w := by
  cases b <;> cases a with
  | none =>
    obtain ⟨rfl, rfl⟩ := h0 rfl
    simp [Builtin.append_, run_underlying ht, Go.sizeOf, typeInfo, hi, Builtin.lenOf, Builtin.firstCells, loadCells, loadCellsFrom, storeCells]
  | some g =>
    simp [Builtin.append_, run_underlying ht, Go.sizeOf, typeInfo, hi, Builtin.lenOf, Builtin.firstCells, loadCells, loadCellsFrom, storeCells, hn]


variable {X : Cx} {h : List Blk}

theorem below_alloc (w : World) (ob : Obj) : RowKit.Below w.heap.size w (w.drew.alloc ob) := by
  have h0 := below_push w.drew ob
  exact ⟨rfl, rfl, rfl, by show w.heap.size ≤ (w.heap.push _).size; simp, fun k hk => h0.block k hk⟩

/-- Onto an empty slice, wherever it points. -/
theorem append_empty_ok (hH : RelH X h w) {h2 : List Blk} (hlen : h2.length = h.length) (hkeep : ∀ (b : Nat) (bl : Blk), h2[b]? = some bl → bl = .dead ∨ h[b]? = some bl) {c : Nat} {N : List (Uni.val c)} {t ty el : TypeId} {i : TypeInfo} {z : Value}
    (ht : P.underlying t = some (.slice el)) (hi : P.info? el = some i) (hz : i.zero = some z) (hsz : i.size = Uni.sz c) (hzs : z.cells.size = i.size)
    {oa : Option Addr} {nv : Value} (hn : News X h w c N nv) (h0 : 0 < N.length) (h63 : N.length ≤ maxLen) (hby : N.length * i.bytes ≤ 140737488355328) :
    ∃ v' w' X', (Builtin.append_ #[t, t] ty #[.slice oa 0 0, nv]).run P w = .ok v' w' ∧
      RepV X' (h2 ++ [.row c N]) w' (.c (.slw h.length)) v' ∧ Good X h w X' (h2 ++ [.row c N]) w' ∧ RowKit.Below w.heap.size w w' := by
  obtain ⟨a, cap, ds, rfl, hc, hnews, hone⟩ := hn
  have fin : ∀ old, (Builtin.append_ #[t, t] ty #[.slice oa 0 0, .slice (some a) N.length cap]).run P w =
      .ok (.slice (some ⟨w.heap.size, 0, none⟩) N.length (grownCap w N.length old el)) (w.drew.alloc (.cells (ds.toArray ++ Builtin.zeroCells z.cells (grownCap w N.length old el - N.length)) el)) →
      ∃ v' w' X', (Builtin.append_ #[t, t] ty #[.slice oa 0 0, .slice (some a) N.length cap]).run P w = .ok v' w' ∧
      RepV X' (h2 ++ [.row c N]) w' (.c (.slw h.length)) v' ∧ Good X h w X' (h2 ++ [.row c N]) w' ∧ RowKit.Below w.heap.size w w' := by
    intro old hr
    have harr : ds.toArray ++ Builtin.zeroCells z.cells (grownCap w N.length old el - N.length) = (ds ++ (Builtin.zeroCells z.cells (grownCap w N.length old el - N.length)).toList).toArray := by
      apply Array.ext'; simp
    rw [harr] at hr
    refine ⟨_, _, _, hr, slw_new 0 hlen (heap_alloc_new w.drew _) ⟨grownCap_ge w N.length old el, grownCap_le_maxLen w N.length old el h63⟩ ?_, Good.rowNew hH hlen hkeep hc, below_alloc w _⟩
    have := grownCap_ge w N.length old el
    simp only [List.size_toArray, List.length_append, Array.length_toList, size_zeroCells, hc.1, hzs, hsz, ← Nat.add_mul, Nat.zero_add]
    exact Nat.mul_le_mul_right _ (by omega)
  cases oa with
  | none =>
    exact fin 0 (run_append_nil (P := P) w t ty el i z ht hi hz a N.length cap ds (by rw [hc.1, hsz]) hnews h0 (by simp only [maxLen] at h63; omega) (by omega))
  | some g =>
    have hr := run_append_grow (P := P) w t ty el i z ht hi hz g 0 0 [] (by simp) (fun j u hu => by simp at hu) a N.length cap ds (by rw [hc.1, hsz]) hnews (by omega) (by simp only [maxLen] at h63; omega) (growslice_fits (by omega) (by simpa using hby))
    simp only [Nat.zero_add] at hr
    exact fin 0 (by simpa using hr)

end
end Ab
