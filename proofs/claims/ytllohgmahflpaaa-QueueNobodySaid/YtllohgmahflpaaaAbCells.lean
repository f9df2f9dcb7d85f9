/- A block taken as the run's own; cells appended onto nothing. -/
import Derived.Test.YtllohgmahflpaaaAbApp0
set_option linter.unusedSectionVars false
set_option linter.unusedSimpArgs false
set_option linter.unusedVariables false
namespace Ab
open Go
section
variable [Uni] [Cod]
variable {P : Program} {e : Env} {X Y : Cx} {h i : List Blk} {w w' : World}

theorem below_ext (hb : RowKit.Below w.heap.size w w') : Ext (allF w) w w' :=
  ⟨hb.os, hb.tape, hb.output, hb.size, fun k hk => by rw [hb.block k hk]; exact sameHdr.refl _, fun k q hk => World.cell?_of_block (w := w) (hb.block k hk), fun k hk _ => by rw [hb.block k hk]; exact sameMk.refl _⟩

/-- Where all that was there is as it was, the run's own blocks are. -/
theorem Good.below (hH : RelH X h w) (hb : RowKit.Below w.heap.size w w') : Good X h w X h w' := by
  have ex := below_ext hb
  have exF : Ext X.F w w' := ex.weaken fun k q hf => hH.fsz k q hf
  refine ⟨⟨fun b bl hbl => (hH.blk b bl hbl).keep hbl (Mono.refl X h) exF (fun k q hf => ex.cell k q (foot_lt hH hf)) rfl (fun k hk => ex.mark k (foot_lt hH (hk 0)) (fun o => foot_lt hH (hk o))), hH.disj, hH.free, fun k q hf => ?_⟩, Mono.refl X h, ex.weaken fun k q hf => hf.1, fun k q hf => .inl hf, fun b k q hf => .inr ⟨b, hf⟩⟩
  have := hH.fsz k q hf
  have := hb.size
  omega

/-- A block that was made behind 'w' is taken as the run's own. -/
theorem Good.adoptX (hH : RelH X h w) (g : Good X h w Y i w') {l : List Cl} {vs : List Value} {k : Nat} {el : TypeId} (hk : w.heap.size ≤ k)
    {carr : Array Value} (hw : w'.heap[k]? = some (.cells carr el (0, 0))) (hsz : vs.length ≤ carr.size) (hv : ∀ (j : Nat) u, vs[j]? = some u → carr[j]? = some u) (r : RepL Y i w' l vs) (hno : ∀ b q, ¬ foot Y i b k q) (hF : ∀ q, ¬ Y.F k q) :
    Good X h w (Y.push i.length k True) (i ++ [.cells l]) w' := by
  have hH' := g.rel
  have m := mono_push (X := Y) (h := i) (bl := .cells l) k True
  have ex := Ext.refl Y.F w'
  have key : ∀ b k' q, foot (Y.push i.length k True) (i ++ [.cells l]) b k' q → (b < i.length ∧ foot Y i b k' q) ∨ (b = i.length ∧ k' = k) := by
    intro b k' q hf
    have hb := foot_blt hf
    simp at hb
    rcases Nat.lt_or_ge b i.length with hlt | hge
    · left
      rw [foot_push hlt] at hf
      exact ⟨hlt, hf⟩
    · have : b = i.length := by omega
      subst this
      right
      unfold foot at hf
      simp [Cx.push] at hf
      exact ⟨rfl, hf.1⟩
  have rel : RelH (Y.push i.length k True) (i ++ [.cells l]) w' := by
    refine ⟨fun b bl hb => ?_, fun b b' k' q hf hf' => ?_, fun b k' q hf hF' => ?_, fun k' q hf => hH'.fsz k' q hf⟩
    · rcases Nat.lt_or_ge b i.length with hlt | hge
      · rw [List.getElem?_append_left hlt] at hb
        exact (hH'.blk b bl hb).keep hb m ex (fun _ _ _ => rfl) rfl (fun _ _ => sameMk.refl _)
      · have hbe : b = i.length := by
          have := lt_of_list hb; simp at this; omega
        subst hbe
        simp at hb; subst hb
        refine ⟨carr, el, ⟨(0, 0), by simpa [Cx.push] using hw, .inl rfl⟩, by simp [Cx.push, r.len]; exact hsz, fun j x hx => ?_⟩
        obtain ⟨u, hu, ru⟩ := r.get hx
        exact ⟨u, by simpa [Cx.push] using hv j u hu, ru.mono m ex⟩
    · rcases key b k' q hf with ⟨h1, h2⟩ | ⟨h1, h2⟩ <;> rcases key b' k' q hf' with ⟨h3, h4⟩ | ⟨h3, h4⟩
      · exact hH'.disj b b' k' q h2 h4
      · subst h4; exact absurd h2 (hno b q)
      · subst h2; exact absurd h4 (hno b' q)
      · omega
    · rcases key b k' q hf with ⟨h1, h2⟩ | ⟨h1, h2⟩
      · exact hH'.free b k' q h2 hF'
      · subst h2; exact hF q hF'
  refine ⟨rel, g.mono.trans m, g.ext, fun k' q hf => g.fnew k' q hf, fun b k' q hf => ?_⟩
  rcases key b k' q hf with ⟨h1, h2⟩ | ⟨h1, h2⟩
  · exact g.ffoot b k' q h2
  · exact .inl (by omega)

theorem Good.adopt (hH : RelH X h w) (g : Good X h w Y i w') {l : List Cl} {vs : List Value} {k : Nat} {el : TypeId} (hk : w.heap.size ≤ k)
    (hw : w'.heap[k]? = some (.cells vs.toArray el (0, 0))) (r : RepL Y i w' l vs) (hno : ∀ b q, ¬ foot Y i b k q) (hF : ∀ q, ¬ Y.F k q) :
    Good X h w (Y.push i.length k True) (i ++ [.cells l]) w' := Good.adoptX hH g hk hw (by simp) (fun j u hu => by simpa using hu) r hno hF

/-- Cells appended onto nothing: a block of them. -/
theorem append_cells_ok (hH : RelH X h w) {t ty el : TypeId} {i : TypeInfo} {z : Value} (ht : P.underlying t = some (.slice el)) (hi : P.info? el = some i) (hz : i.zero = some z) (hzs : z.cells.size = i.size)
    {b o n : Nat} {c : Option Nat} {l : List Cl} (hb : h[b]? = some (.cells l)) (hl : o + n * i.size ≤ l.length) (h0 : 0 < n) (h63 : n ≤ maxLen) (hby : n * i.bytes ≤ 140737488355328) {v : Value} (r : RepC X h w (.sl b o n c) v) :
    ∃ v' w' X', (Builtin.append_ #[t, t] ty #[.slice none 0 0, v]).run P w = .ok v' w' ∧
      RepV X' (h ++ [.cells (slice l o (n * i.size))]) w' (.c (.sl h.length 0 n none)) v' ∧ Good X h w X' (h ++ [.cells (slice l o (n * i.size))]) w' ∧ RowKit.Below w.heap.size w w' := by
  cases r with
  | @sl _ _ _ _ cap hlt hcap =>
    obtain ⟨vs, hlen, hr, hcell⟩ := (hH.blk b _ hb).load hl
    have hrun := run_append_nil (P := P) w t ty el i z ht hi hz (X.addr b o) n cap vs hlen hcell h0 (by simp only [maxLen] at h63; omega) (by omega)
    have hbl := below_alloc w (.cells (vs.toArray ++ Builtin.zeroCells z.cells (grownCap w n 0 el - n)) el)
    have hg := Good.adoptX hH (Good.below hH hbl) (Nat.le_refl _) (heap_alloc_new w.drew _) (vs := vs) (l := slice l o (n * i.size)) (by simp) (fun j u hu => by
      rw [Array.getElem?_append_left (by simpa using lt_of_list hu)]; simpa using hu) (RepL.mono (Good.below hH hbl).mono ((Good.below hH hbl).extF hH) hr)
      (fun b q hf => by have := foot_lt hH hf; simp at this) (fun q hf => by have := hH.fsz _ _ hf; simp at this)
    refine ⟨_, _, _, hrun, ?_, hg, hbl⟩
    have := @RepC.sl _ _ (X.push h.length w.heap.size True) (h ++ [.cells (slice l o (n * i.size))]) (w.drew.alloc (.cells (vs.toArray ++ Builtin.zeroCells z.cells (grownCap w n 0 el - n)) el)) h.length 0 n none (grownCap w n 0 el) (by simp) (grownCap_ge w n 0 el)
    rw [show (X.push h.length w.heap.size True).addr h.length 0 = ⟨w.heap.size, 0, none⟩ by simp [Cx.addr, Cx.push]] at this
    exact this
end
end Ab
