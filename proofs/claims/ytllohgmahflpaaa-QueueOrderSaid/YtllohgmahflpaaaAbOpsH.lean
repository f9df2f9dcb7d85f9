/- The operations that write memory, or make some. -/
import Derived.Test.YtllohgmahflpaaaAbMem
import Derived.Great.BuildSlice
set_option linter.unusedSectionVars false
set_option linter.unusedSimpArgs false
set_option linter.unusedVariables false
namespace Ab
open Go
section
variable [Uni] [Cod]
variable {P : Program} {e : Env} {X Y : Cx} {h i : List Blk} {w w' : World} {o : Oper} {ρA : Operand → AV} {ρ : Operand → Value} {v : AV}

/-- An element's cells written, in a row of the run's own. -/
theorem RelH.storeRow (hH : RelH X h w) {b c q off : Nat} {L : List (Uni.val c)} {x y : Uni.val c} {l : List Cl} {vs : List Value} (hb : h[b]? = some (.row c L)) (hx : L[q]? = some x)
    (hl : off + l.length ≤ Uni.sz c) (hy : Cod.enc c y = splice (Cod.enc c x) off l) (r : RepL X h w l vs) :
    RelH X (h.set b (.row c (L.set q y))) (w.setCells (X.ρ b).1 ((X.ρ b).2 + (q * Uni.sz c + off)) vs) ∧ Mono X h X (h.set b (.row c (L.set q y))) ∧ Ext X.F w (w.setCells (X.ρ b).1 ((X.ρ b).2 + (q * Uni.sz c + off)) vs) ∧
      (∀ j, j < vs.length → (w.cell? ⟨(X.ρ b).1, (X.ρ b).2 + (q * Uni.sz c + off) + j, none⟩).isSome = true) ∧ (∃ carr el fz, w.heap[(X.ρ b).1]? = some (.cells carr el fz) ∧ harm fz carr.size) := by
  have hbl := lt_of_list hb
  have hql := lt_of_list hx
  have hlen := r.len
  have hex := Cod.enc_len c x
  have hown : X.own b := by
    by_cases ho : X.own b
    · exact ho
    · have := (hH.blk b _ hb).2 ho; subst this; simp at hx
  obtain ⟨carr, el, ⟨fz, hw, hfz⟩, hsz, hcell⟩ := (hH.blk b _ hb).1 hown
  have m' : Mono X h X (h.set b (.row c (L.set q y))) := mono_set (fun c' L' hh => by simp at hh; obtain ⟨rfl, hh⟩ := hh; simp at hh; subst hh; exact ⟨L, hb, by simp⟩)
  have hfoot : ∀ k, foot X h b (X.ρ b).1 k := by intro k; unfold foot; rw [hb]; exact ⟨hown, rfl⟩
  have ex : Ext X.F w (w.setCells (X.ρ b).1 ((X.ρ b).2 + (q * Uni.sz c + off)) vs) :=
    ext_setCells _ _ _ (fun k hf => absurd hf (hH.free b _ _ (hfoot k)))
  have footEq : ∀ b' k j, foot X (h.set b (.row c (L.set q y))) b' k j → foot X h b' k j := by
    intro b' k j hf
    unfold foot at hf ⊢
    rw [List.getElem?_set] at hf
    by_cases heq : b = b'
    · subst heq
      simp [hbl] at hf
      rw [hb]; exact hf
    · rw [if_neg heq] at hf; exact hf
  have hsp := Cod.sz_pos (c := c)
  have hall : ∀ j, j < vs.length → (w.cell? ⟨(X.ρ b).1, (X.ρ b).2 + (q * Uni.sz c + off) + j, none⟩).isSome = true := by
    intro j hj
    obtain ⟨u', hu', _⟩ := hcell q x (off + j) ((Cod.enc c x)[off + j]'(by omega)) hx (List.getElem?_eq_getElem (by omega))
    rw [cell_of_heap hw, show (X.ρ b).2 + (q * Uni.sz c + off) + j = (X.ρ b).2 + (q * Uni.sz c + (off + j)) by omega, hu']; rfl
  refine ⟨⟨fun b' bl hb' => ?_, fun b1 b2 k j h1 h2 => hH.disj b1 b2 k j (footEq _ _ _ h1) (footEq _ _ _ h2), fun b' k j h1 => hH.free b' k j (footEq _ _ _ h1), fun k j hf => ?_⟩, m', ex, hall, carr, el, fz, hw, hfz⟩
  · by_cases heq : b = b'
    · subst heq
      simp [hbl] at hb'; subst hb'
      obtain ⟨c', f', hw', hs', hm'⟩ := hdr_cells ex hw
      refine ⟨fun _ => ⟨c', el, ⟨f', hw', by rw [hs']; exact hm' hfz⟩, by simp; omega, fun q' x' j z hx' hz => ?_⟩, fun ho => absurd hown ho⟩
      have hq'l : q' < L.length := by have := lt_of_list hx'; simpa using this
      by_cases hqq : q' = q
      · subst hqq
        simp [hql] at hx'; subst hx'
        rw [hy] at hz
        have hjm : j < Uni.sz c := by
          have := lt_of_list hz
          have e2 : (splice (Cod.enc c x) off l).length = (Cod.enc c x).length := by simp [splice]; omega
          omega
        by_cases hin : off ≤ j ∧ j < off + l.length
        · have hz' : l[j - off]? = some z := by
            rw [← hz]; unfold splice
            rw [List.getElem?_append_right (by simp; omega), List.getElem?_append_left (by simp; omega)]
            congr 1; simp; omega
          obtain ⟨u, hu, ru⟩ := r.get hz'
          refine ⟨u, ?_, ru.mono m' ex⟩
          have hjv : j - off < vs.length := by omega
          have := World.cell?_setCells_in (X.ρ b).1 vs ((X.ρ b).2 + (q' * Uni.sz c + off)) w hall (j - off) hjv
          rw [cell_of_heap hw'] at this
          rw [show (X.ρ b).2 + (q' * Uni.sz c + off) + (j - off) = (X.ρ b).2 + (q' * Uni.sz c + j) by omega] at this
          rw [this]
          rw [List.getElem?_eq_getElem hjv] at hu
          simpa using hu
        · have hz' : (Cod.enc c x)[j]? = some z := by
            rw [← hz]; unfold splice
            rcases Nat.lt_or_ge j off with h1 | h1
            · rw [List.getElem?_append_left (by simp; omega), List.getElem?_take, if_pos h1]
            · rw [List.getElem?_append_right (by simp; omega), List.getElem?_append_right (by simp; omega), List.getElem?_drop]
              congr 1; simp; omega
          obtain ⟨u, hu, ru⟩ := hcell q' x j z hx hz'
          refine ⟨u, ?_, ru.mono m' ex⟩
          have := World.cell?_setCells_out (X.ρ b).1 vs ((X.ρ b).2 + (q' * Uni.sz c + off)) w ⟨(X.ρ b).1, (X.ρ b).2 + (q' * Uni.sz c + j), none⟩ (fun _ _ => by simp only; omega)
          rw [cell_of_heap hw', cell_of_heap hw] at this
          rw [this]; exact hu
      · rw [List.getElem?_set, if_neg (Ne.symm hqq)] at hx'
        obtain ⟨u, hu, ru⟩ := hcell q' x' j z hx' hz
        refine ⟨u, ?_, ru.mono m' ex⟩
        have hjs : j < Uni.sz c := by have := lt_of_list hz; rw [Cod.enc_len] at this; exact this
        have := World.cell?_setCells_out (X.ρ b).1 vs ((X.ρ b).2 + (q * Uni.sz c + off)) w ⟨(X.ρ b).1, (X.ρ b).2 + (q' * Uni.sz c + j), none⟩ (fun _ _ => by
          simp only
          rcases Nat.lt_or_gt_of_ne hqq with hlt | hgt
          · have := row_lt (j := j) hlt hjs; omega
          · have h3 : (q + 1) * Uni.sz c ≤ q' * Uni.sz c := Nat.mul_le_mul_right _ hgt
            rw [Nat.succ_mul] at h3; omega)
        rw [cell_of_heap hw', cell_of_heap hw] at this
        rw [this]; exact hu
    · rw [List.getElem?_set, if_neg heq] at hb'
      refine (hH.blk b' bl hb').keep hb' m' ex (fun k j hf => ?_) rfl (fun k _ => mk_setCells _ _ _ _ k)
      refine World.cell?_setCells_out _ _ _ _ _ (fun hk _ => ?_)
      simp only at hk ⊢
      subst hk
      exact absurd (hH.disj b b' _ _ (hfoot j) hf) heq
  · have := hH.fsz k j hf
    have := (same_setCells (X.ρ b).1 vs ((X.ρ b).2 + (q * Uni.sz c + off)) w).2.2.2
    omega

/-- What the run has no hold on: cells that are there and are none of its own. -/
def frameF (X : Cx) (h : List Blk) (w : World) : Nat → Nat → Prop := fun k q => k < w.heap.size ∧ ∀ b, ¬ foot X h b k q

/-- How memory goes on: what the run has no hold on is as it was; what it takes as its own, or as never written again, it had or has made. -/
structure Good (X : Cx) (h : List Blk) (w : World) (X' : Cx) (h' : List Blk) (w' : World) : Prop where
  rel : RelH X' h' w'
  mono : Mono X h X' h'
  ext : Ext (frameF X h w) w w'
  fnew : ∀ k q, X'.F k q → X.F k q ∨ w.heap.size ≤ k ∨ ∃ b, foot X h b k q
  ffoot : ∀ b k q, foot X' h' b k q → w.heap.size ≤ k ∨ ∃ b0, foot X h b0 k q

theorem RelH.frame (hH : RelH X h w) {k q : Nat} (hf : X.F k q) : frameF X h w k q := ⟨hH.fsz k q hf, fun b hb => hH.free b k q hb hf⟩

theorem Good.extF {X' : Cx} {h' : List Blk} (hH : RelH X h w) (g : Good X h w X' h' w') : Ext X.F w w' := g.ext.weaken fun _ _ hf => hH.frame hf

theorem Good.refl (hH : RelH X h w) : Good X h w X h w := ⟨hH, Mono.refl X h, Ext.refl _ w, fun _ _ hf => .inl hf, fun b _ _ hf => .inr ⟨b, hf⟩⟩

theorem Good.trans {Z : Cx} {j : List Blk} {w2 : World} (g : Good X h w Y i w') (g2 : Good Y i w' Z j w2) : Good X h w Z j w2 := by
  refine ⟨g2.rel, g.mono.trans g2.mono, g.ext.trans g2.ext (fun k q hf => ⟨Nat.lt_of_lt_of_le hf.1 g.ext.size, fun b hb => ?_⟩), fun k q hf => ?_, fun b k q hf => ?_⟩
  · rcases g.ffoot b k q hb with h1 | ⟨b0, h1⟩
    · have := hf.1; omega
    · exact hf.2 b0 h1
  · rcases g2.fnew k q hf with h1 | h1 | ⟨b, h1⟩
    · exact g.fnew k q h1
    · have := g.ext.size; exact .inr (.inl (by omega))
    · rcases g.ffoot b k q h1 with h2 | h2
      · exact .inr (.inl h2)
      · exact .inr (.inr h2)
  · rcases g2.ffoot b k q hf with h1 | ⟨b, h1⟩
    · have := g.ext.size; exact .inl (by omega)
    · exact g.ffoot b k q h1

theorem Good.alloc (hH : RelH X h w) {l : List Cl} {vs : List Value} (r : RepL X h w l vs) (el : TypeId) :
    Good X h w (X.push h.length w.heap.size True) (h ++ [.cells l]) { w with heap := w.heap.push (.cells vs.toArray el) } := by
  obtain ⟨h1, h2, h3⟩ := hH.alloc r el
  refine ⟨h1, h2, ext_alloc (fun k q hf => hf.1) _, fun k q hf => .inl hf, fun b k q hf => ?_⟩
  rcases Nat.lt_or_ge b h.length with hlt | hge
  · rw [foot_push hlt] at hf; exact .inr ⟨b, hf⟩
  · have hb := foot_blt hf
    simp at hb
    have : b = h.length := by omega
    subst this
    unfold foot at hf
    simp [Cx.push] at hf
    exact .inl (by omega)

theorem foot_set {b : Nat} {bl : Blk} (hb : b < h.length) {b' k q : Nat} (hf : foot X (h.set b bl) b' k q) : b' = b ∨ foot X h b' k q := by
  by_cases heq : b' = b
  · exact .inl heq
  · right
    unfold foot at hf ⊢
    rw [List.getElem?_set, if_neg (Ne.symm heq)] at hf
    exact hf

theorem Good.store (hH : RelH X h w) {b off : Nat} {m l : List Cl} {vs : List Value} (hb : h[b]? = some (.cells m)) (hl : off + l.length ≤ m.length) (r : RepL X h w l vs) :
    Good X h w X (h.set b (.cells (splice m off l))) (w.setCells (X.ρ b).1 ((X.ρ b).2 + off) vs) := by
  obtain ⟨h1, h2, h3⟩ := hH.store hb hl r
  have hlen := r.len
  have hsl : (splice m off l).length = m.length := by simp [splice]; omega
  refine ⟨h1, h2, ext_setCells _ _ _ (fun q hf => ?_), fun k q hf => .inl hf, fun b' k q hf => ?_⟩
  · by_cases hin : (X.ρ b).2 ≤ q ∧ q < (X.ρ b).2 + m.length
    · exact absurd (show foot X h b (X.ρ b).1 q by unfold foot; rw [hb]; exact ⟨rfl, hin⟩) (hf.2 b)
    · omega
  · rcases foot_set (lt_of_list hb) hf with rfl | h4
    · refine .inr ⟨b', ?_⟩
      unfold foot at hf ⊢
      simp [lt_of_list hb] at hf
      rw [hb]; rw [hsl] at hf; exact hf
    · exact .inr ⟨b', h4⟩

theorem Good.storeRow (hH : RelH X h w) {b c q off : Nat} {L : List (Uni.val c)} {x y : Uni.val c} {l : List Cl} {vs : List Value} (hb : h[b]? = some (.row c L)) (hx : L[q]? = some x)
    (hl : off + l.length ≤ Uni.sz c) (hy : Cod.enc c y = splice (Cod.enc c x) off l) (r : RepL X h w l vs) :
    Good X h w X (h.set b (.row c (L.set q y))) (w.setCells (X.ρ b).1 ((X.ρ b).2 + (q * Uni.sz c + off)) vs) := by
  obtain ⟨h1, h2, h3, _, _⟩ := hH.storeRow hb hx hl hy r
  have hown : X.own b := by
    by_cases ho : X.own b
    · exact ho
    · have := (hH.blk b _ hb).2 ho; subst this; simp at hx
  refine ⟨h1, h2, ext_setCells _ _ _ (fun k hf => absurd (show foot X h b (X.ρ b).1 k by unfold foot; rw [hb]; exact ⟨hown, rfl⟩) (hf.2 b)), fun k q hf => .inl hf, fun b' k j hf => ?_⟩
  rcases foot_set (lt_of_list hb) hf with rfl | h4
  · refine .inr ⟨b', ?_⟩
    unfold foot at hf ⊢
    simp [lt_of_list hb] at hf
    rw [hb]; exact hf
  · exact .inr ⟨b', h4⟩

theorem lens_set {α : Type} {LL : List (List α)} {k j : Nat} {L : List α} {y : α} (hL : LL[k]? = some L) : (LL.set k (L.set j y)).map (·.length) = LL.map (·.length) := by
  apply List.ext_getElem?
  intro i
  simp only [List.getElem?_map, List.getElem?_set]
  split
  · rename_i h; subst h
    obtain ⟨this, rfl⟩ := List.getElem?_eq_some_iff.mp hL
    simp [this]
  · rfl

/-- A cell written of a row in a slice of slices of the run's own. -/
theorem RelH.storeBag (hH : RelH X h w) {b c2 c k j : Nat} {LL : List (List (Uni.val c))} {L : List (Uni.val c)} {x y : Uni.val c} {z : Cl} {u : Value} (hb : h[b]? = some (.bg c2 c LL none)) (hL : LL[k]? = some L) (hx : L[j]? = some x)
    (hs1 : Uni.sz c = 1) (hy : Cod.enc c y = [z]) (r : RepC X h w z u) (hs : (X.sub b k).2) :
    RelH X (h.set b (.bg c2 c (LL.set k (L.set j y)) none)) (w.setCells (X.sub b k).1.1 ((X.sub b k).1.2 + j) [u]) ∧ Good X h w X (h.set b (.bg c2 c (LL.set k (L.set j y)) none)) (w.setCells (X.sub b k).1.1 ((X.sub b k).1.2 + j) [u]) ∧
      (∀ q, q < 1 → (w.cell? ⟨(X.sub b k).1.1, (X.sub b k).1.2 + j + q, none⟩).isSome = true) ∧ (∃ carr el fz, w.heap[(X.sub b k).1.1]? = some (.cells carr el fz) ∧ harm fz carr.size) := by
  have hbl := lt_of_list hb
  have hkl := lt_of_list hL
  have hjl := lt_of_list hx
  have hown : X.own b := bg_own hH hb hkl
  obtain ⟨carr, el, ⟨fz, hw, hfz⟩, hsz, h3, h4, h5, h6⟩ := (hH.blk b _ hb).1 hown
  obtain ⟨⟨q1, _⟩, v0, hv0, hd0⟩ := h3 k L hL
  obtain ⟨carr2, el2, ⟨fz2, hw2, hfz2⟩, hsz2, hcell⟩ := q1 hs
  have m' : Mono X h X (h.set b (.bg c2 c (LL.set k (L.set j y)) none)) := mono_set (fun c' L' hh => by cases hh)
    (fun c2' c' LL' p' hh => by cases hh; exact ⟨LL, none, hb, (lens_set hL).symm, rfl⟩)
  have hfoot : ∀ q, foot X h b (X.sub b k).1.1 q := by intro q; unfold foot; rw [hb]; exact ⟨hown, .inr ⟨k, hkl, hs, rfl⟩⟩
  have ex : Ext X.F w (w.setCells (X.sub b k).1.1 ((X.sub b k).1.2 + j) [u]) :=
    ext_setCells _ _ _ (fun q hf => absurd hf (hH.free b _ _ (hfoot q)))
  have footEq : ∀ b' k' q, foot X (h.set b (.bg c2 c (LL.set k (L.set j y)) none)) b' k' q → foot X h b' k' q := by
    intro b' k' q hf
    unfold foot at hf ⊢
    rw [List.getElem?_set] at hf
    by_cases heq : b = b'
    · subst heq
      simp only [if_true, hbl, List.length_set] at hf
      rw [hb]; exact hf
    · rw [if_neg heq] at hf; exact hf
  have hj0 : ∃ u', carr2[(X.sub b k).1.2 + j]? = some u' := by
    obtain ⟨z', hz'⟩ : ∃ z', (Cod.enc c x)[0]? = some z' := by
      have := Cod.enc_len c x
      exact ⟨_, List.getElem?_eq_getElem (by omega)⟩
    obtain ⟨u', hu', _⟩ := hcell j x 0 z' hx hz'
    exact ⟨u', by rw [← hu', hs1]; congr 1; omega⟩
  obtain ⟨u0, hu0⟩ := hj0
  have hall : ∀ q, q < [u].length → (w.cell? ⟨(X.sub b k).1.1, (X.sub b k).1.2 + j + q, none⟩).isSome = true := by
    intro q hq
    have : q = 0 := by simpa using hq
    subst this
    rw [cell_of_heap hw2, Nat.add_zero, hu0]; rfl
  have hrel : RelH X (h.set b (.bg c2 c (LL.set k (L.set j y)) none)) (w.setCells (X.sub b k).1.1 ((X.sub b k).1.2 + j) [u]) := by
    refine ⟨fun b' bl hb' => ?_, fun b1 b2 k' q h1 h2 => hH.disj b1 b2 k' q (footEq _ _ _ h1) (footEq _ _ _ h2), fun b' k' q h1 => hH.free b' k' q (footEq _ _ _ h1), fun k' q hf => ?_⟩
    · by_cases heq : b = b'
      · subst heq
        simp [hbl] at hb'; subst hb'
        have hout : ∀ k', k' ≠ (X.sub b k).1.1 → ∀ q, (w.setCells (X.sub b k).1.1 ((X.sub b k).1.2 + j) [u]).cell? ⟨k', q, none⟩ = w.cell? ⟨k', q, none⟩ := fun k' hne q =>
          World.cell?_setCells_out _ _ _ _ _ (fun hk _ => absurd hk hne)
        obtain ⟨c', f', hw', hs', hm'⟩ := hdr_cells ex hw
        have hcc : ∀ q, c'[q]? = carr[q]? := fun q => by
          have := hout (X.ρ b).1 (Ne.symm (h5 k hkl hs)) q
          rw [cell_of_heap hw', cell_of_heap hw] at this
          exact this
        refine ⟨fun _ => ⟨c', el, ⟨f', hw', by rw [hs']; exact hm' hfz⟩, by rw [hs', List.length_set]; exact hsz, fun i2 L2 hL2 => ?_, by rw [List.length_set]; exact h4, by rw [List.length_set]; exact h5, fun r hr => by cases hr⟩, fun ho => absurd hown ho⟩
        by_cases hik : i2 = k
        · subst hik
          simp [hkl] at hL2; subst hL2
          obtain ⟨c3, f3, hw3, hs3, hm3⟩ := hdr_cells ex hw2
          refine ⟨⟨fun _ => ⟨c3, el2, ⟨f3, hw3, by rw [hs3]; exact hm3 hfz2⟩, by simpa [hs3] using hsz2, fun q x' jj z' hx' hz' => ?_⟩, fun hn => absurd hs hn⟩, v0, by rw [hcc]; exact hv0, by simpa using hd0.ext ex⟩
          have hjj : jj = 0 := by have := lt_of_list hz'; rw [Cod.enc_len, hs1] at this; omega
          subst hjj
          by_cases hqj : q = j
          · subst hqj
            simp [hjl] at hx'; subst hx'
            rw [hy] at hz'; simp at hz'; subst hz'
            refine ⟨u, ?_, r.mono m' ex⟩
            have := World.cell?_setCells_in (X.sub b i2).1.1 [u] ((X.sub b i2).1.2 + q) w hall 0 (by simp)
            rw [cell_of_heap hw3] at this
            rw [hs1]
            simpa using this
          · rw [List.getElem?_set, if_neg (Ne.symm hqj)] at hx'
            obtain ⟨u', hu', ru⟩ := hcell q x' 0 z' hx' hz'
            refine ⟨u', ?_, ru.mono m' ex⟩
            have := World.cell?_setCells_out (X.sub b i2).1.1 [u] ((X.sub b i2).1.2 + j) w ⟨(X.sub b i2).1.1, (X.sub b i2).1.2 + (q * Uni.sz c + 0), none⟩ (fun _ _ => by simp only [List.length_cons, List.length_nil, hs1]; omega)
            rw [cell_of_heap hw3, cell_of_heap hw2] at this
            rw [this]; exact hu'
        · rw [List.getElem?_set, if_neg (Ne.symm hik)] at hL2
          obtain ⟨g1, v, hv, g2⟩ := h3 i2 L2 hL2
          exact ⟨g1.keep m' ex (fun ho q => hout _ (fun he => hik (h4 i2 k (lt_of_list hL2) hkl ho hs he)) q), v, by rw [hcc]; exact hv, g2.ext ex⟩
      · rw [List.getElem?_set, if_neg heq] at hb'
        refine (hH.blk b' bl hb').keep hb' m' ex (fun k' q hf => ?_) rfl (fun k' _ => mk_setCells _ _ _ _ k')
        refine World.cell?_setCells_out _ _ _ _ _ (fun hk _ => ?_)
        simp only at hk ⊢
        subst hk
        exact absurd (hH.disj b b' _ _ (hfoot q) hf) heq
    · have := hH.fsz k' q hf
      have := (same_setCells (X.sub b k).1.1 [u] ((X.sub b k).1.2 + j) w).2.2.2
      omega
  refine ⟨hrel, ⟨hrel, m', ext_setCells _ _ _ (fun q hf => absurd (hfoot q) (hf.2 b)), fun k' q hf => .inl hf, fun b' k' q hf => .inr ⟨b', footEq _ _ _ hf⟩⟩, by simpa using hall, carr2, el2, fz2, hw2, hfz2⟩

/-- The operations that make memory, and leave all that was there alone. -/
def grO (o : Oper) : Bool := match o.op with
  | .alloc _ | .box _ _ | .buildSlice _ _ _ | .makeSlice _ _ _ | .makeChan _ _ => true
  | .call c => (match c.callee with | .builtin .len | .builtin .cap => true | _ => false)
  | _ => false

theorem below_push (w : World) (ob : Obj) : RowKit.Below w.heap.size w { w with heap := w.heap.push ob } := by
  refine ⟨rfl, rfl, rfl, by simp, fun k hk => ?_⟩
  simp only [Array.getElem?_push]
  rw [if_neg (by omega)]

/-- What an operation comes to: a value, memory as told. -/
def Steps1 (P : Program) (X : Cx) (h : List Blk) (w : World) (o : Oper) (ρ : Operand → Value) (v : AV) (h' : List Blk) : Prop :=
  ∃ cv w' X', ((execOp ρ o).run P w = .ok (.value cv) w' ∨ ((execOp ρ o).run P w = .ok .skip w' ∧ cv = undef)) ∧ RepV X' h' w' v cv ∧ Good X h w X' h' w' ∧ (grO o = true → RowKit.Below w.heap.size w w')

theorem RepL.mono (m : Mono X h Y i) (ex : Ext X.F w w') {l : List Cl} {vs : List Value} (r : RepL X h w l vs) : RepL Y i w' l vs := All2.mono r fun _ _ q => RepC.mono m ex q

theorem RepV.mono (m : Mono X h Y i) (ex : Ext X.F w w') {x : AV} {u : Value} (r : RepV X h w x u) : RepV Y i w' x u := by
  cases x with
  | top => trivial
  | c y => exact RepC.mono m ex r
  | agg l => obtain ⟨vs, hu, r⟩ := r; exact ⟨vs, hu, RepL.mono m ex r⟩
  | tup l =>
    obtain ⟨vs, hu, r⟩ := r
    refine ⟨vs, hu, All2.mono r fun p u q => ?_⟩
    match p, q with
    | none, _ => trivial
    | some (true, l), q => obtain ⟨vs, hu, r⟩ := q; exact ⟨vs, hu, RepL.mono m ex r⟩
    | some (false, []), _ => trivial
    | some (false, [y]), q => exact RepC.mono m ex q
    | some (false, _ :: _ :: _), _ => trivial

theorem alloc_steps (hH : RelH X h w) {l : List Cl} {vs : List Value} (r : RepL X h w l vs) (el : TypeId)
    (hrun : (execOp ρ o).run P w = .ok (.value (.pointer (some ⟨w.heap.size, 0, none⟩))) { w with heap := w.heap.push (.cells vs.toArray el) }) :
    Steps1 P X h w o ρ (.c (.ptr h.length 0)) (h ++ [.cells l]) := by
  refine ⟨_, _, _, .inl hrun, ?_, Good.alloc hH r el, fun _ => below_push w _⟩
  have := @RepC.ptr _ _ (X.push h.length w.heap.size True) (h ++ [.cells l]) { w with heap := w.heap.push (.cells vs.toArray el) } h.length 0 (by simp)
  rw [show (X.push h.length w.heap.size True).addr h.length 0 = ⟨w.heap.size, 0, none⟩ by simp [Cx.addr, Cx.push]] at this
  exact this

theorem H_box {t : TypeId} {x : Operand} {h' : List Blk} (ho : o.op = .box t x) (hρ : RepO X h w ρA ρ) (hH : RelH X h w) (hv : (stepH e o ρA h).eval = some (v, h')) : Steps1 P X h w o ρ v h' := by
  unfold stepH at hv; simp only [ho] at hv
  split at hv
  · rename_i l hl
    simp only [Res.eval, Option.some.injEq, Prod.mk.injEq] at hv
    obtain ⟨rfl, rfl⟩ := hv
    refine alloc_steps hH (repV_cells (hρ x) hl) t ?_
    simp [execOp, ho, Instr.box, newVar, newRow]
  · simp [Res.eval] at hv

theorem H_alloc {t : TypeId} {h' : List Blk} (hT : TAll P e) (ho : o.op = .alloc t) (hH : RelH X h w) (hv : (stepH e o ρA h).eval = some (v, h')) : Steps1 P X h w o ρ v h' := by
  unfold stepH at hv; simp only [ho] at hv
  split at hv
  · simp [Res.eval] at hv
  · rename_i z hne
    simp only [Res.eval, Option.some.injEq, Prod.mk.injEq] at hv
    obtain ⟨rfl, rfl⟩ := hv
    obtain ⟨ti, zv, hti, hzz, hrz, _⟩ := zero_info (X := X) (h := h) (w := w) hT (t := t) (fun h => hne h)
    refine alloc_steps hH hrz t ?_
    simp [execOp, ho, Instr.alloc, newVar, newRow, zeroValue, typeInfo, hti, hzz]

theorem run_storeVar_cells {t : TypeId} (hT : TAll P e) (h1 : 1 ≤ (e.T t).size) {u : Value} {k q : Nat} {el : TypeId} {carr : Array Value} {fz : Nat × Nat} (hw : w.heap[k]? = some (.cells carr el fz)) (hfz0 : harm fz carr.size)
    (hsz : u.cells.toList.length = (e.T t).size) (hone : ∀ v ∈ u.cells.toList, v.oneCell' = true) (hin : ∀ j, j < u.cells.toList.length → (w.cell? ⟨k, q + j, none⟩).isSome = true) :
    (storeVar t ⟨k, q, none⟩ u).run P w = .ok () (w.setCells k q u.cells.toList) := by
  have hx := hT t (Env.lt_of_size (by omega))
  have hfz : ∀ j, j < u.cells.toList.length → w.frozen? ⟨k, q + 0 + j, none⟩ = false := by
    intro j hj
    have hc := hin j hj
    rw [cell_of_heap hw] at hc
    have hlt : q + j < carr.size := by
      rcases Nat.lt_or_ge (q + j) carr.size with hh | hh
      · exact hh
      · rw [Array.getElem?_eq_none hh] at hc; cases hc
    rcases hfz0 with rfl | rfl
    · simp [World.frozen?, hw]
    · simp [World.frozen?, hw]
      omega
  have := run_storeCells_cells (P := P) k q u.cells.toList 0 w (by simpa using hin) hfz hone
  simp only [Nat.add_zero] at this
  have hs : u.cells.size = (e.T t).size := by simpa using hsz
  simp [storeVar, run_sizeOf hx, hs, this]

theorem coeEl_ok {el : TypeId} {x : AV} {u : Value} (r : RepV X h w x u) : RepV X h w (coeEl e el x) u := by
  have no : ∀ {c : Nat} {v : Value}, (∃ a, v = .slice a 0 0) → RepC X h w (.rs c []) v := by
    rintro c v ⟨a, rfl⟩
    exact .rs (L := []) (cv := fun _ _ => undef) (Nat.le_refl _) (fun i x hx => by simp at hx) (fun i x j y hx => by simp at hx)
  unfold coeEl
  split
  · have r : RepC X h w .nils u := r
    cases r; exact no ⟨_, rfl⟩
  · have r : RepC X h w .ez u := r
    cases r; exact no ⟨_, rfl⟩
  · exact r

theorem coeSt_ok {t : TypeId} {x : AV} {u : Value} (r : RepV X h w x u) : RepV X h w (coeSt e t x) u := by
  unfold coeSt
  split
  · exact coeEl_ok r
  · exact r

theorem H_jkStore {t : TypeId} {a x : Operand} {b : Nat} {m : JM} {l : List Cl} {h' : List Blk} (hT : TAll P e) (ho : o.op = .store t a x) (ha : RepC X h w (.jk b m) (ρ a)) (hH : RelH X h w) (rl : RepL X h w l (ρ x).cells.toList) (hv : (jkStore e t b m l h).eval = some (v, h')) : Steps1 P X h w o ρ v h' := by
  unfold jkStore at hv
  split at hv
  · rename_i k j c2 c LL hb
    split at hv
    case h_2 => simp [Res.eval] at hv
    rename_i hc
    simp only [Bool.and_eq_true, Nat.beq_eq] at hc
    obtain ⟨⟨hc1, hc2⟩, hc3⟩ := hc
    rw [Res.eval_opt] at hv
    split at hv
    case h_2 => simp at hv
    rename_i L hL
    rw [Res.eval_opt] at hv
    split at hv
    case h_2 => simp at hv
    rename_i y0 hy0
    split at hv
    case h_2 => simp [Res.eval] at hv
    rename_i y hy
    simp only [Res.eval, Option.some.injEq, Prod.mk.injEq] at hv
    obtain ⟨rfl, rfl⟩ := hv
    generalize hu : ρ a = ua at ha
    obtain ⟨hlt, hj⟩ := repC_jk ha hb
    obtain ⟨_, hs, rfl⟩ := hj
    have hde := Cod.dec_enc _ _ _ hy
    match l, hc2, rl with
    | [z], _, rl =>
    have hlen := rl.len
    match hq : (ρ x).cells.toList, rl with
    | [uu], .cons ru .nil =>
    obtain ⟨_, hg, hin, carr, el, fz, hw, hfz⟩ := hH.storeBag hb hL hy0 hc3 hde ru hs
    have hrun := run_storeVar_cells (P := P) (w := w) hT (t := t) (by omega) (u := ρ x) (q := (X.sub b k).1.2 + j) hw hfz (by rw [hq, hc1]; rfl)
      (fun u hu => by rw [hq] at hu; simp at hu; subst hu; exact ru.one)
      (fun q hq' => hin q (by rw [hq] at hq'; simpa using hq'))
    rw [hq] at hrun
    refine ⟨undef, _, X, .inr ⟨?_, rfl⟩, trivial, hg, fun hgr => by simp [grO, ho] at hgr⟩
    simp [execOp, ho, Instr.storeAt, hu, Instr.sureAddr, hrun]
  · simp [Res.eval] at hv

theorem H_store {t : TypeId} {a x : Operand} {h' : List Blk} (hT : TAll P e) (ho : o.op = .store t a x) (hρ : RepO X h w ρA ρ) (hH : RelH X h w) (hv : (stepH e o ρA h).eval = some (v, h')) : Steps1 P X h w o ρ v h' := by
  have ha := hρ a; have hx := hρ x
  unfold stepH at hv; simp only [ho] at hv
  split at hv
  · rename_i b off l hb hl
    rw [hb] at ha
    obtain ⟨hlt, ha'⟩ := repC_ptr ha
    have rl := repV_cells (coeSt_ok hx) hl
    split at hv
    · rename_i m hm
      split at hv
      · rename_i hc
        simp only [Bool.and_eq_true, Nat.ble_eq, Nat.beq_eq] at hc
        obtain ⟨⟨hc1, hc2⟩, hc3⟩ := hc
        simp only [Res.eval, Option.some.injEq, Prod.mk.injEq] at hv
        obtain ⟨rfl, rfl⟩ := hv
        have hg := Good.store hH hm hc3 rl
        obtain ⟨carr, el, ⟨fz, hw, hfz⟩, hsz, hcell⟩ := hH.blk b _ hm
        have hrun := run_storeVar_cells (P := P) (w := w) hT hc1 (u := ρ x) (q := (X.ρ b).2 + off) hw hfz (by rw [← rl.len]; exact hc2)
          (fun u hu => by
            obtain ⟨j, hj⟩ := List.getElem?_of_mem hu
            have hjl : j < l.length := by rw [rl.len]; exact lt_of_list hj
            obtain ⟨u', hu', ru⟩ := rl.get (List.getElem?_eq_getElem hjl)
            rw [hj] at hu'; simp at hu'; subst hu'
            exact ru.one)
          (fun j hj => by
            have hjl : j < l.length := by rw [rl.len]; exact hj
            obtain ⟨u', hu', _⟩ := hcell (off + j) (m[off + j]'(by omega)) (List.getElem?_eq_getElem (by omega))
            rw [cell_of_heap hw, show (X.ρ b).2 + off + j = (X.ρ b).2 + (off + j) by omega, hu']; rfl)
        refine ⟨undef, _, X, .inr ⟨?_, rfl⟩, trivial, hg, fun hgr => by simp [grO, ho] at hgr⟩
        simp [execOp, ho, Instr.storeAt, ha', Instr.sureAddr, Cx.addr, hrun]
      · simp [Res.eval] at hv
    · simp [Res.eval] at hv
  · rename_i b m l hb hl
    rw [hb] at ha
    have rl := repV_cells (coeSt_ok hx) hl
    exact H_jkStore hT ho ha hH rl hv
  · rename_i b z q off l hb hl
    rw [hb] at ha
    obtain ⟨hlt, ha'⟩ := repC_ep ha
    have rl := repV_cells (coeSt_ok hx) hl
    split at hv
    · rename_i c L hm
      split at hv
      · rename_i hc
        simp only [Bool.and_eq_true, Nat.ble_eq, Nat.beq_eq] at hc
        obtain ⟨⟨⟨hz, hc1⟩, hc2⟩, hc3⟩ := hc
        subst hz
        rw [Res.eval_opt] at hv
        split at hv
        · rename_i y hy
          split at hv
          · rename_i y' hy'
            simp only [Res.eval, Option.some.injEq, Prod.mk.injEq] at hv
            obtain ⟨rfl, rfl⟩ := hv
            obtain ⟨_, _, _, hin, carr, el, fz, hw, hfz⟩ := hH.storeRow hm hy hc3 (Cod.dec_enc _ _ _ hy') rl
            have hg := Good.storeRow hH hm hy hc3 (Cod.dec_enc _ _ _ hy') rl
            have hrun := run_storeVar_cells (P := P) (w := w) hT hc1 (u := ρ x) (q := (X.ρ b).2 + (q * Uni.sz c + off)) hw hfz (by rw [← rl.len]; exact hc2)
              (fun u hu => by
                obtain ⟨j, hj⟩ := List.getElem?_of_mem hu
                have hjl : j < l.length := by rw [rl.len]; exact lt_of_list hj
                obtain ⟨u', hu', ru⟩ := rl.get (List.getElem?_eq_getElem hjl)
                rw [hj] at hu'; simp at hu'; subst hu'
                exact ru.one) hin
            refine ⟨undef, _, X, .inr ⟨?_, rfl⟩, trivial, hg, fun hgr => by simp [grO, ho] at hgr⟩
            simp [execOp, ho, Instr.storeAt, ha', Instr.sureAddr, Cx.addr, hrun]
          · simp [Res.eval] at hv
        · simp at hv
      · simp [Res.eval] at hv
    · rename_i m hm
      split at hv
      · rename_i kv vv k' hsh
        split at hv
        · rename_i hc
          simp only [Bool.and_eq_true, Nat.beq_eq] at hc
          obtain ⟨⟨hz, hsz1⟩, hk⟩ := hc
          have := kEq_same hk; subst this
          subst hz
          rw [Res.eval_br] at hv
          cases hq : Nat.blt q (preI kv (m.drop off)) with
          | false => rw [hq] at hv; simp [Res.eval] at hv
          | true =>
          rw [hq] at hv
          simp only [cond_true, Res.eval, Option.some.injEq, Prod.mk.injEq] at hv
          obtain ⟨rfl, rfl⟩ := hv
          have hq := Nat.le_of_ble_eq_true hq
          obtain ⟨hcs, hle⟩ := slice_one (preI_get hq)
          have heq : m.take off ++ setI kv vv q 0 (m.drop off) = splice m (q * 1 + off) [.int kv vv] := by
            rw [setI_eq (Nat.zero_le _) (by rw [Nat.sub_zero]; exact hq)]
            have h1 : m.take off ++ (m.drop off).set (q - 0) (.int kv vv) = m.set (off + q) (.int kv vv) := by
              have hlen : (m.take off).length = off := by rw [List.length_take]; omega
              have h2 : m.set (off + q) (.int kv vv) = (m.take off ++ m.drop off).set (off + q) (.int kv vv) := by rw [List.take_append_drop]
              rw [h2, List.set_append_right _ _ (by omega), hlen, Nat.sub_zero, Nat.add_sub_cancel_left]
            rw [h1]
            unfold splice
            rw [List.set_eq_take_append_cons_drop, if_pos (by omega)]
            simp [Nat.add_comm]
          rw [heq]
          have hc3 : q * 1 + off + ([.int kv vv] : List Cl).length ≤ m.length := hle
          have hg := Good.store hH hm hc3 rl
          obtain ⟨carr, el, ⟨fz, hw, hfz⟩, hsz, hcell⟩ := hH.blk b _ hm
          have hrun := run_storeVar_cells (P := P) (w := w) hT (t := t) (by omega) (u := ρ x) (q := (X.ρ b).2 + (q * 1 + off)) hw hfz (by rw [← rl.len, hsz1]; rfl)
            (fun u hu => by
              obtain ⟨j, hj⟩ := List.getElem?_of_mem hu
              have hjl : j < ([.int kv vv] : List Cl).length := by rw [rl.len]; exact lt_of_list hj
              obtain ⟨u', hu', ru⟩ := rl.get (List.getElem?_eq_getElem hjl)
              rw [hj] at hu'; simp at hu'; subst hu'
              exact ru.one)
            (fun j hj => by
              have hjl : j < ([.int kv vv] : List Cl).length := by rw [rl.len]; exact hj
              simp at hjl
              subst hjl
              obtain ⟨u', hu', _⟩ := hcell (q * 1 + off) (m[q * 1 + off]'(by omega)) (List.getElem?_eq_getElem (by omega))
              rw [cell_of_heap hw, Nat.add_zero, hu']; rfl)
          refine ⟨undef, _, X, .inr ⟨?_, rfl⟩, trivial, hg, fun hgr => by simp [grO, ho] at hgr⟩
          rw [Nat.mul_one] at hrun ha'
          simp [execOp, ho, Instr.storeAt, ha', Instr.sureAddr, Cx.addr, hrun]
        · simp [Res.eval] at hv
      · simp [Res.eval] at hv
    · simp [Res.eval] at hv
  · simp [Res.eval] at hv

end
end Ab
