/- Memory that the run makes and writes. -/
import Derived.Test.YtllohgmahflpaaaAbOpsG
import Derived.Laws.IdiomCopy
set_option linter.unusedSectionVars false
set_option linter.unusedSimpArgs false
set_option linter.unusedVariables false
namespace Ab
open Go
section
variable [Uni] [Cod]
variable {P : Program} {e : Env} {X Y : Cx} {h i : List Blk} {w w' : World} {o : Oper} {ρA : Operand → AV} {ρ : Operand → Value} {v : AV}

theorem lt_of_heap {k : Nat} {ob : Obj} (hk : w.heap[k]? = some ob) : k < w.heap.size := by
  rcases Nat.lt_or_ge k w.heap.size with h | h
  · exact h
  · simp [Array.getElem?_eq_none h] at hk

theorem lt_of_list {α : Type} {l : List α} {k : Nat} {x : α} (hk : l[k]? = some x) : k < l.length := by
  rcases Nat.lt_or_ge k l.length with h | h
  · exact h
  · simp [List.getElem?_eq_none h] at hk

theorem cell_of_heap {k o : Nat} {c : Array Value} {el : TypeId} {f : Nat × Nat} (hk : w.heap[k]? = some (.cells c el f)) : w.cell? ⟨k, o, none⟩ = c[o]? := by
  simp [World.cell?, hk]

theorem hdr_cells {F : Nat → Nat → Prop} (ex : Ext F w w') {k : Nat} {c : Array Value} {el : TypeId} {f : Nat × Nat} (hk : w.heap[k]? = some (.cells c el f)) :
    ∃ c' f', w'.heap[k]? = some (.cells c' el f') ∧ c'.size = c.size ∧ (harm f c.size → harm f' c.size) := by
  have := ex.hdr k (lt_of_heap hk)
  rw [hk] at this
  exact this

theorem row_lt {i j n s : Nat} (hi : i < n) (hj : j < s) : i * s + j < n * s := by
  have : (i + 1) * s ≤ n * s := Nat.mul_le_mul_right _ hi
  rw [Nat.succ_mul] at this; omega

/-- A place's row goes on as it was. -/
theorem RowAt.keep {p : (Nat × Nat) × Prop} {c : Nat} {L : List (Uni.val c)} (r : RowAt X h w p c L) (m : Mono X h Y i) (ex : Ext X.F w w')
    (hc : p.2 → ∀ o, w'.cell? ⟨p.1.1, o, none⟩ = w.cell? ⟨p.1.1, o, none⟩) : RowAt Y i w' p c L := by
  obtain ⟨r1, r2⟩ := r
  refine ⟨fun ho => ?_, r2⟩
  obtain ⟨carr, el, ⟨fz, hw, hfz⟩, hsz, hcell⟩ := r1 ho
  obtain ⟨c', f', hw', hs', hm'⟩ := hdr_cells ex hw
  refine ⟨c', el, ⟨f', hw', by rw [hs']; exact hm' hfz⟩, by omega, fun q x j y hx hy => ?_⟩
  obtain ⟨v, hv, rv⟩ := hcell q x j y hx hy
  refine ⟨v, ?_, rv.mono m ex⟩
  have := hc ho (p.1.2 + (q * Uni.sz c + j))
  rw [cell_of_heap hw', cell_of_heap hw] at this
  rw [this]; exact hv
theorem HdAt.ext {F : Nat → Nat → Prop} {p : (Nat × Nat) × Prop} {z n : Nat} {v : Value} (r : HdAt w p z n v) (ex : Ext F w w') : HdAt w' p z n v := by
  rcases r with ⟨ho, cap, hv, hc, hr⟩ | h
  · exact .inl ⟨ho, cap, hv, hc, hr.ext ex⟩
  · exact .inr h

/-- A block that nobody has written goes on as it was. -/
theorem RelB.keep {b : Nat} {bl : Blk} (hb : h[b]? = some bl) (r : RelB X h w b bl) (m : Mono X h Y i) (ex : Ext X.F w w')
    (hc : ∀ k o, foot X h b k o → w'.cell? ⟨k, o, none⟩ = w.cell? ⟨k, o, none⟩) (hs : Y.sub b = X.sub b) (hmk : ∀ k, (∀ o, foot X h b k o) → sameMk w.heap[k]? w'.heap[k]?) : RelB Y i w' b bl := by
  have hlt := lt_of_list hb
  cases bl with
  | dead => trivial
  | chn c cap LL =>
    obtain ⟨buf, s, r, hw, h1, h2, h3, h4⟩ := r
    have hch := hmk (X.ρ b).1 (fun o => by unfold foot; rw [hb]; exact .inl rfl)
    rw [hw] at hch
    refine ⟨buf, s, r, by rw [m.ρ b hlt]; exact hch, h1, h2, fun i2 L hL => ?_, by rw [hs]; exact h4⟩
    obtain ⟨q1, v, hv, q2⟩ := h3 i2 L hL
    rw [hs]
    refine ⟨q1.keep m ex (fun ho o => hc _ _ (by unfold foot; rw [hb]; exact .inr ⟨i2, lt_of_list hL, ho, rfl⟩)), v, hv, q2.ext ex⟩
  | bg c2 c LL p =>
    obtain ⟨r1, r2⟩ := r
    refine ⟨fun ho => ?_, fun ho => r2 (fun h => ho ((m.own b hlt).mpr h))⟩
    have ho' := (m.own b hlt).mp ho
    obtain ⟨carr, el, ⟨fz, hw, hfz⟩, hsz, h3, h4, h5, h6⟩ := r1 ho'
    obtain ⟨c', f', hw', hs', hm'⟩ := hdr_cells ex hw
    have hcc : ∀ q, c'[q]? = carr[q]? := fun q => by
      have := hc (X.ρ b).1 q (by unfold foot; rw [hb]; exact ⟨ho', .inl rfl⟩)
      rw [cell_of_heap hw', cell_of_heap hw] at this
      exact this
    refine ⟨c', el, by rw [m.ρ b hlt]; exact ⟨f', hw', by rw [hs']; exact hm' hfz⟩, by rw [m.ρ b hlt]; omega, fun i2 L hL => ?_, by rw [hs]; exact h4, by rw [hs, m.ρ b hlt]; exact h5, fun r hr => ?_⟩
    · obtain ⟨q1, v, hv, q2⟩ := h3 i2 L hL
      rw [hs]
      exact ⟨q1.keep m ex (fun ho o => hc _ _ (by unfold foot; rw [hb]; exact ⟨ho', .inr ⟨i2, lt_of_list hL, ho, rfl⟩⟩)), v, by rw [m.ρ b hlt, hcc]; exact hv, q2.ext ex⟩
    · obtain ⟨u, hu, ru⟩ := h6 r hr
      exact ⟨u, by rw [m.ρ b hlt, hcc]; exact hu, ru.mono m ex⟩
  | cells l =>
    obtain ⟨carr, el, ⟨fz, hw, hfz⟩, hsz, hcell⟩ := r
    obtain ⟨c', f', hw', hs', hm'⟩ := hdr_cells ex hw
    refine ⟨c', el, by rw [m.ρ b hlt]; exact ⟨f', hw', by rw [hs']; exact hm' hfz⟩, by rw [m.ρ b hlt]; omega, fun j x hx => ?_⟩
    obtain ⟨v, hv, rv⟩ := hcell j x hx
    refine ⟨v, ?_, rv.mono m ex⟩
    rw [m.ρ b hlt]
    have := hc (X.ρ b).1 ((X.ρ b).2 + j) (by unfold foot; rw [hb]; exact ⟨rfl, by omega, by have := lt_of_list hx; omega⟩)
    rw [cell_of_heap hw', cell_of_heap hw] at this
    rw [this]; exact hv
  | row c L =>
    obtain ⟨r1, r2⟩ := r
    refine ⟨fun ho => ?_, fun ho => r2 (fun h => ho ((m.own b hlt).mpr h))⟩
    have ho' := (m.own b hlt).mp ho
    obtain ⟨carr, el, ⟨fz, hw, hfz⟩, hsz, hcell⟩ := r1 ho'
    obtain ⟨c', f', hw', hs', hm'⟩ := hdr_cells ex hw
    refine ⟨c', el, by rw [m.ρ b hlt]; exact ⟨f', hw', by rw [hs']; exact hm' hfz⟩, by rw [m.ρ b hlt]; omega, fun q x j y hx hy => ?_⟩
    obtain ⟨v, hv, rv⟩ := hcell q x j y hx hy
    refine ⟨v, ?_, rv.mono m ex⟩
    rw [m.ρ b hlt]
    have := hc (X.ρ b).1 ((X.ρ b).2 + (q * Uni.sz c + j)) (by unfold foot; rw [hb]; exact ⟨ho', rfl⟩)
    rw [cell_of_heap hw', cell_of_heap hw] at this
    rw [this]; exact hv

theorem foot_lt {b k q : Nat} (hH : RelH X h w) (hf : foot X h b k q) : k < w.heap.size := by
  unfold foot at hf
  split at hf
  · rename_i l hl
    obtain ⟨carr, el, ⟨fz, hw, hfz⟩, _⟩ := hH.blk b _ hl
    rw [hf.1]; exact lt_of_heap hw
  · rename_i c L hl
    obtain ⟨carr, el, ⟨fz, hw, hfz⟩, _⟩ := (hH.blk b _ hl).1 hf.1
    rw [hf.2]; exact lt_of_heap hw
  · rename_i c2 c LL p hl
    obtain ⟨carr, el, ⟨fz, hw, hfz⟩, _, h3, _⟩ := (hH.blk b _ hl).1 hf.1
    rcases hf.2 with rfl | ⟨i2, hi, ho, rfl⟩
    · exact lt_of_heap hw
    · obtain ⟨⟨q1, _⟩, _⟩ := h3 i2 _ (List.getElem?_eq_getElem hi)
      obtain ⟨carr, el, ⟨fz, hw, _⟩, _⟩ := q1 ho
      exact lt_of_heap hw
  · rename_i c cap LL hl
    obtain ⟨buf, s, r, hw, h1, h2, h3, h4⟩ := hH.blk b _ hl
    rcases hf with rfl | ⟨i2, hi, ho, rfl⟩
    · exact lt_of_heap hw
    · obtain ⟨⟨q1, _⟩, _⟩ := h3 i2 _ (List.getElem?_eq_getElem hi)
      obtain ⟨carr, el, ⟨fz, hw, _⟩, _⟩ := q1 ho
      exact lt_of_heap hw
  · exact hf.elim

theorem foot_blt {b k q : Nat} (hf : foot X h b k q) : b < h.length := by
  unfold foot at hf
  split at hf
  · exact lt_of_list (by assumption)
  · exact lt_of_list (by assumption)
  · exact lt_of_list (by assumption)
  · exact lt_of_list (by assumption)
  · exact hf.elim

/-- The context with a new block at the end. -/
def Cx.push (X : Cx) (n k : Nat) (ow : Prop) (o : Nat := 0) : Cx := { ρ := fun b => if b = n then (k, o) else X.ρ b, own := fun b => if b = n then ow else X.own b, F := X.F, sub := X.sub }

theorem ext_alloc {F : Nat → Nat → Prop} (hF : ∀ k o, F k o → k < w.heap.size) (ob : Obj) : Ext F w { w with heap := w.heap.push ob } := by
  refine ⟨rfl, rfl, rfl, by simp, fun k hk => ?_, fun k q hf => ?_, fun k hk _ => ?_⟩
  · have : (w.heap.push ob)[k]? = w.heap[k]? := by rw [Array.getElem?_push, if_neg (by omega)]
    simp only [this]; exact sameHdr.refl _
  · have hk := hF k q hf
    have : (w.heap.push ob)[k]? = w.heap[k]? := by rw [Array.getElem?_push, if_neg (by omega)]
    simp [World.cell?, this]
  · have : (w.heap.push ob)[k]? = w.heap[k]? := by rw [Array.getElem?_push, if_neg (by omega)]
    simp only [this]; exact sameMk.refl _

theorem mono_push {bl : Blk} (k : Nat) (ow : Prop) : Mono X h (X.push h.length k ow) (h ++ [bl]) := by
  have hr : ∀ b, b < h.length → (X.push h.length k ow).ρ b = X.ρ b := fun b hb => by simp [Cx.push, show b ≠ h.length by omega]
  have ho : ∀ b, b < h.length → ((X.push h.length k ow).own b ↔ X.own b) := fun b hb => by simp [Cx.push, show b ≠ h.length by omega]
  refine ⟨by simp, hr, ho, fun _ _ f => f, fun b c L' hb hL => ?_, Mono.bgOf hr ho (fun _ _ => rfl) (fun b c2 c LL' p' hb hL => ?_)⟩
  · rw [List.getElem?_append_left hb] at hL; exact ⟨L', hL, rfl⟩
  · rw [List.getElem?_append_left hb] at hL; exact ⟨LL', p', hL, rfl, rfl⟩

theorem foot_push {n : Nat} {ow : Prop} {bl : Blk} {b k q : Nat} (hb : b < h.length) : foot (X.push h.length n ow) (h ++ [bl]) b k q = foot X h b k q := by
  unfold foot
  rw [List.getElem?_append_left hb]
  simp only [Cx.push, if_neg (show b ≠ h.length by omega)]

/-- A new block of known cells. -/
theorem RelH.alloc (hH : RelH X h w) {l : List Cl} {vs : List Value} (r : RepL X h w l vs) (el : TypeId) :
    RelH (X.push h.length w.heap.size True) (h ++ [.cells l]) { w with heap := w.heap.push (.cells vs.toArray el) } ∧
    Mono X h (X.push h.length w.heap.size True) (h ++ [.cells l]) ∧ Ext X.F w { w with heap := w.heap.push (.cells vs.toArray el) } := by
  have m := mono_push (X := X) (h := h) (bl := .cells l) w.heap.size True
  have ex := ext_alloc hH.fsz (.cells vs.toArray el)
  refine ⟨⟨fun b bl hb => ?_, fun b b' k q hf hf' => ?_, fun b k q hf hF => ?_, fun k q hf => ?_⟩, m, ex⟩
  · rcases Nat.lt_or_ge b h.length with hlt | hge
    · rw [List.getElem?_append_left hlt] at hb
      have hpk : ∀ k q, foot X h b k q → (w.heap.push (.cells vs.toArray el))[k]? = w.heap[k]? := fun k q hf => by
        have hk := foot_lt hH hf
        rw [Array.getElem?_push, if_neg (by omega)]
      refine (hH.blk b bl hb).keep hb m ex (fun k q hf => ?_) rfl (fun k hk => by show sameMk _ (w.heap.push _)[k]?; rw [hpk k 0 (hk 0)]; exact sameMk.refl _)
      simp [World.cell?, hpk k q hf]
    · have hbe : b = h.length := by
        have := lt_of_list hb; simp at this; omega
      subst hbe
      simp at hb; subst hb
      refine ⟨vs.toArray, el, ⟨(0, 0), by simp [Cx.push], .inl rfl⟩, by simp [Cx.push, r.len], fun j x hx => ?_⟩
      obtain ⟨u, hu, ru⟩ := r.get hx
      exact ⟨u, by simpa [Cx.push] using hu, ru.mono m ex⟩
  · have key : ∀ b, foot (X.push h.length w.heap.size True) (h ++ [.cells l]) b k q → (b < h.length ∧ foot X h b k q) ∨ (b = h.length ∧ k = w.heap.size) := by
      intro b hf
      have hb := foot_blt hf
      simp at hb
      rcases Nat.lt_or_ge b h.length with hlt | hge
      · left
        rw [foot_push hlt] at hf
        exact ⟨hlt, hf⟩
      · have : b = h.length := by omega
        subst this
        right
        unfold foot at hf
        simp [Cx.push] at hf
        exact ⟨rfl, hf.1⟩
    rcases key b hf with ⟨h1, h2⟩ | ⟨h1, h2⟩ <;> rcases key b' hf' with ⟨h3, h4⟩ | ⟨h3, h4⟩
    · exact hH.disj b b' k q h2 h4
    · have := foot_lt hH h2; omega
    · have := foot_lt hH h4; omega
    · omega
  · have hF' : X.F k q := hF
    have hk := hH.fsz k q hF'
    rcases Nat.lt_or_ge b h.length with hlt | hge
    · rw [foot_push hlt] at hf
      exact hH.free b k q hf hF'
    · have hb := foot_blt hf
      simp at hb
      have : b = h.length := by omega
      subst this
      unfold foot at hf
      simp [Cx.push] at hf
      omega
  · have := hH.fsz k q hf
    simp; omega

theorem mk_setCell (a : Addr) (u : Value) (k : Nat) : sameHdr w.heap[k]? (w.setCell a u).heap[k]? ∧ sameMk w.heap[k]? (w.setCell a u).heap[k]? := by
  unfold World.setCell
  simp only [Array.getElem?_modify]
  split
  · cases hk : w.heap[k]? with
    | none => exact ⟨rfl, rfl⟩
    | some ob =>
      cases ob with
      | cells c el f =>
        simp only [Option.map_some]
        exact ⟨⟨_, _, rfl, by split <;> simp, id⟩, _, rfl⟩
      | chan cap buf cl s r tm => exact ⟨⟨_, _, _, rfl⟩, rfl⟩
      | _ => exact ⟨rfl, rfl⟩
  · exact ⟨sameHdr.refl _, sameMk.refl _⟩
theorem hdr_setCell (a : Addr) (u : Value) (k : Nat) : sameHdr w.heap[k]? (w.setCell a u).heap[k]? := (mk_setCell a u k).1

theorem hdr_setCells (b : Nat) : ∀ (vs : List Value) (q : Nat) (w : World) (k : Nat), sameHdr w.heap[k]? (w.setCells b q vs).heap[k]?
  | [], _, _, _ => sameHdr.refl _
  | v :: r, q, w, k => (hdr_setCell ⟨b, q, none⟩ v k).trans (hdr_setCells b r (q + 1) _ k)
theorem mk_setCells (b : Nat) : ∀ (vs : List Value) (q : Nat) (w : World) (k : Nat), sameMk w.heap[k]? (w.setCells b q vs).heap[k]?
  | [], _, _, _ => sameMk.refl _
  | v :: r, q, w, k => (mk_setCell ⟨b, q, none⟩ v k).2.trans (mk_setCells b r (q + 1) _ k)

theorem same_setCells (b : Nat) : ∀ (vs : List Value) (q : Nat) (w : World), (w.setCells b q vs).os = w.os ∧ (w.setCells b q vs).tape = w.tape ∧ (w.setCells b q vs).output = w.output ∧ (w.setCells b q vs).heap.size = w.heap.size
  | [], _, _ => ⟨rfl, rfl, rfl, rfl⟩
  | v :: r, q, w => by
    obtain ⟨h1, h2, h3, h4⟩ := same_setCells b r (q + 1) (w.setCell ⟨b, q, none⟩ v)
    exact ⟨h1, h2, h3, by rw [World.setCells, h4]; simp [World.setCell]⟩

theorem ext_setCells {F : Nat → Nat → Prop} (b q : Nat) (vs : List Value) (hF : ∀ o, F b o → o < q ∨ q + vs.length ≤ o) : Ext F w (w.setCells b q vs) := by
  obtain ⟨h1, h2, h3, h4⟩ := same_setCells b vs q w
  refine ⟨h1, h2, h3, by omega, fun k _ => hdr_setCells b vs q w k, fun k o hf => ?_, fun k _ _ => mk_setCells b vs q w k⟩
  refine World.cell?_setCells_out b vs q w ⟨k, o, none⟩ (fun hk _ => ?_)
  simp only at hk; subst hk
  exact hF o hf

theorem mono_set {b : Nat} {bl : Blk} (hb : ∀ c L', bl = .row c L' → ∃ L, h[b]? = some (.row c L) ∧ L.length = L'.length)
    (hg : ∀ (c2 c : Nat) (LL' : List (List (Uni.val c))) (p' : Option Nat), bl = .bg c2 c LL' p' → ∃ (LL : List (List (Uni.val c))) (p : Option Nat), h[b]? = some (.bg c2 c LL p) ∧ LL.map (·.length) = LL'.map (·.length) ∧ p.isSome = p'.isSome := by intro c2 c LL' p' hh; cases hh) : Mono X h X (h.set b bl) := by
  refine ⟨by simp, fun _ _ => rfl, fun _ _ => Iff.rfl, fun _ _ f => f, fun b' c L' hlt hL => ?_, Mono.bgOf (fun _ _ => rfl) (fun _ _ => Iff.rfl) (fun _ _ => rfl) (fun b' c2 c LL' p' hlt hL => ?_)⟩
  · rw [List.getElem?_set] at hL
    split at hL
    · rename_i heq
      subst heq
      rw [if_pos hlt] at hL
      exact hb c L' (by simpa using hL)
    · exact ⟨L', hL, rfl⟩
  · rw [List.getElem?_set] at hL
    split at hL
    · rename_i heq
      subst heq
      rw [if_pos hlt] at hL
      exact hg c2 c LL' p' (by simpa using hL)
    · exact ⟨LL', p', hL, rfl, rfl⟩

/-- Known cells of a block of known cells written. -/
theorem RelH.store (hH : RelH X h w) {b off : Nat} {m l : List Cl} {vs : List Value} (hb : h[b]? = some (.cells m)) (hl : off + l.length ≤ m.length) (r : RepL X h w l vs) :
    RelH X (h.set b (.cells (splice m off l))) (w.setCells (X.ρ b).1 ((X.ρ b).2 + off) vs) ∧ Mono X h X (h.set b (.cells (splice m off l))) ∧ Ext X.F w (w.setCells (X.ρ b).1 ((X.ρ b).2 + off) vs) := by
  have hbl := lt_of_list hb
  have hlen := r.len
  have hsl : (splice m off l).length = m.length := by simp [splice]; omega
  have m' : Mono X h X (h.set b (.cells (splice m off l))) := mono_set (fun c L' hh => by simp at hh)
  have hfoot : ∀ q, (X.ρ b).2 ≤ q → q < (X.ρ b).2 + m.length → foot X h b (X.ρ b).1 q := by
    intro q h1 h2; unfold foot; rw [hb]; exact ⟨rfl, h1, h2⟩
  have ex : Ext X.F w (w.setCells (X.ρ b).1 ((X.ρ b).2 + off) vs) := by
    refine ext_setCells _ _ _ (fun q hf => ?_)
    by_cases hin : (X.ρ b).2 ≤ q ∧ q < (X.ρ b).2 + m.length
    · exact absurd hf (hH.free b _ _ (hfoot q hin.1 hin.2))
    · omega
  obtain ⟨carr, el, ⟨fz, hw, hfz⟩, hsz, hcell⟩ := hH.blk b _ hb
  have footEq : ∀ b' k q, foot X (h.set b (.cells (splice m off l))) b' k q → foot X h b' k q := by
    intro b' k q hf
    unfold foot at hf ⊢
    rw [List.getElem?_set] at hf
    by_cases heq : b = b'
    · subst heq
      simp [hbl] at hf
      rw [hb]; rw [hsl] at hf; exact hf
    · rw [if_neg heq] at hf; exact hf
  refine ⟨⟨fun b' bl hb' => ?_, fun b1 b2 k q h1 h2 => hH.disj b1 b2 k q (footEq _ _ _ h1) (footEq _ _ _ h2), fun b' k q h1 => hH.free b' k q (footEq _ _ _ h1), fun k q hf => ?_⟩, m', ex⟩
  · by_cases heq : b = b'
    · subst heq
      simp [hbl] at hb'; subst hb'
      obtain ⟨c', f', hw', hs', hm'⟩ := hdr_cells ex hw
      refine ⟨c', el, ⟨f', hw', by rw [hs']; exact hm' hfz⟩, by omega, fun j x hx => ?_⟩
      have hjm : j < m.length := by have := lt_of_list hx; omega
      by_cases hin : off ≤ j ∧ j < off + l.length
      · have hx' : l[j - off]? = some x := by
          rw [← hx]; unfold splice
          rw [List.getElem?_append_right (by simp; omega), List.getElem?_append_left (by simp; omega)]
          congr 1; simp; omega
        obtain ⟨u, hu, ru⟩ := r.get hx'
        refine ⟨u, ?_, ru.mono m' ex⟩
        have hall : ∀ q, q < vs.length → (w.cell? ⟨(X.ρ b).1, (X.ρ b).2 + off + q, none⟩).isSome = true := by
          intro q hq
          obtain ⟨u', hu', _⟩ := hcell (off + q) (m[off + q]'(by omega)) (List.getElem?_eq_getElem (by omega))
          rw [cell_of_heap hw, show (X.ρ b).2 + off + q = (X.ρ b).2 + (off + q) by omega, hu']; rfl
        have hjv : j - off < vs.length := by omega
        have := World.cell?_setCells_in (X.ρ b).1 vs ((X.ρ b).2 + off) w hall (j - off) hjv
        rw [cell_of_heap hw'] at this
        rw [show (X.ρ b).2 + off + (j - off) = (X.ρ b).2 + j by omega] at this
        rw [this]
        rw [List.getElem?_eq_getElem hjv] at hu
        simpa using hu
      · have hx' : m[j]? = some x := by
          rw [← hx]; unfold splice
          rcases Nat.lt_or_ge j off with h1 | h1
          · rw [List.getElem?_append_left (by simp; omega), List.getElem?_take, if_pos h1]
          · rw [List.getElem?_append_right (by simp; omega), List.getElem?_append_right (by simp; omega), List.getElem?_drop]
            congr 1; simp; omega
        obtain ⟨u, hu, ru⟩ := hcell j x hx'
        refine ⟨u, ?_, ru.mono m' ex⟩
        have := World.cell?_setCells_out (X.ρ b).1 vs ((X.ρ b).2 + off) w ⟨(X.ρ b).1, (X.ρ b).2 + j, none⟩ (fun _ _ => by simp only; omega)
        rw [cell_of_heap hw', cell_of_heap hw] at this
        rw [this]; exact hu
    · rw [List.getElem?_set, if_neg heq] at hb'
      refine (hH.blk b' bl hb').keep hb' m' ex (fun k q hf => ?_) rfl (fun k _ => mk_setCells _ _ _ _ k)
      refine World.cell?_setCells_out _ _ _ _ _ (fun hk _ => ?_)
      simp only at hk ⊢
      by_cases hin : (X.ρ b).2 ≤ q ∧ q < (X.ρ b).2 + m.length
      · subst hk
        exact absurd (hH.disj b b' _ _ (hfoot q hin.1 hin.2) hf) heq
      · omega
  · have := hH.fsz k q hf
    have := (same_setCells (X.ρ b).1 vs ((X.ρ b).2 + off) w).2.2.2
    omega

end
end Ab
