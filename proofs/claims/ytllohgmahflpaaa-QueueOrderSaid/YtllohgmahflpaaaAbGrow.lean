/- A row of the run's own that grows: in place, or in a new block. -/
import Derived.Test.YtllohgmahflpaaaAbOpsI
import Derived.Laws.AppendOwn
set_option linter.unusedSectionVars false
set_option linter.unusedSimpArgs false
set_option linter.unusedVariables false
namespace Ab
open Go
section
variable [Uni] [Cod]
variable {P : Program} {e : Env} {X Y : Cx} {h i : List Blk} {w w' : World} {o : Oper} {ρA : Operand → AV} {ρ : Operand → Value} {v : AV}

/-- What a block that is given up may leave: some blocks are dead, the others stand, away from the place that is written. -/
theorem Good.grow (hH : RelH X h w) {h2 : List Blk} {k0 k1 c : Nat} (o1 : Nat) {L' : List (Uni.val c)}
    (hlen : h2.length = h.length) (hkeep : ∀ b bl, h2[b]? = some bl → bl = .dead ∨ (h[b]? = some bl ∧ ∀ k q, foot X h b k q → k ≠ k0))
    (hF : ∀ k q, X.F k q → k ≠ k0) (hk0 : ∀ q, k0 < w.heap.size → ∃ b, foot X h b k0 q)
    (hos : w'.os = w.os) (htape : w'.tape = w.tape) (hout : w'.output = w.output) (hsize : w.heap.size ≤ w'.heap.size)
    (hsame : ∀ k, k < w.heap.size → k ≠ k0 → w'.heap[k]? = w.heap[k]?) (hhdr : k0 < w.heap.size → sameHdr w.heap[k0]? w'.heap[k0]?)
    (hk1 : k1 = k0 ∨ w.heap.size ≤ k1) (hk0' : k1 = k0 → k0 < w.heap.size)
    {carr : Array Value} {el : TypeId} (hnew : Own0 w' k1 carr el) (hroom : o1 + L'.length * Uni.sz c ≤ carr.size)
    (hcell : ∀ (q : Nat) x (j : Nat) y, L'[q]? = some x → (Cod.enc c x)[j]? = some y → ∃ u, carr[o1 + (q * Uni.sz c + j)]? = some u ∧ RepC X h w y u) :
    Good X h w (X.push h.length k1 True o1) (h2 ++ [.row c L']) w' := by
  have hcl : ∀ k, k < w.heap.size → k ≠ k0 → ∀ q, w'.cell? ⟨k, q, none⟩ = w.cell? ⟨k, q, none⟩ := fun k hk hne q => World.cell?_of_block (w := w) (a := ⟨k, q, none⟩) (hsame k hk hne)
  have hhd : ∀ k, k < w.heap.size → sameHdr w.heap[k]? w'.heap[k]? := by
    intro k hk
    by_cases hkk : k = k0
    · subst hkk; exact hhdr hk
    · rw [hsame k hk hkk]; exact sameHdr.refl _
  have exF : Ext X.F w w' := ⟨hos, htape, hout, hsize, hhd, fun k q hf => hcl k (hH.fsz k q hf) (hF k q hf) q, fun k hk hf => by rw [hsame k hk (hF k 0 (hf 0))]; exact sameMk.refl _⟩
  have hold : ∀ b bl, b < h.length → (h2 ++ [Blk.row c L'])[b]? = some bl → bl = .dead ∨ (h[b]? = some bl ∧ ∀ k q, foot X h b k q → k ≠ k0) := by
    intro b bl hb hbl
    rw [List.getElem?_append_left (by omega)] at hbl
    exact hkeep b bl hbl
  have mono : Mono X h (X.push h.length k1 True o1) (h2 ++ [.row c L']) := by
    have hr : ∀ b, b < h.length → (X.push h.length k1 True o1).ρ b = X.ρ b := fun b hb => by simp [Cx.push, show b ≠ h.length by omega]
    have ho : ∀ b, b < h.length → ((X.push h.length k1 True o1).own b ↔ X.own b) := fun b hb => by simp [Cx.push, show b ≠ h.length by omega]
    refine ⟨by simp [hlen], hr, ho, fun _ _ f => f, fun b c' L2 hb hL => ?_, Mono.bgOf hr ho (fun _ _ => rfl) (fun b c2 c LL' p' hb hL => ?_)⟩
    · rcases hold b _ hb hL with h1 | h1
      · cases h1
      · exact ⟨L2, h1.1, rfl⟩
    · rcases hold b _ hb hL with h1 | h1
      · cases h1
      · exact ⟨LL', p', h1.1, rfl, rfl⟩
  have hft : ∀ b k q, foot (X.push h.length k1 True o1) (h2 ++ [.row c L']) b k q → (b < h.length ∧ foot X h b k q ∧ k ≠ k0) ∨ (b = h.length ∧ k = k1) := by
    intro b k q hf
    have hb := foot_blt hf
    simp [hlen] at hb
    rcases Nat.lt_or_ge b h.length with hlt | hge
    · left
      cases hbl : (h2 ++ [Blk.row c L'])[b]? with
      | none => unfold foot at hf; rw [hbl] at hf; exact hf.elim
      | some bl =>
        rcases hold b bl hlt hbl with h1 | h1
        · subst h1; unfold foot at hf; rw [hbl] at hf; exact hf.elim
        · have hf' : foot X h b k q := by
            unfold foot at hf ⊢
            rw [hbl] at hf
            rw [h1.1]
            cases bl <;> simp only [Cx.push, if_neg (show b ≠ h.length by omega)] at hf ⊢ <;> exact hf
          exact ⟨hlt, hf', h1.2 k q hf'⟩
    · right
      have hbe : b = h.length := by omega
      subst hbe
      have hg : (h2 ++ [Blk.row c L'])[h.length]? = some (.row c L') := by rw [← hlen]; simp
      unfold foot at hf
      rw [hg] at hf
      simp [Cx.push] at hf
      exact ⟨rfl, hf⟩
  refine ⟨⟨fun b bl hb => ?_, fun b b' k q hf hf' => ?_, fun b k q hf hF' => ?_, fun k q hf => ?_⟩, mono, ⟨hos, htape, hout, hsize, hhd, fun k q hf => ?_, fun k hk hf => ?_⟩, fun k q hf => .inl hf, fun b k q hf => ?_⟩
  · rcases Nat.lt_or_ge b h.length with hlt | hge
    · rcases hold b bl hlt hb with h1 | h1
      · subst h1; trivial
      · exact (hH.blk b bl h1.1).keep h1.1 mono exF (fun k q hf => hcl k (foot_lt hH hf) (h1.2 k q hf) q) rfl (fun k hk => by rw [hsame k (foot_lt hH (hk 0)) (h1.2 k 0 (hk 0))]; exact sameMk.refl _)
    · have hbe : b = h.length := by
        have := lt_of_list hb; simp [hlen] at this; omega
      subst hbe
      have hg : (h2 ++ [Blk.row c L'])[h.length]? = some (.row c L') := by rw [← hlen]; simp
      rw [hg] at hb
      simp only [Option.some.injEq] at hb
      subst hb
      refine ⟨fun _ => ⟨carr, el, by simpa [Cx.push] using hnew, by simpa [Cx.push] using hroom, fun q x j y hx hy => by
        obtain ⟨u, hu, ru⟩ := hcell q x j y hx hy
        exact ⟨u, by simpa [Cx.push] using hu, ru.mono mono exF⟩⟩, fun hno => ?_⟩
      exact absurd (by simp [Cx.push]) hno
  · rcases hft b k q hf with ⟨h1, h3, h4⟩ | ⟨h1, h3⟩ <;> rcases hft b' k q hf' with ⟨h5, h6, h7⟩ | ⟨h5, h6⟩
    · exact hH.disj b b' k q h3 h6
    · subst h6
      rcases hk1 with h8 | h8
      · exact absurd h8 h4
      · have := foot_lt hH h3; omega
    · subst h3
      rcases hk1 with h8 | h8
      · exact absurd h8 h7
      · have := foot_lt hH h6; omega
    · omega
  · have hF2 : X.F k q := hF'
    rcases hft b k q hf with ⟨h1, h3, h4⟩ | ⟨h1, h3⟩
    · exact hH.free b k q h3 hF2
    · subst h3
      rcases hk1 with h8 | h8
      · exact absurd h8 (hF _ q hF2)
      · have := hH.fsz _ q hF2; omega
  · have := hH.fsz k q hf; omega
  · by_cases hkk : k = k0
    · subst hkk
      obtain ⟨b, hb⟩ := hk0 q hf.1
      exact absurd hb (hf.2 b)
    · exact hcl k hf.1 hkk q
  · by_cases hkk : k = k0
    · subst hkk
      obtain ⟨b, hb⟩ := hk0 0 hk
      exact absurd hb ((hf 0).2 b)
    · rw [hsame k hk hkk]; exact sameMk.refl _
  · rcases hft b k q hf with ⟨h1, h3, h4⟩ | ⟨h1, h3⟩
    · exact .inr ⟨b, h3⟩
    · subst h3
      rcases hk1 with h8 | h8
      · obtain ⟨b', hb'⟩ := hk0 q (hk0' h8)
        exact .inr ⟨b', h8 ▸ hb'⟩
      · exact .inl h8


/-- The context with a new slice of slices at the end, whose rows are where another's were. -/
def Cx.bag (X : Cx) (n k o B : Nat) : Cx := { ρ := fun b => if b = n then (k, o) else X.ρ b, own := fun b => if b = n then True else X.own b, F := X.F, sub := fun b => if b = n then X.sub B else X.sub b }

/-- A slice of slices of the run's own that grows by a row that another block still tells. -/
theorem Good.growB (hH : RelH X h w) {B c2 c k0 k1 r : Nat} (o1 : Nat) {LL : List (List (Uni.val c))} (hB : h[B]? = some (.bg c2 c LL none))
    (hos : w'.os = w.os) (htape : w'.tape = w.tape) (hout : w'.output = w.output) (hsize : w.heap.size ≤ w'.heap.size)
    (hsame : ∀ k, k < w.heap.size → k ≠ k0 → w'.heap[k]? = w.heap[k]?) (hhdr : k0 < w.heap.size → sameHdr w.heap[k0]? w'.heap[k0]?)
    (hk0 : k0 < w.heap.size → X.own B ∧ k0 = (X.ρ B).1) (hk1 : k1 = k0 ∧ k0 < w.heap.size ∨ w.heap.size ≤ k1)
    {carr : Array Value} {el : TypeId} (hnew : Own0 w' k1 carr el) (hroom : o1 + (LL.length + 1) ≤ carr.size)
    (hcell : ∀ i L, LL[i]? = some L → ∃ v, carr[o1 + i]? = some v ∧ HdAt w (X.sub B i) (Uni.sz c) L.length v)
    (hlast : ∃ u, carr[o1 + LL.length]? = some u ∧ RepC X h w (.slw r) u) :
    Good X h w (X.bag h.length k1 o1 B) (h.set B .dead ++ [.bg c2 c LL (some r)]) w' := by
  have hBl := lt_of_list hB
  have hft0 : ∀ q, k0 < w.heap.size → foot X h B k0 q := fun q hk => by unfold foot; rw [hB]; exact ⟨(hk0 hk).1, .inl (hk0 hk).2⟩
  have hF : ∀ k q, X.F k q → k ≠ k0 := fun k q hf he => by
    subst he
    exact hH.free B _ q (hft0 q (hH.fsz _ _ hf)) hf
  have hcl : ∀ k, k < w.heap.size → k ≠ k0 → ∀ q, w'.cell? ⟨k, q, none⟩ = w.cell? ⟨k, q, none⟩ := fun k hk hne q => World.cell?_of_block (w := w) (a := ⟨k, q, none⟩) (hsame k hk hne)
  have hhd : ∀ k, k < w.heap.size → sameHdr w.heap[k]? w'.heap[k]? := by
    intro k hk
    by_cases hkk : k = k0
    · subst hkk; exact hhdr hk
    · rw [hsame k hk hkk]; exact sameHdr.refl _
  have exF : Ext X.F w w' := ⟨hos, htape, hout, hsize, hhd, fun k q hf => hcl k (hH.fsz k q hf) (hF k q hf) q, fun k hk hf => by rw [hsame k hk (hF k 0 (hf 0))]; exact sameMk.refl _⟩
  have hold : ∀ b bl, b < h.length → (h.set B .dead ++ [Blk.bg c2 c LL (some r)])[b]? = some bl → bl = .dead ∨ (h[b]? = some bl ∧ b ≠ B) := by
    intro b bl hb hbl
    rw [List.getElem?_append_left (by simpa using hb), List.getElem?_set] at hbl
    split at hbl
    · rename_i hbb
      subst hbb
      simp [hb] at hbl
      exact .inl hbl.symm
    · rename_i hbb
      exact .inr ⟨hbl, Ne.symm hbb⟩
  have hg : (h.set B .dead ++ [Blk.bg c2 c LL (some r)])[h.length]? = some (.bg c2 c LL (some r)) := by
    rw [List.getElem?_append_right (by simp)]; simp
  have mono : Mono X h (X.bag h.length k1 o1 B) (h.set B .dead ++ [.bg c2 c LL (some r)]) := by
    have hr : ∀ b, b < h.length → (X.bag h.length k1 o1 B).ρ b = X.ρ b := fun b hb => by simp [Cx.bag, show b ≠ h.length by omega]
    have ho : ∀ b, b < h.length → ((X.bag h.length k1 o1 B).own b ↔ X.own b) := fun b hb => by simp [Cx.bag, show b ≠ h.length by omega]
    refine ⟨by simp, hr, ho, fun _ _ f => f, fun b c' L2 hb hL => ?_, Mono.bgOf hr ho (fun b hb => by simp [Cx.bag, show b ≠ h.length by omega]) (fun b c2 c LL' p' hb hL => ?_)⟩
    · rcases hold b _ hb hL with h1 | h1
      · cases h1
      · exact ⟨L2, h1.1, rfl⟩
    · rcases hold b _ hb hL with h1 | h1
      · cases h1
      · exact ⟨LL', p', h1.1, rfl, rfl⟩
  have hft : ∀ b k q, foot (X.bag h.length k1 o1 B) (h.set B .dead ++ [.bg c2 c LL (some r)]) b k q → (b < h.length ∧ b ≠ B ∧ foot X h b k q) ∨ (b = h.length ∧ (w.heap.size ≤ k ∨ foot X h B k q)) := by
    intro b k q hf
    have hb := foot_blt hf
    simp at hb
    rcases Nat.lt_or_ge b h.length with hlt | hge
    · left
      cases hbl : (h.set B .dead ++ [Blk.bg c2 c LL (some r)])[b]? with
      | none => unfold foot at hf; rw [hbl] at hf; exact hf.elim
      | some bl =>
        rcases hold b bl hlt hbl with h1 | h1
        · subst h1; unfold foot at hf; rw [hbl] at hf; exact hf.elim
        · refine ⟨hlt, h1.2, ?_⟩
          unfold foot at hf ⊢
          rw [hbl] at hf
          rw [h1.1]
          cases bl <;> simp only [Cx.bag, if_neg (show b ≠ h.length by omega)] at hf ⊢ <;> exact hf
    · right
      have hbe : b = h.length := by omega
      subst hbe
      refine ⟨rfl, ?_⟩
      unfold foot at hf
      rw [hg] at hf
      simp only [Cx.bag, if_true, true_and] at hf
      rcases hf with rfl | hf
      · rcases hk1 with ⟨rfl, h2⟩ | h2
        · exact .inr (hft0 q h2)
        · exact .inl h2
      · have hown : X.own B := by
          obtain ⟨i, hi, _⟩ := hf
          exact bg_own hH hB hi
        exact .inr (by unfold foot; rw [hB]; exact ⟨hown, .inr hf⟩)
  refine ⟨⟨fun b bl hb => ?_, fun b b' k q hf hf' => ?_, fun b k q hf hF' => ?_, fun k q hf => ?_⟩, mono, ⟨hos, htape, hout, hsize, hhd, fun k q hf => ?_, fun k hk hf => ?_⟩, fun k q hf => .inl hf, fun b k q hf => ?_⟩
  · rcases Nat.lt_or_ge b h.length with hlt | hge
    · rcases hold b bl hlt hb with h1 | ⟨h1, h2⟩
      · subst h1; trivial
      · have hne : ∀ k q, foot X h b k q → k ≠ k0 := fun k q hf he => by
          subst he
          exact h2 (hH.disj b B _ q hf (hft0 q (foot_lt hH hf)))
        exact (hH.blk b bl h1).keep h1 mono exF (fun k q hf => hcl k (foot_lt hH hf) (hne k q hf) q) (by simp [Cx.bag, show b ≠ h.length by omega]) (fun k hk => by rw [hsame k (foot_lt hH (hk 0)) (hne k 0 (hk 0))]; exact sameMk.refl _)
    · have hbe : b = h.length := by
        have := lt_of_list hb; simp at this; omega
      subst hbe
      rw [hg] at hb
      simp only [Option.some.injEq] at hb
      subst hb
      have hsub : (X.bag h.length k1 o1 B).sub h.length = X.sub B := by simp [Cx.bag]
      have hro : (X.bag h.length k1 o1 B).ρ h.length = (k1, o1) := by simp [Cx.bag]
      refine ⟨fun _ => ⟨carr, el, by rw [hro]; exact hnew, by rw [hro]; exact hroom, fun i L hL => ?_, ?_, ?_, fun r' hr' => ?_⟩, fun hno => absurd (by simp [Cx.bag]) hno⟩
      · rw [hsub, hro]
        have hown := bg_own hH hB (lt_of_list hL)
        obtain ⟨_, _, _, _, h3, _, h5, _⟩ := (hH.blk B _ hB).1 hown
        obtain ⟨v, hv, hd⟩ := hcell i L hL
        refine ⟨(h3 i L hL).1.keep mono exF (fun ho q => ?_), v, hv, hd.ext exF⟩
        have hfr : foot X h B (X.sub B i).1.1 q := by unfold foot; rw [hB]; exact ⟨hown, .inr ⟨i, lt_of_list hL, ho, rfl⟩⟩
        refine hcl _ (foot_lt hH hfr) (fun he => ?_) q
        have hk := foot_lt hH hfr
        exact h5 i (lt_of_list hL) ho (he.trans (hk0 (he ▸ hk)).2)
      · rw [hsub]
        intro i j hi hj
        exact ((hH.blk B _ hB).1 (bg_own hH hB hi)).choose_spec.choose_spec.2.2.2.1 i j hi hj
      · rw [hsub, hro]
        intro i hi ho he
        have hown := bg_own hH hB hi
        obtain ⟨_, _, _, _, h3, _, h5, _⟩ := (hH.blk B _ hB).1 hown
        have hk := foot_lt hH (show foot X h B (X.sub B i).1.1 0 by unfold foot; rw [hB]; exact ⟨hown, .inr ⟨i, hi, ho, rfl⟩⟩)
        simp only at he
        rcases hk1 with ⟨h1, h2⟩ | h2
        · exact h5 i hi ho (he.trans (h1.trans (hk0 h2).2))
        · omega
      · simp only [Option.some.injEq] at hr'
        subst hr'
        obtain ⟨u, hu, ru⟩ := hlast
        exact ⟨u, by rw [hro]; exact hu, ru.mono mono exF⟩
  · rcases hft b k q hf with ⟨h1, h3, h4⟩ | ⟨h1, h3⟩ <;> rcases hft b' k q hf' with ⟨h5, h6, h7⟩ | ⟨h5, h6⟩
    · exact hH.disj b b' k q h4 h7
    · rcases h6 with h8 | h8
      · have := foot_lt hH h4; omega
      · exact absurd (hH.disj b B k q h4 h8) h3
    · rcases h3 with h8 | h8
      · have := foot_lt hH h7; omega
      · exact absurd (hH.disj b' B k q h7 h8) h6
    · omega
  · have hF2 : X.F k q := hF'
    rcases hft b k q hf with ⟨h1, h3, h4⟩ | ⟨h1, h3⟩
    · exact hH.free b k q h4 hF2
    · rcases h3 with h8 | h8
      · have := hH.fsz _ q hF2; omega
      · exact hH.free B k q h8 hF2
  · have := hH.fsz k q hf; omega
  · by_cases hkk : k = k0
    · subst hkk
      exact absurd (hft0 q hf.1) (hf.2 B)
    · exact hcl k hf.1 hkk q
  · by_cases hkk : k = k0
    · subst hkk
      exact absurd (hft0 0 hk) ((hf 0).2 B)
    · rw [hsame k hk hkk]; exact sameMk.refl _
  · rcases hft b k q hf with ⟨h1, h3, h4⟩ | ⟨h1, h3⟩
    · exact .inr ⟨b, h4⟩
    · rcases h3 with h8 | h8
      · exact .inl h8
      · exact .inr ⟨B, h8⟩

/-- Cells of so many elements, one behind the other. -/
def RowCells (X : Cx) (h : List Blk) (w : World) (c : Nat) (L : List (Uni.val c)) (cs : List Value) : Prop :=
  cs.length = L.length * Uni.sz c ∧ ∀ (q : Nat) x (j : Nat) y, L[q]? = some x → (Cod.enc c x)[j]? = some y → ∃ u, cs[q * Uni.sz c + j]? = some u ∧ RepC X h w y u

theorem RowCells.app {c : Nat} {L N : List (Uni.val c)} {cs ds : List Value} (a : RowCells X h w c L cs) (b : RowCells X h w c N ds) : RowCells X h w c (L ++ N) (cs ++ ds) := by
  refine ⟨by simp [a.1, b.1, Nat.add_mul], fun q x j y hx hy => ?_⟩
  have hj : j < Uni.sz c := by have := lt_of_list hy; rwa [Cod.enc_len] at this
  rcases Nat.lt_or_ge q L.length with hq | hq
  · rw [List.getElem?_append_left hq] at hx
    obtain ⟨u, hu, ru⟩ := a.2 q x j y hx hy
    exact ⟨u, by rw [List.getElem?_append_left (lt_of_list hu)]; exact hu, ru⟩
  · rw [List.getElem?_append_right hq] at hx
    obtain ⟨u, hu, ru⟩ := b.2 (q - L.length) x j y hx hy
    refine ⟨u, ?_, ru⟩
    have h1 : q * Uni.sz c + j = cs.length + ((q - L.length) * Uni.sz c + j) := by
      rw [a.1, ← Nat.add_assoc, ← Nat.add_mul]; congr 2; omega
    rw [h1, List.getElem?_append_right (by omega), Nat.add_sub_cancel_left]
    exact hu

/-- A row laid anew: the old one, if any, is given up. -/
theorem Good.rowNew (hH : RelH X h w) {h2 : List Blk} {c : Nat} {L' : List (Uni.val c)} {cs zs : List Value} {el : TypeId}
    (hlen : h2.length = h.length) (hkeep : ∀ (b : Nat) (bl : Blk), h2[b]? = some bl → bl = .dead ∨ h[b]? = some bl) (hc : RowCells X h w c L' cs) :
    Good X h w (X.push h.length w.heap.size True) (h2 ++ [.row c L']) (w.drew.alloc (.cells (cs ++ zs).toArray el)) := by
  have hh : ∀ k, k < w.heap.size → (w.drew.alloc (.cells (cs ++ zs).toArray el)).heap[k]? = w.heap[k]? := fun k hk => heap_alloc_old w.drew _ k hk
  refine Good.grow hH 0 (k0 := w.heap.size + 1) (carr := (cs ++ zs).toArray) (el := el) hlen (fun b bl hb => ?_) (fun k q hf => ?_) (fun q hk => by omega) rfl rfl rfl ?_ (fun k hk _ => hh k hk) (fun hk => by omega)
    (.inr (Nat.le_refl _)) (fun hk => by omega) ⟨(0, 0), heap_alloc_new w.drew _, .inl rfl⟩ (by simp [hc.1]) (fun q x j y hx hy => ?_)
  · rcases hkeep b bl hb with h1 | h1
    · exact .inl h1
    · exact .inr ⟨h1, fun k q hf => by have := foot_lt hH hf; omega⟩
  · have := hH.fsz k q hf; omega
  · show w.heap.size ≤ (w.heap.push _).size
    simp
  · obtain ⟨u, hu, ru⟩ := hc.2 q x j y hx hy
    refine ⟨u, ?_, ru⟩
    rw [Nat.zero_add, List.getElem?_toArray, List.getElem?_append_left (lt_of_list hu)]
    exact hu

/-- A row that grows in its own room. -/
theorem Good.rowIn (hH : RelH X h w) {h2 : List Blk} {b c : Nat} {L L' : List (Uni.val c)} {pre cs : List Value} {cur : Array Value} {el : TypeId} {rest : List Value} {fz : Nat × Nat}
    (hb : h[b]? = some (.row c L)) (ho : X.own b) (hw : w.heap[(X.ρ b).1]? = some (.cells cur el fz)) (hfz : harm fz cur.size)
    (hlen : h2.length = h.length) (hkeep : ∀ (b' : Nat) (bl : Blk), h2[b']? = some bl → bl = .dead ∨ (h[b']? = some bl ∧ b' ≠ b)) (hc : RowCells X h w c L' cs) (hpre : pre.length = (X.ρ b).2) (hsz : (pre ++ cs ++ rest).length = cur.size) :
    Good X h w (X.push h.length (X.ρ b).1 True (X.ρ b).2) (h2 ++ [.row c L']) (w.setRow (X.ρ b).1 (pre ++ cs ++ rest).toArray) := by
  have hfoot : ∀ q, foot X h b (X.ρ b).1 q := fun q => by unfold foot; rw [hb]; exact ⟨ho, rfl⟩
  have hset := setRow_heap w (X.ρ b).1 cur (pre ++ cs ++ rest).toArray el fz hw
  have hoth : ∀ k, k ≠ (X.ρ b).1 → (w.setRow (X.ρ b).1 (pre ++ cs ++ rest).toArray).heap[k]? = w.heap[k]? := fun k hk => setRow_other w (X.ρ b).1 k _ hk
  refine Good.grow hH (X.ρ b).2 (k0 := (X.ρ b).1) (carr := (pre ++ cs ++ rest).toArray) (el := el) hlen (fun b' bl hb' => ?_) (fun k q hf => ?_) (fun q _ => ⟨b, hfoot q⟩) rfl rfl rfl ?_ (fun k _ hk => hoth k hk) (fun _ => ?_)
    (.inl rfl) (fun _ => lt_of_heap hw) ⟨fz, hset, by rw [show (pre ++ cs ++ rest).toArray.size = cur.size by simpa using hsz]; exact hfz⟩ (by have h1 := hc.1; simp only [List.size_toArray, hsz]; simp only [List.length_append] at hsz; omega) (fun q x j y hx hy => ?_)
  · rcases hkeep b' bl hb' with h1 | h1
    · exact .inl h1
    · refine .inr ⟨h1.1, fun k q hf hk => ?_⟩
      subst hk
      exact h1.2 (hH.disj b' b _ q hf (hfoot q))
  · intro hk
    subst hk
    exact hH.free b _ q (hfoot q) hf
  · show w.heap.size ≤ (w.setRow _ _).heap.size
    simp [World.setRow]
  · rw [hw, hset]
    exact ⟨_, _, rfl, by simpa using hsz, id⟩
  · obtain ⟨u, hu, ru⟩ := hc.2 q x j y hx hy
    refine ⟨u, ?_, ru⟩
    have hlt := lt_of_list hu
    rw [List.getElem?_toArray, List.getElem?_append_left (by simp only [List.length_append]; omega), List.getElem?_append_right (by omega), hpre, Nat.add_sub_cancel_left]
    exact hu

/-- The rest of a row of the run's own, taken in its place. -/
theorem Good.cut (hH : RelH X h w) {b c m o1 : Nat} {L : List (Uni.val c)} (hb : h[b]? = some (.row c L)) (ho : X.own b) (hm : m ≤ L.length) (ho1 : o1 = (X.ρ b).2 + m * Uni.sz c ∨ (L.length ≤ m ∧ o1 = (X.ρ b).2)) :
    Good X h w (X.push h.length (X.ρ b).1 True o1) (h.set b .dead ++ [.row c (L.drop m)]) w := by
  have hfoot : ∀ q, foot X h b (X.ρ b).1 q := fun q => by unfold foot; rw [hb]; exact ⟨ho, rfl⟩
  obtain ⟨carr, el, ⟨fz, hw, hfz⟩, hsz, hcell⟩ := (hH.blk b _ hb).1 ho
  have hblt := lt_of_list hb
  have hlen : ∀ q x, (L.drop m)[q]? = some x → L[m + q]? = some x ∧ m < L.length := by
    intro q x hx
    rw [List.getElem?_drop] at hx
    exact ⟨hx, by have := lt_of_list hx; omega⟩
  refine Good.grow hH o1 (k0 := (X.ρ b).1) (k1 := (X.ρ b).1) (carr := carr) (el := el) (by simp) (fun b' bl hb' => ?_) (fun k q hf => ?_) (fun q _ => ⟨b, hfoot q⟩) rfl rfl rfl (Nat.le_refl _) (fun _ _ _ => rfl) (fun _ => sameHdr.refl _)
    (.inl rfl) (fun _ => lt_of_heap hw) ⟨fz, hw, hfz⟩ ?_ (fun q x j y hx hy => ?_)
  · rw [List.getElem?_set] at hb'
    split at hb'
    · rename_i hbb
      subst hbb
      simp [hblt] at hb'
      exact .inl hb'.symm
    · rename_i hbb
      refine .inr ⟨hb', fun k q hf hk => ?_⟩
      subst hk
      exact hbb (hH.disj b' b _ q hf (hfoot q)).symm
  · intro hk
    subst hk
    exact hH.free b _ q (hfoot q) hf
  · rw [List.length_drop]
    rcases ho1 with rfl | ⟨h1, rfl⟩
    · rcases Nat.lt_or_ge m L.length with h2 | h2
      · have : m * Uni.sz c + (L.length - m) * Uni.sz c = L.length * Uni.sz c := by rw [← Nat.add_mul]; congr 1; omega
        omega
      · rw [show L.length - m = 0 by omega, Nat.zero_mul, show m = L.length by omega]; omega
    · rw [show L.length - m = 0 by omega, Nat.zero_mul]; omega
  · obtain ⟨h1, h2⟩ := hlen q x hx
    obtain ⟨u, hu, ru⟩ := hcell (m + q) x j y h1 hy
    refine ⟨u, ?_, ru⟩
    rcases ho1 with rfl | ⟨h3, rfl⟩
    · rw [show (X.ρ b).2 + m * Uni.sz c + (q * Uni.sz c + j) = (X.ρ b).2 + ((m + q) * Uni.sz c + j) by rw [Nat.add_mul]; omega]
      exact hu
    · omega

end
end Ab
