/- A block taken as the run's own; cells appended onto nothing. -/
import Derived.Test.YtllohgmahflpaaaAbApp0
set_option linter.unusedSectionVars false
set_option linter.unusedSimpArgs false
set_option linter.unusedVariables false
namespace Ab
open Go
section
variable [Uni] [Cod]
variable {P : Program} {e : Env} {X Y : Cx} {h i : List Blk} {w w' : World}

theorem below_ext (hb : RowKit.Below w.heap.size w w') : Ext (allF w) w w' :=
  ⟨hb.os, hb.tape, hb.output, hb.size, fun k hk => by rw [hb.block k hk]; exact sameHdr.refl _, fun k q hk => World.cell?_of_block (w := w) (hb.block k hk), fun k hk _ => by rw [hb.block k hk]; exact sameMk.refl _⟩

/-- Where all that was there is as it was, the run's own blocks are. -/
theorem Good.below (hH : RelH X h w) (hb : RowKit.Below w.heap.size w w') : Good X h w X h w' := by
  have ex := below_ext hb
  have exF : Ext X.F w w' := ex.weaken fun k q hf => hH.fsz k q hf
  refine ⟨⟨fun b bl hbl => (hH.blk b bl hbl).keep hbl (Mono.refl X h) exF (fun k q hf => ex.cell k q (foot_lt hH hf)) rfl (fun k hk => ex.mark k (foot_lt hH (hk 0)) (fun o => foot_lt hH (hk o))), hH.disj, hH.free, fun k q hf => ?_⟩, Mono.refl X h, ex.weaken fun k q hf => hf.1, fun k q hf => .inl hf, fun b k q hf => .inr ⟨b, hf⟩⟩
  have := hH.fsz k q hf
  have := hb.size
  omega

/-- A block that was made behind 'w' is taken as the run's own. -/
theorem Good.adoptX (hH : RelH X h w) (g : Good X h w Y i w') {l : List Cl} {vs : List Value} {k : Nat} {el : TypeId} (hk : w.heap.size ≤ k)
    {carr : Array Value} (hw : w'.heap[k]? = some (.cells carr el (0, 0))) (hsz : vs.length ≤ carr.size) (hv : ∀ (j : Nat) u, vs[j]? = some u → carr[j]? = some u) (r : RepL Y i w' l vs) (hno : ∀ b q, ¬ foot Y i b k q) (hF : ∀ q, ¬ Y.F k q) :
    Good X h w (Y.push i.length k True) (i ++ [.cells l]) w' := by
  have hH' := g.rel
  have m := mono_push (X := Y) (h := i) (bl := .cells l) k True
  have ex := Ext.refl Y.F w'
  have key : ∀ b k' q, foot (Y.push i.length k True) (i ++ [.cells l]) b k' q → (b < i.length ∧ foot Y i b k' q) ∨ (b = i.length ∧ k' = k) := by
    intro b k' q hf
    have hb := foot_blt hf
    simp at hb
    rcases Nat.lt_or_ge b i.length with hlt | hge
    · left
      rw [foot_push hlt] at hf
      exact ⟨hlt, hf⟩
    · have : b = i.length := by omega
      subst this
      right
      unfold foot at hf
      simp [Cx.push] at hf
      exact ⟨rfl, hf.1⟩
  have rel : RelH (Y.push i.length k True) (i ++ [.cells l]) w' := by
    refine ⟨fun b bl hb => ?_, fun b b' k' q hf hf' => ?_, fun b k' q hf hF' => ?_, fun k' q hf => hH'.fsz k' q hf⟩
    · rcases Nat.lt_or_ge b i.length with hlt | hge
      · rw [List.getElem?_append_left hlt] at hb
        exact (hH'.blk b bl hb).keep hb m ex (fun _ _ _ => rfl) rfl (fun _ _ => sameMk.refl _)
      · have hbe : b = i.length := by
          have := lt_of_list hb; simp at this; omega
        subst hbe
        simp at hb; subst hb
        refine ⟨carr, el, ⟨(0, 0), by simpa [Cx.push] using hw, .inl rfl⟩, by simp [Cx.push, r.len]; exact hsz, fun j x hx => ?_⟩
        obtain ⟨u, hu, ru⟩ := r.get hx
        exact ⟨u, by simpa [Cx.push] using hv j u hu, ru.mono m ex⟩
    · rcases key b k' q hf with ⟨h1, h2⟩ | ⟨h1, h2⟩ <;> rcases key b' k' q hf' with ⟨h3, h4⟩ | ⟨h3, h4⟩
      · exact hH'.disj b b' k' q h2 h4
      · subst h4; exact absurd h2 (hno b q)
      · subst h2; exact absurd h4 (hno b' q)
      · omega
    · rcases key b k' q hf with ⟨h1, h2⟩ | ⟨h1, h2⟩
      · exact hH'.free b k' q h2 hF'
      · subst h2; exact hF q hF'
  refine ⟨rel, g.mono.trans m, g.ext, fun k' q hf => g.fnew k' q hf, fun b k' q hf => ?_⟩
  rcases key b k' q hf with ⟨h1, h2⟩ | ⟨h1, h2⟩
  · exact g.ffoot b k' q h2
  · exact .inl (by omega)

theorem Good.adopt (hH : RelH X h w) (g : Good X h w Y i w') {l : List Cl} {vs : List Value} {k : Nat} {el : TypeId} (hk : w.heap.size ≤ k)
    (hw : w'.heap[k]? = some (.cells vs.toArray el (0, 0))) (r : RepL Y i w' l vs) (hno : ∀ b q, ¬ foot Y i b k q) (hF : ∀ q, ¬ Y.F k q) :
    Good X h w (Y.push i.length k True) (i ++ [.cells l]) w' := Good.adoptX hH g hk hw (by simp) (fun j u hu => by simpa using hu) r hno hF

/-- Cells appended onto nothing: a block of them. -/
theorem append_cells_ok (hH : RelH X h w) {t ty el : TypeId} {i : TypeInfo} {z : Value} (ht : P.underlying t = some (.slice el)) (hi : P.info? el = some i) (hz : i.zero = some z) (hzs : z.cells.size = i.size)
    {b o n : Nat} {c : Option Nat} {l : List Cl} (hb : h[b]? = some (.cells l)) (hl : o + n * i.size ≤ l.length) (h0 : 0 < n) (h63 : n ≤ maxLen) (hby : n * i.bytes ≤ 140737488355328) {v : Value} (r : RepC X h w (.sl b o n c) v) :
    ∃ v' w' X', (Builtin.append_ #[t, t] ty #[.slice none 0 0, v]).run P w = .ok v' w' ∧
      RepV X' (h ++ [.cells (slice l o (n * i.size))]) w' (.c (.sl h.length 0 n none)) v' ∧ Good X h w X' (h ++ [.cells (slice l o (n * i.size))]) w' ∧ RowKit.Below w.heap.size w w' := by
  cases r with
  | @sl _ _ _ _ cap hlt hcap =>
    obtain ⟨vs, hlen, hr, hcell⟩ := (hH.blk b _ hb).load hl
    have hrun := run_append_nil (P := P) w t ty el i z ht hi hz (X.addr b o) n cap vs hlen hcell h0 (by simp only [maxLen] at h63; omega) (by omega)
    have hbl := below_alloc w (.cells (vs.toArray ++ Builtin.zeroCells z.cells (grownCap w n 0 el - n)) el)
    have hg := Good.adoptX hH (Good.below hH hbl) (Nat.le_refl _) (heap_alloc_new w.drew _) (vs := vs) (l := slice l o (n * i.size)) (by simp) (fun j u hu => by
      rw [Array.getElem?_append_left (by simpa using lt_of_list hu)]; simpa using hu) (RepL.mono (Good.below hH hbl).mono ((Good.below hH hbl).extF hH) hr)
      (fun b q hf => by have := foot_lt hH hf; simp at this) (fun q hf => by have := hH.fsz _ _ hf; simp at this)
    refine ⟨_, _, _, hrun, ?_, hg, hbl⟩
    have := @RepC.sl _ _ (X.push h.length w.heap.size True) (h ++ [.cells (slice l o (n * i.size))]) (w.drew.alloc (.cells (vs.toArray ++ Builtin.zeroCells z.cells (grownCap w n 0 el - n)) el)) h.length 0 n none (grownCap w n 0 el) (by simp) (grownCap_ge w n 0 el)
    rw [show (X.push h.length w.heap.size True).addr h.length 0 = ⟨w.heap.size, 0, none⟩ by simp [Cx.addr, Cx.push]] at this
    exact this

theorem jk_new {B c2 c k1 r cap : Nat} {LL : List (List (Uni.val c))} {carr : Array Value} {el : TypeId} {fz : Nat × Nat} (o1 : Nat) (hw : w'.heap[k1]? = some (.cells carr el fz)) (hcap : LL.length + 1 ≤ cap ∧ cap ≤ 9223372036854775807) (hroom : o1 + cap ≤ carr.size) :
    RepV (X.bag h.length k1 o1 B) (h.set B .dead ++ [.bg c2 c LL (some r)]) w' (.c (.jk h.length .whole)) (.slice (some ⟨k1, o1, none⟩) (LL.length + 1) cap) := by
  have hg : (h.set B .dead ++ [Blk.bg c2 c LL (some r)])[h.length]? = some (.bg c2 c LL (some r)) := by
    rw [List.getElem?_append_right (by simp)]; simp
  refine RepC.jk (by simp) (fun c2' c' LL' p' h3 => ?_) rfl
  rw [hg] at h3
  simp only [Option.some.injEq, Blk.bg.injEq] at h3
  obtain ⟨rfl, rfl, h3, rfl⟩ := h3
  have h3 := eq_of_heq h3
  subst h3
  refine ⟨.inl ⟨by simp [Cx.bag], cap, by simp [Cx.addr, Cx.bag], by simpa using hcap⟩, fun _ _ => ⟨_, _, cap, rfl, carr, el, fz, by simpa [Cx.bag] using hw, by simpa [Cx.bag] using hroom⟩⟩

/-- A row that another block tells, appended onto a slice of slices of the run's own. -/
theorem append_bag_ok (hH : RelH X h w) {t ty el : TypeId} {i : TypeInfo} {z : Value} (ht : P.underlying t = some (.slice el)) (hi : P.info? el = some i) (hz : i.zero = some z) (hsz : i.size = 1) (hzs : z.cells.size = i.size)
    {B c2 c r s o : Nat} {cc : Option Nat} {LL : List (List (Uni.val c))} {l : List Cl} (hB : h[B]? = some (.bg c2 c LL none)) (hs : h[s]? = some (.cells l)) (hl : l[o]? = some (.slw r))
    (h63 : LL.length + 1 ≤ 140737488355328) (hby : (LL.length + 1) * i.bytes ≤ 140737488355328) {v1 v2 : Value} (r1 : RepC X h w (.jk B .whole) v1) (r2 : RepC X h w (.sl s o 1 cc) v2) :
    ∃ v' w' X', (Builtin.append_ #[t, t] ty #[v1, v2]).run P w = .ok v' w' ∧
      RepV X' (h.set B .dead ++ [.bg c2 c LL (some r)]) w' (.c (.jk h.length .whole)) v' ∧ Good X h w X' (h.set B .dead ++ [.bg c2 c LL (some r)]) w' := by
  cases r2 with
  | @sl _ _ _ _ cap2 hlt2 hcap2 =>
  obtain ⟨carrs, els, ⟨fzs, hws, hfzs⟩, hszs, hcells⟩ := hH.blk s _ hs
  obtain ⟨u, hu, ru⟩ := hcells o _ hl
  have hnews : ∀ j u', [u][j]? = some u' → w.cell? ((X.addr s o).add j) = some u' := by
    intro j u' hj
    cases j with
    | zero =>
      simp at hj; subst hj
      unfold Cx.addr
      rw [Addr.add_lit, Nat.add_zero, cell_of_heap hws]; exact hu
    | succ j => simp at hj
  have hone : ∀ v ∈ [u], v.oneCell' = true := by intro v hv; simp at hv; subst hv; exact ru.one
  have h63' : LL.length + 1 ≤ maxLen := by unfold maxLen; omega
  have fin : ∀ (olds : List Value) (old : Nat), olds.length = LL.length → (∀ j L, LL[j]? = some L → ∃ v, olds[j]? = some v ∧ HdAt w (X.sub B j) (Uni.sz c) L.length v) →
      (Builtin.append_ #[t, t] ty #[v1, .slice (some (X.addr s o)) 1 cap2]).run P w =
        .ok (.slice (some ⟨w.heap.size, 0, none⟩) (LL.length + 1) (grownCap w (LL.length + 1) old el)) (w.drew.alloc (.cells (olds.toArray ++ [u].toArray ++ Builtin.zeroCells z.cells (grownCap w (LL.length + 1) old el - (LL.length + 1))) el)) →
      ∃ v' w' X', (Builtin.append_ #[t, t] ty #[v1, .slice (some (X.addr s o)) 1 cap2]).run P w = .ok v' w' ∧
      RepV X' (h.set B .dead ++ [.bg c2 c LL (some r)]) w' (.c (.jk h.length .whole)) v' ∧ Good X h w X' (h.set B .dead ++ [.bg c2 c LL (some r)]) w' := by
    intro olds old hol holds hr
    have hge := grownCap_ge w (LL.length + 1) old el
    have hle := grownCap_le_maxLen w (LL.length + 1) old el h63'
    have hszc : (olds.toArray ++ [u].toArray ++ Builtin.zeroCells z.cells (grownCap w (LL.length + 1) old el - (LL.length + 1))).size = grownCap w (LL.length + 1) old el := by
      simp only [Array.size_append, List.size_toArray, size_zeroCells, hzs, hsz, hol, List.length_cons, List.length_nil, Nat.mul_one]; omega
    refine ⟨_, _, _, hr, jk_new 0 (heap_alloc_new w.drew _) ⟨hge, hle⟩ (by rw [hszc]; omega), Good.growB hH (k0 := w.heap.size + 1) 0 hB rfl rfl rfl ?_ (fun k hk _ => heap_alloc_old w.drew _ k hk) (fun hk => by omega) (fun hk => by omega) (.inr (Nat.le_refl _)) ⟨(0, 0), heap_alloc_new w.drew _, .inl rfl⟩ (by rw [hszc]; omega) (fun j L hL => ?_) ⟨u, ?_, ru⟩⟩
    · show w.heap.size ≤ (w.heap.push _).size
      simp
    · obtain ⟨v, hv, hd⟩ := holds j L hL
      refine ⟨v, ?_, hd⟩
      have hj := lt_of_list hv
      rw [Nat.zero_add, Array.getElem?_append_left (by simp; omega), Array.getElem?_append_left (by simpa using hj)]
      simpa using hv
    · rw [Nat.zero_add, Array.getElem?_append_left (by simp; omega), Array.getElem?_append_right (by simp; omega)]
      simp [hol]
  cases r1 with
  | jk hlt h1 hv1 =>
  obtain ⟨hj, hq⟩ := h1 _ _ _ _ hB
  rcases hj with ⟨ho, cap, rfl, hcap⟩ | ⟨hno, _, a, rfl⟩
  · obtain ⟨a', n', cap', heq, hroom⟩ := hq rfl ho
    simp only [Value.slice.injEq] at heq
    obtain ⟨_, _, rfl⟩ := heq
    have hlen : (LL.map (·.length)).length + (none : Option Nat).isSome.toNat = LL.length := by simp
    rw [hlen] at hcap fin ⊢
    obtain ⟨carr, elB, ⟨fz, hw, hfz⟩, hsize, h3, _⟩ := (hH.blk B _ hB).1 ho
    obtain ⟨carr2, el2, fz2, hw2, hroom2⟩ := hroom
    rw [hw] at hw2
    simp only [Option.some.injEq, Obj.cells.injEq] at hw2
    obtain ⟨rfl, rfl, rfl⟩ := hw2
    have haddr : X.addr B 0 = ⟨(X.ρ B).1, (X.ρ B).2, none⟩ := by simp [Cx.addr]
    rw [haddr] at fin ⊢
    by_cases hin : LL.length + 1 ≤ cap
    · have hr := run_append_room' (P := P) (w := w) t ty el elB i ht hi (X.ρ B).1 (X.ρ B).2 LL.length cap carr hw hfz (X.addr s o) 1 cap2 [u] (by simp [hsz]) hnews hone hin (by rw [hsz]; simp; omega)
      rw [hsz, Nat.mul_one] at hr
      have hset := setRow_heap w (X.ρ B).1 carr (carr.toList.take ((X.ρ B).2 + LL.length) ++ [u] ++ carr.toList.drop ((X.ρ B).2 + LL.length + [u].length)).toArray elB fz hw
      have hszc : (carr.toList.take ((X.ρ B).2 + LL.length) ++ [u] ++ carr.toList.drop ((X.ρ B).2 + LL.length + [u].length)).toArray.size = carr.size := by
        simp; omega
      refine ⟨_, _, _, hr, jk_new (X.ρ B).2 hset ⟨hin, hcap.2⟩ (by rw [hszc]; exact hroom2), Good.growB hH (k0 := (X.ρ B).1) (X.ρ B).2 hB rfl rfl rfl ?_ (fun k _ hk => setRow_other w (X.ρ B).1 k _ hk) (fun _ => ?_) (fun _ => ⟨ho, rfl⟩) (.inl ⟨rfl, lt_of_heap hw⟩) ⟨fz, hset, by rw [hszc]; exact hfz⟩ (by rw [hszc]; omega) (fun j L hL => ?_) ⟨u, ?_, ru⟩⟩
      · show w.heap.size ≤ (w.setRow _ _).heap.size
        simp [World.setRow]
      · rw [hw, hset]
        exact ⟨_, _, rfl, hszc, id⟩
      · obtain ⟨_, v, hv, hd⟩ := h3 j L hL
        refine ⟨v, ?_, hd⟩
        have hj := lt_of_list hL
        have hv' : carr.toList[(X.ρ B).2 + j]? = some v := by simpa using hv
        rw [List.getElem?_toArray, List.getElem?_append_left (by simp; omega), List.getElem?_append_left (by simp; omega), List.getElem?_take, if_pos (by omega)]
        exact hv'
      · rw [List.getElem?_toArray, List.getElem?_append_left (by simp; omega), List.getElem?_append_right (by simp; omega), List.length_take]
        rw [Nat.min_eq_left (by simp; omega)]
        simp
    · have hr := run_append_grow (P := P) w t ty el i z ht hi hz ⟨(X.ρ B).1, (X.ρ B).2, none⟩ LL.length cap ((carr.toList.drop (X.ρ B).2).take LL.length) (by rw [hsz]; simp at hsize ⊢; omega)
        (fun j u hu => by
          rw [Addr.add_lit, cell_of_heap hw]
          rw [List.getElem?_take] at hu
          split at hu
          · rw [List.getElem?_drop] at hu
            simpa using hu
          · cases hu)
        (X.addr s o) 1 cap2 [u] (by simp [hsz]) hnews (by omega) (by simp only [maxLen] at h63'; omega) (growslice_fits (by omega) hby)
      refine fin _ cap (by simp at hsize ⊢; omega) (fun j L hL => ?_) hr
      obtain ⟨_, v, hv, hd⟩ := h3 j L hL
      refine ⟨v, ?_, hd⟩
      have hj := lt_of_list hL
      rw [List.getElem?_take, if_pos hj, List.getElem?_drop]
      simpa using hv
  · have hL0 := ((hH.blk B _ hB).2 hno).1
    subst hL0
    refine fin [] 0 rfl (fun j L hL => by simp at hL) ?_
    cases a with
    | none =>
      have hr := run_append_nil (P := P) w t ty el i z ht hi hz (X.addr s o) 1 cap2 [u] (by simp [hsz]) hnews (by omega) (by omega) (by simp at hby; omega)
      simpa using hr
    | some g =>
      have hr := run_append_grow (P := P) w t ty el i z ht hi hz g 0 0 [] (by simp) (fun j u hu => by simp at hu) (X.addr s o) 1 cap2 [u] (by simp [hsz]) hnews (by omega) (by omega) (growslice_fits (by omega) (by simpa using hby))
      simpa using hr
end
end Ab
