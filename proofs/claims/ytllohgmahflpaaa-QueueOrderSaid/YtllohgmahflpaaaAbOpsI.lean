/- Slices of known parts; what is handed to a callee by value. -/
import Derived.Test.YtllohgmahflpaaaAbOpsH
import Derived.Conc.LoneSelectN
import Derived.Conc.SmallLaws
import Derived.Laws.MakeOwn
set_option linter.unusedSectionVars false
set_option linter.unusedSimpArgs false
set_option linter.unusedVariables false
namespace Ab
open Go
section
variable [Uni] [Cod]
variable {P : Program} {e : Env} {X Y : Cx} {h i : List Blk} {w w' : World} {o : Oper} {ρA : Operand → AV} {ρ : Operand → Value} {v : AV}

theorem rep_replicate {z : List Cl} {zs : List Value} (r : RepL X h w z zs) : ∀ n, RepL X h w (List.replicate n z).flatten (List.replicate n zs).flatten
  | 0 => by simpa using All2.nil
  | n + 1 => by simpa [List.replicate_succ] using r.app (rep_replicate r n)

theorem range_mod {α : Type} [Inhabited α] (z : Array α) (hz : z.size ≠ 0) : ∀ n, ((Array.range (n * z.size)).map (z[· % z.size]!)).toList = (List.replicate n z.toList).flatten := by
  intro n
  apply List.ext_getElem?
  intro j
  simp only [Array.toList_map, Array.toList_range, List.getElem?_map, List.getElem?_range']
  induction n generalizing j with
  | zero => simp
  | succ n ih =>
    rw [List.replicate_succ', List.flatten_append]
    simp only [List.flatten_cons, List.flatten_nil, List.append_nil]
    have hlen : (List.replicate n z.toList).flatten.length = n * z.size := by simp
    rcases Nat.lt_or_ge j (n * z.size) with h | h
    · rw [List.getElem?_append_left (by omega), ← ih]
      rw [List.getElem?_range (by rw [Nat.succ_mul]; omega), List.getElem?_range h]
    · rw [List.getElem?_append_right (by omega), hlen]
      rcases Nat.lt_or_ge j ((n + 1) * z.size) with h2 | h2
      · rw [List.getElem?_range h2]
        have h3 : j - n * z.size < z.size := by rw [Nat.succ_mul] at h2; omega
        have h4 : j % z.size = j - n * z.size := by
          have : j = (j - n * z.size) + n * z.size := by omega
          rw [this, Nat.add_mul_mod_self_right, Nat.mod_eq_of_lt h3]; omega
        simp only [Option.map_some, h4]
        rw [getElem!_pos z _ h3]
        simp [h3]
      · rw [List.getElem?_eq_none (by simpa using h2)]
        rw [Nat.succ_mul] at h2
        rw [List.getElem?_eq_none (by simp; omega)]
        rfl

/-- Where all that was there is as it was, the run's own blocks are. -/
theorem Good.more (hH : RelH X h w) (hb : RowKit.Below w.heap.size w w') : Good X h w X h w' := by
  have ex : Ext (fun k _ => k < w.heap.size) w w' := ⟨hb.os, hb.tape, hb.output, hb.size, fun k hk => by rw [hb.block k hk]; exact sameHdr.refl _, fun k q hk => World.cell?_of_block (w := w) (hb.block k hk), fun k hk _ => by rw [hb.block k hk]; exact sameMk.refl _⟩
  have exF : Ext X.F w w' := ex.weaken fun k q hf => hH.fsz k q hf
  refine ⟨⟨fun b bl hbl => (hH.blk b bl hbl).keep hbl (Mono.refl X h) exF (fun k q hf => ex.cell k q (foot_lt hH hf)) rfl (fun k hk => ex.mark k (foot_lt hH (hk 0)) (fun o => foot_lt hH (hk o))), hH.disj, hH.free, fun k q hf => ?_⟩, Mono.refl X h, ex.weaken fun k q hf => hf.1, fun k q hf => .inl hf, fun b k q hf => .inr ⟨b, hf⟩⟩
  have := hH.fsz k q hf
  have := hb.size
  omega

theorem H_buildSlice {t : TypeId} {n : Nat} {ps : Array (Nat × Operand)} {h' : List Blk} (hT : TAll P e) (ho : o.op = .buildSlice t n ps) (hρ : RepO X h w ρA ρ) (hH : RelH X h w) (hv : (stepH e o ρA h).eval = some (v, h')) : Steps1 P X h w o ρ v h' := by
  unfold stepH at hv; simp only [ho] at hv
  split at hv
  case h_2 => simp [Res.eval] at hv
  rename_i el c hsh
  split at hv
  case isFalse => simp [Res.eval] at hv
  rename_i hc
  simp only [Bool.and_eq_true, Nat.ble_eq, Nat.beq_eq] at hc
  obtain ⟨⟨hc1, hc2⟩, hc3⟩ := hc
  split at hv
  case h_2 => simp [Res.eval] at hv
  rename_i l hl
  obtain ⟨d, hd, _, hs'⟩ := (hT t (Env.lt_of_sh hsh (by simp))).und
  rw [hsh] at hs'; simp only at hs'; subst hs'
  have hne : (e.T el).zero ≠ [] := by intro h; rw [h] at hc2; simp at hc2; omega
  obtain ⟨ie, zv, hie, hzz, hrz, _⟩ := zero_info (X := X) (h := h) (w := w) hT hne
  obtain ⟨ie', hie', hsz⟩ := size_info hT (Env.lt_of_zero hne)
  rw [hie] at hie'; simp at hie'; subst hie'
  have hzs : zv.cells.size = ie.size := by rw [← Array.length_toList, ← hrz.len, hc2, hsz]
  have hall : All2 (fun (a : Nat × Nat × AV) (b : Nat × Value) => (a.2.2 = .top ∨ a.2.1 = 0 ∨ (some (b.1 * ie.size, ie.size) : Option (Nat × Nat)) = some (a.1, a.2.1)) ∧ RepV X h w a.2.2 b.2)
      (ps.toList.map fun p => (p.1 * (e.T el).size, (e.T el).size, coeEl e el (ρA p.2))) (ps.toList.map fun p => (p.1, ρ p.2)) := by
    apply All2.of_get
    · simp
    · intro k a b ha hb
      rw [List.getElem?_map] at ha hb
      obtain ⟨p, hp, rfl⟩ := Option.map_eq_some_iff.mp ha
      rw [hp] at hb; simp at hb; subst hb
      exact ⟨.inr (.inr (by simp [hsz])), coeEl_ok (hρ p.2)⟩
  have hz0 : RepL X h w (List.replicate n (e.T el).zero).flatten ((Array.range (n * ie.size)).map (zv.cells[· % zv.cells.size]!)).toList := by
    rw [← hzs, range_mod _ (by omega)]
    exact rep_replicate hrz n
  obtain ⟨cells, hf, hr⟩ := fill_rep (X := X) (h := h) (w := w) (fun i => some (i * ie.size, ie.size)) _ _ _ _ l hall hz0 hl
  have run : (execOp ρ o).run P w = .ok (.value (.slice (some ⟨w.heap.size, 0, none⟩) n n)) { w with heap := w.heap.push (.cells cells.toList.toArray el) } := by
    by_cases hn : n = 0
    · subst hn
      have hpe : (ps.map fun (i, x) => (i, ρ x)).toList = ps.toList.map fun p => (p.1, ρ p.2) := by simp
      have hf' : Instr.fill (fun i => some (i * ie.size, ie.size)) (Array.map (fun x => zv.cells[x % zv.cells.size]!) (Array.range (0 * ie.size))) (List.map (fun p => (p.1, ρ p.2)) ps.toList) = some cells := hf
      simp [execOp, ho, Instr.buildSlice, run_underlying hd, Go.sizeOf, typeInfo, hie, newRow]
      have : Instr.fill (fun i => some (i * ie.size, ie.size)) #[] (List.map (fun p => (p.1, ρ p.2)) ps.toList) = some cells := by simpa [Array.range_zero'] using hf'
      simp [Array.range_zero', this]
    · have hrun := run_buildSlice (P := P) w t el n (ps.map fun (i, x) => (i, ρ x)) cells ie zv hd hie hzz (by rw [hsz]; omega) (by
        intro h; rcases Nat.mul_eq_zero.mp h with h | h <;> omega) (by simpa using hf)
      simp only [execOp, ho, Sem.run_bind, hrun, Result.andThen_ok, Sem.run_pure]
      simp only [Array.toArray_toList]; rfl
  cases n with
  | zero =>
    simp only [Res.eval, Option.some.injEq, Prod.mk.injEq] at hv
    obtain ⟨rfl, rfl⟩ := hv
    exact ⟨_, _, X, .inl run, .ez, Good.more hH (below_push w _), fun _ => below_push w _⟩
  | succ n =>
  simp only [Res.eval, Option.some.injEq, Prod.mk.injEq] at hv
  obtain ⟨rfl, rfl⟩ := hv
  refine ⟨_, _, _, .inl run, ?_, Good.alloc hH hr el, fun _ => below_push w _⟩
  have := @RepC.sl _ _ (X.push h.length w.heap.size True) (h ++ [.cells l]) { w with heap := w.heap.push (.cells cells.toList.toArray el) } h.length 0 (n + 1) (codeIf (e.T el).size c) (n + 1) (by simp) (Nat.le_refl _)
  rw [show (X.push h.length w.heap.size True).addr h.length 0 = ⟨w.heap.size, 0, none⟩ by simp [Cx.addr, Cx.push]] at this
  exact this

theorem H_makeSlice {t : TypeId} {x y : Operand} {h' : List Blk} (hT : TAll P e) (ho : o.op = .makeSlice t x y) (hρ : RepO X h w ρA ρ) (hH : RelH X h w) (hv : (stepH e o ρA h).eval = some (v, h')) : Steps1 P X h w o ρ v h' := by
  have hx := hρ x; have hy := hρ y
  unfold stepH at hv; simp only [ho] at hv
  split at hv
  case h_2 => simp [Res.eval] at hv
  rename_i el c k n k' m hsh hxa hya
  rw [hxa] at hx; rw [hya] at hy
  have ex := repC_int hx
  have ey := repC_int hy
  split at hv
  case isFalse => simp [Res.eval] at hv
  rename_i hc
  simp only [Bool.and_eq_true, Nat.ble_eq, Nat.beq_eq] at hc
  obtain ⟨hc1, hc2⟩ := hc
  rw [Res.eval_br] at hv
  cases hb : (decide (0 ≤ n) && decide (n = m) && decide (((e.T el).bytes : Int) * m ≤ 281474976710656) && decide (m ≤ 9223372036854775807)) with
  | false => rw [hb] at hv; simp [Res.eval] at hv
  | true =>
  rw [hb] at hv
  simp only [cond_true] at hv
  simp only [Bool.and_eq_true, decide_eq_true_eq] at hb
  obtain ⟨⟨⟨hb1, hb2⟩, hb3⟩, hb4⟩ := hb
  subst hb2
  obtain ⟨d, hd, _, hs'⟩ := (hT t (Env.lt_of_sh hsh (by simp))).und
  rw [hsh] at hs'; simp only at hs'; subst hs'
  have hne : (e.T el).zero ≠ [] := by intro h; rw [h] at hc2; simp at hc2; omega
  obtain ⟨ie, zv, hie, hzz, hrz, _⟩ := zero_info (X := X) (h := h) (w := w) hT hne
  obtain ⟨ie', hie', hsz, hby⟩ := (hT el (Env.lt_of_zero hne)).info
  rw [hie] at hie'; simp at hie'; subst hie'
  have hzs : zv.cells.size = ie.size := by rw [← Array.length_toList, ← hrz.len, hc2, hsz]
  have run : (execOp ρ o).run P w = .ok (.value (.slice (some ⟨w.heap.size, 0, none⟩) n.toNat n.toNat)) { w with heap := w.heap.push (.cells (madeCells zv.cells (n.toNat * ie.size)) el) } := by
    have hr := run_make (P := P) w t el ie zv hd hie hzz k k' n n hb1 (Int.le_refl _) (by rw [hby]; exact hb3) hb4
    simp only [execOp, ho, ex, ey, Sem.run_bind, hr, Result.andThen_ok, Sem.run_pure]
    rfl
  have hz0 : RepL X h w (List.replicate n.toNat (e.T el).zero).flatten (madeCells zv.cells (n.toNat * ie.size)).toList := by
    unfold madeCells
    rw [← hzs, range_mod _ (by omega)]
    exact rep_replicate hrz n.toNat
  generalize n.toNat = q at hv run hz0
  cases q with
  | zero =>
    simp only [Res.eval, Option.some.injEq, Prod.mk.injEq] at hv
    obtain ⟨rfl, rfl⟩ := hv
    exact ⟨_, _, X, .inl run, .ez, Good.more hH (below_push w _), fun _ => below_push w _⟩
  | succ q =>
  simp only [Res.eval, Option.some.injEq, Prod.mk.injEq] at hv
  obtain ⟨rfl, rfl⟩ := hv
  have ga := Good.alloc hH hz0 el
  simp only [Array.toArray_toList] at ga
  refine ⟨_, _, _, .inl run, ?_, ga, fun _ => below_push w _⟩
  have := @RepC.sl _ _ (X.push h.length w.heap.size True) (h ++ [.cells (List.replicate (q + 1) (e.T el).zero).flatten]) { w with heap := w.heap.push (.cells (madeCells zv.cells ((q + 1) * ie.size)) el) } h.length 0 (q + 1) (codeIf (e.T el).size c) (q + 1) (by simp) (Nat.le_refl _)
  rw [show (X.push h.length w.heap.size True).addr h.length 0 = ⟨w.heap.size, 0, none⟩ by simp [Cx.addr, Cx.push]] at this
  exact this

/-- A new block, made behind 'w'. -/
theorem Good.pushB (hH : RelH X h w) (g : Good X h w Y i w') {bl : Blk} {k : Nat} (hk : w.heap.size ≤ k) (hrel : RelB (Y.push i.length k True) (i ++ [bl]) w' i.length bl)
    (hfoot : ∀ k' q, foot (Y.push i.length k True) (i ++ [bl]) i.length k' q → k' = k) (hno : ∀ b q, ¬ foot Y i b k q) (hF : ∀ q, ¬ Y.F k q) :
    Good X h w (Y.push i.length k True) (i ++ [bl]) w' := by
  have hH' := g.rel
  have m := mono_push (X := Y) (h := i) (bl := bl) k True
  have ex := Ext.refl Y.F w'
  have key : ∀ b k' q, foot (Y.push i.length k True) (i ++ [bl]) b k' q → (b < i.length ∧ foot Y i b k' q) ∨ (b = i.length ∧ k' = k) := by
    intro b k' q hf
    have hb := foot_blt hf
    simp at hb
    rcases Nat.lt_or_ge b i.length with hlt | hge
    · left
      rw [foot_push hlt] at hf
      exact ⟨hlt, hf⟩
    · have : b = i.length := by omega
      subst this
      exact .inr ⟨rfl, hfoot k' q hf⟩
  have rel : RelH (Y.push i.length k True) (i ++ [bl]) w' := by
    refine ⟨fun b bl hb => ?_, fun b b' k' q hf hf' => ?_, fun b k' q hf hF' => ?_, fun k' q hf => hH'.fsz k' q hf⟩
    · rcases Nat.lt_or_ge b i.length with hlt | hge
      · rw [List.getElem?_append_left hlt] at hb
        exact (hH'.blk b bl hb).keep hb m ex (fun _ _ _ => rfl) rfl (fun _ _ => sameMk.refl _)
      · have hbe : b = i.length := by
          have := lt_of_list hb; simp at this; omega
        subst hbe
        simp at hb; subst hb
        exact hrel
    · rcases key b k' q hf with ⟨h1, h2⟩ | ⟨h1, h2⟩ <;> rcases key b' k' q hf' with ⟨h3, h4⟩ | ⟨h3, h4⟩
      · exact hH'.disj b b' k' q h2 h4
      · subst h4; exact absurd h2 (hno b q)
      · subst h2; exact absurd h4 (hno b' q)
      · omega
    · rcases key b k' q hf with ⟨h1, h2⟩ | ⟨h1, h2⟩
      · exact hH'.free b k' q h2 hF'
      · subst h2; exact hF q hF'
  refine ⟨rel, g.mono.trans m, g.ext, fun k' q hf => g.fnew k' q hf, fun b k' q hf => ?_⟩
  rcases key b k' q hf with ⟨h1, h2⟩ | ⟨h1, h2⟩
  · exact g.ffoot b k' q h2
  · exact .inl (by omega)

theorem H_makeChan {t : TypeId} {x : Operand} {h' : List Blk} (hT : TAll P e) (ho : o.op = .makeChan t x) (hρ : RepO X h w ρA ρ) (hH : RelH X h w) (hv : (stepH e o ρA h).eval = some (v, h')) : Steps1 P X h w o ρ v h' := by
  have hx := hρ x
  unfold stepH at hv; simp only [ho] at hv
  split at hv
  case h_2 => simp [Res.eval] at hv
  rename_i el c k n hsh hxa
  rw [hxa] at hx
  have ex := repC_int hx
  rw [Res.eval_br] at hv
  cases hb : (decide (0 ≤ n) && decide (n ≤ 9223372036854775807) && decide (((e.T el).bytes : Int) * n ≤ 281474976710544) && Nat.ble 1 (e.T el).size) with
  | false => rw [hb] at hv; simp [Res.eval] at hv
  | true =>
  rw [hb] at hv
  simp only [cond_true, Res.eval, Option.some.injEq, Prod.mk.injEq] at hv
  obtain ⟨rfl, rfl⟩ := hv
  simp only [Bool.and_eq_true, decide_eq_true_eq] at hb
  obtain ⟨⟨⟨hb1, hb2⟩, hb3⟩, hb4⟩ := hb
  have hb4 := Nat.le_of_ble_eq_true hb4
  obtain ⟨d, hd, _, hs'⟩ := (hT t (Env.lt_of_sh hsh (by simp))).und
  rw [hsh] at hs'; simp only at hs'; obtain ⟨dir, rfl⟩ := hs'
  obtain ⟨q, rfl⟩ : ∃ q : Nat, n = q := ⟨n.toNat, by omega⟩
  obtain ⟨i, hi, hby⟩ : ∃ i, P.info? el = some i ∧ i.bytes = (e.T el).bytes := by
    obtain ⟨i, hi, _, hby⟩ := (hT el (Env.lt_of_size (by omega))).info
    exact ⟨i, hi, hby⟩
  have hr := Go.Conc.run_makeChan (P := P) (w := w) hd hi k q hb2 (by rw [hby]; exact hb3)
  have run : (execOp ρ o).run P w = .ok (.value (.chan (some w.heap.size))) (w.alloc (.chan q #[] false 0 0 false)) := by
    simp only [execOp, ho, ex, Sem.run_bind, hr, Result.andThen_ok, Sem.run_pure]
  have hbl : RowKit.Below w.heap.size w (w.alloc (.chan q #[] false 0 0 false)) := below_push w _
  have hob : (w.alloc (.chan q #[] false 0 0 false)).heap[w.heap.size]? = some (.chan q #[] false 0 0 false) := heap_alloc_new w _
  refine ⟨_, _, _, .inl run, ?_, Good.pushB hH (Good.more hH hbl) (Nat.le_refl _) ?_ (fun k' q' hf => ?_) (fun b q' hf => by have := foot_lt hH hf; simp at this) (fun q' hf => by have := hH.fsz _ _ hf; simp at this), fun _ => hbl⟩
  · have := @RepC.ch _ _ (X.push h.length w.heap.size True) (h ++ [.chn c q []]) (w.alloc (.chan q #[] false 0 0 false)) h.length (by simp)
    have e1 : ((X.push h.length w.heap.size True).ρ h.length).1 = w.heap.size := by simp [Cx.push]
    rw [e1] at this
    exact this
  · refine ⟨#[], 0, 0, ?_, rfl, Nat.zero_le _, fun i L hL => by simp at hL, fun i j hi => by simp at hi⟩
    simp only [Cx.push, if_true]
    exact hob
  · unfold foot at hf
    simp [Cx.push] at hf
    exact hf

theorem H_chn {c : Call} {full : Bool} {h' : List Blk} (hT : TAll P e) (ho : o.op = .call c) (hc : c.callee = .builtin (match full with | true => .cap | false => .len)) (hρ : RepO X h w ρA ρ) (hH : RelH X h w) (hv : (chnQ e c ρA h full).eval = some (v, h')) : Steps1 P X h w o ρ v h' := by
  unfold chnQ at hv
  split at hv
  case h_2 => simp [Res.eval] at hv
  rename_i t x hts hxs
  split at hv
  case h_2 => simp [Res.eval] at hv
  rename_i el cc b hsh hxa
  split at hv
  case h_2 => simp [Res.eval] at hv
  rename_i cd cap LL hb
  simp only [Res.eval, Option.some.injEq, Prod.mk.injEq] at hv
  obtain ⟨rfl, rfl⟩ := hv
  have hts' : c.argTypes = #[t] := by apply Array.ext'; simpa using hts
  have hxs' : c.args = #[x] := by apply Array.ext'; simpa using hxs
  obtain ⟨d, hd, _, hs'⟩ := (hT t (Env.lt_of_sh hsh (by simp))).und
  rw [hsh] at hs'; simp only at hs'; obtain ⟨dir, rfl⟩ := hs'
  have hx := hρ x
  rw [hxa] at hx
  obtain ⟨buf, s, r, hw, h1, h2, _⟩ := hH.blk b _ hb
  generalize hu : ρ x = u at hx
  cases hx with
  | ch hlt =>
    cases full with
    | true =>
      have hr := Go.Conc.run_cap_chan (P := P) (w := w) t o.type hd hw
      exact ⟨.int .i64 cap, w, X, .inl (by simp [execOp, ho, resolve, hc, hts', hxs', hu, invoke, builtin, hr, goInt]), .int, Good.refl hH, fun _ => RowKit.Below.refl _ w⟩
    | false =>
      have hr := Go.Conc.run_len_chan (P := P) (w := w) t o.type hd hw
      exact ⟨.int .i64 LL.length, w, X, .inl (by simp [execOp, ho, resolve, hc, hts', hxs', hu, invoke, builtin, hr, goInt, h1]), .int, Good.refl hH, fun _ => RowKit.Below.refl _ w⟩

/-- All that is there, taken as never to be written. -/
def allF (w : World) : Nat → Nat → Prop := fun k _ => k < w.heap.size

def Cx.froz (w : World) : Cx := { ρ := fun _ => (0, 0), own := fun _ => False, F := allF w, sub := fun _ _ => ((0, 0), False) }

theorem RelH.froz (w : World) : RelH (Cx.froz w) [] w :=
  ⟨fun b bl hb => by simp at hb, fun b b' k q hf => by simp [foot] at hf, fun b k q hf => by simp [foot] at hf, fun k q hf => hf⟩

theorem lt_of_cell {a : Addr} {u : Value} (h : w.cell? a = some u) : a.block < w.heap.size := by
  unfold World.cell? at h
  split at h
  · exact lt_of_heap (by assumption)
  · simp at h

theorem RepC.rn_rs {z : Bool} {c : Nat} {L : List (Uni.val c)} {u : Value} (r : RepC X h w (.rn z c L) u) : RepC X h w (.rs c L) u := by
  cases r with
  | rn hz h0 h1 h2 => exact .rs h0 h1 h2

/-- What leads to none of the run's own blocks stands for the same whoever's blocks there are. -/
theorem RepC.closed {x : Cl} {u : Value} (r : RepC X h w x u) (hc : closedC x = true) : RepC (Cx.froz w) [] w x u := by
  induction r with
  | top h => exact .top h
  | bool => exact .bool
  | int => exact .int
  | str => exact .str
  | nilp => exact .nilp
  | nils => exact .nils
  | ez => exact .ez
  | nilf => exact .nilf
  | nilch => exact .nilch
  | ch _ => simp [closedC] at hc
  | jk _ _ _ => simp [closedC] at hc
  | ptr _ => simp [closedC] at hc
  | sl _ _ => simp [closedC] at hc
  | slw _ _ _ => simp [closedC] at hc
  | ep _ => simp [closedC] at hc
  | @rs c L a cap cv h0 h1 h2 ih =>
    refine .rs (cv := cv) h0 (fun i x hx => ?_) (fun i x j y hx hy => ih i x j y hx hy (Cod.enc_closed c x y (List.mem_of_getElem? hy)))
    obtain ⟨k, e', ha, hj⟩ := h1 i x hx
    exact ⟨k, e', ha, fun j hj' => ⟨lt_of_cell (hj j hj').2, (hj j hj').2⟩⟩
  | @rn z c L a cap cv hz h0 h1 h2 ih =>
    refine .rn (cv := cv) hz h0 (fun i x hx => ?_) (fun i x j y hx hy => ih i x j y hx hy (Cod.enc_closed c x y (List.mem_of_getElem? hy)))
    obtain ⟨k, e', ha, hj⟩ := h1 i x hx
    exact ⟨k, e', ha, fun j hj' => ⟨lt_of_cell (hj j hj').2, (hj j hj').2⟩⟩
  | @rp c x o k e' cv h1 h2 ih =>
    exact .rp (cv := cv) (fun j hj => ⟨lt_of_cell (h1 j hj).2, (h1 j hj).2⟩) (fun j y hy => ih j y hy (Cod.enc_closed c x y (List.mem_of_getElem? hy)))
  | @fn f first caps h1 h2 =>
    cases first with
    | nil => cases caps with
      | nil => exact .fn (by simp) (by simp)
      | cons _ _ => simp [closedC] at hc
    | cons _ _ => cases caps <;> simp [closedC] at hc

theorem decN_ok {c : Nat} {l : List Cl} : ∀ {n q : Nat} {L : List (Uni.val c)}, decN c l q n = some L → L.length = n ∧ ∀ i x, L[i]? = some x → Cod.enc c x = slice l (q + i * Uni.sz c) (Uni.sz c)
  | 0, q, L, h => by simp [decN] at h; subst h; simp
  | n + 1, q, L, h => by
    unfold decN at h
    split at h
    · rename_i x r hx hr
      simp at h; subst h
      obtain ⟨h1, h2⟩ := decN_ok hr
      refine ⟨by simp [h1], fun i y hy => ?_⟩
      cases i with
      | zero => simp at hy; subst hy; simpa using Cod.dec_enc _ _ _ hx
      | succ i =>
        simp at hy
        rw [h2 i y hy]
        rw [Nat.succ_mul]; congr 1; omega
    · simp at h

/-- A row at a place, told as it stands. -/
theorem rowAt_rs {p : (Nat × Nat) × Prop} {c : Nat} {L : List (Uni.val c)} {v : Value} (r : RowAt X h w p c L) (d : HdAt w p (Uni.sz c) L.length v) : RepC (Cx.froz w) [] w (.rs c L) v := by
  rcases d with ⟨ho, cap, rfl, hcap, _⟩ | ⟨hno, a, rfl⟩
  · obtain ⟨carr, el, ⟨fz, hw, hfz⟩, hsz, hcell⟩ := r.1 ho
    refine .rs (cv := fun i j => (carr[p.1.2 + (i * Uni.sz c + j)]?).getD undef) hcap.1 (fun i x hx => ⟨p.1.1, p.1.2, rfl, fun j hj => ?_⟩) (fun i x j y hx hy => ?_)
    · obtain ⟨v, hv, _⟩ := hcell i x j ((Cod.enc c x)[j]'(by rw [Cod.enc_len]; exact hj)) hx (List.getElem?_eq_getElem _)
      refine ⟨lt_of_heap hw, ?_⟩
      rw [cell_of_heap hw, Nat.add_assoc]
      simp [hv]
    · obtain ⟨v, hv, rv⟩ := hcell i x j y hx hy
      rw [hv]
      exact rv.closed (Cod.enc_closed c x y (List.mem_of_getElem? hy))
  · have := r.2 hno
    subst this
    exact .rs (cv := fun _ _ => undef) (Nat.le_refl _) (fun i x hx => by simp at hx) (fun i x j y hx => by simp at hx)

theorem snap_jk (hH : RelH X h w) {b c2 c : Nat} {LL : List (List (Uni.val c))} {f : List (Uni.val c) → Uni.val c2} {u : Value} (r : RepC X h w (.jk b .whole) u) (hb : h[b]? = some (.bg c2 c LL none)) (hf : Cod.nest c2 c = some f) : RepC (Cx.froz w) [] w (.rs c2 (LL.map f)) u := by
  obtain ⟨hlt, hj⟩ := repC_jk r hb
  rcases hj with ⟨ho, cap, rfl, hcap⟩ | ⟨hno, _, a, rfl⟩
  · obtain ⟨carr, el, ⟨fz, hw, hfz⟩, hsz, hrow, _⟩ := (hH.blk b _ hb).1 ho
    have hlen : (LL.map (·.length)).length + (none : Option Nat).isSome.toNat = (LL.map f).length := by simp
    rw [hlen] at hcap ⊢
    refine .rs (cv := fun i j => (carr[(X.ρ b).2 + (i * Uni.sz c2 + j)]?).getD undef) hcap.1 (fun i x hx => ⟨(X.ρ b).1, (X.ρ b).2 + 0, rfl, fun j hj => ?_⟩) (fun i x j y hx hy => ?_)
    all_goals
      rw [List.getElem?_map] at hx
      obtain ⟨L, hL, rfl⟩ := Option.map_eq_some_iff.mp hx
      have hn := Cod.nest_ok c2 c f hf L
      have h1 : Uni.sz c2 = 1 := by rw [← Cod.enc_len c2 (f L), hn]; rfl
      obtain ⟨r1, v, hv, r2⟩ := hrow i L hL
    · have hj0 : j = 0 := by omega
      subst hj0
      refine ⟨lt_of_heap hw, ?_⟩
      rw [cell_of_heap hw, Nat.add_zero, Nat.add_zero, h1, Nat.mul_one, Nat.add_zero, hv]; rfl
    · rw [hn] at hy
      have hj0 : j = 0 := by have := lt_of_list hy; simpa using this
      subst hj0
      simp at hy; subst hy
      rw [h1, Nat.mul_one, Nat.add_zero, hv]
      exact rowAt_rs r1 r2
  · have := ((hH.blk b _ hb).2 hno).1
    subst this
    exact .rs (L := []) (cv := fun _ _ => undef) (Nat.le_refl _) (fun i x hx => by simp at hx) (fun i x j y hx => by simp at hx)

theorem snap_ok (hH : RelH X h w) {x : Cl} {u : Value} (r : RepC X h w x u) : RepC (Cx.froz w) [] w (snap h x) u := by
  have top : RepC (Cx.froz w) [] w .top u := .top r.one
  unfold snap
  split
  · rename_i b
    split
    · rename_i c L hL
      cases r with
      | slw hlt h1 _ =>
        rcases h1 c L hL with ⟨ho, cap, rfl, hcap, hroom⟩ | ⟨hno, a, rfl⟩
        · obtain ⟨carr, el, ⟨fz, hw, hfz⟩, hsz, hcell⟩ := (hH.blk b _ hL).1 ho
          refine .rs (cv := fun i j => (carr[(X.ρ b).2 + (i * Uni.sz c + j)]?).getD undef) hcap.1 (fun i x hx => ⟨(X.ρ b).1, (X.ρ b).2 + 0, rfl, fun j hj => ?_⟩) (fun i x j y hx hy => ?_)
          · obtain ⟨v, hv, _⟩ := hcell i x j ((Cod.enc c x)[j]'(by rw [Cod.enc_len]; exact hj)) hx (List.getElem?_eq_getElem _)
            refine ⟨lt_of_heap hw, ?_⟩
            rw [cell_of_heap hw, Nat.add_zero, Nat.add_assoc]
            simp [hv]
          · obtain ⟨v, hv, rv⟩ := hcell i x j y hx hy
            rw [hv]
            exact rv.closed (Cod.enc_closed c x y (List.mem_of_getElem? hy))
        · have := (hH.blk b _ hL).2 hno
          subst this
          exact .rs (cv := fun _ _ => undef) (Nat.le_refl _) (fun i x hx => by simp at hx) (fun i x j y hx => by simp at hx)
    · exact top
  · rename_i b q n cc
    split
    · rename_i c l hl
      split
      · rename_i L hL
        obtain ⟨hlen, henc⟩ := decN_ok hL
        cases r with
        | sl hlt hn =>
          obtain ⟨carr, el, ⟨fz, hw, hfz⟩, hsz, hcell⟩ := hH.blk b _ hl
          rw [← hlen]
          have cellAt : ∀ i x j y, L[i]? = some x → (Cod.enc c x)[j]? = some y → ∃ v, carr[(X.ρ b).2 + q + i * Uni.sz c + j]? = some v ∧ RepC X h w y v := by
            intro i x j y hx hy
            rw [henc i x hx] at hy
            simp only [slice, List.getElem?_take, List.getElem?_drop] at hy
            split at hy
            · obtain ⟨v, hv, rv⟩ := hcell _ y hy
              exact ⟨v, by rw [← hv]; congr 1; omega, rv⟩
            · simp at hy
          refine .rs (cv := fun i j => (carr[(X.ρ b).2 + q + i * Uni.sz c + j]?).getD undef) (by omega) (fun i x hx => ⟨(X.ρ b).1, (X.ρ b).2 + q, rfl, fun j hj => ?_⟩) (fun i x j y hx hy => ?_)
          · obtain ⟨v, hv, _⟩ := cellAt i x j ((Cod.enc c x)[j]'(by rw [Cod.enc_len]; exact hj)) hx (List.getElem?_eq_getElem _)
            refine ⟨lt_of_heap hw, ?_⟩
            rw [cell_of_heap hw, hv]; rfl
          · obtain ⟨v, hv, rv⟩ := cellAt i x j y hx hy
            rw [hv]
            exact rv.closed (Cod.enc_closed c x y (List.mem_of_getElem? hy))
      · exact top
    · exact top
  · exact top
  · exact top
  · exact top
  · exact r.closed rfl
  · split
    · rename_i c2 c LL hb
      split
      · rename_i f hf
        exact snap_jk hH r hb hf
      · exact top
    · exact top
  · split
    · exact r.closed rfl
    · exact top
  all_goals first | exact r.closed rfl | exact r.rn_rs.closed rfl

theorem snapV_ok (hH : RelH X h w) {x : AV} {u : Value} (r : RepV X h w x u) : RepV (Cx.froz w) [] w (snapV h x) u := by
  cases x with
  | top => trivial
  | c y => exact snap_ok hH r
  | agg l =>
    obtain ⟨vs, hu, r⟩ := r
    refine ⟨vs, hu, ?_⟩
    exact All2.map (All2.mono r fun _ _ q => snap_ok hH q)
  | tup l => trivial

end
end Ab
