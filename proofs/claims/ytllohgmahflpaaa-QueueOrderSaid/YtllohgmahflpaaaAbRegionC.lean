/- A region carried out. -/
import Derived.Test.YtllohgmahflpaaaAbRegionB
import Derived.Test.YtllohgmahflpaaaAbPair
set_option linter.unusedSectionVars false
set_option linter.unusedSimpArgs false
set_option linter.unusedVariables false
namespace Ab
open Go
section
variable [Uni] [Cod]
variable {P : Program} {e : Env} {X Y : Cx} {h i : List Blk} {w w' : World} {o : Oper} {ρA : Operand → AV} {ρ : Operand → Value} {v : AV}

/-- What holds behind a region: the state stands for the frame and memory. -/
def After (X : Cx) (h : List Blk) (w : World) (ds : List Deferred) (s' : St) (Q : Exit → Act → World → Prop) : Prop :=
  ∀ a' w' X', a'.defers = ds → s'.tmps.length = a'.tmps.size → (∀ t av, s'.tmps[t]? = some av → RepV X' s'.heap w' av (a'.tmps.getD t undef)) → Good X h w X' s'.heap w' → Q .normal a' w'

theorem defers_put (a : Act) (d : Option Tmp) (v : Value) : (a.put d v).defers = a.defers := by cases d <;> rfl

/-- An operation carried out that leaves memory alone, then the rest. -/
theorem quiet_mono {a : Act} {C C' : World → Prop} {w2 : World} {cv : Value} (hh : ∀ w3, C w3 → C' w3) (hq : o.quietAt P a C w2 cv) : o.quietAt P a C' w2 cv := by
  unfold Oper.quietAt at *
  generalize (execOp a.eval o).run P w2 = r at *
  cases r with
  | ok n w' =>
    cases n <;> simp only [Oper.quietUpon] at hq ⊢ <;> try exact hq
    exact ⟨hq.1, hq.2.mono fun e w3 h => ⟨h.1, hh w3 h.2⟩⟩
  | halt x w' => exact hq

theorem doV {all : Array Oper} {a : Act} {o : Oper} {rest : List Oper} {Q : Exit → Act → World → Prop} {cv : Value} (hq : ∀ w2, Cls w w2 → o.quietAt P a (Cls w2) w2 cv)
    (hw : Region.wanted o (yielded all a.tmps) = true) (hK : ∀ w2, Cls w w2 → wpList P all Q rest (a.put o.dst cv) w2) : wpList P all Q (o :: rest) a w := by
  unfold wpList
  rw [if_pos hw]
  exact .inl (Oper.wp_of_quiet (C := Cls w) (K := fun a' => a' = a.put o.dst cv) (Cls.self w) (fun a' w' hc ha => by rw [ha]; exact hK w' hc) ⟨cv, fun w2 hc => quiet_mono (fun w3 h3 => hc.step h3) (hq w2 hc), rfl⟩)

theorem upon_goes {a : Act} {Q : Exit → Act → World → Prop} {next : Act → World → Prop} {h' : List Blk} {gr : Bool} {m : List Nat} (g : Goes P gr m X h w o a.eval v h')
    (hK : ∀ cv w' X', RepV X' h' w' v cv → Good X h w X' h' w' → (gr = true → Cls w w') → next (a.put o.dst cv) w') : o.wp P a w next Q := by
  unfold Oper.wp
  rcases g with ⟨⟨cv, w', X', hrun, hr, hg, hgr⟩, hgg⟩ | ⟨f, args, hrun, hcall⟩
  · rcases hrun with hrun | ⟨hrun, rfl⟩
    · rw [hrun]; exact hK cv w' X' hr hg (fun h => hgr (hgg.1 h))
    · rw [hrun]; exact hK undef w' X' hr hg (fun h => hgr (hgg.1 h))
  · rw [hrun]
    show Calls P f args w _
    refine hcall.mono fun en w' hen => ?_
    obtain ⟨⟨cv, X', rfl, hr, hg⟩, hgr, _⟩ := hen
    exact hK cv w' X' hr hg hgr

/-- A write leaves alone what the loads have read that it doesn't wait for. -/
def Fr (P : Program) (e : Env) (all r : List Oper) (o : Oper) (a : Act) (w : World) : Prop := isWr o = true → ∃ n w2, (execOp a.eval o).run P w = .ok n w2 ∧ (∀ f args, n ≠ .enter f args) ∧
  ∀ (i : Nat) (q : Oper) t x ad, all[i]? = some q → q.op = .load t (.tmp x) → r.any (sameD q) = false → dirW all o i = false → a.eval (.tmp x) = .pointer (some ad) → AgreeAt ad (e.T t).size w w2

theorem upon_goes2 {a : Act} {Q : Exit → Act → World → Prop} {next : Act → World → Prop} {h' : List Blk} {gr : Bool} {m : List Nat} (g : Goes P gr m X h w o a.eval v h')
    (hK : ∀ cv w' X', RepV X' h' w' v cv → Good X h w X' h' w' → (gr = true → Cls w w') → (((∃ n, (execOp a.eval o).run P w = .ok n w') ∧ isCv o = false) ∨ ((∃ f args, (execOp a.eval o).run P w = .ok (.enter f args) w) ∧ Ext (apartF X h w m) w w')) → next (a.put o.dst cv) w') : o.wp P a w next Q := by
  unfold Oper.wp
  rcases g with ⟨⟨cv, w', X', hrun, hr, hg, hgr⟩, hgg⟩ | ⟨f, args, hrun, hcall⟩
  · rcases hrun with hrun | ⟨hrun, rfl⟩
    · rw [hrun]; exact hK cv w' X' hr hg (fun h => hgr (hgg.1 h)) (.inl ⟨⟨_, hrun⟩, hgg.2⟩)
    · rw [hrun]; exact hK undef w' X' hr hg (fun h => hgr (hgg.1 h)) (.inl ⟨⟨_, hrun⟩, hgg.2⟩)
  · rw [hrun]
    show Calls P f args w _
    refine hcall.mono fun en w' hen => ?_
    obtain ⟨⟨cv, X', rfl, hr, hg⟩, hgr, hex⟩ := hen
    exact hK cv w' X' hr hg hgr (.inr ⟨⟨f, args, hrun⟩, hex⟩)

/-- What stepH comes to is what the machine does. -/
def FrC (P : Program) (e : Env) (all r : List Oper) (o : Oper) (a : Act) (w w3 : World) : Prop := isCv o = true →
  ∀ (i : Nat) (q : Oper) t x ad, all[i]? = some q → q.op = .load t (.tmp x) → r.any (sameD q) = false → dirW all o i = false → a.eval (.tmp x) = .pointer (some ad) → AgreeAt ad (e.T t).size w w3
def StepHOk (P : Program) (e : Env) : Prop := ∀ (dr fr : Bool) (all r : List Oper) (X : Cx) (h : List Blk) (w : World) (o : Oper) (a : Act) (ρA : Operand → AV) (v : AV) (h' : List Blk), RepO X h w ρA a.eval → RelH X h w → (stepG e dr fr all r o ρA h).eval = some (v, h') →
  Goes P (grD e o ρA) (reachC e o ρA h) X h w o a.eval v h' ∧ ((dr && isDyn o) = true → grD e o ρA = true) ∧ (fr = true → Fr P e all r o a w) ∧ (fr = true → ∀ w3, Ext (apartF X h w (reachC e o ρA h)) w w3 → FrC P e all r o a w w3)

/-- What making a block comes to. -/
def AllocRun (P : Program) (o : Oper) (vs : List Value) (t : TypeId) : Prop := ∀ (ev : Operand → Value) (w : World), (execOp ev o).run P w = .ok (.value (.pointer (some ⟨w.heap.size, 0, none⟩))) { w with heap := w.heap.push (.cells vs.toArray t) }

theorem isAl_spec {o : Oper} (h : isAl o = true) : ∃ t, o.op = .alloc t ∧ o.guard = none := by
  unfold isAl at h
  split at h
  · exact ⟨_, by assumption, by assumption⟩
  · cases h

theorem al_step {X : Cx} {h : List Blk} {w : World} {dr fr : Bool} {all r : List Oper} {t : TypeId} {o : Oper} {ρA : Operand → AV} {h0 : List Blk} {p : AV × List Blk} (hT : TAll P e) (ho : o.op = .alloc t) (hv : (stepG e dr fr all r o ρA h0).eval = some p) :
    ∃ z vs, p.2 = h0 ++ [.cells z] ∧ (∀ (Y : Cx) (i : List Blk) (w' : World) u, RepC Y i w' (.ptr h0.length 0) u → RepV Y i w' p.1 u) ∧ RepL X h w z vs ∧ AllocRun P o vs t := by
  unfold stepG at hv
  split at hv
  · simp [Res.eval] at hv
  unfold stepF at hv
  split at hv
  · simp [Res.eval] at hv
  rw [Res.eval_bind] at hv
  obtain ⟨q, hq, hv⟩ := Option.bind_eq_some_iff.mp hv
  unfold stepH at hq
  simp only [ho] at hq
  split at hq
  · simp [Res.eval] at hq
  rename_i z hne
  simp only [Res.eval, Option.some.injEq] at hq
  subst hq
  obtain ⟨ti, zv, hti, hzz, hrz, _⟩ := zero_info (X := X) (h := h) (w := w) hT (t := t) (fun h => hne h)
  refine ⟨_, _, ?_, ?_, hrz, fun ev w2 => ?_⟩
  · split at hv
    · simp only [bagO, ho] at hv
      split at hv <;> (simp only [Res.eval, Option.some.injEq] at hv; subst hv; rfl)
    · simp only [Res.eval, Option.some.injEq] at hv; subst hv; rfl
  · intro Y i w' u hu
    split at hv
    · simp only [bagO, ho] at hv
      split at hv
      · simp only [Res.eval, Option.some.injEq] at hv; subst hv
        show RepC Y i w' .top u
        exact .top hu.one
      · simp only [Res.eval, Option.some.injEq] at hv; subst hv; exact hu
    · simp only [Res.eval, Option.some.injEq] at hv; subst hv; exact hu
  · simp [execOp, ho, Instr.alloc, newVar, newRow, zeroValue, typeInfo, hti, hzz]

theorem putT_putT {s : St} {d d2 : Option Tmp} {v v2 : AV} {h1 h1' h2 : List Blk} : putT (putT s d v h1) d2 v2 h2 = putT (putT s d v h1') d2 v2 h2 := by
  cases d <;> cases d2 <;> rfl
theorem putT_heap {s : St} {d : Option Tmp} {v : AV} {h : List Blk} : (putT s d v h).heap = h := by cases d <;> rfl

/-- What making a slice of a known length comes to. -/
def MkRun (P : Program) (o : Oper) (vs : List Value) (t : TypeId) (n : Nat) : Prop := ∀ (a : Act) (w : World), (execOp a.eval o).run P w = .ok (.value (.slice (some ⟨w.heap.size, 0, none⟩) n n)) { w with heap := w.heap.push (.cells vs.toArray t) }

/-- How a list of operations is gone through, whatever is to be shown of it. -/
structure Drive (P : Program) (e : Env) (dr fr : Bool) (all : Array Oper) (X0 : Cx) (h0 : List Blk) (w0 : World) (ds : List Deferred) (s' : St) (D : List Oper → Act → World → Prop) : Prop where
  nil : ∀ a w X, a.defers = ds → s'.tmps.length = a.tmps.size → (∀ t av, s'.tmps[t]? = some av → RepV X s'.heap w av (a.tmps.getD t undef)) → Good X0 h0 w0 X s'.heap w → D [] a w
  val : ∀ o rest a w cv, isAl o = false → isNw e o = false → (∀ w2, Cls w w2 → o.quietAt P a (Cls w2) w2 cv) → (isSt o = true → ∀ w2, o.quietAt P a (Cls w2) w2 cv) → (∀ t x, o.op = .load t x → ∃ ad, a.eval x = .pointer (some ad) ∧ ∀ w2, AgreeAt ad (e.T t).size w w2 → o.quietAt P a (Cls w2) w2 cv) → Region.wanted o (yielded all a.tmps) = true → (∀ w2, Cls w w2 → D rest (a.put o.dst cv) w2) → D (o :: rest) a w
  two : dr = true → ∀ (o1 o2 : Oper) rest (a : Act) (w : World) t1 t2 (v1 v2 : List Value), o1.op = .alloc t1 → o2.op = .alloc t2 → o1.guard = none → o2.guard = none → (∀ d, o1.dst = some d → o2.dst ≠ some d) → pairable (o1 :: o2 :: rest) = true → AllocRun P o1 v1 t1 → AllocRun P o2 v2 t2 →
    (∀ w1 k1 k2, Cls w w1 → w.heap.size ≤ k1 → w.heap.size ≤ k2 → k1 ≠ k2 → w1.heap[k1]? = some (.cells v1.toArray t1 (0, 0)) → w1.heap[k2]? = some (.cells v2.toArray t2 (0, 0)) →
      D rest ((a.put o1.dst (.pointer (some ⟨k1, 0, none⟩))).put o2.dst (.pointer (some ⟨k2, 0, none⟩))) w1) → D (o1 :: o2 :: rest) a w
  two2 : dr = true → ∀ (o1 o2 : Oper) rest (a : Act) (w : World) (n : Nat) (t : TypeId) (vs : List Value) (X : Cx) (h h' : List Blk) (v : AV), pairable2 e (o1 :: o2 :: rest) = true → (∀ d, o1.dst = some d → o2.dst ≠ some d) → Region.wanted o1 (yielded all a.tmps) = true → (∀ cv, Region.wanted o2 (yielded all (a.put o1.dst cv).tmps) = true) → MkRun P o2 vs t n → RelH X h w →
    (∀ w1, Cls w w1 → ∃ m, Goes P true m X h w1 o1 a.eval v h') →
    (∀ cv w' X' k, RepV X' h' w' v cv → Good X h w X' h' w' → w.heap.size ≤ k → w'.heap[k]? = some (.cells vs.toArray t (0, 0)) → (∀ b q, ¬ foot X' h' b k q) → (∀ q, ¬ X'.F k q) →
      D rest ((a.put o1.dst cv).put o2.dst (.slice (some ⟨k, 0, none⟩) n n)) w') → D (o1 :: o2 :: rest) a w
  skip : ∀ o rest a w, Region.wanted o (yielded all a.tmps) = false → D rest (a.put o.dst undef) w → D (o :: rest) a w
  hp : ∀ (o : Oper) rest (a : Act) w, isVs e o = false → (dr = true → pairable (o :: rest) = false) → (dr = true → pairable2 e (o :: rest) = false) → Region.wanted o (yielded all a.tmps) = true → (∀ w1, Cls w w1 → ∃ X h v h' m, Goes P (grS e o || (dr && isDyn o)) m X h w1 o a.eval v h' ∧ (fr = true → Fr P e all.toList rest o a w1) ∧ (fr = true → ∀ w3, Ext (apartF X h w1 m) w1 w3 → FrC P e all.toList rest o a w1 w3) ∧ ∀ cv w' X', RepV X' h' w' v cv → Good X h w1 X' h' w' → D rest (a.put o.dst cv) w') → D (o :: rest) a w

theorem isNw_grS {e : Env} {o : Oper} (h : isNw e o = true) : grS e o = true := by
  unfold isNw at h
  unfold grS
  cases ho : o.op with
  | call c =>
    rw [ho] at h
    simp only at h ⊢
    cases hc : c.callee with
    | value f =>
      rw [hc] at h
      cases f with
      | func g =>
        dsimp only at h ⊢
        split at h <;> first | (cases h; done) | simp_all
      | _ => exact absurd h (by simp)
    | _ => exact absurd h (by simp [hc])
  | _ => exact absurd h (by simp [ho])

theorem isNw_isV {e : Env} {o : Oper} {s : St} {W : List (Tmp × List (Tmp × Bool) × AV)} {gs : List (Tmp × Bool)} (h : isNw e o = true) : isV e o (evO s W gs) = false := by
  unfold isNw at h
  unfold isV
  cases ho : o.op with
  | call c =>
    rw [ho] at h
    simp only at h ⊢
    cases hc : c.callee with
    | value f =>
      rw [hc] at h
      simp only at h ⊢
      cases f with
      | func g =>
        simp only [evO] at h ⊢
        split at h
        · rename_i sp hsp; simp [hsp]
        · rename_i ks sp hsp; simpa [hsp] using h
        · cases h
      | _ => exact absurd h (by simp)
    | _ => exact absurd h (by simp [hc])
  | _ => exact absurd h (by simp [ho])

theorem isMk_spec {e : Env} {o : Oper} (h : isMk e o = true) : ∃ t k n k' m, o.op = .makeSlice t (.const (.int k n)) (.const (.int k' m)) ∧ 0 < n ∧ ∀ d, o.dst = some d → e.fz.any (Nat.beq d) = false := by
  unfold isMk at h
  split at h
  · rename_i t k n k' m ho
    simp only [Bool.and_eq_true, decide_eq_true_eq] at h
    refine ⟨t, k, n, k', m, ho, h.1, fun d hd => ?_⟩
    rw [hd] at h
    simpa using h.2
  · cases h

theorem mk_step {X : Cx} {h : List Blk} {w : World} {dr fr : Bool} {all r : List Oper} {o : Oper} {ρA : Operand → AV} {h0 : List Blk} {p : AV × List Blk} (hT : TAll P e) (hm : isMk e o = true) (hρ : ∀ k n, ρA (.const (.int k n)) = .c (.int k n)) (hv : (stepG e dr fr all r o ρA h0).eval = some p) :
    ∃ z vs t n c, p.2 = h0 ++ [.cells z] ∧ p.1 = .c (.sl h0.length 0 n c) ∧ RepL X h w z vs ∧ MkRun P o vs t n := by
  obtain ⟨t, k, n, k', m, ho, hn, hfz⟩ := isMk_spec hm
  unfold stepG at hv
  split at hv
  · simp [Res.eval] at hv
  unfold stepF at hv
  split at hv
  · simp [Res.eval] at hv
  rw [Res.eval_bind] at hv
  obtain ⟨q, hq, hv⟩ := Option.bind_eq_some_iff.mp hv
  have hqp : q = p := by
    split at hv
    · rename_i d hd
      rw [hfz d hd] at hv
      simpa [bagO, ho, Res.eval] using hv
    · simpa [Res.eval] using hv
  subst hqp
  unfold stepH at hq
  simp only [ho, hρ] at hq
  split at hq
  case h_2 => simp [Res.eval] at hq
  rename_i el c k1 n1 k2 m1 hsh hxa hya
  cases hxa
  cases hya
  split at hq
  case isFalse => simp [Res.eval] at hq
  rename_i hc
  simp only [Bool.and_eq_true, Nat.ble_eq, Nat.beq_eq] at hc
  obtain ⟨hc1, hc2⟩ := hc
  rw [Res.eval_br] at hq
  cases hb : (decide (0 ≤ n) && decide (n = m) && decide (((e.T el).bytes : Int) * m ≤ 281474976710656) && decide (m ≤ 9223372036854775807)) with
  | false => rw [hb] at hq; simp [Res.eval] at hq
  | true =>
  rw [hb] at hq
  simp only [cond_true] at hq
  simp only [Bool.and_eq_true, decide_eq_true_eq] at hb
  obtain ⟨⟨⟨hb1, hb2⟩, hb3⟩, hb4⟩ := hb
  subst hb2
  obtain ⟨d, hd, _, hs'⟩ := (hT t (Env.lt_of_sh hsh (by simp))).und
  rw [hsh] at hs'; simp only at hs'; subst hs'
  have hne : (e.T el).zero ≠ [] := by intro h; rw [h] at hc2; simp at hc2; omega
  obtain ⟨ie, zv, hie, hzz, hrz, _⟩ := zero_info (X := X) (h := h) (w := w) hT hne
  obtain ⟨ie', hie', hsz, hby⟩ := (hT el (Env.lt_of_zero hne)).info
  rw [hie] at hie'; simp at hie'; subst hie'
  have hzs : zv.cells.size = ie.size := by rw [← Array.length_toList, ← hrz.len, hc2, hsz]
  have hz0 : RepL X h w (List.replicate n.toNat (e.T el).zero).flatten (madeCells zv.cells (n.toNat * ie.size)).toList := by
    unfold madeCells
    rw [← hzs, range_mod _ (by omega)]
    exact rep_replicate hrz n.toNat
  have run : ∀ (ρ : Operand → Value) (w : World), (∀ k n, ρ (.const (.int k n)) = .int k n) → (execOp ρ o).run P w = .ok (.value (.slice (some ⟨w.heap.size, 0, none⟩) n.toNat n.toNat)) { w with heap := w.heap.push (.cells (madeCells zv.cells (n.toNat * ie.size)).toList.toArray el) } := by
    intro ρ w hρ'
    have hr := run_make (P := P) w t el ie zv hd hie hzz k k' n n hb1 (Int.le_refl _) (by rw [hby]; exact hb3) hb4
    simp only [execOp, ho, hρ', Sem.run_bind, hr, Result.andThen_ok, Sem.run_pure, Array.toArray_toList]
    rfl
  cases hq2 : n.toNat with
  | zero => omega
  | succ q =>
    rw [hq2] at hq hz0 run
    simp only [Res.eval, Option.some.injEq] at hq
    subst hq
    exact ⟨_, _, el, q + 1, _, rfl, rfl, hz0, fun a w => run a.eval w (fun _ _ => rfl)⟩

theorem grS_grD {e : Env} {o : Oper} {s : St} {W : List (Tmp × List (Tmp × Bool) × AV)} {gs : List (Tmp × Bool)} (h : grS e o = true) : grD e o (evO s W gs) = true := by
  unfold grS at h
  unfold grD
  cases ho : o.op with
  | call c =>
    rw [ho] at h
    simp only at h ⊢
    cases hc : c.callee with
    | value f =>
      rw [hc] at h
      simp only at h ⊢
      cases f with
      | func g => exact h
      | _ => simp at h
    | builtin b => cases b <;> first | rfl | (rw [hc] at h; simp at h; done)
    | _ => rw [hc] at h; simp at h
  | _ => first | rfl | (rw [ho] at h; simp at h; done)

theorem Goes.less {gr gr' : Bool} {m : List Nat} {h' : List Blk} (hg : gr' = true → gr = true) (g : Goes P gr m X h w o ρ v h') : Goes P gr' m X h w o ρ v h' := by
  rcases g with ⟨h1, h2⟩ | ⟨f, args, h1, h2⟩
  · exact .inl ⟨h1, fun h => h2.1 (hg h), h2.2⟩
  · exact .inr ⟨f, args, h1, h2.mono fun en w3 h3 => ⟨h3.1, fun h => h3.2.1 (hg h), h3.2.2⟩⟩

theorem isVs_isV {e : Env} {o : Oper} {s : St} {W : List (Tmp × List (Tmp × Bool) × AV)} {gs : List (Tmp × Bool)} (h : isVs e o = true) : isV e o (evO s W gs) = true := by
  unfold isVs at h
  unfold isV
  cases ho : o.op with
  | call c =>
    rw [ho] at h
    simp only at h ⊢
    cases hc : c.callee with
    | value f =>
      rw [hc] at h
      simp only at h ⊢
      cases f with
      | func g =>
        simp only [evO] at h ⊢
        split at h
        · rename_i sp hsp; simp [hsp]
        · rename_i ks sp hsp; simp [hsp]
        · rename_i ks sp hsp; simpa [hsp] using h
        · simp at h
      | _ => simp at h
    | invoke r m => rfl
    | builtin b => (cases b <;> first | rfl | (rw [hc] at h; exact h) | (rw [hc] at h; simp at h; done))
  | convert s d x => rw [ho] at h; exact h
  | slice t x lo hi mx => rw [ho] at h; exact h
  | _ => first | rfl | (rw [ho] at h; simp at h; done)

theorem ops_ok (hT : TAll P e) (hC : CallsOk P e) (hS : StepHOk P e) {dr fr : Bool} (all : Array Oper) {X0 : Cx} {h0 : List Blk} {w0 : World} {ds : List Deferred} {s' : St} {D : List Oper → Act → World → Prop} (hD : Drive P e dr fr all X0 h0 w0 ds s' D) :
    ∀ (r : List Oper) (g : Rg) (s : St) (a : Act) (w : World) (X : Cx) (seen : List Tmp), wfGo all.toList seen r = true → Inv X w g s a.tmps seen → Good X0 h0 w0 X s.heap w → a.defers = ds →
      (opsR e dr fr all.toList r g s).eval = some s' → D r a w
  | [], g, s, a, w, X, seen, hwf, iv, hg, hd, hv => by
    simp only [opsR, Res.eval, Option.some.injEq] at hv; subst hv
    exact hD.nil a w X hd iv.len iv.tmp hg
  | o :: r, g, s, a, w, X, seen, hwf, iv, hg, hd, hv => by
    obtain ⟨wf1, wf2, wf3⟩ := wfGo_cons hwf
    have hG : ∀ p ∈ g.G, a.tmps.getD p.1 undef = .bool p.2 := fun p hp => (iv.G p hp).2
    by_cases hpair : dr = true ∧ pairable (o :: r) = true
    · obtain ⟨hdr, hpr⟩ := hpair
      cases r with
      | nil => simp [pairable] at hpr
      | cons o2 r2 =>
      have hpr' := hpr
      simp only [pairable, Bool.and_eq_true] at hpr'
      obtain ⟨t1, ho1, hg1⟩ := isAl_spec hpr'.1.1
      obtain ⟨t2, ho2, hg2⟩ := isAl_spec hpr'.1.2
      obtain ⟨wf1', wf2', wf3'⟩ := wfGo_cons wf3
      have iv1 : ∀ (s2 : St) (W : List (Tmp × List (Tmp × Bool) × AV)) gs, isV e o (evO s2 W gs) = false := fun s2 W gs => by simp [isV, ho1]
      have iv2 : ∀ (s2 : St) (W : List (Tmp × List (Tmp × Bool) × AV)) gs, isV e o2 (evO s2 W gs) = false := fun s2 W gs => by simp [isV, ho2]
      unfold opsR at hv
      rw [hg1] at hv
      simp only [iv1, Bool.false_eq_true, if_false] at hv
      rw [Res.eval_bind] at hv
      obtain ⟨p1, hp1, hv⟩ := Option.bind_eq_some_iff.mp hv
      unfold opsR at hv
      rw [hg2] at hv
      simp only [iv2, Bool.false_eq_true, if_false] at hv
      rw [Res.eval_bind] at hv
      obtain ⟨p2, hp2, hv⟩ := Option.bind_eq_some_iff.mp hv
      obtain ⟨z1, v1, e1, rv1, rz1, run1⟩ := al_step (X := X) (h := s.heap) (w := w) hT ho1 hp1
      obtain ⟨z2, v2, e2, rv2, rz2, run2⟩ := al_step (X := X) (h := s.heap) (w := w) hT ho2 hp2
      rw [putT_heap] at e2 rv2
      have hlen : p1.2.length = s.heap.length + 1 := by rw [e1]; simp
      have hdd : ∀ d, o.dst = some d → o2.dst ≠ some d := fun d h1 h2 => by
        have := wf2' d h2
        rw [h1] at this
        exact this (by simp [seenWith])
      refine hD.two hdr o o2 r2 a w t1 t2 v1 v2 ho1 ho2 hg1 hg2 hdd hpr run1 run2 (fun w1 k1 k2 hc hk1 hk2 hne hw1 hw2 => ?_)
      have hb1 := Good.below hg.rel hc
      obtain ⟨Y, hgY, rc1, rc2⟩ := pair_good hg.rel hb1 hk1 hk2 hne hw1 hw2 rz1 rz2
      have e2' : p2.2 = s.heap ++ [.cells z1] ++ [.cells z2] := by rw [e2, e1]
      rw [← e2'] at hgY rc1 rc2
      rw [← hlen] at rc2
      refine ops_ok hT hC hS all hD r2 g _ _ w1 Y _ wf3' ?_ ?_ (by rw [defers_put, defers_put]; exact hd) hv
      · rw [putT_putT (h1' := p2.2)]
        have i1 := iv.putO (Y := Y) (w' := w1) wf2 (i := p2.2) hgY.mono (hgY.extF hg.rel) (cv := .pointer (some ⟨k1, 0, none⟩)) (v := p1.1) (rv1 _ _ _ _ rc1)
        exact i1.putO (Y := Y) (w' := w1) wf2' (i := p2.2) (by rw [putT_heap]; exact Mono.refl Y p2.2) (Ext.refl _ w1) (cv := .pointer (some ⟨k2, 0, none⟩)) (v := p2.1) (rv2 _ _ _ _ rc2)
      · rw [putT_heap]; exact hg.trans hgY
    have hnp : dr = true → pairable (o :: r) = false := fun hdr => by
      cases hp : pairable (o :: r) with
      | false => rfl
      | true => exact absurd ⟨hdr, hp⟩ hpair
    -- carried out, in a state and under known tests
    have exec : ∀ (g2 : Rg) (s2 : St) (gs : List (Tmp × Bool)), s2.heap = s.heap → Inv X w g2 s2 a.tmps seen → (∀ p ∈ gs, a.tmps.getD p.1 undef = .bool p.2) → Region.wanted o (yielded all a.tmps) = true → (o.guard = none ∨ ∃ j want t, o.guard = some (j, want) ∧ dstOf all.toList j = some t ∧ memB (t, want) g2.G = true) →
        (if isV e o (evO s2 g2.W gs) then (stepP e o s2 g2.W gs s.heap).bind fun v => opsR e dr fr all.toList r g2 (putT s2 o.dst v s.heap)
          else (stepG e dr fr all.toList r o (evO s2 g2.W gs) s.heap).bind fun p => opsR e dr fr all.toList r g2 (putT s2 o.dst p.1 p.2)).eval = some s' → D (o :: r) a w := by
      intro g2 s2 gs hh iv2 hgs hw hgm hv2
      have hρ := evO_ok (ds := a.defers) iv2 hgs
      rw [hh] at hρ
      split at hv2
      · rename_i hiv
        rw [Res.eval_bind] at hv2
        obtain ⟨v, hv3, hv4⟩ := Option.bind_eq_some_iff.mp hv2
        rw [← hh] at hv3
        obtain ⟨cv, hr, hq, hst, hld⟩ := stepP_ok (a := a) hT hC iv2 hgs (by rw [hh]; exact hg.rel) hv3
        rw [hh] at hr
        have hna : isAl o = false := by
          cases ha : isAl o with
          | false => rfl
          | true =>
            obtain ⟨t, ho, _⟩ := isAl_spec ha
            simp [isV, ho] at hiv
        have hnn : isNw e o = false := by
          cases ha : isNw e o with
          | false => rfl
          | true => rw [isNw_isV ha] at hiv; cases hiv
        refine hD.val o r a w cv hna hnn hq hst hld hw (fun w2 hc => ?_)
        have hb := Good.below hg.rel hc
        refine ops_ok hT hC hS all hD r g2 _ _ w2 X _ wf3 ?_ ?_ (by rw [defers_put]; exact hd) hv4
        · have := iv2.putO (Y := X) (w' := w2) wf2 (i := s.heap) (by rw [hh]; exact hb.mono) (hb.extF hg.rel) (cv := cv) (v := v) (RepV.mono hb.mono (hb.extF hg.rel) hr)
          exact this
        · have : (putT s2 o.dst v s.heap).heap = s.heap := by unfold putT; split <;> rfl
          rw [this]; exact hg.trans hb
      · rw [Res.eval_bind] at hv2
        obtain ⟨p, hv3, hv4⟩ := Option.bind_eq_some_iff.mp hv2
        have hnv : isVs e o = false := by
          cases hvs : isVs e o with
          | false => rfl
          | true => rename_i hn; exact absurd (isVs_isV hvs) hn
        by_cases hpair2 : dr = true ∧ pairable2 e (o :: r) = true
        · obtain ⟨hdr, hpr⟩ := hpair2
          cases r with
          | nil => simp [pairable2] at hpr
          | cons o2 r2 =>
          have hpr' := hpr
          simp only [pairable2, Bool.and_eq_true, decide_eq_true_eq] at hpr'
          obtain ⟨⟨hnw, hmk⟩, hgg⟩ := hpr'
          obtain ⟨wf1', wf2', wf3'⟩ := wfGo_cons wf3
          have iv0 : ∀ (s2 : St) (W : List (Tmp × List (Tmp × Bool) × AV)) gs, isV e o2 (evO s2 W gs) = false := fun s2 W gs => by
            obtain ⟨t, k, n, k', m, ho, _, _⟩ := isMk_spec hmk
            simp [isV, ho]
          have hv5 : ∃ p2, (stepG e dr fr all.toList r2 o2 (evO (putT s2 o.dst p.1 p.2) g2.W g2.G) p.2).eval = some p2 ∧ (opsR e dr fr all.toList r2 g2 (putT (putT s2 o.dst p.1 p.2) o2.dst p2.1 p2.2)).eval = some s' := by
            rcases hgm with hgm | ⟨j, want, t, hgm, hj, hmem⟩
            · have hg2 : o2.guard = none := by rw [← hgg]; exact hgm
              unfold opsR at hv4
              rw [hg2] at hv4
              dsimp only at hv4
              rw [iv0] at hv4
              simp only [Bool.false_eq_true, if_false] at hv4
              rw [Res.eval_bind] at hv4
              obtain ⟨p2, hp2, hv5⟩ := Option.bind_eq_some_iff.mp hv4
              rw [putT_heap] at hp2
              exact ⟨p2, hp2, hv5⟩
            · have hg2 : o2.guard = some (j, want) := by rw [← hgg]; exact hgm
              unfold opsR at hv4
              rw [hg2] at hv4
              simp only [hj, hmem, if_true] at hv4
              rw [iv0] at hv4
              simp only [Bool.false_eq_true, if_false] at hv4
              rw [Res.eval_bind] at hv4
              obtain ⟨p2, hp2, hv5⟩ := Option.bind_eq_some_iff.mp hv4
              rw [putT_heap] at hp2
              exact ⟨p2, hp2, hv5⟩
          obtain ⟨p2, hp2, hv5⟩ := hv5
          obtain ⟨z, vs, t, n, c, e2, e1, rz, run⟩ := mk_step (X := X) (h := s.heap) (w := w) hT hmk (fun k n => rfl) hp2
          have hdd : ∀ d, o.dst = some d → o2.dst ≠ some d := fun d h1 h2 => by
            have := wf2' d h2
            rw [h1] at this
            exact this (by simp [seenWith])
          have hrep : ∀ w1, Cls w w1 → RepO X s.heap w1 (evO s2 g2.W gs) a.eval := fun w1 hc1 => by
            have hb1 := Good.below hg.rel hc1
            have iv3 : Inv X w1 g2 s2 a.tmps seen := iv2.more (Y := X) (w' := w1) (i := s2.heap) (seen' := seen) (Mono.refl X s2.heap) (hb1.extF hg.rel) (fun _ h => h)
            have hρ1 := evO_ok (ds := a.defers) iv3 hgs
            rw [hh] at hρ1
            exact hρ1
          have hw2 : ∀ cv, Region.wanted o2 (yielded all (a.put o.dst cv).tmps) = true := fun cv => by
            rcases hgm with hgm | ⟨j, want, t, hgm, hj, hmem⟩
            · exact wanted_none (by rw [← hgg]; exact hgm)
            · rw [wanted_guard (tm := (a.put o.dst cv).tmps) (by rw [← hgg]; exact hgm) hj]
              have h1 := (wanted_guard (tm := a.tmps) hgm hj).mp hw
              obtain ⟨t', hj', ht'⟩ := wf1 j want hgm
              rw [hj] at hj'; cases hj'
              cases hod : o.dst with
              | none => exact h1
              | some d =>
                have hne : d ≠ t := fun hh => wf2 d hod (by rw [hh]; exact ht')
                show (a.tmps.setIfInBounds d cv).getD t undef = _
                rw [getD_set, if_neg (fun hh => hne hh.1.symm)]
                exact h1
          refine hD.two2 hdr o o2 r2 a w n t vs X s.heap p.2 p.1 hpr hdd hw hw2 run hg.rel (fun w1 hc1 => ?_) (fun cv w' X' k hrv hgd hk hob hno hF => ?_)
          · have hb1 := Good.below hg.rel hc1
            have hgo := hS dr fr all.toList (o2 :: r2) X s.heap w1 o a _ p.1 p.2 (hrep w1 hc1) hb1.rel hv3
            exact ⟨_, hgo.1.less (fun _ => grS_grD (isNw_grS hnw))⟩
          · have hg3 := hgd.adopt hg.rel hk hob (rz.mono hgd.mono (hgd.extF hg.rel)) hno hF
            have m3 := mono_push (X := X') (h := p.2) (bl := .cells z) k True
            have rc : RepC (X'.push p.2.length k True) (p.2 ++ [.cells z]) w' (.sl p.2.length 0 n c) (.slice (some ⟨k, 0, none⟩) n n) := by
              have := @RepC.sl _ _ (X'.push p.2.length k True) (p.2 ++ [.cells z]) w' p.2.length 0 n c n (by simp) (Nat.le_refl _)
              rw [show (X'.push p.2.length k True).addr p.2.length 0 = ⟨k, 0, none⟩ by simp [Cx.addr, Cx.push]] at this
              exact this
            rw [← e2] at hg3 rc m3
            refine ops_ok hT hC hS all hD r2 g2 _ _ w' (X'.push p.2.length k True) _ wf3' ?_ ?_ (by rw [defers_put, defers_put]; exact hd) hv5
            · have i1 := iv2.putO (Y := X') (w' := w') wf2 (i := p.2) (by rw [hh]; exact hgd.mono) (hgd.extF hg.rel) (cv := cv) (v := p.1) hrv
              have hpt : (putT s2 o.dst p.1 p.2).heap = p.2 := putT_heap
              exact i1.putO (X := X') (Y := X'.push p.2.length k True) (w := w') (w' := w') wf2' (i := p2.2) (by rw [hpt]; exact m3) (Ext.refl _ w') (cv := .slice (some ⟨k, 0, none⟩) n n) (v := p2.1) (by rw [e1]; exact rc)
            · rw [putT_heap]; exact hg.trans hg3
        have hnp2 : dr = true → pairable2 e (o :: r) = false := fun hdr => by
          cases hp : pairable2 e (o :: r) with
          | false => rfl
          | true => exact absurd ⟨hdr, hp⟩ hpair2
        refine hD.hp o r a w hnv hnp hnp2 hw (fun w1 hc1 => ?_)
        have hb1 := Good.below hg.rel hc1
        have iv3 : Inv X w1 g2 s2 a.tmps seen := by
          have := iv2.more (Y := X) (w' := w1) (i := s2.heap) (seen' := seen) (Mono.refl X s2.heap) (hb1.extF hg.rel) (fun _ h => h)
          exact this
        have hρ1 := evO_ok (ds := a.defers) iv3 hgs
        rw [hh] at hρ1
        have hgo := hS dr fr all.toList r X s.heap w1 o a _ p.1 p.2 hρ1 hb1.rel hv3
        refine ⟨X, s.heap, p.1, p.2, _, hgo.1.less (fun hh => by
          rcases Bool.or_eq_true_iff.mp hh with hh | hh
          · exact grS_grD hh
          · exact hgo.2.1 hh), hgo.2.2.1, hgo.2.2.2, fun cv w2 X2 hr hgd => ?_⟩
        refine ops_ok hT hC hS all hD r g2 _ _ w2 X2 _ wf3 ?_ ?_ (by rw [defers_put]; exact hd) hv4
        · exact iv3.putO (Y := X2) (w' := w2) wf2 (i := p.2) (by rw [hh]; exact hgd.mono) (hgd.extF hb1.rel) hr
        · have : (putT s2 o.dst p.1 p.2).heap = p.2 := by unfold putT; split <;> rfl
          rw [this]; exact (hg.trans hb1).trans hgd
    -- left out
    have skip : ∀ (g2 : Rg) (s2 : St), s2.heap = s.heap → Inv X w g2 s2 a.tmps seen → Region.wanted o (yielded all a.tmps) = false →
        (opsR e dr fr all.toList r g2 (putT s2 o.dst .top s.heap)).eval = some s' → D (o :: r) a w := by
      intro g2 s2 hh iv2 hw hv2
      refine hD.skip o r a w hw ?_
      refine ops_ok hT hC hS all hD r g2 _ _ w X _ wf3 ?_ ?_ (by rw [defers_put]; exact hd) hv2
      · exact iv2.putO (Y := X) (w' := w) wf2 (i := s.heap) (by rw [hh]; exact Mono.refl X s.heap) (Ext.refl _ w) (cv := undef) (v := .top) trivial
      · have : (putT s2 o.dst .top s.heap).heap = s.heap := by unfold putT; split <;> rfl
        rw [this]; exact hg
    unfold opsR at hv
    split at hv
    · rename_i hgd
      exact exec g s g.G rfl iv hG (wanted_none hgd) (.inl hgd) hv
    · rename_i j want hgd
      obtain ⟨t, hj, ht⟩ := wf1 j want hgd
      rw [hj] at hv
      simp only at hv
      have hwt := wanted_guard (tm := a.tmps) hgd hj
      split at hv
      · rename_i hm
        exact exec g s g.G rfl iv hG (hwt.mpr (hG _ (memB_mem hm))) (.inr ⟨j, want, t, hgd, hj, hm⟩) hv
      · split at hv
        · rename_i hm
          have h1 := hG _ (memB_mem hm)
          simp only at h1
          refine skip g s rfl iv ?_ hv
          have : ¬ Region.wanted o (yielded all a.tmps) = true := by
            rw [hwt, h1]; cases want <;> simp
          simpa using this
        · split at hv
          · -- carried out just where the test holds; its value is kept with its conditions
            rename_i d v h1 h2 h3
            split at hv
            case h_1 => simp [Res.eval] at hv
            rename_i av0 hav0
            have hdl : d < a.tmps.size := by rw [← iv.len]; exact lt_of_list hav0
            have hcs := fun b hb => conds_ok iv (t := t) (b := b) hb
            by_cases hwanted : a.tmps.getD t undef = .bool want
            · have hgs : ∀ p ∈ (t, want) :: ((condsW t g.W).getD [] ++ g.G), a.tmps.getD p.1 undef = .bool p.2 := by
                intro p hp
                rcases List.mem_cons.mp hp with rfl | hp
                · exact hwanted
                · rcases List.mem_append.mp hp with hp | hp
                  · exact (hcs want hwanted p hp).2
                  · exact hG p hp
              have hρ := evO_ok (ds := a.defers) iv hgs
              obtain ⟨cv, hr, hq, hst, hld⟩ := stepP_ok (a := a) (v := v) hT hC iv hgs hg.rel (by rw [h3]; rfl)
              have hna : isAl o = false := by
                cases ha : isAl o with
                | false => rfl
                | true =>
                  obtain ⟨_, _, hgn⟩ := isAl_spec ha
                  rw [hgd] at hgn; cases hgn
              have hnn : isNw e o = false := by
                cases ha : isNw e o with
                | false => rfl
                | true => rw [isNw_isV ha] at h1; cases h1
              refine hD.val o r a w cv hna hnn hq hst hld (hwt.mpr hwanted) (fun w2 hc => ?_)
              have hb := Good.below hg.rel hc
              have ivp := iv.put (Y := X) (w' := w2) (wf2 d h2) (i := s.heap) hb.mono (hb.extF hg.rel) (cv := cv) (v := .top) trivial
              have hseen : seenWith seen o.dst = d :: seen := by rw [h2]; rfl
              rw [h2] at wf3 ⊢
              refine ops_ok hT hC hS all hD r ⟨g.G, (d, (t, want) :: (condsW t g.W).getD [], v) :: g.W⟩ _ _ w2 X (d :: seen) wf3 ?_ ?_ hd hv
              · refine ⟨ivp.len, ivp.tmp, ivp.G, fun q hq => ?_⟩
                rcases List.mem_cons.mp hq with rfl | hq
                · have hdt : d ≠ t := fun hh => wf2 d h2 (hh ▸ ht)
                  refine ⟨by simp, fun p hp => ?_, fun _ => ?_, fun hno => ?_⟩
                  · rcases List.mem_cons.mp hp with rfl | hp
                    · exact List.mem_cons_of_mem _ ht
                    · exact List.mem_cons_of_mem _ (hcs want hwanted p hp).1
                  · show RepV X s.heap w2 v ((a.tmps.setIfInBounds d cv).getD d undef)
                    rw [getD_set]
                    rw [if_pos ⟨rfl, hdl⟩]; exact RepV.mono hb.mono (hb.extF hg.rel) hr
                  · exfalso
                    apply hno
                    intro p hp
                    show (a.tmps.setIfInBounds d cv).getD p.1 undef = .bool p.2
                    have hp' : p.1 ∈ seen ∧ a.tmps.getD p.1 undef = .bool p.2 := by
                      rcases List.mem_cons.mp hp with rfl | hp
                      · exact ⟨ht, hwanted⟩
                      · exact hcs want hwanted p hp
                    rw [getD_set, if_neg (fun (hh : p.1 = d ∧ d < a.tmps.size) => wf2 d h2 (hh.1 ▸ hp'.1))]
                    exact hp'.2
                · exact ivp.W q hq
              · exact hg.trans hb
            · have hnw : Region.wanted o (yielded all a.tmps) = false := by
                have : ¬ Region.wanted o (yielded all a.tmps) = true := by rw [hwt]; exact hwanted
                simpa using this
              refine hD.skip o r a w hnw ?_
              have ivp := iv.put (Y := X) (w' := w) (wf2 d h2) (i := s.heap) (Mono.refl X s.heap) (Ext.refl _ w) (cv := undef) (v := .top) trivial
              rw [h2] at wf3 ⊢
              refine ops_ok hT hC hS all hD r ⟨g.G, (d, (t, want) :: (condsW t g.W).getD [], v) :: g.W⟩ _ _ w X (d :: seen) wf3 ?_ ?_ hd hv
              · refine ⟨ivp.len, ivp.tmp, ivp.G, fun q hq => ?_⟩
                rcases List.mem_cons.mp hq with rfl | hq
                · have hdt : d ≠ t := fun hh => wf2 d h2 (hh ▸ ht)
                  have hcs' : ∀ p ∈ (condsW t g.W).getD [], p.1 ∈ seen := by
                    intro p hp
                    cases hc : condsW t g.W with
                    | none => rw [hc] at hp; simp at hp
                    | some cs =>
                      rw [hc] at hp; simp at hp
                      obtain ⟨v', hm⟩ := condsW_mem hc
                      exact (iv.W _ hm).2.1 p hp
                  refine ⟨by simp, fun p hp => ?_, fun hall => ?_, fun _ => ?_⟩
                  · rcases List.mem_cons.mp hp with rfl | hp
                    · exact List.mem_cons_of_mem _ ht
                    · exact List.mem_cons_of_mem _ (hcs' p hp)
                  · exfalso
                    apply hwanted
                    have := hall (t, want) (by simp)
                    change (a.tmps.setIfInBounds d undef).getD t undef = _ at this
                    rw [getD_set, if_neg (fun (hh : t = d ∧ d < a.tmps.size) => hdt hh.1.symm)] at this
                    exact this
                  · show (a.tmps.setIfInBounds d undef).getD d undef = undef
                    rw [getD_set, if_pos ⟨rfl, hdl⟩]
                · exact ivp.W q hq
              · exact hg
          · split at hv
            · simp [Res.eval] at hv
            · rename_i b hb
              rw [Res.eval_br] at hv
              have hbt := wantB_ok iv hb
              cases b with
              | true =>
                have ht' := hbt.mp rfl
                have hgs : ∀ p ∈ (t, want) :: ((condsW t g.W).getD [] ++ g.G), a.tmps.getD p.1 undef = .bool p.2 := by
                  intro p hp
                  rcases List.mem_cons.mp hp with rfl | hp
                  · exact ht'
                  · rcases List.mem_append.mp hp with hp | hp
                    · exact (conds_ok iv ht' p hp).2
                    · exact hG p hp
                have iv2 : Inv X w ⟨(t, want) :: ((condsW t g.W).getD [] ++ g.G), g.W⟩ (setLit s t want) a.tmps seen := by
                  have := iv.lit ht'
                  refine ⟨this.len, this.tmp, fun p hp => ?_, this.W⟩
                  refine ⟨?_, hgs p hp⟩
                  rcases List.mem_cons.mp hp with rfl | hp
                  · exact ht
                  · rcases List.mem_append.mp hp with hp | hp
                    · exact (conds_ok iv ht' p hp).1
                    · exact (iv.G p hp).1
                simp only [cond_true] at hv
                exact exec ⟨(t, want) :: ((condsW t g.W).getD [] ++ g.G), g.W⟩ (setLit s t want) _ rfl iv2 hgs (hwt.mpr ht') (.inr ⟨j, want, t, hgd, hj, by simp [memB]⟩) hv
              | false =>
                have hnt : ¬ a.tmps.getD t undef = .bool want := fun hh => by have := hbt.mpr hh; simp at this
                have hnw : Region.wanted o (yielded all a.tmps) = false := by
                  have : ¬ Region.wanted o (yielded all a.tmps) = true := by rw [hwt]; exact hnt
                  simpa using this
                simp only [cond_false] at hv
                split at hv
                · rename_i hcs
                  -- the test has no conditions: it is the other truth value
                  have hval : a.tmps.getD t undef = .bool (!want) := by
                    unfold wantB at hb
                    rw [hcs] at hb
                    simp only [holdsAll] at hb
                    split at hb
                    · rename_i b' x hv1 hx1
                      simp at hx1; subst hx1
                      simp at hb
                      have hr : a.tmps.getD t undef = .bool b' := by
                        cases hs : s.tmps[t]? with
                        | none =>
                          rw [List.getD_eq_getElem?_getD, hs] at hv1
                          simp only [Option.getD_none] at hv1
                          have := lookW_ok (X := X) (h := s.heap) (w := w) (t := t) (gs := []) (tm := a.tmps) (by simp) (W := g.W) (fun q hq => (iv.W q hq).2.2.1)
                          rw [hv1] at this
                          exact repC_bool this
                        | some av =>
                          rw [List.getD_eq_getElem?_getD, hs] at hv1
                          have h1 := iv.tmp t av hs
                          simp only [Option.getD_some] at hv1
                          cases av with
                          | top =>
                            have := lookW_ok (X := X) (h := s.heap) (w := w) (t := t) (gs := []) (tm := a.tmps) (by simp) (W := g.W) (fun q hq => (iv.W q hq).2.2.1)
                            simp only at hv1
                            rw [hv1] at this
                            exact repC_bool this
                          | c y => simp only [AV.c.injEq] at hv1; subst hv1; exact repC_bool h1
                          | agg l => simp at hv1
                          | tup l => simp at hv1
                      rw [hr]
                      cases want <;> cases b' <;> simp at hb ⊢
                    · simp at hb
                  have iv2 : Inv X w ⟨(t, !want) :: g.G, g.W⟩ (setLit s t (!want)) a.tmps seen := by
                    have := iv.lit hval
                    refine ⟨this.len, this.tmp, fun p hp => ?_, this.W⟩
                    rcases List.mem_cons.mp hp with rfl | hp
                    · exact ⟨ht, hval⟩
                    · exact iv.G p hp
                  exact skip ⟨(t, !want) :: g.G, g.W⟩ (setLit s t (!want)) rfl iv2 hnw hv
                · exact skip g s rfl iv hnw hv

/-- A region in the order of its text. -/
theorem region_ok (hT : TAll P e) (hC : CallsOk P e) (hS : StepHOk P e) {id : Nat} {ops : Array Oper} {s s' : St} {a : Act} {Q : Exit → Act → World → Prop} (hwf : wfGo ops.toList [] ops.toList = true)
    (hl : s.tmps.length = a.tmps.size) (ht : ∀ t av, s.tmps[t]? = some av → RepV X s.heap w av (a.tmps.getD t undef)) (hH : RelH X s.heap w)
    (hv : (opsR e false false ops.toList ops.toList ⟨[], []⟩ s).eval = some s') (hQ : After X s.heap w a.defers s' Q) : (Code.region id ops false).wp P Q a w := by
  refine wp_region_list (ops_ok hT hC hS ops (X0 := X) (h0 := s.heap) (w0 := w) (ds := a.defers) (s' := s') (D := wpList P ops Q) ⟨fun a' w' X' h1 h2 h3 h4 => hQ a' w' X' h1 h2 h3 h4, fun o rest a w cv _ _ hq _ _ hw hK => doV hq hw hK, fun h => (by cases h), fun h => (by cases h), fun o rest a w hw hK => ?_, fun o rest a w _ _ _ hw hK => ?_⟩
    ops.toList ⟨[], []⟩ s a w X [] hwf ⟨hl, ht, fun p hp => by simp at hp, fun q hq => by simp at hq⟩ (Good.refl hH) rfl hv)
  · unfold wpList
    rw [if_neg (by rw [hw]; simp)]; exact hK
  · unfold wpList
    rw [if_pos hw]
    obtain ⟨X1, h1, v1, h1', _, hgo, _, _, hK⟩ := hK w (Cls.self w)
    exact .inl (upon_goes hgo fun cv w' X' hr hg _ => hK cv w' X' hr hg)

/-- The log's entries: of operations that leave memory alone and have come up. -/
def LogOk (e : Env) (fr : Bool) (ops : Array Oper) (listed : Array Bool) (a : Act) (L : Log) : Prop := ∀ p ∈ L, Grows p.2 ∧ listed.getD p.1 false = true ∧ ((∀ w, p.2 w) ∨ ∃ o, ops[p.1]? = some o ∧ isVs e o = true ∧ (isSt o = true → ∀ w w', p.2 w → p.2 w') ∧
  (fr = true → ∀ t x, o.op = .load t (.tmp x) → (∀ w w', p.2 w → p.2 w') ∨ ∃ ad, a.eval (.tmp x) = .pointer (some ad) ∧ ∀ w w', p.2 w → AgreeAt ad (e.T t).size w w' → p.2 w'))

theorem eval_put {a : Act} {x : Tmp} {d : Option Tmp} {v : Value} (h : ∀ y, d = some y → y ≠ x) : (a.put d v).eval (.tmp x) = a.eval (.tmp x) := by
  cases d with
  | none => rfl
  | some y =>
    show (a.tmps.setIfInBounds y v).getD x undef = a.tmps.getD x undef
    rw [getD_set, if_neg (fun hh => h y rfl hh.1.symm)]

/-- .. it keeps what tells where the loads have read. -/
def Keeps (ops : Array Oper) (listed : Array Bool) (o : Oper) : Prop := ∀ i oi t x, listed.getD i false = true → ops[i]? = some oi → oi.op = .load t (.tmp x) → ∀ y, o.dst = some y → y ≠ x

theorem keepsLd_ok {ops : Array Oper} {listed : Array Bool} {o : Oper} (h : keepsLd ops listed o = true) : Keeps ops listed o := by
  intro i oi t x hl hoi hop y hy
  unfold keepsLd at h
  rw [List.all_eq_true] at h
  have h3 := h i (by rw [List.mem_range]; exact (Array.getElem?_eq_some_iff.1 hoi).1)
  rw [hoi] at h3
  simp only [hl, Bool.not_true, Bool.false_or, hop, hy, Bool.not_eq_true'] at h3
  intro hh
  subst hh
  rw [Nat.beq_refl] at h3
  cases h3

theorem LogOk.set {e : Env} {fr : Bool} {ops : Array Oper} {listed : Array Bool} {a : Act} {L : Log} (h : LogOk e fr ops listed a L) (k : Nat) {o : Oper} (hk : fr = true → Keeps ops (listed.setIfInBounds k true) o) (v : Value) : LogOk e fr ops (listed.setIfInBounds k true) (a.put o.dst v) L := by
  intro p hp
  obtain ⟨h1, h2, h0 | ⟨q, h3, h4, h5, h6⟩⟩ := h p hp
  · exact ⟨h1, getD_set_true h2, .inl h0⟩
  refine ⟨h1, getD_set_true h2, .inr ⟨q, h3, h4, h5, fun hf t x hq => ?_⟩⟩
  rcases h6 hf t x hq with h7 | ⟨ad, h7, h8⟩
  · exact .inl h7
  · refine .inr ⟨ad, ?_, h8⟩
    rw [eval_put (hk hf p.1 q t x (getD_set_true h2) h3 hq)]; exact h7

theorem goes_cons {e : Env} {dr fr : Bool} {ops : Array Oper} {listed : Array Bool} {k : Nat} {ks : List Nat} (h : goesB e dr fr .any ops listed (k :: ks) = true) {o : Oper} (ho : ops[k]? = some o) :
    goesB e dr fr .any ops (listed.setIfInBounds k true) ks = true ∧ (fr = true → Keeps ops (listed.setIfInBounds k true) o) ∧
    ((isVs e o = true ∧ k ∈ Region.ready .any ops listed ∧ Region.free .any ops listed k = true) ∨ (isVs e o = false ∧ (Region.ready .any ops listed = [k] ∨ (dr = true ∧ (pairB .any ops listed k ks = true ∨ pairC e .any ops listed k ks = true))) ∧
      ((grS e o || (dr && isDyn o)) = true ∨ ∀ i oi, listed.getD i false = true → ops[i]? = some oi → isVs e oi = true → isSt oi = true ∨ w2B .any ops k i = true ∨ (fr = true ∧ isLdSt o oi = true ∧ dirW ops.toList o i = false)))) := by
  unfold goesB at h
  rw [ho] at h
  simp only [Bool.and_eq_true] at h
  refine ⟨h.2, fun hf => ?_, ?_⟩
  · have := h.1.2
    rw [hf] at this
    exact keepsLd_ok (by simpa using this)
  have h1 := h.1.1
  cases hv : isVs e o with
  | true =>
    rw [hv] at h1
    simp only [if_true, Bool.and_eq_true] at h1
    exact .inl ⟨rfl, by simpa using h1.1, h1.2⟩
  | false =>
    rw [hv] at h1
    simp only [Bool.false_eq_true, if_false, Bool.and_eq_true, decide_eq_true_eq, Bool.or_eq_true] at h1
    refine .inr ⟨rfl, h1.1, ?_⟩
    rcases h1.2 with h2 | h2 | h2
    · exact .inl (by rw [h2]; rfl)
    · exact .inl (by rw [h2.1, h2.2]; simp)
    · refine .inr fun i oi hl hoi hvi => ?_
      rw [List.all_eq_true] at h2
      have h3 := h2 i (by
        rw [List.mem_range]
        exact (Array.getElem?_eq_some_iff.1 hoi).1)
      rw [hoi] at h3
      simp only [hl, hvi, Bool.not_true, Bool.false_or, Bool.or_eq_true, Bool.and_eq_true, Bool.not_eq_true'] at h3
      exact h3

theorem getD_set_self {listed : Array Bool} {k : Nat} (h : listed.getD k true = false) : (listed.setIfInBounds k true).getD k false = true := by
  have hlt : k < listed.size := by
    rcases Nat.lt_or_ge k listed.size with h' | h'
    · exact h'
    · simp [Array.getElem?_eq_none h'] at h
  simp [hlt]

theorem rowOps_ok {ops : Array Oper} : ∀ {ks : List Nat} {r : List Oper}, rowOps ops ks = some r → All2 (fun o k => ops[k]? = some o) r ks
  | [], r, h => by simp [rowOps] at h; subst h; exact .nil
  | k :: ks, r, h => by
    unfold rowOps at h
    split at h
    · rename_i o r' ho hr
      simp at h; subst h
      exact .cons ho (rowOps_ok hr)
    · simp at h

theorem pairC_spec {ops : Array Oper} {listed : Array Bool} {o : Oper} {rest : List Oper} {k : Nat} {ks : List Nat} (hk : ops[k]? = some o) (hks : All2 (fun o k => ops[k]? = some o) rest ks) (h : pairC e .any ops listed k ks = true) :
    pairable2 e (o :: rest) = true ∧ isNw e o = true ∧ Region.free .any ops listed k = true ∧ ∃ k2 ks2 o2 rest2, ks = k2 :: ks2 ∧ rest = o2 :: rest2 ∧ o.guard = o2.guard ∧ o.apart ops o2 = true ∧
      Region.ready .any ops listed = [k, k2] ∧ Region.ready .any ops (listed.setIfInBounds k true) = [k2] ∧ Region.ready .any ops (listed.setIfInBounds k2 true) = [k] := by
  cases hks with
  | nil => simp [pairC] at h
  | @cons o2 k2 r2 ks2 hk2 hks2 =>
    simp only [pairC, hk, hk2, Bool.and_eq_true, decide_eq_true_eq] at h
    obtain ⟨⟨⟨⟨⟨⟨⟨h1, h2⟩, h3⟩, h4⟩, h5⟩, h6⟩, h7⟩, h8⟩ := h
    exact ⟨by simp [pairable2, h1, h2, h3], h1, h5, k2, ks2, o2, r2, rfl, rfl, h3, h4, h6, h7, h8⟩

theorem Goes.congr {gr : Bool} {m : List Nat} {h' : List Blk} {ρ' : Operand → Value} (he : execOp ρ' o = execOp ρ o) (g : Goes P gr m X h w o ρ v h') : Goes P gr m X h w o ρ' v h' := by
  unfold Goes Steps1 at *
  rw [he]
  exact g

/-- What is shown of the rest of a region in whatever order. -/
def DrawD (P : Program) (e : Env) (dr fr : Bool) (ops : Array Oper) (Q : Act → World → Prop) (r : List Oper) (a : Act) (w : World) : Prop :=
  ∀ (ks : List Nat) (listed : Array Bool) (L : Log), All2 (fun o k => ops[k]? = some o) r ks → goesB e dr fr .any ops listed ks = true → Shut .any ops listed → LogOk e fr ops listed a L → wpAnyG P .any ops Q r.length listed a w L

theorem pairB_spec {ops : Array Oper} {listed : Array Bool} {o : Oper} {rest : List Oper} {k : Nat} {ks : List Nat} (hk : ops[k]? = some o) (hks : All2 (fun o k => ops[k]? = some o) rest ks) (h : pairB .any ops listed k ks = true) :
    pairable (o :: rest) = true ∧ ∃ k2 ks2, ks = k2 :: ks2 ∧ Region.ready .any ops listed = [k, k2] ∧ Region.ready .any ops (listed.setIfInBounds k true) = [k2] ∧ Region.ready .any ops (listed.setIfInBounds k2 true) = [k] := by
  cases hks with
  | nil => simp [pairB] at h
  | @cons o2 k2 r2 ks2 hk2 hks2 =>
    simp only [pairB, Bool.and_eq_true, decide_eq_true_eq] at h
    obtain ⟨⟨⟨⟨⟨h1, h2⟩, h3⟩, h4⟩, h5⟩, h6⟩ := h
    refine ⟨?_, k2, ks2, rfl, h4, h5, h6⟩
    unfold alAt at h1 h2
    rw [hk] at h1
    rw [hk2] at h2
    simp only [pairable, h1, h2, Bool.and_self, Bool.true_and]
    cases hks2 with
    | nil => rfl
    | @cons o3 k3 r3 ks3 hk3 hks3 =>
      simp only [alAt, hk3] at h3
      exact h3

theorem goes_unl {e : Env} {dr fr : Bool} {ops : Array Oper} : ∀ {ks : List Nat} {listed : Array Bool}, goesB e dr fr .any ops listed ks = true → ∀ k ∈ ks, listed.getD k true = false
  | [], _, _, k, hk => by simp at hk
  | k0 :: ks, listed, h, k, hk => by
    have ho : ∃ o, ops[k0]? = some o := by
      cases ho : ops[k0]? with
      | some o => exact ⟨o, rfl⟩
      | none => unfold goesB at h; simp [ho] at h
    obtain ⟨o, ho⟩ := ho
    obtain ⟨h1, _, h2⟩ := goes_cons h ho
    have hr : k0 ∈ Region.ready .any ops listed := by
      rcases h2 with ⟨_, h3, _⟩ | ⟨_, h3 | ⟨_, h3 | h3⟩, _⟩
      · exact h3
      · rw [h3]; simp
      rotate_left
      · cases ks with
        | nil => simp [pairC] at h3
        | cons k2 ks2 =>
          unfold pairC at h3
          dsimp only at h3
          split at h3
          · simp only [Bool.and_eq_true, decide_eq_true_eq] at h3
            rw [h3.1.1.2]; simp
          · cases h3
      · cases ks with
        | nil => simp [pairB] at h3
        | cons k2 ks2 =>
          simp only [pairB, Bool.and_eq_true, decide_eq_true_eq] at h3
          rw [h3.1.1.2]; simp
    rcases List.mem_cons.mp hk with rfl | hk
    · exact (mem_ready.1 hr).1
    · have h3 := goes_unl h1 k hk
      simp only [Array.getD_eq_getD_getElem?, Array.getElem?_setIfInBounds] at h3 ⊢
      split at h3
      · split at h3 <;> simp at h3
      · exact h3

theorem ddB_ok {ops : Array Oper} (h : ddB ops = true) {i j : Nat} {o q : Oper} (hi : ops[i]? = some o) (hj : ops[j]? = some q) (hne : i ≠ j) : sameD o q = false := by
  unfold ddB at h
  rw [List.all_eq_true] at h
  have h1 := h i (by rw [List.mem_range]; exact (Array.getElem?_eq_some_iff.1 hi).1)
  rw [List.all_eq_true] at h1
  have h2 := h1 j (by rw [List.mem_range]; exact (Array.getElem?_eq_some_iff.1 hj).1)
  rw [hi, hj] at h2
  simp only [Bool.or_eq_true] at h2
  rcases h2 with h2 | h2
  · exact absurd (Nat.eq_of_beq_eq_true h2) hne
  · simpa using h2

theorem isLdSt_spec {o oi : Oper} (h : isLdSt o oi = true) : (∃ t x, oi.op = .load t (.tmp x)) ∧ (isCv o = true ∨ isWr o = true) := by
  unfold isLdSt at h
  split at h
  · rename_i ho hoi
    exact ⟨⟨_, _, hoi⟩, .inr (by simp [isWr, ho])⟩
  · rename_i c _ _ ho hoi
    refine ⟨⟨_, _, hoi⟩, ?_⟩
    split at h
    · rename_i f hc
      exact .inl (by simp [isCv, ho, hc])
    · rename_i hc
      exact .inr (by simp [isWr, ho, hc])
    · cases h
  · cases h

/-- A region in whatever order. -/
theorem region_draw_ok (hm : P.follows .mixedOrders = true) (hT : TAll P e) (hC : CallsOk P e) (hS : StepHOk P e) {id : Nat} {ops : Array Oper} {s s' : St} {a : Act} {Q : Exit → Act → World → Prop} {dr fr : Bool} {ks : List Nat} {r : List Oper} (hdd : fr = true → ddB ops = true) (hr : rowOps ops ks = some r)
    (hwf : wfGo ops.toList [] r = true) (hsel : Region.noSelect ops = true) (hsz : Nat.beq r.length ops.size = true) (hgo : goesB e dr fr .any ops (Array.replicate ops.size false) ks = true)
    (hl : s.tmps.length = a.tmps.size) (ht : ∀ t av, s.tmps[t]? = some av → RepV X s.heap w av (a.tmps.getD t undef)) (hH : RelH X s.heap w)
    (hv : (opsR e dr fr ops.toList r ⟨[], []⟩ s).eval = some s') (hQ : After X s.heap w a.defers s' Q) : (Code.region id ops true).wp P Q a w := by
  have hb0 : Cls w { w with drawn := w.drawn + 1 } := ⟨rfl, rfl, rfl, Nat.le_refl _, fun _ _ => rfl⟩
  have hg0 := Good.below hH hb0
  have hsel' := Region.noSelect_spec hsel
  have drive : Drive P e dr fr ops X s.heap w a.defers s' (DrawD P e dr fr ops (Q .normal)) := by
    refine ⟨fun a' w' X' h1 h2 h3 h4 => ?_, fun o rest a' w' cv hna hnn hq hst hld hw hK => ?_, fun _ o1 o2 rest a' w' t1 t2 v1 v2 ho1 ho2 hg1 hg2 hdd hpr run1 run2 hK => ?_, fun _ o1 o2 rest a' w' n t vs X1 h1 h1' v1 hpr hdd hw1 hw2 run hH1 hgoes hK => ?_, fun o rest a' w' hw hK => ?_, fun o rest a' w' hnv hnp hnp2 hw hK => ?_⟩
    · intro ks listed L hks hgo hsh hlo
      cases hks
      refine ⟨by simpa [goesB] using hgo, fun w2 hc => ?_⟩
      have hb := Good.below h4.rel hc
      exact hQ a' w2 X' h1 h2 (fun t av hav => RepV.mono hb.mono (hb.extF h4.rel) (h3 t av hav)) (h4.trans hb)
    · intro ks listed L hks hgo hsh hlo
      cases hks with
      | @cons _ k _ ks hk hks =>
      obtain ⟨hgo', hkp, hcase⟩ := goes_cons hgo hk
      have hLg : ∀ p ∈ L, Grows p.2 := fun p hp => (hlo p hp).1
      have hcase : (isVs e o = true ∧ k ∈ Region.ready .any ops listed ∧ Region.free .any ops listed k = true) ∨ (isVs e o = false ∧ Region.ready .any ops listed = [k]) := by
        rcases hcase with h | ⟨h1, h2 | ⟨_, h2 | h2⟩, _⟩
        · exact .inl h
        · exact .inr ⟨h1, h2⟩
        · have := (pairB_spec hk hks h2).1
          cases rest with
          | nil => simp [pairable] at this
          | cons _ _ => simp only [pairable, hna, Bool.false_and] at this; cases this
        · have := (pairC_spec hk hks h2).2.1
          rw [hnn] at this; cases this
      rcases hcase with ⟨hvs, hr, hf⟩ | ⟨hvs, hr⟩
      · cases hstt : isSt o with
        | true =>
          refine wpAnyG_first (B := fun _ => True) hk hsel' (fun _ _ _ _ => trivial) hLg _ listed a' w' (Region.free_spec hk hf) hsh hr (.inl ⟨hw, fun w2 _ => hst hstt w2⟩) trivial ?_
          refine hK w' (Cls.self w') ks _ _ hks hgo' (hsh.set hr) (fun p hp => ?_)
          rcases List.mem_cons.mp hp with rfl | hp
          · exact ⟨fun _ _ _ _ => trivial, getD_set_self (mem_ready.1 hr).1, .inl fun _ => trivial⟩
          · exact hlo.set k hkp _ p hp
        | false =>
          by_cases hfl : fr = true ∧ ∃ t x, o.op = .load t (.tmp x)
          · obtain ⟨hfr, t, x, hop⟩ := hfl
            obtain ⟨ad, had, hq2⟩ := hld t (.tmp x) hop
            refine wpAnyG_first (B := AgreeAt ad (e.T t).size w') hk hsel' (fun _ _ h1 h2 => h1.trans (.of_agree (below_agree h2))) hLg _ listed a' w' (Region.free_spec hk hf) hsh hr (.inl ⟨hw, fun w2 h2 => hq2 w2 h2⟩) (.refl ad _ w') ?_
            refine hK w' (Cls.self w') ks _ _ hks hgo' (hsh.set hr) (fun p hp => ?_)
            rcases List.mem_cons.mp hp with rfl | hp
            · refine ⟨fun _ _ h1 h2 => h1.trans (.of_agree (below_agree h2)), getD_set_self (mem_ready.1 hr).1, .inr ⟨o, hk, hvs, fun h => (by rw [hstt] at h; cases h), fun _ t' x' hop' => ?_⟩⟩
              rw [hop] at hop'
              cases hop'
              refine .inr ⟨ad, ?_, fun _ _ h1 h2 => h1.trans h2⟩
              rw [eval_put (hkp hfr k o t x (getD_set_self (mem_ready.1 hr).1) hk hop)]
              exact had
            · exact hlo.set k hkp _ p hp
          · refine wpAnyG_first (B := Cls w') hk hsel' (fun _ _ h1 h2 => h1.step h2) hLg _ listed a' w' (Region.free_spec hk hf) hsh hr (.inl ⟨hw, fun w2 h2 => hq w2 h2⟩) (Cls.self w') ?_
            refine hK w' (Cls.self w') ks _ _ hks hgo' (hsh.set hr) (fun p hp => ?_)
            rcases List.mem_cons.mp hp with rfl | hp
            · exact ⟨fun _ _ h1 h2 => h1.step h2, getD_set_self (mem_ready.1 hr).1, .inr ⟨o, hk, hvs, fun h => (by rw [hstt] at h; cases h), fun hfr t x hop => absurd ⟨hfr, t, x, hop⟩ hfl⟩⟩
            · exact hlo.set k hkp _ p hp
      · refine ⟨fun h0 => (by rw [hr] at h0; cases h0), fun i hi w1 h1 => ?_⟩
        rw [hr] at hi
        simp at hi; subst hi
        have hir : i ∈ Region.ready .any ops listed := by rw [hr]; simp
        refine YieldsG.wpOp (B := Cls w') hk (.inl ⟨hw, fun w2 h2 => hq w2 h2⟩) h1 (fun w2 h2 => ⟨fun p hp _ hb => hLg p hp _ _ hb h2, ?_⟩)
        exact hK w2 (h1.step h2) ks _ _ hks hgo' (hsh.set hir) (hlo.set i hkp _)
    · intro ks listed L hks hgo hsh hlo
      cases hks with
      | @cons _ k1 _ ks hk1 hks =>
      cases hks with
      | @cons _ k2 _ ks hk2 hks =>
      obtain ⟨hgo1, hkp1, hc1⟩ := goes_cons hgo hk1
      obtain ⟨hgo2, hkp2, hc2⟩ := goes_cons hgo1 hk2
      have hLg : ∀ p ∈ L, Grows p.2 := fun p hp => (hlo p hp).1
      have nv1 : isVs e o1 = false := by simp [isVs, ho1]
      have nv2 : isVs e o2 = false := by simp [isVs, ho2]
      have hr2 : Region.ready .any ops (listed.setIfInBounds k1 true) = [k2] := by
        rcases hc2 with ⟨h, _⟩ | ⟨_, h | ⟨_, h | h⟩, _⟩
        · rw [nv2] at h; cases h
        · exact h
        rotate_left
        · have := (pairC_spec hk2 hks h).2.1
          simp [isNw, ho2] at this
        · have := (pairB_spec hk2 hks h).1
          simp only [pairable, Bool.and_eq_true, Bool.not_eq_true'] at hpr
          cases rest with
          | nil => simp [pairable] at this
          | cons o3 r3 =>
            simp only [pairable, Bool.and_eq_true] at this
            have hp3 : isAl o3 = false := hpr.2
            rw [this.1.2] at hp3
            cases hp3
      have go : ∀ (i : Nat) (oi : Oper) (vi : List Value) (ti : TypeId), ops[i]? = some oi → oi.guard = none → AllocRun P oi vi ti → ∀ (n : Nat) (ls : Array Bool) (a2 : Act) (w1 : World), i ∈ Region.ready .any ops ls →
          (∀ w2, Cls w1 w2 → w2.heap[w1.heap.size]? = some (.cells vi.toArray ti (0, 0)) → wpAnyG P .any ops (Q .normal) n (ls.setIfInBounds i true) (a2.put oi.dst (.pointer (some ⟨w1.heap.size, 0, none⟩))) w2 L) →
          wpOp P ops (onlyN (Q .normal)) i (fun a' w' => (∀ p ∈ L, w2B .any ops i p.1 = false → p.2 w1 → p.2 w') ∧ wpAnyG P .any ops (Q .normal) n (ls.setIfInBounds i true) a' w' L) a2 w1 := by
        intro i oi vi ti hi hgi hrun n ls a2 w1 hri hnext
        unfold wpOp
        simp only [hi]
        rw [if_pos (wanted_none hgi)]
        refine .inl ?_
        unfold Oper.wp
        rw [hrun a2.eval w1]
        have hcl : Cls w1 { w1 with heap := w1.heap.push (.cells vi.toArray ti) } := below_push w1 _
        exact ⟨fun p hp _ hb => hLg p hp _ _ hb hcl, hnext _ hcl (by simp)⟩
      have obj : ∀ (wa wb : World) (k : Nat) (ob : Obj), Cls wa wb → wa.heap[k]? = some ob → wb.heap[k]? = some ob := by
        intro wa wb k ob hc hk
        have hlt : k < wa.heap.size := by
          rcases Nat.lt_or_ge k wa.heap.size with h | h
          · exact h
          · simp [Array.getElem?_eq_none h] at hk
        rw [← hk]
        exact hc.block k hlt
      have size_lt : ∀ (wa : World) (k : Nat) (ob : Obj), wa.heap[k]? = some ob → k < wa.heap.size := by
        intro wa k ob hk
        rcases Nat.lt_or_ge k wa.heap.size with h | h
        · exact h
        · simp [Array.getElem?_eq_none h] at hk
      have first : ∀ w1, Cls w' w1 → wpOp P ops (onlyN (Q .normal)) k1 (fun a' w2 => (∀ p ∈ L, w2B .any ops k1 p.1 = false → p.2 w1 → p.2 w2) ∧ wpAnyG P .any ops (Q .normal) (rest.length + 1) (listed.setIfInBounds k1 true) a' w2 L) a' w1 := by
        intro w1 hw1
        have hir : k1 ∈ Region.ready .any ops listed := by
          rcases hc1 with ⟨h, _⟩ | ⟨_, h | ⟨_, h | h⟩, _⟩
          · rw [nv1] at h; cases h
          · rw [h]; simp
          rotate_left
          · have := (pairC_spec hk1 (.cons hk2 hks) h).2.1
            simp [isNw, ho1] at this
          · obtain ⟨_, k2', ks2, _, h4, _, _⟩ := pairB_spec hk1 (.cons hk2 hks) h
            rw [h4]; simp
        refine go k1 o1 v1 t1 hk1 hg1 run1 _ listed a' w1 hir (fun w2 hcc hob => ?_)
        refine ⟨fun h0 => (by rw [hr2] at h0; cases h0), fun i hi w3 hc3 => ?_⟩
        rw [hr2] at hi
        simp at hi; subst hi
        refine go i o2 v2 t2 hk2 hg2 run2 _ _ _ w3 (by rw [hr2]; simp) (fun w4 hc4 hob2 => ?_)
        have hs1 := size_lt _ _ _ hob
        have hob' := obj w3 w4 _ _ hc4 (obj w2 w3 _ _ hc3 hob)
        have hsz3 := hc3.size
        have hwk := hw1.size
        have hc2s := hcc.size
        exact hK w4 w1.heap.size w3.heap.size (((hw1.step hcc).step hc3).step hc4) hwk (by omega) (by omega) hob' hob2 ks _ L hks hgo2 ((hsh.set hir).set (by rw [hr2]; simp)) ((hlo.set k1 hkp1 _).set i hkp2 _)
      refine ⟨fun h0 => ?_, fun i hi w1 h1 => ?_⟩
      · rcases hc1 with ⟨h, _⟩ | ⟨_, h | ⟨_, h | h⟩, _⟩
        · rw [nv1] at h; cases h
        · rw [h] at h0; cases h0
        rotate_left
        · have := (pairC_spec hk1 (.cons hk2 hks) h).2.1
          simp [isNw, ho1] at this
        · obtain ⟨_, k2', ks2, _, h4, _, _⟩ := pairB_spec hk1 (.cons hk2 hks) h
          rw [h4] at h0; cases h0
      · rcases hc1 with ⟨h, _⟩ | ⟨_, h | ⟨_, h | h⟩, _⟩
        · rw [nv1] at h; cases h
        · rw [h] at hi
          simp at hi; subst hi
          exact first w1 h1
        rotate_left
        · have := (pairC_spec hk1 (.cons hk2 hks) h).2.1
          simp [isNw, ho1] at this
        · obtain ⟨_, k2', ks2, hkk, h4, h5, h6⟩ := pairB_spec hk1 (.cons hk2 hks) h
          cases hkk
          rw [h4] at hi
          simp at hi
          rcases hi with rfl | rfl
          · exact first w1 h1
          · -- the other one first
            have hir1 : k1 ∈ Region.ready .any ops listed := by rw [h4]; simp
            have hir : i ∈ Region.ready .any ops listed := by rw [h4]; simp
            refine go i o2 v2 t2 hk2 hg2 run2 _ listed a' w1 hir (fun w2 hcc hob => ?_)
            refine ⟨fun h0 => (by rw [h6] at h0; cases h0), fun j hj w3 hc3 => ?_⟩
            rw [h6] at hj
            simp at hj; subst hj
            refine go j o1 v1 t1 hk1 hg1 run1 _ _ _ w3 (by rw [h6]; simp) (fun w4 hc4 hob2 => ?_)
            have hs1 := size_lt _ _ _ hob
            have hob' := obj w3 w4 _ _ hc4 (obj w2 w3 _ _ hc3 hob)
            have hsz3 := hc3.size
            have hwk := h1.size
            have hc2s := hcc.size
            have fin := hK w4 w3.heap.size w1.heap.size (((h1.step hcc).step hc3).step hc4) (by omega) hwk (by omega) hob2 hob' ks _ L hks hgo2 ((hsh.set hir1).set (by rw [h5]; simp)) ((hlo.set j hkp1 _).set i hkp2 _)
            rw [Act.put_comm a' _ _ hdd] at fin
            by_cases hji : j = i
            · subst hji
              exact fin
            · rw [Array.setIfInBounds_comm _ _ hji] at fin
              exact fin
    · intro ks listed L hks hgo hsh hlo
      cases hks with
      | @cons _ k1 _ ks hk1 hks =>
      cases hks with
      | @cons _ k2 _ ks hk2 hks =>
      obtain ⟨hgo1, hkp1, hc1⟩ := goes_cons hgo hk1
      obtain ⟨hgo2, hkp2, hc2⟩ := goes_cons hgo1 hk2
      have hLg : ∀ p ∈ L, Grows p.2 := fun p hp => (hlo p hp).1
      have hpr' := hpr
      simp only [pairable2, Bool.and_eq_true, decide_eq_true_eq] at hpr'
      obtain ⟨⟨hnw, hmk⟩, hgg⟩ := hpr'
      have nv1 : isVs e o1 = false := by
        cases hvs : isVs e o1 with
        | false => rfl
        | true =>
          have h1 := isVs_isV (s := ⟨[], []⟩) (W := []) (gs := []) hvs
          rw [isNw_isV hnw] at h1; cases h1
      obtain ⟨tm, km, nm, km', mm, hom, _, _⟩ := isMk_spec hmk
      have nv2 : isVs e o2 = false := by simp [isVs, hom]
      have hr2 : Region.ready .any ops (listed.setIfInBounds k1 true) = [k2] := by
        rcases hc2 with ⟨h, _⟩ | ⟨_, h | ⟨_, h | h⟩, _⟩
        · rw [nv2] at h; cases h
        · exact h
        · have := (pairB_spec hk2 hks h).1
          cases rest with
          | nil => simp [pairable] at this
          | cons o3 r3 => simp [pairable, isAl, hom] at this
        · have := (pairC_spec hk2 hks h).2.1
          simp [isNw, hom] at this
      have hir1 : k1 ∈ Region.ready .any ops listed := by
        rcases hc1 with ⟨h, _⟩ | ⟨_, h | ⟨_, h | h⟩, _⟩
        · rw [nv1] at h; cases h
        · rw [h]; simp
        · obtain ⟨hp, _⟩ := pairB_spec hk1 (.cons hk2 hks) h
          simp [pairable, isAl, hom] at hp
        · obtain ⟨_, _, _, k2', ks2, _, _, _, _, _, _, h4, _⟩ := pairC_spec hk1 (.cons hk2 hks) h
          rw [h4]; simp
      have hir2 : k2 ∈ Region.ready .any ops (listed.setIfInBounds k1 true) := by rw [hr2]; simp
      have go : ∀ (m : Nat) (ls : Array Bool) (a2 : Act) (w1 : World), Region.wanted o2 (yielded ops a2.tmps) = true →
          (∀ w2, Cls w1 w2 → w2.heap[w1.heap.size]? = some (.cells vs.toArray t (0, 0)) → wpAnyG P .any ops (Q .normal) m (ls.setIfInBounds k2 true) (a2.put o2.dst (.slice (some ⟨w1.heap.size, 0, none⟩) n n)) w2 L) →
          wpOp P ops (onlyN (Q .normal)) k2 (fun a' w' => (∀ p ∈ L, w2B .any ops k2 p.1 = false → p.2 w1 → p.2 w') ∧ wpAnyG P .any ops (Q .normal) m (ls.setIfInBounds k2 true) a' w' L) a2 w1 := by
        intro m ls a2 w1 hwn hnext
        unfold wpOp
        simp only [hk2]
        rw [if_pos hwn]
        refine .inl ?_
        unfold Oper.wp
        rw [run a2 w1]
        have hcl : Cls w1 { w1 with heap := w1.heap.push (.cells vs.toArray t) } := below_push w1 _
        exact ⟨fun p hp _ hb => hLg p hp _ _ hb hcl, hnext _ hcl (by simp)⟩
      have obj : ∀ (wa wb : World) (k : Nat) (ob : Obj), Cls wa wb → wa.heap[k]? = some ob → wb.heap[k]? = some ob := by
        intro wa wb k ob hc hk
        have hlt : k < wa.heap.size := by
          rcases Nat.lt_or_ge k wa.heap.size with h | h
          · exact h
          · simp [Array.getElem?_eq_none h] at hk
        rw [← hk]
        exact hc.block k hlt
      have first : ∀ w1, Cls w' w1 → wpOp P ops (onlyN (Q .normal)) k1 (fun a' w2 => (∀ p ∈ L, w2B .any ops k1 p.1 = false → p.2 w1 → p.2 w2) ∧ wpAnyG P .any ops (Q .normal) (rest.length + 1) (listed.setIfInBounds k1 true) a' w2 L) a' w1 := by
        intro w1 hc1'
        obtain ⟨mm, hg1⟩ := hgoes w1 hc1'
        unfold wpOp
        simp only [hk1]
        rw [if_pos hw1]
        refine .inl (upon_goes hg1 fun cv w2 X2 hrv hgd hcl => ⟨fun p hp _ hb => hLg p hp _ _ hb (hcl rfl), ?_⟩)
        refine ⟨fun h0 => (by rw [hr2] at h0; cases h0), fun i hi w3 hc3 => ?_⟩
        rw [hr2] at hi
        simp at hi; subst hi
        refine go _ _ _ w3 (hw2 cv) (fun w4 hc4 hob => ?_)
        have hb1 := Good.below hH1 hc1'
        have hb3 := Good.below hgd.rel hc3
        have hb4 := Good.below hgd.rel (hc3.step hc4)
        have hsz3 := hc3.size
        have hsz1 := hc1'.size
        have hszd := (hcl rfl).size
        exact hK cv w4 X2 w3.heap.size (RepV.mono hb4.mono (hb4.extF hgd.rel) hrv) ((hb1.trans hgd).trans hb4) (by omega) hob
          (fun b q hf => by have := foot_lt hb3.rel hf; omega) (fun q hf => by have := hb3.rel.fsz _ _ hf; omega) ks _ L hks hgo2 ((hsh.set hir1).set hir2) ((hlo.set k1 hkp1 _).set i hkp2 _)
      refine ⟨fun h0 => (by rw [h0] at hir1; cases hir1), fun i hi w1 hcw => ?_⟩
      rcases hc1 with ⟨h, _⟩ | ⟨_, h | ⟨_, h | h⟩, _⟩
      · rw [nv1] at h; cases h
      · rw [h] at hi
        simp at hi; subst hi
        exact first w1 hcw
      · obtain ⟨hp, _⟩ := pairB_spec hk1 (.cons hk2 hks) h
        simp [pairable, isAl, hom] at hp
      · obtain ⟨_, _, _, k2', ks2, o2', rest2, hkk, hoo, _, hap, h4, h5, h6⟩ := pairC_spec hk1 (.cons hk2 hks) h
        cases hkk
        cases hoo
        rw [h4] at hi
        simp at hi
        rcases hi with rfl | rfl
        · exact first w1 hcw
        · -- the other one first
          obtain ⟨hap1, hap2, hap3⟩ := Oper.apart_spec hap
          have hwo2 : Region.wanted o2 (yielded ops a'.tmps) = true := by
            have := hw2 undef
            rwa [wanted_put o2 a' o1.dst undef hap1] at this
          refine go _ listed a' w1 hwo2 (fun w2 hcc hob => ?_)
          refine ⟨fun h0 => (by rw [h6] at h0; cases h0), fun j hj w3 hc3 => ?_⟩
          rw [h6] at hj
          simp at hj; subst hj
          obtain ⟨mm, hg1⟩ := hgoes w3 ((hcw.step hcc).step hc3)
          have hsel1 : ∀ cs b, o1.op ≠ .select cs b := fun cs b => hsel' _ _ cs b hk1
          have hg1' := hg1.congr (execOp_put o1 hsel1 a' o2.dst (.slice (some ⟨w1.heap.size, 0, none⟩) n n) hap3)
          have hwo1 : Region.wanted o1 (yielded ops (a'.put o2.dst (.slice (some ⟨w1.heap.size, 0, none⟩) n n)).tmps) = true := by
            rw [wanted_put o1 a' o2.dst _ hap3]; exact hw1
          unfold wpOp
          simp only [hk1]
          rw [if_pos hwo1]
          refine .inl (upon_goes hg1' fun cv w4 X2 hrv hgd hcl => ⟨fun p hp _ hb => hLg p hp _ _ hb (hcl rfl), ?_⟩)
          have hc13 : Cls w' w3 := (hcw.step hcc).step hc3
          have hb3 := Good.below hH1 hc13
          have hsz3 := hc3.size
          have hsz2 := hcc.size
          have hszw := hcw.size
          have hlt : w1.heap.size < w2.heap.size := by
            rcases Nat.lt_or_ge w1.heap.size w2.heap.size with h | h
            · exact h
            · simp [Array.getElem?_eq_none h] at hob
          have fin := hK cv w4 X2 w1.heap.size hrv (hb3.trans hgd) hszw (obj w3 w4 _ _ (hcl rfl) (obj w2 w3 _ _ hc3 hob))
            (fun b q hf => by
              rcases hgd.ffoot b _ q hf with h | ⟨b0, h⟩
              · omega
              · have := foot_lt hH1 h; omega)
            (fun q hf => by
              rcases hgd.fnew _ q hf with h | h | ⟨b0, h⟩
              · have := hH1.fsz _ _ h; omega
              · omega
              · have := foot_lt hH1 h; omega) ks _ L hks hgo2 ((hsh.set hir1).set hir2) ((hlo.set j hkp1 _).set i hkp2 _)
          rw [Act.put_comm a' _ _ hdd] at fin
          by_cases hji : j = i
          · subst hji
            exact fin
          · rw [Array.setIfInBounds_comm _ _ hji] at fin
            exact fin
    · intro ks listed L hks hgo hsh hlo
      cases hks with
      | @cons _ k _ ks hk hks =>
      obtain ⟨hgo', hkp, hcase⟩ := goes_cons hgo hk
      have hLg : ∀ p ∈ L, Grows p.2 := fun p hp => (hlo p hp).1
      have hcase : (k ∈ Region.ready .any ops listed ∧ Region.free .any ops listed k = true) ∨ (isVs e o = false ∧ Region.ready .any ops listed = [k]) := by
        rcases hcase with h | ⟨h1, h2 | ⟨_, h2 | h2⟩, _⟩
        · exact .inl h.2
        · exact .inr ⟨h1, h2⟩
        · have := (pairB_spec hk hks h2).1
          cases rest with
          | nil => simp [pairable] at this
          | cons _ _ =>
            simp only [pairable, Bool.and_eq_true] at this
            obtain ⟨_, _, hgn⟩ := isAl_spec this.1.1
            rw [wanted_none hgn] at hw; cases hw
        · obtain ⟨_, _, hfr, _, _, _, _, _, _, _, _, h4, _⟩ := pairC_spec hk hks h2
          exact .inl ⟨by rw [h4]; simp, hfr⟩
      rcases hcase with ⟨hr, hf⟩ | ⟨hvs, hr⟩
      · refine wpAnyG_first (B := fun _ => True) hk hsel' (fun _ _ _ _ => trivial) hLg _ listed a' w' (Region.free_spec hk hf) hsh hr (.inr ⟨hw, rfl⟩) trivial ?_
        refine hK ks _ _ hks hgo' (hsh.set hr) (fun p hp => ?_)
        rcases List.mem_cons.mp hp with rfl | hp
        · exact ⟨fun _ _ _ _ => trivial, getD_set_self (mem_ready.1 hr).1, .inl fun _ => trivial⟩
        · exact hlo.set k hkp _ p hp
      · refine ⟨fun h0 => (by rw [hr] at h0; cases h0), fun i hi w1 h1 => ?_⟩
        rw [hr] at hi
        simp at hi; subst hi
        have hir : i ∈ Region.ready .any ops listed := by rw [hr]; simp
        refine YieldsG.wpOp (B := fun _ => True) hk (.inr ⟨hw, rfl⟩) trivial (fun w2 h2 => ⟨fun p hp _ hb => hLg p hp _ _ hb h2, ?_⟩)
        exact (hK ks _ _ hks hgo' (hsh.set hir) (hlo.set i hkp _)).cls (h1.step h2)
    · intro ks listed L hks hgo hsh hlo
      cases hks with
      | @cons _ k _ ks hk hks =>
      obtain ⟨hgo', hkp, hcase⟩ := goes_cons hgo hk
      have hLg : ∀ p ∈ L, Grows p.2 := fun p hp => (hlo p hp).1
      rcases hcase with ⟨hvs, hr, hf⟩ | ⟨hvs, hr, hgr⟩
      · rw [hvs] at hnv; cases hnv
      have hr : Region.ready .any ops listed = [k] := by
        rcases hr with h | ⟨h0, h | h⟩
        · exact h
        · have := (pairB_spec hk hks h).1
          rw [hnp h0] at this; cases this
        · have := (pairC_spec hk hks h).1
          rw [hnp2 h0] at this; cases this
      · refine ⟨fun h0 => (by rw [hr] at h0; cases h0), fun i hi w1 h1 => ?_⟩
        rw [hr] at hi
        simp at hi; subst hi
        have hir : i ∈ Region.ready .any ops listed := by rw [hr]; simp
        obtain ⟨X1, hp1, v1, h1', mm, hgoes, hfrm, hfrc, hK1⟩ := hK w1 h1
        unfold wpOp
        simp only [hk]
        rw [if_pos hw]
        refine .inl (upon_goes2 hgoes fun cv w2 X2 hrv hgd hcl hrun => ⟨fun p hp hnw hb => ?_, ?_⟩)
        · rcases hgr with hgr | hgr
          · exact hLg p hp _ _ hb (hcl (by simpa using hgr))
          · obtain ⟨_, hli, htr | ⟨oi, hoi, hvi, hsti, hldi⟩⟩ := hlo p hp
            · exact htr w2
            rcases hgr p.1 oi hli hoi hvi with h3 | h3 | ⟨hfr, h3, h4⟩
            · exact hsti h3 _ _ hb
            · rw [h3] at hnw; cases hnw
            · obtain ⟨⟨t, x, hlt⟩, hkind⟩ := isLdSt_spec h3
              rcases hldi hfr t x hlt with h5 | ⟨ad, h5, h6⟩
              · exact h5 _ _ hb
              · have hnr : rest.any (sameD oi) = false := by
                  rw [List.any_eq_false]
                  intro o' ho' hsd
                  obtain ⟨j, hj⟩ := List.getElem?_of_mem ho'
                  obtain ⟨k', hk', hok'⟩ := hks.get hj
                  have hu := goes_unl hgo' k' (List.mem_of_getElem? hk')
                  have hii : (listed.setIfInBounds i true).getD p.1 false = true := getD_set_true hli
                  have hne : p.1 ≠ k' := fun hh => by
                    subst hh
                    simp only [Array.getD_eq_getD_getElem?] at hu hii
                    cases hq : (listed.setIfInBounds i true)[p.1]? with
                    | none => rw [hq] at hu; simp at hu
                    | some b => rw [hq] at hu hii; simp at hu hii; rw [hu] at hii; cases hii
                  rw [ddB_ok (hdd hfr) hoi hok' hne] at hsd
                  cases hsd
                rcases hkind with hcv | hwr
                · rcases hrun with ⟨_, hnc⟩ | ⟨_, hex⟩
                  · rw [hcv] at hnc; cases hnc
                  · exact h6 _ _ hb (hfrc hfr w2 hex hcv p.1 oi t x ad (by rw [Array.getElem?_toList]; exact hoi) hlt hnr h4 h5)
                · obtain ⟨n, w3, hr3, hne, hag⟩ := hfrm hfr hwr
                  rcases hrun with ⟨⟨n', hr4⟩, _⟩ | ⟨⟨f, args, hr4⟩, _⟩
                  · rw [hr3] at hr4
                    cases hr4
                    exact h6 _ _ hb (hag p.1 oi t x ad (by rw [Array.getElem?_toList]; exact hoi) hlt hnr h4 h5)
                  · rw [hr3] at hr4
                    cases hr4
                    exact absurd rfl (hne f args)
        · exact hK1 cv w2 X2 hrv hgd ks _ _ hks hgo' (hsh.set hir) (hlo.set i hkp _)
  have key := ops_ok hT hC hS ops drive r ⟨[], []⟩ s a { w with drawn := w.drawn + 1 } X [] hwf
    ⟨hl, fun t av hav => RepV.mono hg0.mono (hg0.extF hH) (ht t av hav), fun p hp => by simp at hp, fun q hq => by simp at hq⟩ hg0 rfl hv ks (Array.replicate ops.size false) []
    (rowOps_ok hr) hgo (fun j o ho hj => by
      simp only [Array.getD_eq_getD_getElem?, Array.getElem?_replicate] at hj
      split at hj <;> simp at hj) (fun p hp => by simp at hp)
  have hsz' := Nat.eq_of_beq_eq_true hsz
  rw [hsz'] at key
  exact wp_mono (wp_region_any hm (wpAny_of_G _ _ _ _ key)) fun ex a' w' hq => by obtain ⟨rfl, hq⟩ := hq; exact hq

end
end Ab
