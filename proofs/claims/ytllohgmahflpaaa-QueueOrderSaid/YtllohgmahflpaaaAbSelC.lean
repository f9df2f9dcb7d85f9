/- Functions that hold a select: their runs are the machine's. -/
import Derived.Test.YtllohgmahflpaaaAbSelB
set_option linter.unusedSectionVars false
set_option linter.unusedSimpArgs false
set_option linter.unusedVariables false
namespace Ab
open Go
section
variable [Uni] [Cod]
variable {P : Program} {e : Env} {X Y : Cx} {h i : List Blk} {w w' : World} {v : AV}

/-- What stands behind the select in its region. -/
theorem rest_ok (hT : TAll P e) (hC : CallsOk P e) (hS : StepHOk P e) {ops : Array Oper} {r : List Oper} {seen : List Tmp} {s s' : St} {a : Act} {Q : Exit → Act → World → Prop} (hwf : wfGo ops.toList seen r = true)
    (hl : s.tmps.length = a.tmps.size) (ht : ∀ t av, s.tmps[t]? = some av → RepV X s.heap w av (a.tmps.getD t undef)) (hH : RelH X s.heap w)
    (hv : (opsR e false false ops.toList r ⟨[], []⟩ s).eval = some s') (hQ : After X s.heap w a.defers s' Q) : wpList P ops Q r a w := by
  refine ops_ok hT hC hS ops (X0 := X) (h0 := s.heap) (w0 := w) (ds := a.defers) (s' := s') (D := wpList P ops Q) ⟨fun a' w' X' h1 h2 h3 h4 => hQ a' w' X' h1 h2 h3 h4, fun o rest a w cv _ _ hq _ _ hw hK => doV hq hw hK, fun h => (by cases h), fun h => (by cases h), fun o rest a w hw hK => ?_, fun o rest a w _ _ _ hw hK => ?_⟩
    r ⟨[], []⟩ s a w X seen hwf ⟨hl, ht, fun p hp => by simp at hp, fun q hq => by simp at hq⟩ (Good.refl hH) rfl hv
  · unfold wpList
    rw [if_neg (by rw [hw]; simp)]; exact hK
  · unfold wpList
    rw [if_pos hw]
    obtain ⟨X1, h1, v1, h1', _, hgo, _, _, hK⟩ := hK w (Cls.self w)
    exact .inl (upon_goes hgo fun cv w' X' hr hg _ => hK cv w' X' hr hg)

theorem nil_zero {t : TypeId} (hT : TAll P e) (hz : (e.T t).zero = [.nils]) (ha : (e.T t).agg = false) : ∃ i, P.info? t = some i ∧ i.zero = some (.slice none 0 0) := by
  have hx := hT t (Env.lt_of_zero (by rw [hz]; simp))
  obtain ⟨i, z, hi, hzz, hc, _, h2⟩ := hx.zero (by rw [hz]; simp)
  have hcs := h2 ha
  rw [hz, hcs] at hc
  simp only [conLB, Bool.and_true] at hc
  have : z = .slice none 0 0 := by
    unfold conB at hc
    split at hc <;> first | rfl | (simp at hc; done) | simp_all
  subst this
  exact ⟨i, hi, hzz⟩

theorem select_ok (hT : TAll P e) (hC : CallsOk P e) (hS : StepHOk P e) {X0 : Cx} {h0 : List Blk} {w0 : World} {ds : List Deferred} {id : Nat} {ops : Array Oper} {o : Oper} {r : List Oper} {s s1 s2 : St} {a : Act} (hops : ops.toList = o :: r)
    (hwf : wfGo ops.toList [] ops.toList = true) (ht : TOk X w s a ds) (hg : Good X0 h0 w0 X s.heap w) (hv : (selC e o s).eval = some s1) (hv2 : (opsR e false false ops.toList r ⟨[], []⟩ s1).eval = some s2) :
    WpN P (.region id ops false) (Post X0 h0 w0 ds .normal s2) a w := by
  have iv : Inv X w ⟨[], []⟩ s a.tmps [] := ⟨ht.len, ht.tmp, fun p hp => by simp at hp, fun q hq => by simp at hq⟩
  have hwf' : wfGo ops.toList [] (o :: r) = true := by rw [hops] at hwf ⊢; exact hwf
  obtain ⟨wf1, wf2, wf3⟩ := wfGo_cons hwf'
  have hρ : ∀ x, RepV X s.heap w (evO s [] [] x) (a.eval x) := evO_ok (ds := a.defers) iv (gs := []) (by simp)
  have fin : ∀ (cases : Array CommCase) (cv : Value) (tv : AV) (w1 : World) (X1 : Cx) (i : List Blk), o.guard = none → s1 = putT s o.dst tv i → (execOp a.eval o).run P w = .ok (.comm cases false .select) w →
      (∀ (fr : Frame) (cs : List Frame) es, Go.stepG P true (Go.Conc.G fr cs) w = .comm (Go.Conc.G fr cs) cases false .select w es → step P (Go.Conc.solo (Go.Conc.G fr cs) w) = .next (Go.Conc.solo (Go.Conc.G (fr.finish cv) cs) w1)) →
      Good X s.heap w X1 i w1 → RepV X1 i w1 tv cv → WpN P (.region id ops false) (Post X0 h0 w0 ds .normal s2) a w := by
    intro cases cv tv w1 X1 i hgd hs1 hrun hstep hgood hrep
    refine WpN.select hops hgd hrun hstep ?_
    have hh : s1.heap = i := by rw [hs1, putT_heap]
    have iv2 := iv.putO (Y := X1) (w' := w1) wf2 (i := i) hgood.mono (hgood.extF hg.rel) (cv := cv) (v := tv) hrep
    rw [← hs1] at iv2
    refine rest_ok (X := X1) hT hC hS wf3 iv2.len iv2.tmp (by rw [hh]; exact hgood.rel) hv2 (fun a' w' X' h1 h2 h3 h4 => ?_)
    rw [defers_put] at h1
    rw [hh] at h4
    exact ⟨rfl, X', ⟨by rw [h1]; exact ht.defers, h2, h3⟩, (hg.trans hgood).trans h4⟩
  unfold selC at hv
  split at hv
  case h_2 => simp [Res.eval] at hv
  rename_i cs d ho hgd hd
  split at hv
  case h_2 => simp [Res.eval] at hv
  rename_i cse hcs
  split at hv
  case h_2 => simp [Res.eval] at hv
  rename_i b hch
  split at hv
  case h_2 => simp [Res.eval] at hv
  rename_i c cap LL hb
  split at hv
  case h_2 => simp [Res.eval] at hv
  rename_i hz ha
  have hcs' : cs = #[cse] := by apply Array.ext'; simpa using hcs
  obtain ⟨ti, hti, hzz⟩ := nil_zero hT hz ha
  have hc := hρ cse.chan
  rw [hch] at hc
  obtain ⟨buf, sn, rn, hw, h1, h2, h3, h4⟩ := hg.rel.blk b _ hb
  generalize hcv : a.eval cse.chan = cv at hc
  cases hc with
  | ch hlt =>
  split at hv
  · rename_i x hsend
    split at hv
    case h_2 => simp [Res.eval] at hv
    rename_i rr hx
    split at hv
    case h_2 => simp [Res.eval] at hv
    rename_i c' L hr
    split at hv
    case h_2 => simp [Res.eval] at hv
    rename_i L2 hcast
    obtain ⟨rfl, hLL⟩ := castL_ok hcast
    simp only at hLL; subst hLL
    have hu := hρ x
    rw [hx] at hu
    have hrun : (execOp a.eval o).run P w = .ok (.comm #[Go.Conc.scase (X.ρ b).1 (a.eval x) (.slice none 0 0)] false .select) w := by
      simp [execOp, ho, hcs', hcv, hsend, Go.Conc.scase, zeroValue, typeInfo, hti, hzz]
    rw [Res.eval_br] at hv
    cases hroom : decide (LL.length < cap) with
    | true =>
      rw [hroom] at hv
      simp only [cond_true, Res.eval, Option.some.injEq] at hv
      simp only [decide_eq_true_eq] at hroom
      refine fin _ _ _ _ _ _ hgd (by rw [hd]; exact hv.symm) hrun (fun fr cs es hG => Go.Conc.step_lone_select_send_room hG hw (by omega)) (Good.send hg.rel hb hr hu hroom hw) ?_
      exact ⟨[_, _], rfl, .cons .int (.cons .bool .nil)⟩
    | false =>
      rw [hroom] at hv
      simp only [cond_false, Res.eval, Option.some.injEq] at hv
      simp only [decide_eq_false_iff_not] at hroom
      refine fin _ _ _ _ _ _ hgd (by rw [hd]; exact hv.symm) hrun (fun fr cs es hG => Go.Conc.step_lone_select_send_full hG hw (by omega)) (Good.refl hg.rel) ?_
      exact ⟨[_, _], rfl, .cons .int (.cons .bool .nil)⟩
  · rename_i hsend
    have hrun : (execOp a.eval o).run P w = .ok (.comm #[Go.Conc.rcase (X.ρ b).1 (.slice none 0 0)] false .select) w := by
      simp [execOp, ho, hcs', hcv, hsend, Go.Conc.rcase, zeroValue, typeInfo, hti, hzz]
    rw [Res.eval_br] at hv
    cases LL with
    | nil =>
      simp only [List.isEmpty_nil, cond_true, Res.eval, Option.some.injEq] at hv
      have hb0 : buf = #[] := by apply Array.eq_empty_of_size_eq_zero; simpa using h1
      subst hb0
      refine fin _ _ _ _ _ _ hgd (by rw [hd]; exact hv.symm) hrun (fun fr cs es hG => Go.Conc.step_lone_select_default hG hw) (Good.refl hg.rel) ?_
      exact ⟨[_, _, _], rfl, .cons .int (.cons .bool (.cons .nils .nil))⟩
    | cons L LL =>
      simp only [List.isEmpty_cons, cond_false, Res.eval, List.head?_cons, List.tail_cons, Option.some.injEq] at hv
      obtain ⟨g1, g2, g3⟩ := Good.recv hg.rel hb hw
      refine fin _ _ _ _ _ _ hgd (by rw [hd]; exact hv.symm) hrun (fun fr cs es hG => Go.Conc.step_lone_select_recv_buf hG hw g3) g1 ?_
      exact ⟨[_, _, _], rfl, .cons .int (.cons .bool (.cons g2 .nil))⟩

theorem selOf_spec {d : Bool} {ops : List Oper} {o : Oper} {r : List Oper} (h : selOf d ops = some (o, r)) : d = false ∧ ops = o :: r := by
  unfold selOf at h
  split at h
  · split at h
    · simp at h; obtain ⟨rfl, rfl⟩ := h; exact ⟨rfl, rfl⟩
    · simp at h
  · simp at h

theorem codeS_ok (hm : P.follows .mixedOrders = true) (hT : TAll P e) (hC : CallsOk P e) (hS : StepHOk P e) {X0 : Cx} {h0 : List Blk} {w0 : World} {ds : List Deferred} : ∀ (c : Code) (s : St) (a : Act) (w : World) (X : Cx) (x : Ex) (s' : St),
    TOk X w s a ds → Good X0 h0 w0 X s.heap w → (codeS e h0.length c s).eval = some (x, s') → WpN P c (Post X0 h0 w0 ds x s') a w := by
  intro c
  induction c with
  | seq c1 c2 ih1 ih2 =>
    intro s a w X x s' ht hg hv
    unfold codeS at hv
    rw [Res.eval_bind] at hv
    obtain ⟨⟨x1, s1⟩, hp, hv⟩ := Option.bind_eq_some_iff.mp hv
    refine WpN.seq ((ih1 s a w X x1 s1 ht hg hp).mono fun ex a' w' hq => ?_)
    obtain ⟨rfl, X', ht', hg'⟩ := hq
    cases x1 with
    | normal => exact ih2 s1 a' w' X' x s' ht' hg' hv
    | exit id =>
      simp only [Res.eval, Option.some.injEq, Prod.mk.injEq] at hv
      obtain ⟨rfl, rfl⟩ := hv
      exact ⟨rfl, X', ht', hg'⟩
    | ret =>
      simp only [Res.eval, Option.some.injEq, Prod.mk.injEq] at hv
      obtain ⟨rfl, rfl⟩ := hv
      exact ⟨rfl, X', ht', hg'⟩
  | cond c c1 c2 ih1 ih2 =>
    intro s a w X x s' ht hg hv
    unfold codeS at hv
    split at hv
    · rename_i t hc
      obtain ⟨ht', hev⟩ := ht.lit hc
      rw [Res.eval_br] at hv
      cases t with
      | true => exact WpN.cond (t := true) hev (ih1 _ a w X x s' ht' (by rw [setCond_heap]; exact hg) hv)
      | false => exact WpN.cond (t := false) hev (ih2 _ a w X x s' ht' (by rw [setCond_heap]; exact hg) hv)
    · simp [Res.eval] at hv
  | block id c ih =>
    intro s a w X x s' ht hg hv
    unfold codeS at hv
    rw [Res.eval_bind] at hv
    obtain ⟨⟨x1, s1⟩, hp, hv⟩ := Option.bind_eq_some_iff.mp hv
    refine WpN.block ((ih s a w X x1 s1 ht hg hp).mono fun ex a' w' hq => ?_)
    obtain ⟨rfl, X', ht', hg'⟩ := hq
    cases x1 with
    | normal =>
      simp only [Res.eval, Option.some.injEq, Prod.mk.injEq] at hv
      obtain ⟨rfl, rfl⟩ := hv
      exact ⟨rfl, X', ht', hg'⟩
    | exit j =>
      simp only at hv
      split at hv
      · rename_i hj
        simp only [Nat.beq_eq] at hj
        simp only [Res.eval, Option.some.injEq, Prod.mk.injEq] at hv
        obtain ⟨rfl, rfl⟩ := hv
        subst hj
        show (if j = j then Post X0 h0 w0 ds .normal s1 .normal a' w' else _)
        rw [if_pos rfl]
        exact ⟨rfl, X', ht', hg'⟩
      · rename_i hj
        simp only [Nat.beq_eq] at hj
        simp only [Res.eval, Option.some.injEq, Prod.mk.injEq] at hv
        obtain ⟨rfl, rfl⟩ := hv
        show (if j = id then _ else Post X0 h0 w0 ds (.exit j) s1 (.exit j) a' w')
        rw [if_neg hj]
        exact ⟨rfl, X', ht', hg'⟩
    | ret =>
      simp only [Res.eval, Option.some.injEq, Prod.mk.injEq] at hv
      obtain ⟨rfl, rfl⟩ := hv
      exact ⟨rfl, X', ht', hg'⟩
  | region id ops d =>
    intro s a w X x s' ht hg hv
    unfold codeS at hv
    split at hv
    · rename_i o r hso
      obtain ⟨rfl, hops⟩ := selOf_spec hso
      split at hv
      case isFalse => simp [Res.eval] at hv
      rename_i hwf
      rw [Res.eval_bind] at hv
      obtain ⟨s1, hs1, hv⟩ := Option.bind_eq_some_iff.mp hv
      rw [Res.eval_bind] at hv
      obtain ⟨s2, hs2, hv⟩ := Option.bind_eq_some_iff.mp hv
      simp only [Res.eval, Option.some.injEq, Prod.mk.injEq] at hv
      obtain ⟨rfl, rfl⟩ := hv
      exact select_ok hT hC hS hops hwf ht hg hs1 hs2
    · exact .of (code_ok hm hT hC hS _ s a w X x s' ht hg hv)
  | _ =>
    intro s a w X x s' ht hg hv
    exact .of (code_ok hm hT hC hS _ s a w X x s' ht hg hv)

theorem runS_okH (hm : P.follows .mixedOrders = true) (hT : TAll P e) (hC : CallsOk P e) (hS : StepHOk P e) {f : FuncId} {fn : Func} (hf : P.funcs[f]? = some fn) (hen : ∀ args w, (callFunc f args).run P w = .ok (.enter f args) w) :
    SpecOk P f (runS e fn) := by
  refine ⟨hen, fun X h w args cargs v h' hH hargs hv => ?_⟩
  unfold runS at hv
  split at hv
  · simp [Res.eval] at hv
  rename_i c hc
  rw [Res.eval_bind] at hv
  obtain ⟨⟨x, s⟩, hp, hv⟩ := Option.bind_eq_some_iff.mp hv
  have hlen := hargs.len
  refine calls_of_wpN hf hc ((codeS_ok hm hT hC hS (X0 := X) (h0 := h) (w0 := w) (ds := []) c _ _ w X x s ⟨rfl, ?_, fun t av hav => ?_⟩ (Good.refl hH) hp).mono fun ex a' w' hq => ?_) (fun w2 hR => by obtain ⟨_, _, hR, _⟩ := hR; cases hR)
  · simp [hlen]
  · show RepV X h w av _
    rw [List.getElem?_append] at hav
    rw [Array.getD_eq_getD_getElem?, Array.getElem?_append]
    split at hav
    · rename_i hlt
      obtain ⟨u, hu, hr⟩ := hargs.get hav
      rw [if_pos (by simp; omega)]
      simpa [hu] using hr
    · rw [List.getElem?_replicate] at hav
      split at hav
      · simp at hav; subst hav; trivial
      · simp at hav
  · obtain ⟨rfl, X', ht, hg⟩ := hq
    have fin : ∀ v0, resultsR e fn s = some v0 → (nodupB (reachOf s.heap (List.range h.length ++ refsV v0)) && firstB 0 h.length (reachOf s.heap (List.range h.length ++ refsV v0))) = true →
        (renV (fun x => idxOf x (reachOf s.heap (List.range h.length ++ refsV v0))) v0, pickB s.heap (reachOf s.heap (List.range h.length ++ refsV v0))) = (v, h') →
        a'.defers = [] ∧ ∃ cv, (results fn a'.tmps).run P w' = .ok cv w' ∧ Ends X h w v h' (.returned cv) w' := by
      intro v0 hres hcond heq
      simp only [Bool.and_eq_true] at hcond
      obtain ⟨rfl, rfl⟩ := Prod.mk.injEq .. ▸ heq
      obtain ⟨cv, hrun, hr⟩ := results_ok hT ht hg.rel hres
      exact ⟨ht.defers, cv, hrun, cv, _, rfl, renV_ok (pick_fits _) hr, hg.pick hcond.1 hcond.2⟩
    cases x with
    | exit id => simp [Res.eval] at hv
    | normal =>
      simp only at hv
      split at hv
      · simp [Res.eval] at hv
      · rename_i v0 hres
        split at hv
        · rename_i hcond
          simp only [Res.eval, Option.some.injEq] at hv
          exact fin v0 hres hcond hv
        · simp [Res.eval] at hv
    | ret =>
      simp only at hv
      split at hv
      · simp [Res.eval] at hv
      · rename_i v0 hres
        split at hv
        · rename_i hcond
          simp only [Res.eval, Option.some.injEq] at hv
          exact fin v0 hres hcond hv
        · simp [Res.eval] at hv

/-- .. where so many blocks are handed over. -/
def runSh (n : Nat) (e : Env) (f : Func) : Spec := fun args h => match Nat.beq h.length n with
  | true => runS e f args h
  | false => .fail
theorem runSh_ok {f : FuncId} {fn : Func} {n : Nat} (ok : SpecOk P f (runS e fn)) : SpecOk P f (runSh n e fn) := by
  refine ok.less fun args hs r hr => ?_
  unfold runSh at hr
  split at hr
  · exact hr
  · simp [Res.eval] at hr

theorem runS_ok (hm : P.follows .mixedOrders = true) (hT : TAll P e) (hC : CallsOk P e) {f : FuncId} {fn : Func} (hf : P.funcs[f]? = some fn) (hen : ∀ args w, (callFunc f args).run P w = .ok (.enter f args) w) : SpecOk P f (runS e fn) :=
  runS_okH hm hT hC (stepG_ok hT hC) hf hen

end
end Ab
