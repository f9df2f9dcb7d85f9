/- A region carried out. -/
import Derived.Test.YtnbcmbbhmknbbaaAbRegionB
set_option linter.unusedSectionVars false
set_option linter.unusedSimpArgs false
set_option linter.unusedVariables false
namespace Ab
open Go
section
variable [Uni] [Cod]
variable {P : Program} {e : Env} {X Y : Cx} {h i : List Blk} {w w' : World} {o : Oper} {ρA : Operand → AV} {ρ : Operand → Value} {v : AV}

/-- What holds behind a region: the state stands for the frame and memory. -/
def After (X : Cx) (h : List Blk) (w : World) (ds : List Deferred) (s' : St) (Q : Exit → Act → World → Prop) : Prop :=
  ∀ a' w' X', a'.defers = ds → s'.tmps.length = a'.tmps.size → (∀ t av, s'.tmps[t]? = some av → RepV X' s'.heap w' av (a'.tmps.getD t undef)) → Good X h w X' s'.heap w' → Q .normal a' w'

theorem defers_put (a : Act) (d : Option Tmp) (v : Value) : (a.put d v).defers = a.defers := by cases d <;> rfl

/-- An operation carried out that leaves memory alone, then the rest. -/
theorem doV {all : Array Oper} {a : Act} {o : Oper} {rest : List Oper} {Q : Exit → Act → World → Prop} {cv : Value} (hq : ∀ w2, Cls w w2 → o.quietAt P a (Cls w) w2 cv)
    (hw : Region.wanted o (yielded all a.tmps) = true) (hK : ∀ w2, Cls w w2 → wpList P all Q rest (a.put o.dst cv) w2) : wpList P all Q (o :: rest) a w := by
  unfold wpList
  rw [if_pos hw]
  exact .inl (Oper.wp_of_quiet (C := Cls w) (K := fun a' => a' = a.put o.dst cv) (Cls.self w) (fun a' w' hc ha => by rw [ha]; exact hK w' hc) ⟨cv, hq, rfl⟩)

theorem upon_goes {a : Act} {Q : Exit → Act → World → Prop} {next : Act → World → Prop} {h' : List Blk} (g : Goes P X h w o a.eval v h')
    (hK : ∀ cv w' X', RepV X' h' w' v cv → Good X h w X' h' w' → next (a.put o.dst cv) w') : o.wp P a w next Q := by
  unfold Oper.wp
  rcases g with ⟨cv, w', X', hrun, hr, hg⟩ | ⟨f, args, hrun, hcall⟩
  · rcases hrun with hrun | ⟨hrun, rfl⟩
    · rw [hrun]; exact hK cv w' X' hr hg
    · rw [hrun]; exact hK undef w' X' hr hg
  · rw [hrun]
    show Calls P f args w _
    refine hcall.mono fun en w' hen => ?_
    obtain ⟨cv, X', rfl, hr, hg⟩ := hen
    exact hK cv w' X' hr hg

/-- What stepH comes to is what the machine does. -/
def StepHOk (P : Program) (e : Env) : Prop := ∀ (X : Cx) (h : List Blk) (w : World) (o : Oper) (a : Act) (ρA : Operand → AV) (v : AV) (h' : List Blk), RepO X h w ρA a.eval → RelH X h w → (stepH e o ρA h).eval = some (v, h') → Goes P X h w o a.eval v h'

/-- How a list of operations is gone through, whatever is to be shown of it. -/
structure Drive (P : Program) (e : Env) (all : Array Oper) (X0 : Cx) (h0 : List Blk) (w0 : World) (ds : List Deferred) (s' : St) (allV : Bool) (D : List Oper → Act → World → Prop) : Prop where
  nil : ∀ a w X, a.defers = ds → s'.tmps.length = a.tmps.size → (∀ t av, s'.tmps[t]? = some av → RepV X s'.heap w av (a.tmps.getD t undef)) → Good X0 h0 w0 X s'.heap w → D [] a w
  val : ∀ o rest a w cv, (∀ w2, Cls w w2 → o.quietAt P a (Cls w) w2 cv) → Region.wanted o (yielded all a.tmps) = true → (∀ w2, Cls w w2 → D rest (a.put o.dst cv) w2) → D (o :: rest) a w
  skip : ∀ o rest a w, Region.wanted o (yielded all a.tmps) = false → D rest (a.put o.dst undef) w → D (o :: rest) a w
  hp : allV = false → ∀ (o : Oper) rest (a : Act) w X h v h', Region.wanted o (yielded all a.tmps) = true → Goes P X h w o a.eval v h' → (∀ cv w' X', RepV X' h' w' v cv → Good X h w X' h' w' → D rest (a.put o.dst cv) w') → D (o :: rest) a w

theorem isVs_isV {e : Env} {o : Oper} {s : St} {W : List (Tmp × List (Tmp × Bool) × AV)} {gs : List (Tmp × Bool)} (h : isVs e o = true) : isV e o (evO s W gs) = true := by
  unfold isVs at h
  unfold isV
  cases ho : o.op with
  | call c =>
    rw [ho] at h
    simp only at h ⊢
    cases hc : c.callee with
    | value f =>
      rw [hc] at h
      simp only at h ⊢
      cases f with
      | func g =>
        simp only [evO] at h ⊢
        split at h
        · rename_i sp hsp; simp [hsp]
        · simp at h
      | _ => simp at h
    | invoke r m => rfl
    | builtin b => (cases b <;> first | rfl | (rw [hc] at h; simp at h; done))
  | _ => first | rfl | (rw [ho] at h; simp at h; done)

theorem ops_ok (hT : TAll P e) (hC : CallsOk P e) (hS : StepHOk P e) (all : Array Oper) {X0 : Cx} {h0 : List Blk} {w0 : World} {ds : List Deferred} {s' : St} {allV : Bool} {D : List Oper → Act → World → Prop} (hD : Drive P e all X0 h0 w0 ds s' allV D) :
    ∀ (r : List Oper) (g : Rg) (s : St) (a : Act) (w : World) (X : Cx) (seen : List Tmp), (allV = true → r.all (isVs e) = true) → wfGo all.toList seen r = true → Inv X w g s a.tmps seen → Good X0 h0 w0 X s.heap w → a.defers = ds →
      (opsR e all.toList r g s).eval = some s' → D r a w
  | [], g, s, a, w, X, seen, hav, hwf, iv, hg, hd, hv => by
    simp only [opsR, Res.eval, Option.some.injEq] at hv; subst hv
    exact hD.nil a w X hd iv.len iv.tmp hg
  | o :: r, g, s, a, w, X, seen, hav, hwf, iv, hg, hd, hv => by
    have hav' : allV = true → r.all (isVs e) = true := fun hh => by have := hav hh; simp only [List.all_cons, Bool.and_eq_true] at this; exact this.2
    obtain ⟨wf1, wf2, wf3⟩ := wfGo_cons hwf
    have hG : ∀ p ∈ g.G, a.tmps.getD p.1 undef = .bool p.2 := fun p hp => (iv.G p hp).2
    -- carried out, in a state and under known tests
    have exec : ∀ (g2 : Rg) (s2 : St) (gs : List (Tmp × Bool)), s2.heap = s.heap → Inv X w g2 s2 a.tmps seen → (∀ p ∈ gs, a.tmps.getD p.1 undef = .bool p.2) → Region.wanted o (yielded all a.tmps) = true →
        (if isV e o (evO s2 g2.W gs) then (stepP e o s2 g2.W gs s.heap).bind fun v => opsR e all.toList r g2 (putT s2 o.dst v s.heap)
          else (stepH e o (evO s2 g2.W gs) s.heap).bind fun p => opsR e all.toList r g2 (putT s2 o.dst p.1 p.2)).eval = some s' → D (o :: r) a w := by
      intro g2 s2 gs hh iv2 hgs hw hv2
      have hρ := evO_ok (ds := a.defers) iv2 hgs
      rw [hh] at hρ
      split at hv2
      · rw [Res.eval_bind] at hv2
        obtain ⟨v, hv3, hv4⟩ := Option.bind_eq_some_iff.mp hv2
        rw [← hh] at hv3
        obtain ⟨cv, hr, hq⟩ := stepP_ok (a := a) hT hC iv2 hgs (by rw [hh]; exact hg.rel) hv3
        rw [hh] at hr
        have hq : ∀ w2, Cls w w2 → o.quietAt P a (Cls w) w2 cv := hq
        refine hD.val o r a w cv hq hw (fun w2 hc => ?_)
        have hb := Good.below hg.rel hc
        refine ops_ok hT hC hS all hD r g2 _ _ w2 X _ hav' wf3 ?_ ?_ (by rw [defers_put]; exact hd) hv4
        · have := iv2.putO (Y := X) (w' := w2) wf2 (i := s.heap) (by rw [hh]; exact hb.mono) (hb.extF hg.rel) (cv := cv) (v := v) (RepV.mono hb.mono (hb.extF hg.rel) hr)
          exact this
        · have : (putT s2 o.dst v s.heap).heap = s.heap := by unfold putT; split <;> rfl
          rw [this]; exact hg.trans hb
      · rw [Res.eval_bind] at hv2
        obtain ⟨p, hv3, hv4⟩ := Option.bind_eq_some_iff.mp hv2
        have hgo := hS X s.heap w o a _ p.1 p.2 hρ hg.rel hv3
        refine hD.hp ?_ o r a w X s.heap p.1 p.2 hw hgo (fun cv w2 X2 hr hgd => ?_)
        · cases hall : allV with
          | false => rfl
          | true =>
            exfalso
            have := hav hall
            simp only [List.all_cons, Bool.and_eq_true] at this
            rename_i hnv
            exact hnv (isVs_isV this.1)
        refine ops_ok hT hC hS all hD r g2 _ _ w2 X2 _ hav' wf3 ?_ ?_ (by rw [defers_put]; exact hd) hv4
        · exact iv2.putO (Y := X2) (w' := w2) wf2 (i := p.2) (by rw [hh]; exact hgd.mono) (hgd.extF hg.rel) hr
        · have : (putT s2 o.dst p.1 p.2).heap = p.2 := by unfold putT; split <;> rfl
          rw [this]; exact hg.trans hgd
    -- left out
    have skip : ∀ (g2 : Rg) (s2 : St), s2.heap = s.heap → Inv X w g2 s2 a.tmps seen → Region.wanted o (yielded all a.tmps) = false →
        (opsR e all.toList r g2 (putT s2 o.dst .top s.heap)).eval = some s' → D (o :: r) a w := by
      intro g2 s2 hh iv2 hw hv2
      refine hD.skip o r a w hw ?_
      refine ops_ok hT hC hS all hD r g2 _ _ w X _ hav' wf3 ?_ ?_ (by rw [defers_put]; exact hd) hv2
      · exact iv2.putO (Y := X) (w' := w) wf2 (i := s.heap) (by rw [hh]; exact Mono.refl X s.heap) (Ext.refl _ w) (cv := undef) (v := .top) trivial
      · have : (putT s2 o.dst .top s.heap).heap = s.heap := by unfold putT; split <;> rfl
        rw [this]; exact hg
    unfold opsR at hv
    split at hv
    · rename_i hgd
      exact exec g s g.G rfl iv hG (wanted_none hgd) hv
    · rename_i j want hgd
      obtain ⟨t, hj, ht⟩ := wf1 j want hgd
      rw [hj] at hv
      simp only at hv
      have hwt := wanted_guard (tm := a.tmps) hgd hj
      split at hv
      · rename_i hm
        exact exec g s g.G rfl iv hG (hwt.mpr (hG _ (memB_mem hm))) hv
      · split at hv
        · rename_i hm
          have h1 := hG _ (memB_mem hm)
          simp only at h1
          refine skip g s rfl iv ?_ hv
          have : ¬ Region.wanted o (yielded all a.tmps) = true := by
            rw [hwt, h1]; cases want <;> simp
          simpa using this
        · split at hv
          · -- carried out just where the test holds; its value is kept with its conditions
            rename_i d v h1 h2 h3
            split at hv
            case h_1 => simp [Res.eval] at hv
            rename_i av0 hav0
            have hdl : d < a.tmps.size := by rw [← iv.len]; exact lt_of_list hav0
            have hcs := fun b hb => conds_ok iv (t := t) (b := b) hb
            by_cases hwanted : a.tmps.getD t undef = .bool want
            · have hgs : ∀ p ∈ (t, want) :: ((condsW t g.W).getD [] ++ g.G), a.tmps.getD p.1 undef = .bool p.2 := by
                intro p hp
                rcases List.mem_cons.mp hp with rfl | hp
                · exact hwanted
                · rcases List.mem_append.mp hp with hp | hp
                  · exact (hcs want hwanted p hp).2
                  · exact hG p hp
              have hρ := evO_ok (ds := a.defers) iv hgs
              obtain ⟨cv, hr, hq⟩ := stepP_ok (a := a) (v := v) hT hC iv hgs hg.rel (by rw [h3]; rfl)
              refine hD.val o r a w cv hq (hwt.mpr hwanted) (fun w2 hc => ?_)
              have hb := Good.below hg.rel hc
              have ivp := iv.put (Y := X) (w' := w2) (wf2 d h2) (i := s.heap) hb.mono (hb.extF hg.rel) (cv := cv) (v := .top) trivial
              have hseen : seenWith seen o.dst = d :: seen := by rw [h2]; rfl
              rw [h2] at wf3 ⊢
              refine ops_ok hT hC hS all hD r ⟨g.G, (d, (t, want) :: (condsW t g.W).getD [], v) :: g.W⟩ _ _ w2 X (d :: seen) hav' wf3 ?_ ?_ hd hv
              · refine ⟨ivp.len, ivp.tmp, ivp.G, fun q hq => ?_⟩
                rcases List.mem_cons.mp hq with rfl | hq
                · have hdt : d ≠ t := fun hh => wf2 d h2 (hh ▸ ht)
                  refine ⟨by simp, fun p hp => ?_, fun _ => ?_, fun hno => ?_⟩
                  · rcases List.mem_cons.mp hp with rfl | hp
                    · exact List.mem_cons_of_mem _ ht
                    · exact List.mem_cons_of_mem _ (hcs want hwanted p hp).1
                  · show RepV X s.heap w2 v ((a.tmps.setIfInBounds d cv).getD d undef)
                    rw [getD_set]
                    rw [if_pos ⟨rfl, hdl⟩]; exact RepV.mono hb.mono (hb.extF hg.rel) hr
                  · exfalso
                    apply hno
                    intro p hp
                    show (a.tmps.setIfInBounds d cv).getD p.1 undef = .bool p.2
                    have hp' : p.1 ∈ seen ∧ a.tmps.getD p.1 undef = .bool p.2 := by
                      rcases List.mem_cons.mp hp with rfl | hp
                      · exact ⟨ht, hwanted⟩
                      · exact hcs want hwanted p hp
                    rw [getD_set, if_neg (fun (hh : p.1 = d ∧ d < a.tmps.size) => wf2 d h2 (hh.1 ▸ hp'.1))]
                    exact hp'.2
                · exact ivp.W q hq
              · exact hg.trans hb
            · have hnw : Region.wanted o (yielded all a.tmps) = false := by
                have : ¬ Region.wanted o (yielded all a.tmps) = true := by rw [hwt]; exact hwanted
                simpa using this
              refine hD.skip o r a w hnw ?_
              have ivp := iv.put (Y := X) (w' := w) (wf2 d h2) (i := s.heap) (Mono.refl X s.heap) (Ext.refl _ w) (cv := undef) (v := .top) trivial
              rw [h2] at wf3 ⊢
              refine ops_ok hT hC hS all hD r ⟨g.G, (d, (t, want) :: (condsW t g.W).getD [], v) :: g.W⟩ _ _ w X (d :: seen) hav' wf3 ?_ ?_ hd hv
              · refine ⟨ivp.len, ivp.tmp, ivp.G, fun q hq => ?_⟩
                rcases List.mem_cons.mp hq with rfl | hq
                · have hdt : d ≠ t := fun hh => wf2 d h2 (hh ▸ ht)
                  have hcs' : ∀ p ∈ (condsW t g.W).getD [], p.1 ∈ seen := by
                    intro p hp
                    cases hc : condsW t g.W with
                    | none => rw [hc] at hp; simp at hp
                    | some cs =>
                      rw [hc] at hp; simp at hp
                      obtain ⟨v', hm⟩ := condsW_mem hc
                      exact (iv.W _ hm).2.1 p hp
                  refine ⟨by simp, fun p hp => ?_, fun hall => ?_, fun _ => ?_⟩
                  · rcases List.mem_cons.mp hp with rfl | hp
                    · exact List.mem_cons_of_mem _ ht
                    · exact List.mem_cons_of_mem _ (hcs' p hp)
                  · exfalso
                    apply hwanted
                    have := hall (t, want) (by simp)
                    change (a.tmps.setIfInBounds d undef).getD t undef = _ at this
                    rw [getD_set, if_neg (fun (hh : t = d ∧ d < a.tmps.size) => hdt hh.1.symm)] at this
                    exact this
                  · show (a.tmps.setIfInBounds d undef).getD d undef = undef
                    rw [getD_set, if_pos ⟨rfl, hdl⟩]
                · exact ivp.W q hq
              · exact hg
          · split at hv
            · simp [Res.eval] at hv
            · rename_i b hb
              rw [Res.eval_br] at hv
              have hbt := wantB_ok iv hb
              cases b with
              | true =>
                have ht' := hbt.mp rfl
                have hgs : ∀ p ∈ (t, want) :: ((condsW t g.W).getD [] ++ g.G), a.tmps.getD p.1 undef = .bool p.2 := by
                  intro p hp
                  rcases List.mem_cons.mp hp with rfl | hp
                  · exact ht'
                  · rcases List.mem_append.mp hp with hp | hp
                    · exact (conds_ok iv ht' p hp).2
                    · exact hG p hp
                have iv2 : Inv X w ⟨(t, want) :: ((condsW t g.W).getD [] ++ g.G), g.W⟩ (setLit s t want) a.tmps seen := by
                  have := iv.lit ht'
                  refine ⟨this.len, this.tmp, fun p hp => ?_, this.W⟩
                  refine ⟨?_, hgs p hp⟩
                  rcases List.mem_cons.mp hp with rfl | hp
                  · exact ht
                  · rcases List.mem_append.mp hp with hp | hp
                    · exact (conds_ok iv ht' p hp).1
                    · exact (iv.G p hp).1
                simp only [cond_true] at hv
                exact exec ⟨(t, want) :: ((condsW t g.W).getD [] ++ g.G), g.W⟩ (setLit s t want) _ rfl iv2 hgs (hwt.mpr ht') hv
              | false =>
                have hnt : ¬ a.tmps.getD t undef = .bool want := fun hh => by have := hbt.mpr hh; simp at this
                have hnw : Region.wanted o (yielded all a.tmps) = false := by
                  have : ¬ Region.wanted o (yielded all a.tmps) = true := by rw [hwt]; exact hnt
                  simpa using this
                simp only [cond_false] at hv
                split at hv
                · rename_i hcs
                  -- the test has no conditions: it is the other truth value
                  have hval : a.tmps.getD t undef = .bool (!want) := by
                    unfold wantB at hb
                    rw [hcs] at hb
                    simp only [holdsAll] at hb
                    split at hb
                    · rename_i b' x hv1 hx1
                      simp at hx1; subst hx1
                      simp at hb
                      have hr : a.tmps.getD t undef = .bool b' := by
                        cases hs : s.tmps[t]? with
                        | none =>
                          rw [List.getD_eq_getElem?_getD, hs] at hv1
                          simp only [Option.getD_none] at hv1
                          have := lookW_ok (X := X) (h := s.heap) (w := w) (t := t) (gs := []) (tm := a.tmps) (by simp) (W := g.W) (fun q hq => (iv.W q hq).2.2.1)
                          rw [hv1] at this
                          exact repC_bool this
                        | some av =>
                          rw [List.getD_eq_getElem?_getD, hs] at hv1
                          have h1 := iv.tmp t av hs
                          simp only [Option.getD_some] at hv1
                          cases av with
                          | top =>
                            have := lookW_ok (X := X) (h := s.heap) (w := w) (t := t) (gs := []) (tm := a.tmps) (by simp) (W := g.W) (fun q hq => (iv.W q hq).2.2.1)
                            simp only at hv1
                            rw [hv1] at this
                            exact repC_bool this
                          | c y => simp only [AV.c.injEq] at hv1; subst hv1; exact repC_bool h1
                          | agg l => simp at hv1
                          | tup l => simp at hv1
                      rw [hr]
                      cases want <;> cases b' <;> simp at hb ⊢
                    · simp at hb
                  have iv2 : Inv X w ⟨(t, !want) :: g.G, g.W⟩ (setLit s t (!want)) a.tmps seen := by
                    have := iv.lit hval
                    refine ⟨this.len, this.tmp, fun p hp => ?_, this.W⟩
                    rcases List.mem_cons.mp hp with rfl | hp
                    · exact ⟨ht, hval⟩
                    · exact iv.G p hp
                  exact skip ⟨(t, !want) :: g.G, g.W⟩ (setLit s t (!want)) rfl iv2 hnw hv
                · exact skip g s rfl iv hnw hv

/-- A region in the order of its text. -/
theorem region_ok (hT : TAll P e) (hC : CallsOk P e) (hS : StepHOk P e) {id : Nat} {ops : Array Oper} {s s' : St} {a : Act} {Q : Exit → Act → World → Prop} (hwf : wfGo ops.toList [] ops.toList = true)
    (hl : s.tmps.length = a.tmps.size) (ht : ∀ t av, s.tmps[t]? = some av → RepV X s.heap w av (a.tmps.getD t undef)) (hH : RelH X s.heap w)
    (hv : (opsR e ops.toList ops.toList ⟨[], []⟩ s).eval = some s') (hQ : After X s.heap w a.defers s' Q) : (Code.region id ops false).wp P Q a w := by
  refine wp_region_list (ops_ok hT hC hS ops (X0 := X) (h0 := s.heap) (w0 := w) (ds := a.defers) (s' := s') (allV := false) (D := wpList P ops Q) ⟨fun a' w' X' h1 h2 h3 h4 => hQ a' w' X' h1 h2 h3 h4, fun o rest a w cv hq hw hK => doV hq hw hK, fun o rest a w hw hK => ?_, fun _ o rest a w X h v h' hw hgo hK => ?_⟩
    ops.toList ⟨[], []⟩ s a w X [] (fun h => by simp at h) hwf ⟨hl, ht, fun p hp => by simp at hp, fun q hq => by simp at hq⟩ (Good.refl hH) rfl hv)
  · unfold wpList
    rw [if_neg (by rw [hw]; simp)]; exact hK
  · unfold wpList
    rw [if_pos hw]
    exact .inl (upon_goes hgo hK)

/-- A region in whatever order: all its operations leave memory alone. -/
theorem region_draw_ok (hm : P.follows .mixedOrders = true) (hT : TAll P e) (hC : CallsOk P e) (hS : StepHOk P e) {id : Nat} {ops : Array Oper} {s s' : St} {a : Act} {Q : Exit → Act → World → Prop} (hwf : wfGo ops.toList [] ops.toList = true)
    (hlex : Region.lexB .any ops = true) (hall : ops.toList.all (isVs e) = true)
    (hl : s.tmps.length = a.tmps.size) (ht : ∀ t av, s.tmps[t]? = some av → RepV X s.heap w av (a.tmps.getD t undef)) (hH : RelH X s.heap w)
    (hv : (opsR e ops.toList ops.toList ⟨[], []⟩ s).eval = some s') (hQ : After X s.heap w a.defers s' Q) : (Code.region id ops true).wp P Q a w := by
  have hb0 : Cls w { w with drawn := w.drawn + 1 } := ⟨rfl, rfl, rfl, Nat.le_refl _, fun _ _ => rfl⟩
  refine wp_region_quiet (C := Cls w) hm hlex hb0 ?_
  have key := ops_ok hT hC hS ops (X0 := X) (h0 := s.heap) (w0 := w) (ds := a.defers) (s' := s') (allV := true)
    (D := fun l a w1 => w1 = w → wpQuiet P ops (Cls w) (fun a' => ∀ w', Cls w w' → Q .normal a' w') l a)
    ⟨fun a' w1 X' h1 h2 h3 h4 hw => by
        subst hw
        refine wpQuiet_nil (fun w' hc => ?_)
        have hb := Good.below h4.rel hc
        exact hQ a' w' X' h1 h2 (fun t av hav => RepV.mono hb.mono (hb.extF h4.rel) (h3 t av hav)) (h4.trans hb),
      fun o rest a w1 cv hq hw hK he => by
        subst he
        unfold wpQuiet
        rw [if_pos hw]
        exact ⟨cv, hq, hK w1 (Cls.self w1) rfl⟩,
      fun o rest a w1 hw hK he => by
        unfold wpQuiet
        rw [if_neg (by rw [hw]; simp)]
        exact hK he,
      fun h => by simp at h⟩
    ops.toList ⟨[], []⟩ s a w X [] (fun _ => hall) hwf ⟨hl, ht, fun p hp => by simp at hp, fun q hq => by simp at hq⟩ (Good.refl hH) rfl hv
  exact key rfl

end
end Ab
