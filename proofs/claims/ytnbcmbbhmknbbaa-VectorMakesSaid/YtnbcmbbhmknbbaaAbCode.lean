/- Code carried out; a function called. -/
import Derived.Test.YtnbcmbbhmknbbaaAbRen
import Derived.Scope
set_option linter.unusedSectionVars false
set_option linter.unusedSimpArgs false
set_option linter.unusedVariables false
namespace Ab
open Go
section
variable [Uni] [Cod]
variable {P : Program} {e : Env} {X Y : Cx} {h i : List Blk} {w w' : World} {v : AV}

def Ex.to : Ex → Exit
  | .normal => .normal
  | .exit id => .exit id
  | .ret => .ret

/-- The state stands for a frame. -/
structure TOk (X : Cx) (w : World) (s : St) (a : Act) (ds : List Deferred) : Prop where
  defers : a.defers = ds
  len : s.tmps.length = a.tmps.size
  tmp : ∀ t av, s.tmps[t]? = some av → RepV X s.heap w av (a.tmps.getD t undef)

/-- What holds behind a piece of code. -/
def Post (X0 : Cx) (h0 : List Blk) (w0 : World) (ds : List Deferred) (x : Ex) (s' : St) : Exit → Act → World → Prop := fun ex a' w' =>
  ex = x.to ∧ ∃ X', TOk X' w' s' a' ds ∧ Good X0 h0 w0 X' s'.heap w'

theorem TOk.lit {s : St} {a : Act} {ds : List Deferred} (h : TOk X w s a ds) {c : Operand} {b : Bool} (hc : evO s [] [] c = .c (.bool b)) : TOk X w (setCond s c b) a ds ∧ a.eval c = .bool b := by
  have ev : a.eval c = .bool b := by
    have iv : Inv X w ⟨[], []⟩ s a.tmps [] := ⟨h.len, h.tmp, fun p hp => by simp at hp, fun q hq => by simp at hq⟩
    have := evO_ok (ds := a.defers) iv (gs := []) (by simp) c
    rw [show (Rg.W ⟨[], []⟩ : List (Tmp × List (Tmp × Bool) × AV)) = [] from rfl, hc] at this
    exact repC_bool this
  refine ⟨?_, ev⟩
  cases c with
  | tmp t =>
    refine ⟨h.defers, by simp [setCond, setLit, h.len], fun u av hu => ?_⟩
    simp only [setCond, setLit, List.getElem?_set] at hu
    split at hu
    · rename_i heq
      subst heq
      split at hu
      · simp at hu; subst hu
        have : a.tmps.getD t undef = .bool b := ev
        rw [this]; exact RepC.bool
      · simp at hu
    · exact h.tmp u av hu
  | _ => exact h

theorem setCond_heap (s : St) (c : Operand) (b : Bool) : (setCond s c b).heap = s.heap := by cases c <;> rfl

theorem mask_get : ∀ {m l : List AV} {t : Nat} {av : AV}, (mask m l)[t]? = some av → av = .top ∨ l[t]? = some av
  | m, [], t, av, h => by
    have : mask m [] = [] := by unfold mask; split <;> simp_all
    rw [this] at h; simp at h
  | [], v :: l, t, av, h => by
    left
    unfold mask at h
    rw [List.getElem?_map] at h
    obtain ⟨_, _, h2⟩ := Option.map_eq_some_iff.mp h
    exact h2.symm
  | x :: m, v :: l, t, av, h => by
    cases t with
    | zero =>
      unfold mask at h
      split at h
      · simp at h; exact .inl h.symm
      · rename_i h1 h2; simp at h1 h2 h
        obtain ⟨rfl, rfl⟩ := h2; exact .inr (by simpa using h)
      · simp_all
    | succ t =>
      unfold mask at h
      split at h
      · rename_i h1 h2; simp at h1 h2 h
        obtain ⟨rfl, rfl⟩ := h1; obtain ⟨rfl, rfl⟩ := h2
        have := mask_get h; simpa using this
      · rename_i h1 h2; simp at h1 h2 h
        obtain ⟨rfl, rfl⟩ := h1; obtain ⟨rfl, rfl⟩ := h2
        have := mask_get h; simpa using this
      · simp_all

theorem mask_len : ∀ (m l : List AV), (mask m l).length = l.length
  | m, [] => by unfold mask; split <;> simp_all
  | [], v :: l => by simp [mask]
  | x :: m, v :: l => by
    unfold mask
    split
    · rename_i h1 h2; simp at h1 h2; obtain ⟨rfl, rfl⟩ := h1; obtain ⟨rfl, rfl⟩ := h2; simp [mask_len]
    · rename_i h1 h2; simp at h1 h2; obtain ⟨rfl, rfl⟩ := h1; obtain ⟨rfl, rfl⟩ := h2; simp [mask_len]
    · simp

theorem canon_ok {X0 : Cx} {h0 : List Blk} {w0 : World} {s s1 : St} {a : Act} {ds : List Deferred} {m : List AV} (ht : TOk X w s a ds) (hg : Good X0 h0 w0 X s.heap w) (hc : (canon h0.length m s).eval = some s1) :
    ∃ X1, TOk X1 w s1 a ds ∧ Good X0 h0 w0 X1 s1.heap w := by
  unfold canon at hc
  simp only at hc
  split at hc
  · rename_i hcond
    simp only [Bool.and_eq_true] at hcond
    simp only [Res.eval, Option.some.injEq] at hc
    subst hc
    refine ⟨_, ⟨ht.defers, by simp [mask_len, ht.len], fun t av hav => ?_⟩, hg.pick hcond.1 hcond.2⟩
    rw [List.getElem?_map] at hav
    obtain ⟨av', hav', rfl⟩ := Option.map_eq_some_iff.mp hav
    refine renV_ok (pick_fits _) ?_
    rcases mask_get hav' with rfl | h1
    · trivial
    · exact ht.tmp t av' h1
  · simp [Res.eval] at hc

theorem code_ok (hm : P.follows .mixedOrders = true) (hT : TAll P e) (hC : CallsOk P e) (hS : StepHOk P e) {X0 : Cx} {h0 : List Blk} {w0 : World} {ds : List Deferred} :
    ∀ (c : Code) (s : St) (a : Act) (w : World) (X : Cx) (x : Ex) (s' : St), TOk X w s a ds → Good X0 h0 w0 X s.heap w → (codeR e h0.length c s).eval = some (x, s') → c.wp P (Post X0 h0 w0 ds x s') a w := by
  intro c
  induction c with
  | skip =>
    intro s a w X x s' ht hg hv
    simp only [codeR, Res.eval, Option.some.injEq, Prod.mk.injEq] at hv
    obtain ⟨rfl, rfl⟩ := hv
    exact wp_skip ⟨rfl, X, ht, hg⟩
  | label l =>
    intro s a w X x s' ht hg hv
    simp only [codeR, Res.eval, Option.some.injEq, Prod.mk.injEq] at hv
    obtain ⟨rfl, rfl⟩ := hv
    exact wp_label ⟨rfl, X, ht, hg⟩
  | region id ops d =>
    intro s a w X x s' ht hg hv
    have after : ∀ s1, x = .normal → s1 = s' → After X s.heap w a.defers s1 (Post X0 h0 w0 ds x s') := by
      intro s1 hx hs a' w' X' h1 h2 h3 h4
      subst hs; subst hx
      exact ⟨rfl, X', ⟨by rw [h1]; exact ht.defers, h2, h3⟩, hg.trans h4⟩
    unfold codeR at hv
    split at hv
    · split at hv
      case isFalse => simp [Res.eval] at hv
      rename_i hwf
      rw [Res.eval_bind] at hv
      obtain ⟨s1, hs1, hv⟩ := Option.bind_eq_some_iff.mp hv
      simp only [Res.eval, Option.some.injEq, Prod.mk.injEq] at hv
      obtain ⟨h1, h2⟩ := hv
      exact region_ok hT hC hS hwf ht.len ht.tmp hg.rel hs1 (after s1 h1.symm h2)
    · split at hv
      case isFalse => simp [Res.eval] at hv
      rename_i hwf
      simp only [Bool.and_eq_true] at hwf
      rw [Res.eval_bind] at hv
      obtain ⟨s1, hs1, hv⟩ := Option.bind_eq_some_iff.mp hv
      simp only [Res.eval, Option.some.injEq, Prod.mk.injEq] at hv
      obtain ⟨h1, h2⟩ := hv
      exact region_draw_ok hm hT hC hS hwf.1.1 hwf.1.2 hwf.2 ht.len ht.tmp hg.rel hs1 (after s1 h1.symm h2)
  | seq c1 c2 ih1 ih2 =>
    intro s a w X x s' ht hg hv
    unfold codeR at hv
    rw [Res.eval_bind] at hv
    obtain ⟨⟨x1, s1⟩, hp, hv⟩ := Option.bind_eq_some_iff.mp hv
    refine wp_seq (wp_mono (ih1 s a w X x1 s1 ht hg hp) fun ex a' w' hq => ?_)
    obtain ⟨rfl, X', ht', hg'⟩ := hq
    cases x1 with
    | normal => exact ih2 s1 a' w' X' x s' ht' hg' hv
    | exit id =>
      simp only [Res.eval, Option.some.injEq, Prod.mk.injEq] at hv
      obtain ⟨rfl, rfl⟩ := hv
      exact ⟨rfl, X', ht', hg'⟩
    | ret =>
      simp only [Res.eval, Option.some.injEq, Prod.mk.injEq] at hv
      obtain ⟨rfl, rfl⟩ := hv
      exact ⟨rfl, X', ht', hg'⟩
  | cond c c1 c2 ih1 ih2 =>
    intro s a w X x s' ht hg hv
    unfold codeR at hv
    split at hv
    · rename_i t hc
      obtain ⟨ht', hev⟩ := ht.lit hc
      rw [Res.eval_br] at hv
      cases t with
      | true => exact wp_cond_true hev (ih1 _ a w X x s' ht' (by rw [setCond_heap]; exact hg) hv)
      | false => exact wp_cond_false hev (ih2 _ a w X x s' ht' (by rw [setCond_heap]; exact hg) hv)
    · simp [Res.eval] at hv
  | block id c ih =>
    intro s a w X x s' ht hg hv
    unfold codeR at hv
    rw [Res.eval_bind] at hv
    obtain ⟨⟨x1, s1⟩, hp, hv⟩ := Option.bind_eq_some_iff.mp hv
    refine wp_block (wp_mono (ih s a w X x1 s1 ht hg hp) fun ex a' w' hq => ?_)
    obtain ⟨rfl, X', ht', hg'⟩ := hq
    cases x1 with
    | normal =>
      simp only [Res.eval, Option.some.injEq, Prod.mk.injEq] at hv
      obtain ⟨rfl, rfl⟩ := hv
      exact ⟨rfl, X', ht', hg'⟩
    | exit j =>
      simp only at hv
      split at hv
      · rename_i hj
        simp only [Nat.beq_eq] at hj
        simp only [Res.eval, Option.some.injEq, Prod.mk.injEq] at hv
        obtain ⟨rfl, rfl⟩ := hv
        subst hj
        show (if j = j then Post X0 h0 w0 ds .normal s1 .normal a' w' else _)
        rw [if_pos rfl]
        exact ⟨rfl, X', ht', hg'⟩
      · rename_i hj
        simp only [Nat.beq_eq] at hj
        simp only [Res.eval, Option.some.injEq, Prod.mk.injEq] at hv
        obtain ⟨rfl, rfl⟩ := hv
        show (if j = id then _ else Post X0 h0 w0 ds (.exit j) s1 (.exit j) a' w')
        rw [if_neg hj]
        exact ⟨rfl, X', ht', hg'⟩
    | ret =>
      simp only [Res.eval, Option.some.injEq, Prod.mk.injEq] at hv
      obtain ⟨rfl, rfl⟩ := hv
      exact ⟨rfl, X', ht', hg'⟩
  | loop c ih =>
    intro s a w X x s' ht hg hv
    unfold codeR at hv
    intro b k cs
    have key : ∀ (n : Nat) (m : List AV) (s : St) (a : Act) (w : World) (X : Cx), TOk X w s a ds → Good X0 h0 w0 X s.heap w → (loopR (codeR e h0.length c) h0.length m n s).eval = some (x, s') →
        ∃ ex a' w', Post X0 h0 w0 ds x s' ex a' w' ∧ Arrives P (lone (b.at a (.code c :: .inLoop c :: k)) cs w) b k cs ex a' w' := by
      intro n
      induction n with
      | zero => intro m s a w X ht hg hv; simp [loopR, Res.eval] at hv
      | succ n ihn =>
        intro m s a w X ht hg hv
        unfold loopR at hv
        rw [Res.eval_bind] at hv
        obtain ⟨s1, hs1, hv⟩ := Option.bind_eq_some_iff.mp hv
        rw [Res.eval_bind] at hv
        obtain ⟨⟨x1, s2⟩, hp, hv⟩ := Option.bind_eq_some_iff.mp hv
        obtain ⟨X1, ht1, hg1⟩ := canon_ok ht hg hs1
        obtain ⟨ex, a1, w1, hq, harr⟩ := ih s1 a w X1 x1 s2 ht1 hg1 hp b (.inLoop c :: k) cs
        obtain ⟨rfl, X', ht', hg'⟩ := hq
        cases x1 with
        | normal =>
          obtain ⟨ex, a2, w2, hq2, harr2⟩ := ihn m s2 a1 w1 X' ht' hg' hv
          exact ⟨ex, a2, w2, hq2, .of_steps (Steps.trans harr (.one step_inLoop)) harr2⟩
        | exit id =>
          simp only [Res.eval_bind] at hv
          obtain ⟨s3, hs3, hv⟩ := Option.bind_eq_some_iff.mp hv
          obtain ⟨X3, ht3, hg3⟩ := canon_ok ht' hg' hs3
          simp only [Res.eval, Option.some.injEq, Prod.mk.injEq] at hv
          obtain ⟨rfl, rfl⟩ := hv
          exact ⟨_, a1, w1, ⟨rfl, X3, ht3, hg3⟩, .pass (x := .inLoop c) rfl (fun _ _ => .inl (by simp [Ex.to])) harr⟩
        | ret =>
          simp only [Res.eval_bind] at hv
          obtain ⟨s3, hs3, hv⟩ := Option.bind_eq_some_iff.mp hv
          obtain ⟨X3, ht3, hg3⟩ := canon_ok ht' hg' hs3
          simp only [Res.eval, Option.some.injEq, Prod.mk.injEq] at hv
          obtain ⟨rfl, rfl⟩ := hv
          exact ⟨_, a1, w1, ⟨rfl, X3, ht3, hg3⟩, .pass (x := .inLoop c) rfl (fun _ _ => .inl (by simp [Ex.to])) harr⟩
    obtain ⟨ex, a', w', hq, harr⟩ := key _ _ s a w X ht hg hv
    exact ⟨ex, a', w', hq, .of_steps (.one step_loop) harr⟩
  | exit id =>
    intro s a w X x s' ht hg hv
    simp only [codeR, Res.eval, Option.some.injEq, Prod.mk.injEq] at hv
    obtain ⟨rfl, rfl⟩ := hv
    exact wp_exit ⟨rfl, X, ht, hg⟩
  | ret =>
    intro s a w X x s' ht hg hv
    simp only [codeR, Res.eval, Option.some.injEq, Prod.mk.injEq] at hv
    obtain ⟨rfl, rfl⟩ := hv
    exact wp_ret ⟨rfl, X, ht, hg⟩
  | scope c ih =>
    intro s a w X x s' ht hg hv
    unfold codeR at hv
    refine wp_scope_straight (wp_mono (ih s a w X x s' ht hg hv) fun ex a' w' hq => ?_)
    obtain ⟨rfl, X', ht', hg'⟩ := hq
    cases x <;> exact ⟨rfl, X', ht', hg'⟩
  | rangeFunc f ps c1 c2 _ _ => intro s a w X x s' ht hg hv; simp [codeR, Res.eval] at hv
  | goto l => intro s a w X x s' ht hg hv; simp [codeR, Res.eval] at hv
  | refuse why => intro s a w X x s' ht hg hv; simp [codeR, Res.eval] at hv

end
end Ab
