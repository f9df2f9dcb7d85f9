/- A region: its operations one behind the other, or in whatever order. -/
import Derived.Test.YtllohgmahflpaaaAbBytes
import Derived.Test.YtllohgmahflpaaaAbDraw
set_option linter.unusedSectionVars false
set_option linter.unusedSimpArgs false
set_option linter.unusedVariables false
namespace Ab
open Go
section
variable [Uni] [Cod]
variable {P : Program} {e : Env} {X Y : Cx} {h i : List Blk} {w w' : World} {o : Oper} {ρA : Operand → AV} {ρ : Operand → Value} {v : AV}

/-- The operation yields one value, in every world of the class. -/
def VQ (P : Program) (e : Env) (X : Cx) (h : List Blk) (w : World) (o : Oper) (a : Act) (v : AV) : Prop :=
  ∃ cv, RepV X h w v cv ∧ (∀ w2, Cls w w2 → o.quietAt P a (Cls w2) w2 cv) ∧ (isSt o = true → ∀ w2, o.quietAt P a (Cls w2) w2 cv) ∧
    (∀ t x, o.op = .load t x → ∃ ad, a.eval x = .pointer (some ad) ∧ ∀ w2, AgreeAt ad (e.T t).size w w2 → o.quietAt P a (Cls w2) w2 cv)

theorem vq_of_yields {a : Act} (hs : isSt o = false) (hn : ∀ t x, o.op ≠ .load t x) (y : Yields1 P X h w o a.eval v) : VQ P e X h w o a v := by
  obtain ⟨cv, hr, hv⟩ := y
  refine ⟨cv, hv, fun w2 hc => ?_, fun h => by (rw [hs] at h; cases h), fun t x h => absurd h (hn t x)⟩
  unfold Oper.quietAt
  rw [hr w2 (below_agree hc)]
  exact ⟨rfl, rfl⟩

theorem vq_of_yields0 {a : Act} (hn : ∀ t x, o.op ≠ .load t x) (y : Yields0 P X h w o a.eval v) : VQ P e X h w o a v := by
  obtain ⟨cv, hr, hv⟩ := y
  have key : ∀ w2, o.quietAt P a (Cls w2) w2 cv := fun w2 => by
    unfold Oper.quietAt
    rw [hr w2 trivial]
    exact ⟨rfl, rfl⟩
  exact ⟨cv, hv, fun w2 _ => key w2, fun _ => key, fun t x h => absurd h (hn t x)⟩

theorem vq_load {t : TypeId} {x : Operand} {a : Act} (ho : o.op = .load t x) (y : ∃ cv ad, a.eval x = .pointer (some ad) ∧ (∀ w2, AgreeAt ad (e.T t).size w w2 → (execOp a.eval o).run P w2 = .ok (.value cv) w2) ∧ RepV X h w v cv) : VQ P e X h w o a v := by
  obtain ⟨cv, ad, hx, hr, hv⟩ := y
  have key : ∀ w2, AgreeAt ad (e.T t).size w w2 → o.quietAt P a (Cls w2) w2 cv := fun w2 hc => by
    unfold Oper.quietAt
    rw [hr w2 hc]
    exact ⟨rfl, rfl⟩
  refine ⟨cv, hv, fun w2 hc => key w2 (.of_agree (below_agree hc)), fun h => by simp [isSt, ho] at h, fun t' x' h => ?_⟩
  rw [ho] at h
  cases h
  exact ⟨ad, hx, key⟩

theorem stepV_ok {a : Act} (hT : TAll P e) (hC : CallsOk P e) (hρ : RepO X h w ρA a.eval) (hH : RelH X h w) (hv : (stepV e o ρA h).eval = some v) : VQ P e X h w o a v := by
  cases ho : o.op with
  | move x => exact vq_of_yields0 (by simp [ho]) (V_move (.inl ho) hρ hv)
  | assign x => exact vq_of_yields0 (by simp [ho]) (V_move (.inr ho) hρ hv)
  | pick c x y => exact vq_of_yields (by simp [isSt, ho]) (by simp [ho]) (V_pick ho hρ hv)
  | build t ps => exact vq_of_yields0 (by simp [ho]) (V_build hT ho hρ hv)
  | load t x => exact vq_load ho (V_loadAt hT ho hρ hH hv)
  | nilCheck x => exact vq_of_yields0 (by simp [ho]) (V_nilCheck ho hρ hv)
  | binOp op t x y u => exact vq_of_yields0 (by simp [ho]) (V_binOp hT ho hρ hv)
  | unOp op t x => exact vq_of_yields0 (by simp [ho]) (V_unOp ho hρ hv)
  | convert s d x => exact vq_of_yields (by simp [isSt, ho]) (by simp [ho]) (V_convert (fun el c hs hd hb => convB_ok hT ho hs hd hρ hH hb) hT ho hρ hv)
  | makeFunc f x y => exact vq_of_yields0 (by simp [ho]) (V_makeFunc ho hρ hv)
  | fieldAddr t x f => exact vq_of_yields0 (by simp [ho]) (V_fieldAddr hT ho hρ hv)
  | field t x f => exact vq_of_yields0 (by simp [ho]) (V_field hT ho hρ hv)
  | index t x y => exact vq_of_yields0 (by simp [ho]) (V_index hT ho hρ hv)
  | indexAddr t x y => exact vq_of_yields0 (by simp [ho]) (V_indexAddr hT ho hρ hH hv)
  | slice t x lo hi mx => exact vq_of_yields0 (by simp [ho]) (V_slice hT ho hρ hv)
  | extract x k => exact vq_of_yields0 (by simp [ho]) (V_extract ho hρ hv)
  | call c =>
    cases hc : c.callee with
    | value f =>
      obtain ⟨hfl, g, args, hrun, hcall⟩ := V_call hC ho hc hρ hH hv
      refine ⟨conV v, flatV_rep hfl, fun w2 hw => ?_, fun h => by simp [isSt, ho, hc] at h, fun t x h => by rw [ho] at h; cases h⟩
      unfold Oper.quietAt
      rw [hrun w2]
      exact ⟨rfl, (hcall w2 hw).mono fun en w3 hen => ⟨hen.1, hen.2⟩⟩
    | invoke r m => unfold stepV at hv; simp [ho, hc, Res.eval] at hv
    | builtin b =>
      cases b with
      | len => exact vq_of_yields0 (by simp [ho]) (V_len hT ho hc hρ hH hv)
      | min => exact vq_of_yields0 (by simp [ho]) (V_minmax (.inl rfl) ho hc hρ hv)
      | max => exact vq_of_yields0 (by simp [ho]) (V_minmax (.inr rfl) ho hc hρ hv)
      | _ => unfold stepV at hv; simp [ho, hc, Res.eval] at hv
  | _ => unfold stepV at hv; simp [ho, Res.eval] at hv

/-- What the executor's state stands for, in the middle of a region. -/
structure Inv (X : Cx) (w : World) (g : Rg) (s : St) (tm : Array Value) (seen : List Tmp) : Prop where
  len : s.tmps.length = tm.size
  tmp : ∀ t av, s.tmps[t]? = some av → RepV X s.heap w av (tm.getD t undef)
  G : ∀ p ∈ g.G, p.1 ∈ seen ∧ tm.getD p.1 undef = .bool p.2
  W : ∀ q ∈ g.W, q.1 ∈ seen ∧ (∀ p ∈ q.2.1, p.1 ∈ seen) ∧ ((∀ p ∈ q.2.1, tm.getD p.1 undef = .bool p.2) → RepV X s.heap w q.2.2 (tm.getD q.1 undef)) ∧
    ((¬ ∀ p ∈ q.2.1, tm.getD p.1 undef = .bool p.2) → tm.getD q.1 undef = undef)

theorem memB_mem {x : Tmp × Bool} : ∀ {l : List (Tmp × Bool)}, memB x l = true → x ∈ l
  | [], h => by simp [memB] at h
  | y :: r, h => by
    unfold memB at h
    simp only [Bool.or_eq_true, Bool.and_eq_true, Nat.beq_eq, beq_iff_eq] at h
    rcases h with ⟨h1, h2⟩ | h
    · exact List.mem_cons.mpr (.inl (Prod.ext h1 h2))
    · exact List.mem_cons_of_mem _ (memB_mem h)

theorem subB_sub : ∀ {l m : List (Tmp × Bool)}, subB l m = true → ∀ p ∈ l, p ∈ m
  | [], _, _, p, hp => by simp at hp
  | x :: r, m, h, p, hp => by
    simp only [subB, Bool.and_eq_true] at h
    rcases List.mem_cons.mp hp with rfl | hp
    · exact memB_mem h.1
    · exact subB_sub h.2 p hp

theorem lookW_ok {t : Tmp} {gs : List (Tmp × Bool)} {tm : Array Value} (hg : ∀ p ∈ gs, tm.getD p.1 undef = .bool p.2) :
    ∀ {W : List (Tmp × List (Tmp × Bool) × AV)}, (∀ q ∈ W, (∀ p ∈ q.2.1, tm.getD p.1 undef = .bool p.2) → RepV X h w q.2.2 (tm.getD q.1 undef)) → RepV X h w (lookW t gs W) (tm.getD t undef)
  | [], _ => trivial
  | (u, cs, v) :: r, hW => by
    unfold lookW
    split
    · rename_i hu
      simp only [Nat.beq_eq] at hu
      subst hu
      split
      · rename_i hs
        exact hW (t, cs, v) (by simp) (fun p hp => hg p (subB_sub hs p hp))
      · trivial
    · exact lookW_ok hg (fun q hq => hW q (by simp [hq]))

theorem ofValue_ok (c : Value) : RepV X h w (ofValue c) c := by
  unfold ofValue
  split
  any_goals trivial
  rename_i h1 h2 h3 h4 h5 h6 h7 h8
  have key : ofVal c = .top ∨ RepC X h w (ofVal c) c := by
    unfold ofVal
    split
    · exact .inr .bool
    · exact .inr .int
    · exact .inr .str
    · exact .inr .nilp
    · exact .inr .nils
    · exact .inr .nilf
    · exact .inr .nilch
    · exact .inr (.fn (first := []) (caps := []) (by simp) (by simp))
    · exact .inl rfl
  split
  · trivial
  · rcases key with hk | hk
    · rename_i hne _; exact absurd hk (by assumption)
    · exact hk

theorem evO_ok {g : Rg} {s : St} {tm : Array Value} {ds : List Deferred} {seen : List Tmp} (iv : Inv X w g s tm seen) {gs : List (Tmp × Bool)} (hg : ∀ p ∈ gs, tm.getD p.1 undef = .bool p.2) :
    RepO X s.heap w (evO s g.W gs) (Act.eval ⟨tm, ds⟩) := by
  intro x
  cases x with
  | tmp t =>
    have hl := lookW_ok (X := X) (h := s.heap) (w := w) (t := t) hg (W := g.W) (fun q hq => (iv.W q hq).2.2.1)
    show RepV X s.heap w (match s.tmps.getD t .top with | .top => lookW t gs g.W | v => v) (tm.getD t undef)
    cases hs : s.tmps[t]? with
    | none => rw [List.getD_eq_getElem?_getD, hs]; exact hl
    | some av =>
      rw [List.getD_eq_getElem?_getD, hs]
      have := iv.tmp t av hs
      cases av with
      | top => exact hl
      | c y => exact this
      | agg l => exact this
      | tup l => exact this
  | const c => exact ofValue_ok c
  | global q => trivial
  | func f => exact RepC.fn (first := []) (caps := []) (by simp) (by simp)

theorem stepP_ok {a : Act} {g : Rg} {s : St} {seen : List Tmp} (hT : TAll P e) (hC : CallsOk P e) (iv : Inv X w g s a.tmps seen) {gs : List (Tmp × Bool)} (hg : ∀ p ∈ gs, a.tmps.getD p.1 undef = .bool p.2)
    (hH : RelH X s.heap w) (hv : (stepP e o s g.W gs s.heap).eval = some v) : VQ P e X s.heap w o a v := by
  have hρ := evO_ok (ds := a.defers) iv hg
  unfold stepP at hv
  split at hv
  · rename_i t x y ho
    split at hv
    · rename_i b hb
      have hc := hρ (.tmp t)
      rw [hb] at hc
      have hc' : a.tmps.getD t undef = .bool b := repC_bool hc
      have hx : b = true → RepV X s.heap w (evO s g.W ((t, true) :: gs) x) (a.eval x) := fun hb' => evO_ok (ds := a.defers) iv (gs := (t, true) :: gs) (fun p hp => by
        rcases List.mem_cons.mp hp with rfl | hp
        · rw [hc', hb']
        · exact hg p hp) x
      have hy : b = false → RepV X s.heap w (evO s g.W ((t, false) :: gs) y) (a.eval y) := fun hb' => evO_ok (ds := a.defers) iv (gs := (t, false) :: gs) (fun p hp => by
        rcases List.mem_cons.mp hp with rfl | hp
        · rw [hc', hb']
        · exact hg p hp) y
      refine vq_of_yields (by simp [isSt, ho]) (by simp [ho]) ⟨if b then a.eval x else a.eval y, fun w2 _ => by
        have : a.eval (.tmp t) = .bool b := hc'
        simp [execOp, ho, this, asBool], ?_⟩
      unfold pickR at hv
      split at hv
      · rename_i p q hp hq
        simp only [Res.eval, Option.some.injEq] at hv; subst hv
        cases b
        · have := hy rfl; rw [hq] at this; simpa using this
        · have := hx rfl; rw [hp] at this; simpa using this
      · simp only [Res.eval] at hv
        cases b
        · simp at hv; subst hv; simpa using hy rfl
        · simp at hv; subst hv; simpa using hx rfl
    · simp [Res.eval] at hv
  · exact stepV_ok hT hC hρ hH hv

end
end Ab
