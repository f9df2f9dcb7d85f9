/- A function told in shapes: by what its arguments, and the blocks that they lead to, look like. -/
import Derived.Test.YtllohgmahflpaaaAbList
set_option linter.unusedSectionVars false
set_option linter.unusedSimpArgs false
set_option linter.unusedVariables false
namespace Ab
open Go
section
variable [Uni] [Cod]
variable {P : Program} {e : Env}

def runQh (n : Nat) (e : Env) (T : Tab) (f : Func) : Spec := fun args h => match Nat.beq h.length n with
  | true => runQ e T f args h
  | false => .fail

theorem runQh_ok {T : Tab} {f : FuncId} {fn : Func} {n : Nat} (ok : SpecOk P f (runR e fn)) (tab : ∀ c, fn.body = some c → TabOk e T n c) : SpecOk P f (runQh n e T fn) := by
  refine ok.less fun args hs r h => ?_
  unfold runQh at h
  split at h
  · rename_i hn
    have := Nat.eq_of_beq_eq_true hn
    subst this
    exact runQ_le tab h
  · simp [Res.eval] at h

def shapeS (pa : List PA) (pb : List PB) (sp alt : Spec) : Spec := fun args h => match shB pa pb ⟨args, h⟩ with
  | true => sp args h
  | false => alt args h

theorem shape_ok {f : FuncId} {run alt : Spec} {pa : List PA} {pb : List PB} {V : Type} {sp : V → Res (AV × List Blk)} (hd : V → St) (ini : St → V) (ok : SpecOk P f run) (oka : SpecOk P f alt)
    (H0 : ∀ s, hd (ini s) = norm pa pb s) (H : ∀ v r, (sp v).eval = some r → (run (hd v).tmps (hd v).heap).eval = some r) :
    SpecOk P f (shapeS pa pb (fun args h => sp (ini ⟨args, h⟩)) alt) := by
  refine ⟨ok.enter, fun X h w args cargs v h' hH ha hv => ?_⟩
  unfold shapeS at hv
  split at hv
  · rename_i hsh
    have hn := norm_ok hsh
    have h0 := H0 ⟨args, h⟩
    rw [hn] at h0
    have h1 := H _ _ hv
    rw [h0] at h1
    exact ok.calls X h w args cargs v h' hH ha h1
  · exact oka.calls X h w args cargs v h' hH ha hv

/-! ### Loops that are left by a return, whose state there has a shape of its own -/

def iter2 {V U : Type} (R : V → Tr (V ⊕ (V ⊕ U))) : Nat → V → Option (V ⊕ U)
  | 0, _ => none
  | n + 1, v => match (R v).get? with
    | some (.inl v') => iter2 R n v'
    | some (.inr r) => some r
    | none => none

def sumOf2 {V U : Type} (id : Nat) (hd : V → St) (hu : U → St) : V ⊕ (V ⊕ U) → St ⊕ (Ex × St)
  | .inl v => .inl (hd v)
  | .inr (.inl v) => .inr (.exit id, hd v)
  | .inr (.inr u) => .inr (.ret, hu u)

def endOf2 {V U : Type} (id : Nat) (hd : V → St) (hu : U → St) : V ⊕ U → Ex × St
  | .inl v => (.exit id, hd v)
  | .inr u => (.ret, hu u)

theorem sumOf2_end {V U : Type} {id : Nat} {hd : V → St} {hu : U → St} {r : V ⊕ U} : sumOf2 id hd hu (.inr r) = .inr (endOf2 id hd hu r) := by cases r <;> rfl

theorem loop_sum2 {V U : Type} {B : St → Res (Ex × St)} {n0 : Nat} {m : List AV} {id : Nat} (hd : V → St) (hu : U → St) (R : V → Tr (V ⊕ (V ⊕ U)))
    (H : ∀ v, (roundR B n0 m (hd v)).eval = (R v).ev (sumOf2 id hd hu)) :
    ∀ (n : Nat) (s : St) (v : V) (r : V ⊕ U), (canon n0 m s).eval = some (hd v) → iter2 R n v = some r → (loopR B n0 m n s).eval = some (endOf2 id hd hu r)
  | 0, s, v, r, hs, h => by simp [iter2] at h
  | n + 1, s, v, r, hs, h => by
    unfold loopR
    rw [Res.eval_bind, hs]
    simp only [Option.bind_some]
    rw [Res.eval_bind]
    have hv := H v
    unfold roundR at hv
    rw [Res.eval_bind, Tr.ev_get?] at hv
    unfold iter2 at h
    cases hB : (B (hd v)).eval with
    | none =>
      rw [hB] at hv
      simp only [Option.bind_none] at hv
      cases hg : (R v).get? with
      | none => rw [hg] at h; simp at h
      | some z => rw [hg] at hv; simp at hv
    | some p =>
      rw [hB] at hv
      simp only [Option.bind_some] at hv ⊢
      cases hg : (R v).get? with
      | none => rw [hg] at h; simp at h
      | some z =>
        rw [hg] at hv h
        obtain ⟨x, s1⟩ := p
        cases x with
        | normal =>
          simp only [Res.eval_bind, Option.map_some] at hv
          cases hc : (canon n0 m s1).eval with
          | none => rw [hc] at hv; simp at hv
          | some s2 =>
            rw [hc] at hv
            simp only [Option.bind_some, Res.eval, Option.some.injEq] at hv
            cases z with
            | inl v' =>
              simp only [sumOf2, Sum.inl.injEq] at hv
              subst hv
              exact loop_sum2 hd hu R H n s1 v' r hc h
            | inr q => rw [sumOf2_end] at hv; simp at hv
        | exit i =>
          simp only [Res.eval_bind, Option.map_some] at hv ⊢
          cases hc : (canon n0 m s1).eval with
          | none => rw [hc] at hv; simp at hv
          | some s2 =>
            rw [hc] at hv
            simp only [Option.bind_some, Res.eval, Option.some.injEq] at hv ⊢
            cases z with
            | inl v' => simp [sumOf2] at hv
            | inr q =>
              simp only [Option.some.injEq] at h; subst h
              rw [sumOf2_end] at hv
              simp only [Sum.inr.injEq] at hv
              rw [← hv]
        | ret =>
          simp only [Res.eval_bind, Option.map_some] at hv ⊢
          cases hc : (canon n0 m s1).eval with
          | none => rw [hc] at hv; simp at hv
          | some s2 =>
            rw [hc] at hv
            simp only [Option.bind_some, Res.eval, Option.some.injEq] at hv ⊢
            cases z with
            | inl v' => simp [sumOf2] at hv
            | inr q =>
              simp only [Option.some.injEq] at h; subst h
              rw [sumOf2_end] at hv
              simp only [Sum.inr.injEq] at hv
              rw [← hv]

def loopF2 {V U : Type} (pa : List PA) (pb : List PB) (N : Nat) (hd : V → St) (hu : U → St) (R : V → Tr (V ⊕ (V ⊕ U))) (ini : St → V) (s : St) : Res (Ex × St) :=
  match shB pa pb s with
  | true => .opt (iter2 R N (ini s)) fun r => .br r.isRight (.opt r.getRight? fun u => .val (.ret, hu u)) (.opt r.getLeft? fun v => .val (.normal, hd v))
  | false => .fail

theorem blk_ok2 {e : Env} {T : Tab} {n0 id : Nat} {lb : Code} {pa : List PA} {pb : List PB} {V U : Type} {hd : V → St} {hu : U → St} {R : V → Tr (V ⊕ (V ⊕ U))} {ini : St → V}
    (H : ∀ s v, (roundR (codeQ e T n0 lb) n0 (coeS e.rows (norm pa pb s)).tmps (hd v)).eval = (R v).ev (sumOf2 id hd hu))
    (H0 : ∀ s, (canon n0 (coeS e.rows (norm pa pb s)).tmps (coeS e.rows (norm pa pb s))).eval = some (hd (ini s)))
    (ok : TabOk e T n0 lb) (s : St) (r : Ex × St) (h : (loopF2 pa pb e.N hd hu R ini s).eval = some r) : (codeR e n0 (.block id (.loop lb)) s).eval = some r := by
  unfold loopF2 at h
  split at h
  · rename_i hsh
    have hn := norm_ok hsh
    rw [eval_opt] at h
    obtain ⟨q, hq, h⟩ := Option.bind_eq_some_iff.mp h
    have h0 := H0 s
    rw [hn] at h0
    have hl := loop_sum2 (n0 := n0) (m := (coeS e.rows s).tmps) (id := id) hd hu R (fun v => by have := H s v; rw [hn] at this; exact this) e.N (coeS e.rows s) (ini s) q h0 hq
    have hl' := loopR_le (codeQ_le lb ok) _ _ _ hl
    unfold codeR
    rw [Res.eval_bind]
    unfold codeR
    rw [hl']
    simp only [Option.bind_some]
    cases q with
    | inl v =>
      simp only [endOf2, Nat.beq_refl, if_true, Sum.isRight_inl, Sum.getLeft?_inl, Res.eval, cond_false] at h ⊢
      exact h
    | inr u =>
      simp only [endOf2, Sum.isRight_inr, Sum.getRight?_inr, Res.eval, cond_true] at h ⊢
      exact h
  · simp [Res.eval] at h

/-! ### Slices among the arguments that are never to be written again -/

def fzA (h : List Blk) : List (Option Nat) → List AV → List AV
  | some c :: ks, .c x :: l => .c (frzC h (some c) x) :: fzA h ks l
  | _ :: ks, v :: l => v :: fzA h ks l
  | _, l => l
def fzM : List (Option Nat) → List AV → List Nat
  | some c :: ks, .c x :: l => rowsC x ++ fzM ks l
  | _ :: ks, v :: l => fzM ks l
  | _, _ => []
def frzS (ks : List (Option Nat)) (sp : Spec) : Spec := fun args h => sp (fzA h ks args) (frzH h (fzM ks args))

theorem rowsC_coe {k : Option Nat} {x : Cl} {b : Nat} (h : b ∈ rowsC (coeC k x)) : b ∈ rowsC x := by
  unfold coeC at h
  split at h
  · split at h
    · simp [rowsC] at h
    · simp [rowsC] at h
    · exact h
  · exact h

theorem fzA_ok {X : Cx} {h i : List Blk} {w : World} (hH : RelH X h w) {M : List Nat} (g : Good X h w (X.frz h M) i w) : ∀ {ks : List (Option Nat)} {l : List AV} {vs : List Value}, (∀ b ∈ fzM ks l, b ∈ M) → All2 (RepV X h w) l vs → All2 (RepV (X.frz h M) i w) (fzA h ks l) vs
  | [], l, vs, _, r => by
    cases l with
    | nil => cases r; exact .nil
    | cons v l => exact All2.mono r fun _ _ q => RepV.mono g.mono (Ext.refl _ w) q
  | k :: ks, [], vs, _, r => by cases r; cases k <;> exact .nil
  | none :: ks, v :: l, _, hM, .cons r1 r2 => .cons (RepV.mono g.mono (Ext.refl _ w) r1) (fzA_ok hH g (fun b hb => hM b (by cases v <;> exact hb)) r2)
  | some c :: ks, .c x :: l, _, hM, .cons r1 r2 => .cons (snapF_ok (Y := X.frz h M) hH (fun _ _ f => f) (fun b hb => hM b (by simp only [fzM, List.mem_append]; exact .inl (rowsC_coe hb))) (coeC_ok r1)) (fzA_ok hH g (fun b hb => hM b (by simp only [fzM, List.mem_append]; exact .inr hb)) r2)
  | some c :: ks, .agg y :: l, _, hM, .cons r1 r2 => .cons (RepV.mono g.mono (Ext.refl _ w) r1) (fzA_ok hH g (fun b hb => hM b hb) r2)
  | some c :: ks, .tup y :: l, _, hM, .cons r1 r2 => .cons (RepV.mono g.mono (Ext.refl _ w) r1) (fzA_ok hH g (fun b hb => hM b hb) r2)
  | some c :: ks, .top :: l, _, hM, .cons r1 r2 => .cons (RepV.mono g.mono (Ext.refl _ w) r1) (fzA_ok hH g (fun b hb => hM b hb) r2)

theorem SpecOk.frzArgs {f : FuncId} {sp : Spec} (ok : SpecOk P f sp) (ks : List (Option Nat)) : SpecOk P f (frzS ks sp) := by
  refine ⟨ok.enter, fun X h w args cargs v h' hH ha hv => ?_⟩
  have g := Good.freeze hH (fzM ks args)
  refine (ok.calls _ _ w _ cargs v h' g.rel (fzA_ok hH g (fun b hb => hb) ha) hv).mono fun en w3 hen => ?_
  obtain ⟨cv, X', rfl, hr, hg⟩ := hen
  exact ⟨cv, X', rfl, hr, g.trans hg⟩

theorem iter2_inv {V U : Type} {R : V → Tr (V ⊕ (V ⊕ U))} (I : Nat → V → Prop) (Q : V → Prop) (len : Nat) (bd : ∀ j v, I j v → j ≤ len)
    (step : ∀ j v, I j v → (∃ v', (R v).get? = some (.inl v') ∧ I (j + 1) v') ∨ ∃ w, (R v).get? = some (.inr (.inl w)) ∧ Q w) :
    ∀ n j v, I j v → len < n + j → ∃ w, iter2 R n v = some (.inl w) ∧ Q w
  | 0, j, v, h, hn => by have := bd j v h; omega
  | n + 1, j, v, h, hn => by
    unfold iter2
    rcases step j v h with ⟨v', h1, h2⟩ | ⟨w, h1, h2⟩
    · rw [h1]; exact iter2_inv I Q len bd step n (j + 1) v' h2 (by omega)
    · rw [h1]; exact ⟨w, rfl, h2⟩

theorem iter2_find {V U : Type} {R : V → Tr (V ⊕ (V ⊕ U))} (inv : Nat → V) (len : Nat) (p : Nat → Option U) (step : ∀ j, j < len → (R (inv j)).get? = some ((p j).elim (.inl (inv (j + 1))) fun u => .inr (.inr u))) {w : V} (fin : (R (inv len)).get? = some (.inr (.inl w))) :
    ∀ (k j n : Nat), j + k = len → k < n → iter2 R n (inv j) = some ((firstP p k j).elim (.inl w) fun u => .inr u)
  | 0, j, n, hj, hn => by
    obtain ⟨n, rfl⟩ : ∃ q, n = q + 1 := ⟨n - 1, by omega⟩
    have : j = len := by omega
    subst this
    unfold iter2; rw [fin]; rfl
  | k + 1, j, n, hj, hn => by
    obtain ⟨n, rfl⟩ : ∃ q, n = q + 1 := ⟨n - 1, by omega⟩
    unfold iter2; rw [step j (by omega)]
    unfold firstP
    cases hp : p j with
    | some a => rfl
    | none => exact iter2_find inv len p step fin k (j + 1) n (by omega) (by omega)

theorem iter_inv {V : Type} {R : V → Tr (V ⊕ (Bool × V))} (I : Nat → V → Prop) (Q : V → Prop) (len : Nat) (bd : ∀ j v, I j v → j ≤ len)
    (step : ∀ j v, I j v → (∃ v', (R v).get? = some (.inl v') ∧ I (j + 1) v') ∨ ∃ w, (R v).get? = some (.inr (false, w)) ∧ Q w) :
    ∀ n j v, I j v → len < n + j → ∃ w, iter R n v = some (false, w) ∧ Q w
  | 0, j, v, h, hn => by have := bd j v h; omega
  | n + 1, j, v, h, hn => by
    unfold iter
    rcases step j v h with ⟨v', h1, h2⟩ | ⟨w, h1, h2⟩
    · rw [h1]; exact iter_inv I Q len bd step n (j + 1) v' h2 (by omega)
    · rw [h1]; exact ⟨w, rfl, h2⟩

end
end Ab
