/- Specifications turned: slices of nothing, results that are never to be written again, a slice copied. -/
import Derived.Test.YtllohgmahflpaaaAbLoop
set_option linter.unusedSectionVars false
set_option linter.unusedSimpArgs false
set_option linter.unusedVariables false
namespace Ab
open Go
section
variable [Uni] [Cod]
variable {P : Program} {e : Env} {X Y : Cx} {h i : List Blk} {w w' : World} {v : AV}

def coeC (k : Option Nat) (x : Cl) : Cl := match k with
  | some c => (match x with | .nils => .rs c [] | .ez => .rs c [] | x => x)
  | none => x

theorem no_rs {c : Nat} {v : Value} (h : ∃ a, v = .slice a 0 0) : RepC X i w (.rs c []) v := by
  obtain ⟨a, rfl⟩ := h
  exact .rs (L := []) (cv := fun _ _ => undef) (Nat.le_refl _) (fun i x hx => by simp at hx) (fun i x j y hx => by simp at hx)

theorem coeC_ok {k : Option Nat} {x : Cl} {u : Value} (r : RepC X h w x u) : RepC X h w (coeC k x) u := by
  unfold coeC
  split
  · split
    · cases r; exact no_rs ⟨_, rfl⟩
    · cases r; exact no_rs ⟨_, rfl⟩
    · exact r
  · exact r

def coeL : List (Option Nat) → List Cl → List Cl
  | k :: ks, x :: l => coeC k x :: coeL ks l
  | _, l => l

theorem coeL_ok : ∀ {ks : List (Option Nat)} {l : List Cl} {vs : List Value}, RepL X h w l vs → RepL X h w (coeL ks l) vs
  | [], l, vs, r => by unfold coeL; exact r
  | k :: ks, [], vs, r => by unfold coeL; exact r
  | k :: ks, x :: l, _, .cons r1 r2 => .cons (coeC_ok r1) (coeL_ok r2)

def coeV (ks : List (Option Nat)) : AV → AV
  | .c x => .c (coeC (ks.getD 0 none) x)
  | .agg l => .agg (coeL ks l)
  | v => v

theorem coeV_ok {ks : List (Option Nat)} {x : AV} {u : Value} (r : RepV X h w x u) : RepV X h w (coeV ks x) u := by
  cases x with
  | top => trivial
  | c y => exact coeC_ok r
  | agg l => obtain ⟨vs, hu, r⟩ := r; exact ⟨vs, hu, coeL_ok r⟩
  | tup l => exact r

def coeA : List (List (Option Nat)) → List AV → List AV
  | k :: ks, x :: l => coeV k x :: coeA ks l
  | _, l => l

theorem coeA_ok : ∀ {ks : List (List (Option Nat))} {l : List AV} {vs : List Value}, All2 (RepV X h w) l vs → All2 (RepV X h w) (coeA ks l) vs
  | [], l, vs, r => by unfold coeA; exact r
  | k :: ks, [], vs, r => by unfold coeA; exact r
  | k :: ks, x :: l, _, .cons r1 r2 => .cons (coeV_ok r1) (coeA_ok r2)

/-- Slices of nothing among the arguments, taken as rows that have nothing. -/
theorem SpecOk.pre {f : FuncId} {sp : Spec} (ok : SpecOk P f sp) (ks : List (List (Option Nat))) : SpecOk P f (fun args h => sp (coeA ks args) h) :=
  ⟨ok.enter, fun X h w args cargs v h' hH ha hv => ok.calls X h w (coeA ks args) cargs v h' hH (coeA_ok ha) hv⟩

def frzC (h : List Blk) (k : Option Nat) (x : Cl) : Cl := snap h (coeC k x)
def frzL (h : List Blk) : List (Option Nat) → List Cl → List Cl
  | k :: ks, x :: l => frzC h k x :: frzL h ks l
  | [], x :: l => snap h x :: frzL h [] l
  | _, [] => []
def frzP (h : List Blk) (ks : List (Option Nat)) : Option (Bool × List Cl) → Option (Bool × List Cl)
  | some (b, l) => some (b, frzL h ks l)
  | none => none
def frzT (h : List Blk) : List (List (Option Nat)) → List (Option (Bool × List Cl)) → List (Option (Bool × List Cl))
  | k :: ks, x :: l => frzP h k x :: frzT h ks l
  | [], x :: l => frzP h [] x :: frzT h [] l
  | _, [] => []
def frzV (h : List Blk) (ks : List (List (Option Nat))) : AV → AV
  | .c x => .c (frzC h ((ks.getD 0 []).getD 0 none) x)
  | .agg l => .agg (frzL h (ks.getD 0 []) l)
  | .tup l => .tup (frzT h ks l)
  | .top => .top

section
variable (hH : RelH X h w) (hF : ∀ k q, (X.frz h (List.range h.length)).F k q → Y.F k q)
include hH hF
theorem snapR_ok {x : Cl} {u : Value} (r : RepC X h w x u) : RepC Y i w (snap h x) u := by
  refine snapF_ok hH hF (fun b hb => ?_) r
  rw [List.mem_range]
  cases r <;> simp [rowsC] at hb
  · subst hb; assumption
  · subst hb; assumption
  · subst hb; assumption
theorem frzC_ok {k : Option Nat} {x : Cl} {u : Value} (r : RepC X h w x u) : RepC Y i w (frzC h k x) u := snapR_ok hH hF (coeC_ok r)
theorem frzL_ok : ∀ {ks : List (Option Nat)} {l : List Cl} {vs : List Value}, RepL X h w l vs → RepL Y i w (frzL h ks l) vs
  | [], [], _, .nil => .nil
  | k :: ks, [], _, .nil => .nil
  | [], x :: l, _, .cons r1 r2 => .cons (snapR_ok hH hF r1) (frzL_ok r2)
  | k :: ks, x :: l, _, .cons r1 r2 => .cons (frzC_ok hH hF r1) (frzL_ok r2)
theorem frzP_ok {ks : List (Option Nat)} {p : Option (Bool × List Cl)} {u : Value} (r : RepP X h w p u) : RepP Y i w (frzP h ks p) u := by
  match p, r with
  | none, _ => trivial
  | some (true, l), r => obtain ⟨vs, hu, r⟩ := r; exact ⟨vs, hu, frzL_ok hH hF r⟩
  | some (false, []), _ => cases ks <;> trivial
  | some (false, [y]), r =>
    cases ks with
    | nil => exact snapR_ok hH hF r
    | cons k ks => cases ks <;> exact frzC_ok hH hF r
  | some (false, _ :: _ :: _), _ =>
    cases ks with
    | nil => trivial
    | cons k ks => cases ks <;> trivial
theorem frzT_ok : ∀ {ks : List (List (Option Nat))} {l : List (Option (Bool × List Cl))} {vs : List Value}, All2 (RepP X h w) l vs → All2 (RepP Y i w) (frzT h ks l) vs
  | [], [], _, .nil => .nil
  | k :: ks, [], _, .nil => .nil
  | [], x :: l, _, .cons r1 r2 => .cons (frzP_ok hH hF r1) (frzT_ok r2)
  | k :: ks, x :: l, _, .cons r1 r2 => .cons (frzP_ok hH hF r1) (frzT_ok r2)
theorem frzV_ok {ks : List (List (Option Nat))} {x : AV} {u : Value} (r : RepV X h w x u) : RepV Y i w (frzV h ks x) u := by
  cases x with
  | top => trivial
  | c y => exact frzC_ok hH hF r
  | agg l => obtain ⟨vs, hu, r⟩ := r; exact ⟨vs, hu, frzL_ok hH hF r⟩
  | tup l => obtain ⟨vs, hu, r⟩ := r; exact ⟨vs, hu, frzT_ok hH hF r⟩
end

def frzR (ks : List (List (Option Nat))) (sp : Spec) : Spec := fun args h => match h with
  | [] => (sp args []).bind fun p => .val (frzV p.2 ks p.1, [])
  | _ :: _ => .fail

/-- What is handed back is never to be written again. -/
theorem SpecOk.froze {f : FuncId} {sp : Spec} (ok : SpecOk P f sp) (ks : List (List (Option Nat))) : SpecOk P f (frzR ks sp) := by
  refine ⟨ok.enter, fun X h w args cargs v h' hH ha hv => ?_⟩
  unfold frzR at hv
  cases h with
  | cons b r => simp [Res.eval] at hv
  | nil =>
    simp only at hv
    rw [Res.eval_bind] at hv
    obtain ⟨p, hp, hv⟩ := Option.bind_eq_some_iff.mp hv
    simp only [Res.eval, Option.some.injEq, Prod.mk.injEq] at hv
    obtain ⟨rfl, rfl⟩ := hv
    refine (ok.calls X [] w args cargs p.1 p.2 hH ha hp).mono fun en w3 hen => ?_
    obtain ⟨cv, X', rfl, hr, hg⟩ := hen
    have g2 := hg.trans (Good.freeze hg.rel (List.range p.2.length))
    have g3 := g2.pick (m := []) rfl rfl
    exact ⟨cv, _, rfl, frzV_ok hg.rel (Y := (X'.frz p.2 (List.range p.2.length)).pick []) (fun _ _ f => f) hr, g3⟩

/-- The rows of one's own that a value shows. -/
def slwC : Cl → List Nat
  | .slw b => [b]
  | _ => []
def slwP : Option (Bool × List Cl) → List Nat
  | some (_, l) => l.flatMap slwC
  | none => []
def slwV : AV → List Nat
  | .c x => slwC x
  | .agg l => l.flatMap slwC
  | .tup l => l.flatMap slwP
  | .top => []
def frcC (h : List Blk) (k : Option Nat) (x : Cl) : Cl := match coeC k x with
  | .slw b => snap h (.slw b)
  | y => y
def frcL (h : List Blk) : List (Option Nat) → List Cl → List Cl
  | k :: ks, x :: l => frcC h k x :: frcL h ks l
  | [], x :: l => frcC h none x :: frcL h [] l
  | _, [] => []
def frcP (h : List Blk) (ks : List (Option Nat)) : Option (Bool × List Cl) → Option (Bool × List Cl)
  | some (b, l) => some (b, frcL h ks l)
  | none => none
def frcT (h : List Blk) : List (List (Option Nat)) → List (Option (Bool × List Cl)) → List (Option (Bool × List Cl))
  | k :: ks, x :: l => frcP h k x :: frcT h ks l
  | [], x :: l => frcP h [] x :: frcT h [] l
  | _, [] => []
def frcV (h : List Blk) (ks : List (List (Option Nat))) : AV → AV
  | .c x => .c (frcC h ((ks.getD 0 []).getD 0 none) x)
  | .agg l => .agg (frcL h (ks.getD 0 []) l)
  | .tup l => .tup (frcT h ks l)
  | .top => .top

section
variable {M : List Nat} (hH : RelH X h w) (g : Good X h w (X.frz h M) (frzH h M) w)
include hH g
theorem frcC_ok {k : Option Nat} {x : Cl} {u : Value} (hM : ∀ b ∈ slwC x, b ∈ M) (r : RepC X h w x u) : RepC (X.frz h M) (frzH h M) w (frcC h k x) u := by
  have r2 : RepC X h w (coeC k x) u := coeC_ok r
  have hc : ∀ b, coeC k x = .slw b → b ∈ M := by
    intro b hb
    apply hM
    unfold coeC at hb
    split at hb
    · split at hb
      · cases hb
      · cases hb
      · subst hb; simp [slwC]
    · subst hb; simp [slwC]
  unfold frcC
  split
  · rename_i b hb
    rw [hb] at r2
    exact snapF_ok hH (fun _ _ f => f) (fun b' hb' => by simp [rowsC] at hb'; subst hb'; exact hc b' hb) r2
  · exact r2.mono g.mono (Ext.refl _ w)
theorem frcL_ok : ∀ {ks : List (Option Nat)} {l : List Cl} {vs : List Value}, (∀ b ∈ l.flatMap slwC, b ∈ M) → RepL X h w l vs → RepL (X.frz h M) (frzH h M) w (frcL h ks l) vs
  | [], [], _, _, .nil => .nil
  | k :: ks, [], _, _, .nil => .nil
  | [], x :: l, _, hM, .cons r1 r2 => .cons (frcC_ok hH g (fun b hb => hM b (by simp [hb])) r1) (frcL_ok (fun b hb => hM b (by simp only [List.flatMap_cons, List.mem_append]; exact .inr hb)) r2)
  | k :: ks, x :: l, _, hM, .cons r1 r2 => .cons (frcC_ok hH g (fun b hb => hM b (by simp [hb])) r1) (frcL_ok (fun b hb => hM b (by simp only [List.flatMap_cons, List.mem_append]; exact .inr hb)) r2)
theorem frcP_ok {ks : List (Option Nat)} {p : Option (Bool × List Cl)} {u : Value} (hM : ∀ b ∈ slwP p, b ∈ M) (r : RepP X h w p u) : RepP (X.frz h M) (frzH h M) w (frcP h ks p) u := by
  match p, r with
  | none, _ => trivial
  | some (true, l), r => obtain ⟨vs, hu, r⟩ := r; exact ⟨vs, hu, frcL_ok hH g hM r⟩
  | some (false, []), _ => cases ks <;> trivial
  | some (false, [y]), r =>
    have hM' : ∀ b ∈ slwC y, b ∈ M := fun b hb => hM b (by simp [slwP, hb])
    cases ks with
    | nil => exact frcC_ok hH g hM' r
    | cons k ks => cases ks <;> exact frcC_ok hH g hM' r
  | some (false, _ :: _ :: _), _ =>
    cases ks with
    | nil => trivial
    | cons k ks => cases ks <;> trivial
theorem frcT_ok : ∀ {ks : List (List (Option Nat))} {l : List (Option (Bool × List Cl))} {vs : List Value}, (∀ b ∈ l.flatMap slwP, b ∈ M) → All2 (RepP X h w) l vs → All2 (RepP (X.frz h M) (frzH h M) w) (frcT h ks l) vs
  | [], [], _, _, .nil => .nil
  | k :: ks, [], _, _, .nil => .nil
  | [], x :: l, _, hM, .cons r1 r2 => .cons (frcP_ok hH g (fun b hb => hM b (by simp [hb])) r1) (frcT_ok (fun b hb => hM b (by simp only [List.flatMap_cons, List.mem_append]; exact .inr hb)) r2)
  | k :: ks, x :: l, _, hM, .cons r1 r2 => .cons (frcP_ok hH g (fun b hb => hM b (by simp [hb])) r1) (frcT_ok (fun b hb => hM b (by simp only [List.flatMap_cons, List.mem_append]; exact .inr hb)) r2)
theorem frcV_ok {ks : List (List (Option Nat))} {x : AV} {u : Value} (hM : ∀ b ∈ slwV x, b ∈ M) (r : RepV X h w x u) : RepV (X.frz h M) (frzH h M) w (frcV h ks x) u := by
  cases x with
  | top => trivial
  | c y => exact frcC_ok hH g hM r
  | agg l => obtain ⟨vs, hu, r⟩ := r; exact ⟨vs, hu, frcL_ok hH g hM r⟩
  | tup l => obtain ⟨vs, hu, r⟩ := r; exact ⟨vs, hu, frcT_ok hH g hM r⟩
end

def frcR (ks : List (List (Option Nat))) (sp : Spec) : Spec := fun args h => (sp args h).bind fun p => .val (frcV p.2 ks p.1, frzH p.2 (slwV p.1))

/-- What is handed back beside memory that stays is never to be written again. -/
theorem SpecOk.forced {f : FuncId} {sp : Spec} (ok : SpecOk P f sp) (ks : List (List (Option Nat))) : SpecOk P f (frcR ks sp) := by
  refine ⟨ok.enter, fun X h w args cargs v h' hH ha hv => ?_⟩
  unfold frcR at hv
  rw [Res.eval_bind] at hv
  obtain ⟨p, hp, hv⟩ := Option.bind_eq_some_iff.mp hv
  simp only [Res.eval, Option.some.injEq, Prod.mk.injEq] at hv
  obtain ⟨rfl, rfl⟩ := hv
  refine (ok.calls X h w args cargs p.1 p.2 hH ha hp).mono fun en w3 hen => ?_
  obtain ⟨cv, X', rfl, hr, hg⟩ := hen
  have g2 := Good.freeze hg.rel (slwV p.1)
  exact ⟨cv, _, rfl, frcV_ok hg.rel g2 (fun _ hb => hb) hr, hg.trans g2⟩

/-- Blocks that nobody reaches are left out. -/
def gcR (sp : Spec) : Spec := fun args h => (sp args h).bind fun p =>
  if nodupB (reachOf p.2 (List.range h.length ++ refsV p.1)) && firstB 0 h.length (reachOf p.2 (List.range h.length ++ refsV p.1)) then
    .val (renV (fun x => idxOf x (reachOf p.2 (List.range h.length ++ refsV p.1))) p.1, pickB p.2 (reachOf p.2 (List.range h.length ++ refsV p.1))) else .fail
theorem SpecOk.gc {f : FuncId} {sp : Spec} (ok : SpecOk P f sp) : SpecOk P f (gcR sp) := by
  refine ⟨ok.enter, fun X h w args cargs v h' hH ha hv => ?_⟩
  unfold gcR at hv
  rw [Res.eval_bind] at hv
  obtain ⟨p, hp, hv⟩ := Option.bind_eq_some_iff.mp hv
  split at hv
  case isFalse => simp [Res.eval] at hv
  rename_i hc
  simp only [Bool.and_eq_true] at hc
  simp only [Res.eval, Option.some.injEq, Prod.mk.injEq] at hv
  obtain ⟨rfl, rfl⟩ := hv
  refine (ok.calls X h w args cargs p.1 p.2 hH ha hp).mono fun en w3 hen => ?_
  obtain ⟨cv, X', rfl, hr, hg⟩ := hen
  exact ⟨cv, _, rfl, renV_ok (pick_fits _) hr, hg.pick hc.1 hc.2⟩

def dFn {α : Type} (f : FuncId) (v : AV) (K : Res α) : Res α := match v with
  | .c (.fn g [] []) => (match Nat.decEq g f with | .isTrue _ => K | .isFalse _ => .fail)
  | _ => .fail
theorem dFn_inv {α : Type} {f : FuncId} {v : AV} {K : Res α} {r : α} (h : (dFn f v K).eval = some r) : v = .c (.fn f [] []) ∧ K.eval = some r := by
  unfold dFn at h
  split at h
  · split at h
    · rename_i hg _; subst hg; exact ⟨rfl, h⟩
    · simp [Res.eval] at h
  · simp [Res.eval] at h

/-- A slice copied into memory of its own. -/
def cloneB (c bytes : Nat) (L : List (Uni.val c)) : Bool := Nat.ble (([] : List (Uni.val c)).length + L.length) 140737488355328 && Nat.ble ((([] : List (Uni.val c)).length + L.length) * bytes) 140737488355328
def cloneS (c bytes : Nat) : Spec := fun args h => dN h <| dL args fun v a => dC v fun x => dR0 c x fun L => dN a <| .br (L.isEmpty || cloneB c bytes L) (.val (.c (.slw 0), [.row c L])) .fail

theorem clone_ok {f : FuncId} {fn : Func} {c bytes : Nat} (ok : SpecOk P f (runR e fn)) (h1 : (runR e fn [.c (.rn true c [])] []).eval = some (.c .nils, []))
    (h2 : ∀ L, (runR e fn [.c (.rn false c L)] []).eval = bif L.isEmpty then some (.c .ez, []) else bif cloneB c bytes L then some (.c (.slw 0), [.row c L]) else none) : SpecOk P f (cloneS c bytes) := by
  refine ⟨ok.enter, fun X h w args cargs v h' hH ha hv => ?_⟩
  unfold cloneS at hv
  obtain ⟨rfl, hv1⟩ := dN_inv hv
  obtain ⟨v0, a0, rfl, hv2⟩ := dL_inv hv1
  obtain ⟨x, rfl, hv3⟩ := dC_inv hv2
  obtain ⟨L, rfl, hv4⟩ := dR0_inv hv3
  obtain ⟨rfl, hv5⟩ := dN_inv hv4
  clear hv hv1 hv2 hv3 hv4
  have hv := hv5; clear hv5
  rw [Res.eval_br] at hv
  have weak : ∀ {x : Cl} {cargs : Value} {en : Ending} {w3 : World}, isNo x = true → Ends X [] w (.c x) [] en w3 → Ends X [] w (.c (.slw 0)) [.row c []] en w3 := by
    intro x cargs en w3 hno hen
    obtain ⟨cv, X', rfl, hr, hg⟩ := hen
    exact ⟨cv, _, rfl, isNo_slw (c := c) hno hr, hg.trans (Good.pushNo hg.rel c)⟩
  cases ha with
  | @cons _ u _ us hr hn =>
  cases hn
  have hr0 : RepC X [] w (.rs c L) u := hr
  cases hr0 with
  | @rs _ _ a cap cv g0 g1 g2 =>
  cases a with
  | none =>
    have hL : L = [] := by
      cases L with
      | nil => rfl
      | cons y L => obtain ⟨k, e', ha, _⟩ := g1 0 y rfl; cases ha
    subst hL
    simp only [List.isEmpty_nil, Bool.true_or, cond_true, Res.eval, Option.some.injEq, Prod.mk.injEq] at hv
    obtain ⟨rfl, rfl⟩ := hv
    have hrn : RepC X [] w (.rn true c []) (.slice none 0 cap) := .rn (L := []) (cv := cv) rfl g0 g1 g2
    exact (ok.calls X [] w [.c (.rn true c [])] _ _ _ hH (.cons hrn .nil) h1).mono fun en w3 hen => weak (cargs := undef) rfl hen
  | some ad =>
    have hrn : RepC X [] w (.rn false c L) (.slice (some ad) L.length cap) := .rn (cv := cv) rfl g0 g1 g2
    have h2' := h2 L
    cases hE : L.isEmpty with
    | true =>
      rw [hE] at h2' hv
      simp only [Bool.true_or, cond_true, Res.eval, Option.some.injEq, Prod.mk.injEq] at hv h2'
      obtain ⟨rfl, rfl⟩ := hv
      have hL : L = [] := by simpa using hE
      subst hL
      exact (ok.calls X [] w [.c (.rn false c [])] _ _ _ hH (.cons hrn .nil) h2').mono fun en w3 hen => weak (cargs := undef) rfl hen
    | false =>
      rw [hE] at h2' hv
      simp only [Bool.false_or, cond_false] at hv h2'
      cases hB : cloneB c bytes L with
      | false => rw [hB] at hv; simp [Res.eval] at hv
      | true =>
        rw [hB] at hv h2'
        simp only [cond_true, Res.eval, Option.some.injEq, Prod.mk.injEq] at hv h2'
        obtain ⟨rfl, rfl⟩ := hv
        exact ok.calls X [] w [.c (.rn false c L)] _ _ _ hH (.cons hrn .nil) h2'

end
end Ab
