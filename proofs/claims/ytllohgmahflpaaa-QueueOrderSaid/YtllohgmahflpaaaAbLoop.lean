/- Loops told by what one round computes. -/
import Derived.Test.YtllohgmahflpaaaAbPure
set_option linter.unusedSectionVars false
set_option linter.unusedSimpArgs false
set_option linter.unusedVariables false
namespace Ab
open Go
section
variable [Uni] [Cod]

/-- The rounds, one behind the other: each ends in a further one, or in the loop's end (by a return, or not). -/
def iter {V : Type} (R : V → Tr (V ⊕ (Bool × V))) : Nat → V → Option (Bool × V)
  | 0, _ => none
  | n + 1, v => match (R v).get? with
    | some (.inl v') => iter R n v'
    | some (.inr r) => some r
    | none => none

def exOf (id : Nat) (ret : Bool) : Ex := match ret with | true => .ret | false => .exit id

/-- One round of a loop, as the executor runs it. -/
def roundR (B : St → Res (Ex × St)) (n0 : Nat) (m : List AV) (s : St) : Res (St ⊕ (Ex × St)) := (B s).bind fun p => match p.1 with
  | .normal => (canon n0 m p.2).bind fun s => .val (.inl s)
  | x => (canon n0 m p.2).bind fun s => .val (.inr (x, s))

def sumOf {V : Type} (id : Nat) (hd : V → St) : V ⊕ (Bool × V) → St ⊕ (Ex × St)
  | .inl v => .inl (hd v)
  | .inr r => .inr (exOf id r.1, hd r.2)

theorem loop_sum {V : Type} {B : St → Res (Ex × St)} {n0 : Nat} {m : List AV} {id : Nat} (hd : V → St) (R : V → Tr (V ⊕ (Bool × V)))
    (H : ∀ v, (roundR B n0 m (hd v)).eval = (R v).ev (sumOf id hd)) :
    ∀ (n : Nat) (s : St) (v : V) (r : Bool × V), (canon n0 m s).eval = some (hd v) → iter R n v = some r → (loopR B n0 m n s).eval = some (exOf id r.1, hd r.2)
  | 0, s, v, r, hs, h => by simp [iter] at h
  | n + 1, s, v, r, hs, h => by
    unfold loopR
    rw [Res.eval_bind, hs]
    simp only [Option.bind_some]
    rw [Res.eval_bind]
    have hv := H v
    unfold roundR at hv
    rw [Res.eval_bind, Tr.ev_get?] at hv
    unfold iter at h
    cases hB : (B (hd v)).eval with
    | none =>
      rw [hB] at hv
      simp only [Option.bind_none] at hv
      cases hg : (R v).get? with
      | none => rw [hg] at h; simp at h
      | some z => rw [hg] at hv; simp at hv
    | some p =>
      rw [hB] at hv
      simp only [Option.bind_some] at hv ⊢
      cases hg : (R v).get? with
      | none => rw [hg] at h; simp at h
      | some z =>
        rw [hg] at hv h
        obtain ⟨x, s1⟩ := p
        cases x with
        | normal =>
          simp only [Res.eval_bind, Option.map_some] at hv
          cases hc : (canon n0 m s1).eval with
          | none => rw [hc] at hv; simp at hv
          | some s2 =>
            rw [hc] at hv
            simp only [Option.bind_some, Res.eval, Option.some.injEq] at hv
            cases z with
            | inl v' =>
              simp only [sumOf, Sum.inl.injEq] at hv
              subst hv
              exact loop_sum hd R H n s1 v' r hc h
            | inr q => simp [sumOf] at hv
        | exit i =>
          simp only [Res.eval_bind, Option.map_some] at hv ⊢
          cases hc : (canon n0 m s1).eval with
          | none => rw [hc] at hv; simp at hv
          | some s2 =>
            rw [hc] at hv
            simp only [Option.bind_some, Res.eval, Option.some.injEq] at hv ⊢
            cases z with
            | inl v' => simp [sumOf] at hv
            | inr q =>
              simp only [Option.some.injEq] at h; subst h
              simp only [sumOf, Sum.inr.injEq] at hv
              rw [← hv]
        | ret =>
          simp only [Res.eval_bind, Option.map_some] at hv ⊢
          cases hc : (canon n0 m s1).eval with
          | none => rw [hc] at hv; simp at hv
          | some s2 =>
            rw [hc] at hv
            simp only [Option.bind_some, Res.eval, Option.some.injEq] at hv ⊢
            cases z with
            | inl v' => simp [sumOf] at hv
            | inr q =>
              simp only [Option.some.injEq] at h; subst h
              simp only [sumOf, Sum.inr.injEq] at hv
              rw [← hv]

/-- The executor with loops told ahead: by the number of the block that holds the loop. -/
abbrev Tab := Nat → Option (St → Res (Ex × St))

def codeQ (e : Env) (T : Tab) (n0 : Nat) : Code → St → Res (Ex × St)
  | .seq a b, s => (codeQ e T n0 a s).bind fun p => match p.1 with
    | .normal => codeQ e T n0 b p.2
    | x => .val (x, p.2)
  | .cond c a b, s => match evO s [] [] c with
    | .c (.bool t) => .br t (codeQ e T n0 a (setCond s c true)) (codeQ e T n0 b (setCond s c false))
    | _ => .fail
  | .block id b, s => match T id with
    | some F => F s
    | none => (codeQ e T n0 b s).bind fun p => match p.1 with
      | .exit i => if Nat.beq i id then .val (.normal, p.2) else .val (.exit i, p.2)
      | x => .val (x, p.2)
  | .loop b, s => loopR (codeQ e T n0 b) n0 (coeS e.rows s).tmps e.N (coeS e.rows s)
  | .scope b, s => codeQ e T n0 b s
  | c, s => codeR e n0 c s

/-- The bodies of the blocks of that number. -/
def findB (id : Nat) : Code → List Code
  | .seq a b => findB id a ++ findB id b
  | .cond _ a b => findB id a ++ findB id b
  | .block i b => match Nat.beq i id with | true => b :: findB id b | false => findB id b
  | .loop b => findB id b
  | .scope b => findB id b
  | _ => []

def TabOk (e : Env) (T : Tab) (n0 : Nat) (c : Code) : Prop := ∀ id F, T id = some F → ∀ b ∈ findB id c, ∀ s r, (F s).eval = some r → (codeR e n0 (.block id b) s).eval = some r

theorem loopR_le {B B' : St → Res (Ex × St)} {n0 : Nat} {m : List AV} (h : ∀ s r, (B s).eval = some r → (B' s).eval = some r) : ∀ n s r, (loopR B n0 m n s).eval = some r → (loopR B' n0 m n s).eval = some r
  | 0, s, r, hr => by simp [loopR, Res.eval] at hr
  | n + 1, s, r, hr => by
    unfold loopR at hr ⊢
    rw [Res.eval_bind] at hr ⊢
    obtain ⟨s1, hs1, hr⟩ := Option.bind_eq_some_iff.mp hr
    rw [hs1]
    simp only [Option.bind_some]
    rw [Res.eval_bind] at hr ⊢
    obtain ⟨p, hp, hr⟩ := Option.bind_eq_some_iff.mp hr
    rw [h _ _ hp]
    simp only [Option.bind_some]
    obtain ⟨x, s2⟩ := p
    cases x with
    | normal => exact loopR_le h n s2 r hr
    | exit i => exact hr
    | ret => exact hr

theorem codeQ_le {e : Env} {T : Tab} {n0 : Nat} : ∀ (c : Code), TabOk e T n0 c → ∀ s r, (codeQ e T n0 c s).eval = some r → (codeR e n0 c s).eval = some r := by
  intro c
  induction c with
  | seq a b iha ihb =>
    intro ok s r h
    have oka : TabOk e T n0 a := fun id F hF b' hb' => ok id F hF b' (by simp [findB, hb'])
    have okb : TabOk e T n0 b := fun id F hF b' hb' => ok id F hF b' (by simp [findB, hb'])
    unfold codeQ at h
    unfold codeR
    rw [Res.eval_bind] at h ⊢
    obtain ⟨p, hp, h⟩ := Option.bind_eq_some_iff.mp h
    rw [iha oka s p hp]
    simp only [Option.bind_some]
    obtain ⟨x, s2⟩ := p
    cases x with
    | normal => exact ihb okb s2 r h
    | exit i => exact h
    | ret => exact h
  | cond c a b iha ihb =>
    intro ok s r h
    have oka : TabOk e T n0 a := fun id F hF b' hb' => ok id F hF b' (by simp [findB, hb'])
    have okb : TabOk e T n0 b := fun id F hF b' hb' => ok id F hF b' (by simp [findB, hb'])
    unfold codeQ at h
    unfold codeR
    split at h
    · rename_i t ht
      rw [ht]
      simp only [Res.eval] at h ⊢
      cases t
      · exact ihb okb _ r h
      · exact iha oka _ r h
    · simp [Res.eval] at h
  | block id b ih =>
    intro ok s r h
    unfold codeQ at h
    split at h
    · rename_i F hF
      exact ok id F hF b (by simp [findB, Nat.beq_refl]) s r h
    · have okb : TabOk e T n0 b := fun id' F hF b' hb' => ok id' F hF b' (by
        simp only [findB]
        split
        · exact List.mem_cons_of_mem _ hb'
        · exact hb')
      unfold codeR
      rw [Res.eval_bind] at h ⊢
      obtain ⟨p, hp, h⟩ := Option.bind_eq_some_iff.mp h
      rw [ih okb s p hp]
      exact h
  | loop b ih =>
    intro ok s r h
    have okb : TabOk e T n0 b := fun id F hF b' hb' => ok id F hF b' (by simpa [findB] using hb')
    unfold codeQ at h
    unfold codeR
    exact loopR_le (ih okb) _ _ _ h
  | scope b ih =>
    intro ok s r h
    have okb : TabOk e T n0 b := fun id F hF b' hb' => ok id F hF b' (by simpa [findB] using hb')
    unfold codeQ at h
    unfold codeR
    exact ih okb s r h
  | _ => intro ok s r h; exact h

def runQ (e : Env) (T : Tab) (f : Func) (args : List AV) (h : List Blk) : Res (AV × List Blk) :=
  match f.body with
  | none => .fail
  | some c => (codeQ e T h.length c ⟨args ++ List.replicate (f.ntmps - args.length) .top, h⟩).bind fun p => match p.1 with
    | .exit _ => .fail
    | _ => match resultsR e f p.2 with
      | none => .fail
      | some v =>
        let m := reachOf p.2.heap (List.range h.length ++ refsV v)
        if nodupB m && firstB 0 h.length m then .val (renV (fun x => idxOf x m) v, pickB p.2.heap m) else .fail

theorem runQ_le {e : Env} {T : Tab} {f : Func} {args : List AV} {h : List Blk} (ok : ∀ c, f.body = some c → TabOk e T h.length c) {r : AV × List Blk} (hr : (runQ e T f args h).eval = some r) : (runR e f args h).eval = some r := by
  unfold runQ at hr
  unfold runR
  cases hb : f.body with
  | none => rw [hb] at hr; simp [Res.eval] at hr
  | some c =>
    rw [hb] at hr
    simp only at hr ⊢
    rw [Res.eval_bind] at hr ⊢
    obtain ⟨p, hp, hr⟩ := Option.bind_eq_some_iff.mp hr
    rw [codeQ_le c (ok c hb) _ p hp]
    exact hr

/-! ### The shape of a state -/
inductive PC | ch (b : Nat) | nilch | rsn (c n : Nat) | rp (c o : Nat) | ez | sl (b o n : Nat) (c : Option Nat) | ep (b z o : Nat) | int (k : IntKind) | bool | str | rs (c : Nat) | ptr (b o : Nat) | slw (b : Nat) | nilp | nils | nilf | fn (f : Nat) | jk (b : Nat)
inductive PA | top | c (p : PC) | agg (l : List PC) | any
inductive PB | cells (l : List PC) | row (c : Nat) | dead | chn (c : Nat) | bg (c2 c : Nat)

def optB : Option Nat → Option Nat → Bool
  | none, none => true
  | some a, some b => Nat.beq a b
  | _, _ => false
theorem optB_eq : ∀ {a b : Option Nat}, optB a b = true → a = b
  | none, none, _ => rfl
  | some a, some b, h => by rw [Nat.eq_of_beq_eq_true h]
  | none, some _, h => by simp [optB] at h
  | some _, none, h => by simp [optB] at h
def rpC (c : Nat) : Cl → Uni.val c
  | .rp c' x _ => (match Nat.decEq c' c with | .isTrue h => h ▸ x | .isFalse _ => Cod.dflt c)
  | _ => Cod.dflt c
/-- The first so many of a list. -/
def hdT {α : Type} (d : α) : Nat → List α → α
  | 0, l => l.headD d
  | i + 1, l => hdT d i l.tail
def unN {α : Type} (d : α) : Nat → List α → List α
  | 0, _ => []
  | n + 1, l => l.headD d :: unN d n l.tail
theorem unN_ok {α : Type} {d : α} : ∀ {l : List α}, unN d l.length l = l
  | [] => rfl
  | a :: l => by show a :: unN d l.length l = a :: l; rw [unN_ok]
/-- An element of a row that is read alone. -/
def rnC (c i : Nat) (x : Cl) : Uni.val c := hdT (Cod.dflt c) i (rC c x)
def isWh : JM → Bool | .whole => true | _ => false
def pcB : PC → Cl → Bool
  | .jk b, .jk b' m => Nat.beq b b' && isWh m
  | .rsn c n, .rs c' L => Nat.beq c' c && Nat.beq n L.length
  | .rp c o, .rp c' _ o' => Nat.beq c' c && Nat.beq o o'
  | .sl b o n c, .sl b' o' n' c' => Nat.beq b b' && (Nat.beq o o' && (Nat.beq n n' && optB c c'))
  | .int k, .int k' _ => kEq k k'
  | .bool, .bool _ => true
  | .str, .str _ => true
  | .rs c, .rs c' _ => Nat.beq c' c
  | .ptr b o, .ptr b' o' => Nat.beq b b' && Nat.beq o o'
  | .slw b, .slw b' => Nat.beq b b'
  | .nilp, .nilp => true
  | .ch b, .ch b' => Nat.beq b b'
  | .nilch, .nilch => true
  | .ez, .ez => true
  | .ep b z o, .ep b' z' _ o' => Nat.beq b b' && (Nat.beq z z' && Nat.beq o o')
  | .nils, .nils => true
  | .nilf, .nilf => true
  | .fn f, .fn f' [] [] => Nat.beq f f'
  | _, _ => false

def eC : Cl → Nat | .ep _ _ i _ => i | _ => 0
def unC (x : Cl) : PC → Cl
  | .jk b => .jk b .whole
  | .ch b => .ch b
  | .nilch => .nilch
  | .rsn c n => .rs c (unN (Cod.dflt c) n (rC c x))
  | .rp c o => .rp c (rpC c x) o
  | .ep b z o => .ep b z (eC x) o
  | .ez => .ez
  | .sl b o n c => .sl b o n c
  | .int k => .int k (iC x)
  | .bool => .bool (bC x)
  | .str => .str (sC x)
  | .rs c => .rs c (rC c x)
  | .ptr b o => .ptr b o
  | .slw b => .slw b
  | .nilp => .nilp
  | .nils => .nils
  | .nilf => .nilf
  | .fn f => .fn f [] []

theorem unC_ok {p : PC} {x : Cl} (h : pcB p x = true) : unC x p = x := by
  cases p <;> cases x <;> simp only [pcB, Bool.and_eq_true, Bool.false_eq_true] at h <;> try rfl
  · simp only [unC, Nat.eq_of_beq_eq_true h]
  · rename_i c n c' L
    have hc := Nat.eq_of_beq_eq_true h.1
    have hn := Nat.eq_of_beq_eq_true h.2
    subst hc; subst hn
    simp only [unC, rC]
    split
    · rw [unN_ok]
    · rename_i hn _; exact absurd rfl hn
  · rename_i c o c' v o'
    have hc := Nat.eq_of_beq_eq_true h.1
    have ho := Nat.eq_of_beq_eq_true h.2
    subst hc; subst ho
    simp only [unC, rpC]
    split
    · rfl
    · rename_i hn _; exact absurd rfl hn
  · simp only [unC, Nat.eq_of_beq_eq_true h.1, Nat.eq_of_beq_eq_true h.2.1, Nat.eq_of_beq_eq_true h.2.2.1, optB_eq h.2.2.2]
  · simp only [unC, eC, Nat.eq_of_beq_eq_true h.1, Nat.eq_of_beq_eq_true h.2.1, Nat.eq_of_beq_eq_true h.2.2]
  · simp only [unC, iC, kEq_eq2 h]
  · rename_i c c' L
    have hc := Nat.eq_of_beq_eq_true h
    subst hc
    simp only [unC, rC]
    split
    · rfl
    · rename_i hn _; exact absurd rfl hn
  · simp only [unC, Nat.eq_of_beq_eq_true h.1, Nat.eq_of_beq_eq_true h.2]
  · simp only [unC, Nat.eq_of_beq_eq_true h]
  · rename_i f f' a b
    cases a <;> cases b <;> simp only [pcB, Bool.false_eq_true] at h
    simp only [unC, Nat.eq_of_beq_eq_true h]
  · rename_i b b' m
    obtain ⟨h1, h2⟩ := h
    have h1 := Nat.eq_of_beq_eq_true h1
    subst h1
    cases m with
    | whole => rfl
    | _ => cases h2


def allB {α β : Type} (p : α → β → Bool) : List α → List β → Bool
  | [], [] => true
  | a :: l, b :: m => p a b && allB p l m
  | _, _ => false
def unL {α β : Type} (un : β → α → β) (d : β) (l : List β) : List α → Nat → List β
  | [], _ => []
  | a :: r, i => un (l.getD i d) a :: unL un d l r (i + 1)

theorem unL_from {α β : Type} {p : α → β → Bool} {un : β → α → β} {d : β} (ok : ∀ a b, p a b = true → un b a = b) : ∀ {ps : List α} {m l : List β} {i : Nat}, (∀ j, l[i + j]? = m[j]?) → allB p ps m = true → unL un d l ps i = m
  | [], [], _, _, _, _ => rfl
  | [], _ :: _, _, _, _, h => by simp [allB] at h
  | _ :: _, [], _, _, _, h => by simp [allB] at h
  | a :: ps, b :: m, l, i, hl, h => by
    simp only [allB, Bool.and_eq_true] at h
    have h0 : l[i]? = some b := by have := hl 0; simpa using this
    have h1 : ∀ j, l[i + 1 + j]? = m[j]? := fun j => by
      have := hl (j + 1)
      rw [show i + 1 + j = i + (j + 1) by omega]
      simpa using this
    rw [unL, unL_from ok h1 h.2, List.getD_eq_getElem?_getD, h0]
    simp only [Option.getD_some]
    rw [ok a b h.1]
theorem unL_ok {α β : Type} {p : α → β → Bool} {un : β → α → β} {d : β} (ok : ∀ a b, p a b = true → un b a = b) {ps : List α} {m : List β} (h : allB p ps m = true) : unL un d m ps 0 = m :=
  unL_from ok (fun j => by simp) h

def aC : AV → Cl | .c x => x | _ => .top
def aL : AV → List Cl | .agg l => l | _ => []
def paB : PA → AV → Bool
  | .top, .top => true
  | .c p, .c x => pcB p x
  | .agg ps, .agg l => allB pcB ps l
  | .any, _ => true
  | _, _ => false
def unA (v : AV) : PA → AV
  | .top => .top
  | .c p => .c (unC (aC v) p)
  | .agg ps => .agg (unL unC .top (aL v) ps 0)
  | .any => v
theorem unA_ok {p : PA} {v : AV} (h : paB p v = true) : unA v p = v := by
  cases p <;> cases v <;> simp only [paB, Bool.false_eq_true] at h <;> try rfl
  · simp only [unA, aC, unC_ok h]
  · simp only [unA, aL, unL_ok (fun a b => unC_ok) h]
def bL : Blk → List Cl | .cells l => l | _ => []
def bR (c : Nat) : Blk → List (Uni.val c)
  | .row c' L => (match Nat.decEq c' c with | .isTrue h => h ▸ L | .isFalse _ => [])
  | _ => []
def bCap : Blk → Nat
  | .chn _ cap _ => cap
  | _ => 0
def bChn (c : Nat) : Blk → List (List (Uni.val c))
  | .chn c' _ L => (match Nat.decEq c' c with | .isTrue h => h ▸ L | .isFalse _ => [])
  | _ => []
def bBg (c : Nat) : Blk → List (List (Uni.val c))
  | .bg _ c' L _ => (match Nat.decEq c' c with | .isTrue h => h ▸ L | .isFalse _ => [])
  | _ => []
def pbB : PB → Blk → Bool
  | .bg c2 c, .bg c2' c' _ p => Nat.beq c2' c2 && (Nat.beq c' c && p.isNone)
  | .chn c, .chn c' _ _ => Nat.beq c' c
  | .cells ps, .cells l => allB pcB ps l
  | .row c, .row c' _ => Nat.beq c' c
  | .dead, .dead => true
  | _, _ => false
def unB (b : Blk) : PB → Blk
  | .bg c2 c => .bg c2 c (bBg c b) none
  | .chn c => .chn c (bCap b) (bChn c b)
  | .cells ps => .cells (unL unC .top (bL b) ps 0)
  | .row c => .row c (bR c b)
  | .dead => .dead
theorem unB_ok {p : PB} {b : Blk} (h : pbB p b = true) : unB b p = b := by
  cases p <;> cases b <;> simp only [pbB, Bool.false_eq_true] at h
  · simp only [unB, bL, unL_ok (fun a b => unC_ok) h]
  · rename_i c c' L
    have hc := Nat.eq_of_beq_eq_true h
    subst hc
    simp only [unB, bR]
    split
    · rfl
    · rename_i hn _; exact absurd rfl hn
  · rfl
  · rename_i c c' cap L
    have hc := Nat.eq_of_beq_eq_true h
    subst hc
    simp only [unB, bChn, bCap]
    split
    · rfl
    · rename_i hn _; exact absurd rfl hn
  · rename_i c2 c c2' c' L p
    simp only [Bool.and_eq_true] at h
    have hc2 := Nat.eq_of_beq_eq_true h.1
    have hc := Nat.eq_of_beq_eq_true h.2.1
    have hp : p = none := by cases p with | none => rfl | some _ => exact absurd h.2.2 (by simp)
    subst hc; subst hc2; subst hp
    simp only [unB, bBg]
    split
    · rfl
    · rename_i hn _; exact absurd rfl hn

def shB (pa : List PA) (pb : List PB) (s : St) : Bool := allB paB pa s.tmps && allB pbB pb s.heap
def norm (pa : List PA) (pb : List PB) (s : St) : St := ⟨unL unA .top s.tmps pa 0, unL unB .dead s.heap pb 0⟩
theorem norm_ok {pa : List PA} {pb : List PB} {s : St} (h : shB pa pb s = true) : norm pa pb s = s := by
  simp only [shB, Bool.and_eq_true] at h
  unfold norm
  rw [unL_ok (fun a b => unA_ok) h.1, unL_ok (fun a b => unB_ok) h.2]

def retR {α : Type} (b : Bool) (x : α) : Res α := match b with | true => .val x | false => .fail

theorem eval_opt {α β : Type} {o : Option β} {f : β → Res α} : (Res.opt o f).eval = o.bind fun b => (f b).eval := by cases o <;> rfl

/-- A loop in its block, told by its rounds. -/
def loopF {V : Type} (pa : List PA) (pb : List PB) (N : Nat) (hd : V → St) (R : V → Tr (V ⊕ (Bool × V))) (ini : St → V) (rets : Bool) (s : St) : Res (Ex × St) :=
  match shB pa pb s with
  | true => .opt (iter R N (ini s)) fun r => .br r.1 (retR rets (.ret, hd r.2)) (.val (.normal, hd r.2))
  | false => .fail

theorem blk_ok {e : Env} {T : Tab} {n0 id : Nat} {lb : Code} {pa : List PA} {pb : List PB} {V : Type} {hd : V → St} {R : V → Tr (V ⊕ (Bool × V))} {ini : St → V} {rets : Bool}
    (H : ∀ s v, (roundR (codeQ e T n0 lb) n0 (coeS e.rows (norm pa pb s)).tmps (hd v)).eval = (R v).ev (sumOf id hd))
    (H0 : ∀ s, (canon n0 (coeS e.rows (norm pa pb s)).tmps (coeS e.rows (norm pa pb s))).eval = some (hd (ini s)))
    (ok : TabOk e T n0 lb) (s : St) (r : Ex × St) (h : (loopF pa pb e.N hd R ini rets s).eval = some r) : (codeR e n0 (.block id (.loop lb)) s).eval = some r := by
  unfold loopF at h
  split at h
  · rename_i hsh
    have hn := norm_ok hsh
    rw [eval_opt] at h
    obtain ⟨q, hq, h⟩ := Option.bind_eq_some_iff.mp h
    · have h0 := H0 s
      rw [hn] at h0
      have hl := loop_sum (n0 := n0) (m := (coeS e.rows s).tmps) (id := id) hd R (fun v => by have := H s v; rw [hn] at this; exact this) e.N (coeS e.rows s) (ini s) q h0 hq
      have hl' := loopR_le (codeQ_le lb ok) _ _ _ hl
      unfold codeR
      rw [Res.eval_bind]
      unfold codeR
      rw [hl']
      simp only [Option.bind_some]
      obtain ⟨f, v⟩ := q
      cases f
      · simp only [exOf, Nat.beq_refl, if_true, cond_false, Res.eval] at h ⊢
        exact h
      · simp only [exOf, cond_true, Res.eval] at h ⊢
        cases rets
        · simp [retR, Res.eval] at h
        · exact h
  · simp [Res.eval] at h

abbrev TL := List (Nat × (St → Res (Ex × St)))
def lookT : TL → Tab
  | [], _ => none
  | p :: r, i => match Nat.beq i p.1 with | true => some p.2 | false => lookT r i

theorem tab_nil {e : Env} {n0 : Nat} {c : Code} : TabOk e (lookT []) n0 c := fun id F h => by simp [lookT] at h
theorem tab_cons {e : Env} {n0 id : Nat} {c lb : Code} {F : St → Res (Ex × St)} {L : TL} (hf : findB id c = [.loop lb]) (hF : ∀ s r, (F s).eval = some r → (codeR e n0 (.block id (.loop lb)) s).eval = some r) (hL : TabOk e (lookT L) n0 c) :
    TabOk e (lookT ((id, F) :: L)) n0 c := by
  intro i G hG b hb s r hr
  simp only [lookT] at hG
  split at hG
  · rename_i hi
    have := Nat.eq_of_beq_eq_true hi
    subst this
    simp only [Option.some.injEq] at hG; subst hG
    rw [hf] at hb
    simp at hb; subst hb
    exact hF s r hr
  · exact hL i G hG b hb s r hr

/-- A loop told in two shapes. -/
def orF (pa : List PA) (pb : List PB) (F G : St → Res (Ex × St)) (s : St) : Res (Ex × St) := match shB pa pb s with
  | true => F s
  | false => G s
theorem orF_ok {e : Env} {n0 id : Nat} {b : Code} {pa : List PA} {pb : List PB} {F G : St → Res (Ex × St)} (hF : ∀ s r, (F s).eval = some r → (codeR e n0 (.block id b) s).eval = some r) (hG : ∀ s r, (G s).eval = some r → (codeR e n0 (.block id b) s).eval = some r) :
    ∀ s r, (orF pa pb F G s).eval = some r → (codeR e n0 (.block id b) s).eval = some r := by
  intro s r h
  unfold orF at h
  split at h
  · exact hF s r h
  · exact hG s r h

def runQ0 (e : Env) (T : Tab) (f : Func) : Spec := fun args h => match h with
  | [] => runQ e T f args []
  | _ :: _ => .fail
theorem runQ0_ok {P : Program} {e : Env} {T : Tab} {f : FuncId} {fn : Func} (ok : SpecOk P f (runR e fn)) (tab : ∀ c, fn.body = some c → TabOk e T 0 c) : SpecOk P f (runQ0 e T fn) := by
  refine ok.less fun args hs r h => ?_
  unfold runQ0 at h
  cases hs with
  | nil => exact runQ_le tab h
  | cons _ _ => simp [Res.eval] at h

end
end Ab
