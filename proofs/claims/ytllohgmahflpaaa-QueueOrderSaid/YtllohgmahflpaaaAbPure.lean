/- Trees of what a function computes; how arguments are taken apart; lists of specifications. -/
import Derived.Test.YtllohgmahflpaaaAbRow
set_option linter.unusedSectionVars false
set_option linter.unusedSimpArgs false
set_option linter.unusedVariables false
namespace Ab
open Go

/-- What a function computes: a value, or one of two by a test, or nothing. -/
inductive Tr (α : Type) : Type 1 where
  | fail
  | leaf (a : α)
  | br (b : Bool) (x y : Tr α)
  | opt {β : Type} (o : Option β) (f : β → Tr α)

def Tr.ev {α β : Type} : Tr α → (α → β) → Option β
  | .fail, _ => none
  | .leaf a, K => some (K a)
  | .br b x y, K => bif b then x.ev K else y.ev K
  | .opt o f, K => match o with
    | some z => (f z).ev K
    | none => none

/-- .. where nothing fails. -/
def Tr.get {α : Type} (d : α) : Tr α → α
  | .leaf a => a
  | .br b x y => bif b then x.get d else y.get d
  | _ => d

def Tr.ok {α : Type} : Tr α → Bool
  | .leaf _ => true
  | .br _ x y => x.ok && y.ok
  | _ => false

def Tr.get? {α : Type} (t : Tr α) : Option α := t.ev id

theorem Tr.ev_get {α β : Type} {d : α} {K : α → β} : ∀ {t : Tr α}, t.ok = true → t.ev K = some (K (t.get d))
  | .leaf a, _ => rfl
  | .br b x y, h => by
    simp only [Tr.ok, Bool.and_eq_true] at h
    cases b
    · exact Tr.ev_get (t := y) h.2
    · exact Tr.ev_get (t := x) h.1
  | .fail, h => by simp [Tr.ok] at h
  | .opt _ _, h => by simp [Tr.ok] at h

theorem Tr.ev_get? {α β : Type} {K : α → β} : ∀ {t : Tr α}, t.ev K = t.get?.map K
  | .leaf a => rfl
  | .br b x y => by
    cases b
    · exact Tr.ev_get? (t := y)
    · exact Tr.ev_get? (t := x)
  | .fail => rfl
  | .opt none _ => rfl
  | .opt (some z) f => Tr.ev_get? (t := f z)

def andI (k : IntKind) (a b : Int) : Int := k.wrap (BitVec.ofInt k.bits a &&& BitVec.ofInt k.bits b).toNat
def orI (k : IntKind) (a b : Int) : Int := k.wrap (BitVec.ofInt k.bits a ||| BitVec.ofInt k.bits b).toNat
def xorI (k : IntKind) (a b : Int) : Int := k.wrap (BitVec.ofInt k.bits a ^^^ BitVec.ofInt k.bits b).toNat
def nanI (k : IntKind) (a b : Int) : Int := k.wrap (BitVec.ofInt k.bits a &&& ~~~ BitVec.ofInt k.bits b).toNat
def quoI (k : IntKind) (a b : Int) : Int := k.wrap (a.tdiv b)
def remI (a b : Int) : Int := a.tmod b
def shlI (k : IntKind) (a b : Int) : Int := k.wrap (a * 2 ^ (min b.toNat k.bits))
def shrI (k : IntKind) (a b : Int) : Int := a.fdiv (2 ^ (min b.toNat k.bits))

theorem kEq_self (k : IntKind) : kEq k k = true := by cases k <;> rfl
theorem kEq_eq2 {a b : IntKind} (h : kEq a b = true) : a = b := by cases a <;> cases b <;> first | rfl | (simp [kEq] at h)

section
variable [Uni] {α : Type}

def dI (k : IntKind) (x : Cl) (K : Int → Res α) : Res α := match x with | .int k' n => (match kEq k k' with | true => K n | false => .fail) | _ => .fail
def dB (x : Cl) (K : Bool → Res α) : Res α := match x with | .bool b => K b | _ => .fail
def dS (x : Cl) (K : ByteArray → Res α) : Res α := match x with | .str b => K b | _ => .fail
def dG (v : AV) (K : List Cl → Res α) : Res α := match v with | .agg l => K l | _ => .fail
def dC (v : AV) (K : Cl → Res α) : Res α := match v with | .c x => K x | _ => .fail
def dL {β : Type} (l : List β) (K : β → List β → Res α) : Res α := match l with | x :: r => K x r | [] => .fail
def dN {β : Type} (l : List β) (K : Res α) : Res α := match l with | [] => K | _ :: _ => .fail
def dR (c : Nat) (x : Cl) (K : List (Uni.val c) → Res α) : Res α := match x with
  | .rs c' L => (match Nat.decEq c' c with | .isTrue h => K (h ▸ L) | .isFalse _ => .fail)
  | .nils => K []
  | _ => .fail

def dR0 (c : Nat) (x : Cl) (K : List (Uni.val c) → Res α) : Res α := match x with
  | .rs c' L => (match Nat.decEq c' c with | .isTrue h => K (h ▸ L) | .isFalse _ => .fail)
  | _ => .fail

theorem dI_inv {k : IntKind} {x : Cl} {K : Int → Res α} {r : α} (h : (dI k x K).eval = some r) : ∃ n, x = .int k n ∧ (K n).eval = some r := by
  unfold dI at h
  split at h
  · split at h
    · rename_i hk; exact ⟨_, by rw [kEq_eq2 hk], h⟩
    · simp [Res.eval] at h
  · simp [Res.eval] at h
theorem dB_inv {x : Cl} {K : Bool → Res α} {r : α} (h : (dB x K).eval = some r) : ∃ n, x = .bool n ∧ (K n).eval = some r := by
  unfold dB at h
  split at h
  · exact ⟨_, rfl, h⟩
  · simp [Res.eval] at h
theorem dS_inv {x : Cl} {K : ByteArray → Res α} {r : α} (h : (dS x K).eval = some r) : ∃ n, x = .str n ∧ (K n).eval = some r := by
  unfold dS at h
  split at h
  · exact ⟨_, rfl, h⟩
  · simp [Res.eval] at h
theorem dG_inv {x : AV} {K : List Cl → Res α} {r : α} (h : (dG x K).eval = some r) : ∃ n, x = .agg n ∧ (K n).eval = some r := by
  unfold dG at h
  split at h
  · exact ⟨_, rfl, h⟩
  · simp [Res.eval] at h
theorem dC_inv {x : AV} {K : Cl → Res α} {r : α} (h : (dC x K).eval = some r) : ∃ n, x = .c n ∧ (K n).eval = some r := by
  unfold dC at h
  split at h
  · exact ⟨_, rfl, h⟩
  · simp [Res.eval] at h
theorem dL_inv {β : Type} {l : List β} {K : β → List β → Res α} {r : α} (h : (dL l K).eval = some r) : ∃ x m, l = x :: m ∧ (K x m).eval = some r := by
  unfold dL at h
  split at h
  · exact ⟨_, _, rfl, h⟩
  · simp [Res.eval] at h
theorem dN_inv {β : Type} {l : List β} {K : Res α} {r : α} (h : (dN l K).eval = some r) : l = [] ∧ K.eval = some r := by
  unfold dN at h
  split at h
  · exact ⟨rfl, h⟩
  · simp [Res.eval] at h
theorem dR_inv {c : Nat} {x : Cl} {K : List (Uni.val c) → Res α} {r : α} (h : (dR c x K).eval = some r) : ∃ L, (x = .rs c L ∨ (x = .nils ∧ L = [])) ∧ (K L).eval = some r := by
  unfold dR at h
  split at h
  · split at h
    · rename_i hc _; subst hc; exact ⟨_, .inl rfl, h⟩
    · simp [Res.eval] at h
  · exact ⟨_, .inr ⟨rfl, rfl⟩, h⟩
  · simp [Res.eval] at h

theorem dR0_inv {c : Nat} {x : Cl} {K : List (Uni.val c) → Res α} {r : α} (h : (dR0 c x K).eval = some r) : ∃ L, x = .rs c L ∧ (K L).eval = some r := by
  unfold dR0 at h
  split at h
  · split at h
    · rename_i hc _; subst hc; exact ⟨_, rfl, h⟩
    · simp [Res.eval] at h
  · simp [Res.eval] at h

def gI {α : Type} (k : IntKind) (x : Cl) (K : Int → Option α) : Option α := match x with | .int k' n => (match kEq k k' with | true => K n | false => none) | _ => none
def gB {α : Type} (x : Cl) (K : Bool → Option α) : Option α := match x with | .bool b => K b | _ => none
def gS {α : Type} (x : Cl) (K : ByteArray → Option α) : Option α := match x with | .str b => K b | _ => none
def gL {α β : Type} (l : List β) (K : β → List β → Option α) : Option α := match l with | x :: r => K x r | [] => none
def gN {α β : Type} (l : List β) (K : Option α) : Option α := match l with | [] => K | _ :: _ => none
theorem gI_inv {α : Type} {k : IntKind} {x : Cl} {K : Int → Option α} {r : α} (h : gI k x K = some r) : ∃ n, x = .int k n ∧ K n = some r := by
  unfold gI at h
  split at h
  · split at h
    · rename_i hk; exact ⟨_, by rw [kEq_eq2 hk], h⟩
    · simp at h
  · simp at h
theorem gB_inv {α : Type} {x : Cl} {K : Bool → Option α} {r : α} (h : gB x K = some r) : ∃ n, x = .bool n ∧ K n = some r := by
  unfold gB at h
  split at h
  · exact ⟨_, rfl, h⟩
  · simp at h
theorem gS_inv {α : Type} {x : Cl} {K : ByteArray → Option α} {r : α} (h : gS x K = some r) : ∃ n, x = .str n ∧ K n = some r := by
  unfold gS at h
  split at h
  · exact ⟨_, rfl, h⟩
  · simp at h
theorem gL_inv {α β : Type} {l : List β} {K : β → List β → Option α} {r : α} (h : gL l K = some r) : ∃ x m, l = x :: m ∧ K x m = some r := by
  unfold gL at h
  split at h
  · exact ⟨_, _, rfl, h⟩
  · simp at h
theorem gN_inv {α β : Type} {l : List β} {K : Option α} {r : α} (h : gN l K = some r) : l = [] ∧ K = some r := by
  unfold gN at h
  split at h
  · exact ⟨rfl, h⟩
  · simp at h

theorem All2.uncons {α β : Type} {R : α → β → Prop} {a : α} {l : List α} {m : List β} (h : All2 R (a :: l) m) : ∃ b m', m = b :: m' ∧ R a b ∧ All2 R l m' := by
  cases h with
  | cons h1 h2 => exact ⟨_, _, rfl, h1, h2⟩
theorem All2.unnil {α β : Type} {R : α → β → Prop} {m : List β} (h : All2 R [] m) : m = [] := by cases h; rfl
theorem has_int {k : IntKind} {x : Cl} (h : KC.has (.int k) x) : ∃ n, x = .int k n ∧ (Lit.int k n).wf = true := by
  cases x <;> simp only [KC.has] at h <;> first | exact h.elim | (obtain ⟨rfl, h⟩ := h; exact ⟨_, rfl, h⟩)
theorem has_bool {x : Cl} (h : KC.has .bool x) : ∃ n, x = .bool n := by
  cases x <;> simp only [KC.has] at h <;> exact ⟨_, rfl⟩
theorem has_str {x : Cl} (h : KC.has .str x) : ∃ n, x = .str n ∧ n.size ≤ maxLen := by
  cases x <;> simp only [KC.has] at h <;> exact ⟨_, rfl, h⟩

theorem wf_range {k : IntKind} {n : Int} (h : (Lit.int k n).wf = true) : k.min ≤ n ∧ n ≤ k.max := by
  simp only [Lit.wf, Bool.and_eq_true, decide_eq_true_eq] at h
  exact h

/-- Cells of those kinds. -/
def kmB : List KC → List Cl → Bool
  | [], [] => true
  | .int k :: ks, .int k' _ :: l => kEq k k' && kmB ks l
  | .bool :: ks, .bool _ :: l => kmB ks l
  | .str :: ks, .str _ :: l => kmB ks l
  | _, _ => false
def iC : Cl → Int | .int _ n => n | _ => 0
def bC : Cl → Bool | .bool b => b | _ => false
def sC : Cl → ByteArray | .str b => b | _ => ⟨#[]⟩
def iAt (l : List Cl) (i : Nat) : Int := iC (l.getD i .top)
def bAt (l : List Cl) (i : Nat) : Bool := bC (l.getD i .top)
def sAt (l : List Cl) (i : Nat) : ByteArray := sC (l.getD i .top)
def reE (l : List Cl) : List KC → Nat → List Cl
  | [], _ => []
  | .int k :: ks, i => .int k (iAt l i) :: reE l ks (i + 1)
  | .bool :: ks, i => .bool (bAt l i) :: reE l ks (i + 1)
  | .str :: ks, i => .str (sAt l i) :: reE l ks (i + 1)

theorem reE_from : ∀ {ks : List KC} {m l : List Cl} {i : Nat}, (∀ j, l[i + j]? = m[j]?) → kmB ks m = true → reE l ks i = m
  | [], [], l, i, _, _ => rfl
  | [], _ :: _, l, i, _, h => by simp [kmB] at h
  | k :: ks, [], l, i, _, h => by cases k <;> simp [kmB] at h
  | k :: ks, x :: m, l, i, hl, h => by
    have h0 : l[i]? = some x := by have := hl 0; simpa using this
    have h1 : ∀ j, l[i + 1 + j]? = m[j]? := fun j => by
      have := hl (j + 1)
      rw [show i + 1 + j = i + (j + 1) by omega]
      simpa using this
    cases k <;> cases x <;> simp only [kmB, Bool.and_eq_true, Bool.false_eq_true] at h
    · rw [reE, reE_from h1 h.2, iAt, List.getD_eq_getElem?_getD, h0, kEq_eq2 h.1]; rfl
    · rw [reE, reE_from h1 h, bAt, List.getD_eq_getElem?_getD, h0]; rfl
    · rw [reE, reE_from h1 h, sAt, List.getD_eq_getElem?_getD, h0]; rfl
theorem reE_ok {ks : List KC} {l : List Cl} (h : kmB ks l = true) : reE l ks 0 = l := reE_from (fun j => by simp) h
theorem km_of_has : ∀ {ks : List KC} {l : List Cl}, All2 KC.has ks l → kmB ks l = true
  | [], [], _ => rfl
  | [], _ :: _, h => by cases h
  | _ :: _, [], h => by cases h
  | k :: ks, x :: l, h => by
    cases h with
    | cons h1 h2 =>
      have := km_of_has h2
      cases k <;> cases x <;> simp only [KC.has] at h1 <;> simp only [kmB, Bool.and_eq_true] <;> first | exact this | exact h1.elim | (obtain ⟨rfl, _⟩ := h1; exact ⟨kEq_self _, this⟩)

def rC (c : Nat) : Cl → List (Uni.val c)
  | .rs c' L => (match Nat.decEq c' c with | .isTrue h => h ▸ L | .isFalse _ => [])
  | _ => []
def rAt (c : Nat) (l : List Cl) (i : Nat) : List (Uni.val c) := rC c (l.getD i .top)

/-- Cells of those kinds, slices among them. -/
def kmM : List CK → List Cl → Bool
  | [], [] => true
  | .plain (.int k) :: ks, .int k' _ :: l => kEq k k' && kmM ks l
  | .plain .bool :: ks, .bool _ :: l => kmM ks l
  | .plain .str :: ks, .str _ :: l => kmM ks l
  | .rows c :: ks, .rs c' _ :: l => Nat.beq c' c && kmM ks l
  | _, _ => false
def reM (l : List Cl) : List CK → Nat → List Cl
  | [], _ => []
  | .plain (.int k) :: ks, i => .int k (iAt l i) :: reM l ks (i + 1)
  | .plain .bool :: ks, i => .bool (bAt l i) :: reM l ks (i + 1)
  | .plain .str :: ks, i => .str (sAt l i) :: reM l ks (i + 1)
  | .rows c :: ks, i => .rs c (rAt c l i) :: reM l ks (i + 1)
theorem reM_from : ∀ {ks : List CK} {m l : List Cl} {i : Nat}, (∀ j, l[i + j]? = m[j]?) → kmM ks m = true → reM l ks i = m
  | [], [], l, i, _, _ => rfl
  | [], _ :: _, l, i, _, h => by simp [kmM] at h
  | k :: ks, [], l, i, _, h => by rcases k with k | c <;> (try cases k) <;> simp [kmM] at h
  | k :: ks, x :: m, l, i, hl, h => by
    have h0 : l[i]? = some x := by have := hl 0; simpa using this
    have h1 : ∀ j, l[i + 1 + j]? = m[j]? := fun j => by
      have := hl (j + 1)
      rw [show i + 1 + j = i + (j + 1) by omega]
      simpa using this
    rcases k with k | c
    · cases k <;> cases x <;> simp only [kmM, Bool.and_eq_true, Bool.false_eq_true] at h
      · rw [reM, reM_from h1 h.2, iAt, List.getD_eq_getElem?_getD, h0, kEq_eq2 h.1]; rfl
      · rw [reM, reM_from h1 h, bAt, List.getD_eq_getElem?_getD, h0]; rfl
      · rw [reM, reM_from h1 h, sAt, List.getD_eq_getElem?_getD, h0]; rfl
    · cases x <;> simp only [kmM, Bool.and_eq_true, Bool.false_eq_true] at h
      rename_i c' L
      have hc := Nat.eq_of_beq_eq_true h.1
      subst hc
      rw [reM, reM_from h1 h.2, rAt, List.getD_eq_getElem?_getD, h0]
      simp only [Option.getD_some, rC]
      split
      · rfl
      · rename_i hn _; exact absurd rfl hn
theorem reM_ok {ks : List CK} {l : List Cl} (h : kmM ks l = true) : reM l ks 0 = l := reM_from (fun j => by simp) h
theorem kmM_of_has [Cod] {kd : Nat → List KC} : ∀ {ks : List CK} {l : List Cl}, All2 (CK.has kd) ks l → kmM ks l = true
  | [], [], _ => rfl
  | [], _ :: _, h => by cases h
  | _ :: _, [], h => by cases h
  | k :: ks, x :: l, h => by
    cases h with
    | cons h1 h2 =>
      have := kmM_of_has h2
      rcases k with k | c
      · simp only [CK.has] at h1
        cases k <;> cases x <;> simp only [KC.has] at h1 <;> simp only [kmM, Bool.and_eq_true] <;> first | exact this | exact h1.elim | (obtain ⟨rfl, _⟩ := h1; exact ⟨kEq_self _, this⟩)
      · obtain ⟨L, rfl, _⟩ := h1
        simp only [kmM, Bool.and_eq_true]
        exact ⟨Nat.beq_refl c, this⟩

theorem closed_all {l : List Cl} (h : l.all closedC = true) {y : Cl} (hy : y ∈ l) : closedC y = true := List.all_eq_true.mp h y hy

theorem pl_all {l : List Cl} (h : l.all isPl = true) {y : Cl} (hy : y ∈ l) : isPl y = true := List.all_eq_true.mp h y hy

abbrev SL := List (FuncId × Mode × Spec)
def lookS (g : FuncId) : SL → Option (Mode × Spec)
  | [] => none
  | p :: r => match Nat.beq g p.1 with | true => some p.2 | false => lookS g r
end
section
variable [Uni] [Cod]
theorem callsOk_nil {P : Program} {ti : List TI} {N : Nat} {rows : List Plc} {fz : List Nat} {keep : Option (List Nat)} : CallsOk P ⟨ti, fun g => lookS g [], N, rows, fz, keep⟩ := fun f m sp h => by simp [lookS] at h
theorem callsOk_cons {P : Program} {ti : List TI} {N : Nat} {rows : List Plc} {fz : List Nat} {keep : Option (List Nat)} {L : SL} {f : FuncId} {m : Mode} {sp : Spec} (h : SpecOk P f sp) (hL : CallsOk P ⟨ti, fun g => lookS g L, N, rows, fz, keep⟩) : CallsOk P ⟨ti, fun g => lookS g ((f, m, sp) :: L), N, rows, fz, keep⟩ := by
  intro g m' sp' hg
  simp only [lookS] at hg
  split at hg
  · rename_i hb
    simp at hg
    obtain ⟨rfl, rfl⟩ := hg
    have := Nat.eq_of_beq_eq_true hb
    try simp at this
    subst this
    exact h
  · exact hL g m' sp' hg

def dE {α : Type} (c : Nat) (l : List Cl) (K : Uni.val c → Res α) : Res α := match Cod.dec c l with
  | some x => K x
  | none => .fail
theorem dE_inv {α : Type} {c : Nat} {l : List Cl} {K : Uni.val c → Res α} {r : α} (h : (dE c l K).eval = some r) : ∃ x, l = Cod.enc c x ∧ (K x).eval = some r := by
  unfold dE at h
  split at h
  · rename_i x hx
    exact ⟨x, (Cod.dec_enc c l x hx).symm, h⟩
  · simp [Res.eval] at h
/-- A field's range. -/
theorem fld {ks : List KC} {l : List Cl} (h : All2 KC.has ks l) (i : Nat) {k k' : IntKind} {n : Int} (hk : ks[i]? = some (.int k)) (hl : l[i]? = some (.int k' n)) : (Lit.int k n).wf = true := by
  obtain ⟨b, hb, hr⟩ := h.get hk
  rw [hl] at hb
  cases hb
  exact hr.2
end
end Ab
