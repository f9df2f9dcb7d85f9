/- The executor's table of types, held against the program's. -/
import Derived.Test.YtllohgmahflpaaaAbRel
import Derived.Laws.StructEq
set_option linter.unusedSectionVars false
namespace Ab
open Go
section
variable [Uni] [Cod]

/-- A literal cell is that value. -/
def conB : Cl → Value → Bool
  | .bool a, .bool b => a == b
  | .int k a, .int k' b => decide (k = k') && a == b
  | .str a, .string b => a.data.toList == b.data.toList
  | .nilp, .pointer none => true
  | .nils, .slice none 0 0 => true
  | .nilf, .nilFunc => true
  | .rs _ L, .slice none 0 0 => L.isEmpty
  | .nilch, .chan none => true
  | _, _ => false

def conLB : List Cl → List Value → Bool
  | [], [] => true
  | x :: l, v :: m => conB x v && conLB l m
  | _, _ => false

def plainFs (g : TypeId → Option (List KC)) : List Field → Nat → Option (List KC)
  | [], _ => some []
  | f :: fs, off => if f.name != "_" && f.offset == off then match g f.type with
      | some ks => match plainFs g fs (off + ks.length) with
        | some l => some (ks ++ l)
        | none => none
      | none => none
    else none

/-- A type of plain cells: whole numbers, truth values, texts; structs and arrays of such; its cells' kinds. -/
def plainKs (P : Program) : Nat → TypeId → Option (List KC)
  | 0, _ => none
  | n + 1, t => if (P.info? t).isNone then none else match P.underlying t with
    | some (.int k) => if P.cellsOf t == 1 then some [.int k] else none
    | some .bool => if P.cellsOf t == 1 then some [.bool] else none
    | some .string => if P.cellsOf t == 1 then some [.str] else none
    | some (.struct fs) => if P.stoodInHeld t then none else match plainFs (plainKs P n) fs.toList 0 with
      | some l => if P.cellsOf t == l.length && Nat.ble 1 l.length then some l else none
      | none => none
    | some (.array m e) => match plainKs P n e with
      | some ks => if P.cellsOf t == m * ks.length && Nat.ble 1 m then some (List.replicate m ks).flatten else none
      | none => none
    | _ => none

def kcEq : KC → KC → Bool
  | .int a, .int b => kEq a b
  | .bool, .bool => true
  | .str, .str => true
  | _, _ => false

theorem kEq_eq {a b : IntKind} (h : kEq a b = true) : a = b := by cases a <;> cases b <;> first | rfl | (simp [kEq] at h)

def kcsEq : List KC → List KC → Bool
  | [], [] => true
  | a :: l, b :: m => kcEq a b && kcsEq l m
  | _, _ => false

theorem kcsEq_eq : ∀ {l m : List KC}, kcsEq l m = true → l = m
  | [], [], _ => rfl
  | a :: l, b :: m, h => by
    simp only [kcsEq, Bool.and_eq_true] at h
    rw [kcsEq_eq h.2]
    have := h.1
    cases a <;> cases b <;> simp [kcEq] at this <;> simp
    exact kEq_eq this

structure TIok (P : Program) (t : TypeId) (x : TI) : Prop where
  info : ∃ i, P.info? t = some i ∧ i.size = x.size ∧ i.bytes = x.bytes
  und : ∃ d, P.underlying t = some d ∧ (match d with | .struct _ | .array _ _ => true | _ => false) = x.agg ∧ match x.sh with
    | .int k => d = .int k
    | .bool => d = .bool
    | .str => d = .string
    | .ptr e => d = .pointer e
    | .struct fs => ∃ fields, d = .struct fields ∧ fields.toList.map (fun f => (f.offset, f.type)) = fs ∧ ∀ f ∈ fields.toList, ∃ j, P.info? f.type = some j ∧ j.size ≠ 0
    | .arr n e => d = .array n e
    | .slice e _ => d = .slice e
    | .func => ∃ a b c, d = .func a b c
    | .chan e _ => ∃ dir, d = .chan dir e
    | _ => True
  zero : x.zero ≠ [] → ∃ i z, P.info? t = some i ∧ i.zero = some z ∧ conLB x.zero z.cells.toList = true ∧ (x.agg = true → ∃ cs, z = .agg cs) ∧ (x.agg = false → z.cells = #[z])
  eq : ∀ ks, x.eq = some ks → P.eqGuardType P.depth t = false ∧ plainKs P 12 t = some ks

def tiB (P : Program) (t : TypeId) (x : TI) : Bool :=
  (match P.info? t with
    | some i => i.size == x.size && i.bytes == x.bytes && (x.zero.isEmpty || (match i.zero with
      | some z => conLB x.zero z.cells.toList && (match z with | .agg _ => x.agg | _ => !x.agg)
      | none => false))
    | none => false) &&
  (match P.underlying t with
    | some d => ((match d with | .struct _ | .array _ _ => true | _ => false) == x.agg) && (match x.sh, d with
      | .int k, .int k' => decide (k = k')
      | .bool, .bool => true
      | .str, .string => true
      | .ptr e, .pointer e' => e == e'
      | .struct fs, .struct fields => fields.toList.map (fun f => (f.offset, f.type)) == fs && fields.toList.all fun f => match P.info? f.type with | some j => j.size != 0 | none => false
      | .arr n e, .array n' e' => n == n' && e == e'
      | .slice e _, .slice e' => e == e'
      | .func, .func _ _ _ => true
      | .chan e _, .chan _ e' => e == e'
      | .other, _ => true
      | _, _ => false)
    | none => false) &&
  (match x.eq with
    | none => true
    | some ks => !P.eqGuardType P.depth t && (match plainKs P 12 t with | some l => kcsEq l ks | none => false))

theorem tiB_ok {P : Program} {t : TypeId} {x : TI} (h : tiB P t x = true) : TIok P t x := by
  obtain ⟨xs, xb, xz, xsh, xeq⟩ := x
  unfold tiB at h
  simp only [Bool.and_eq_true] at h
  obtain ⟨⟨h1, h2⟩, h3⟩ := h
  cases hi : P.info? t with
  | none => simp [hi] at h1
  | some i =>
  simp only [hi, Bool.and_eq_true, beq_iff_eq] at h1
  obtain ⟨⟨e1, e2⟩, hz⟩ := h1
  cases hu : P.underlying t with
  | none => simp [hu] at h2
  | some d =>
  simp only [hu, Bool.and_eq_true, beq_iff_eq] at h2
  obtain ⟨ea, hs⟩ := h2
  refine ⟨⟨i, hi, e1, e2⟩, ⟨d, hu, ea, ?_⟩, fun hne => ?_, fun ks he => ?_⟩
  · clear hz h3 e1 e2 hi
    cases xsh with
    | struct fs =>
      cases d <;> simp at hs
      rename_i fields
      refine ⟨fields, rfl, hs.1, fun f hf => ?_⟩
      obtain ⟨i, hi, rfl⟩ := List.mem_iff_getElem.mp hf
      have := hs.2 i (by simpa using hi)
      simp only [Array.getElem_toList]
      cases hj : P.info? fields[i].type with
      | none => simp [hj] at this
      | some j => simp [hj] at this; exact ⟨j, rfl, this⟩
    | int k => cases d <;> simp at hs; simp [hs]
    | bool => cases d <;> simp at hs; rfl
    | str => cases d <;> simp at hs; rfl
    | ptr e => cases d <;> simp at hs; simp [hs]
    | arr n e => cases d <;> simp at hs; simp [hs]
    | slice e c => cases d <;> simp at hs; simp [hs]
    | func => cases d <;> simp at hs; exact ⟨_, _, _, rfl⟩
    | chan e c => cases d <;> simp at hs; exact ⟨_, by rw [hs]⟩
    | other => trivial
  · refine ⟨i, ?_⟩
    have hz' : (match i.zero with
      | some z => conLB xz z.cells.toList && (match z with | .agg _ => TI.agg ⟨xs, xb, xz, xsh, xeq⟩ | _ => !TI.agg ⟨xs, xb, xz, xsh, xeq⟩)
      | none => false) = true := by
      cases hxz : xz with
      | nil => exact absurd hxz hne
      | cons a l => rw [hxz] at hz; simpa using hz
    cases hiz : i.zero with
    | none => simp [hiz] at hz'
    | some z =>
      simp only [hiz, Bool.and_eq_true] at hz'
      refine ⟨z, hi, rfl, hz'.1, fun ha => ?_, fun ha => ?_⟩
      · have h2 := hz'.2
        cases z <;> first | exact ⟨_, rfl⟩ | (exfalso; simp [ha] at h2)
      · have h2 := hz'.2
        cases z <;> first | rfl | (exfalso; simp [ha] at h2)
  · obtain rfl : xeq = some ks := he
    simp only [Bool.and_eq_true] at h3
    refine ⟨by simpa using h3.1, ?_⟩
    have := h3.2
    split at this
    · rename_i l hl; rw [hl, kcsEq_eq this]
    · simp at this

def TAll (P : Program) (e : Env) : Prop := ∀ t, t < e.ti.length → TIok P t (e.T t)

theorem Env.lt_of_size {e : Env} {t : TypeId} (h : (e.T t).size ≠ 0) : t < e.ti.length := by
  rcases Nat.lt_or_ge t e.ti.length with h' | h'
  · exact h'
  · exfalso; apply h; unfold Env.T; rw [List.getD_eq_getElem?_getD, List.getElem?_eq_none h']; rfl

theorem Env.lt_of_sh {e : Env} {t : TypeId} {s : Sh} (h : (e.T t).sh = s) (hs : s ≠ .other) : t < e.ti.length := by
  rcases Nat.lt_or_ge t e.ti.length with h' | h'
  · exact h'
  · exfalso; apply hs; rw [← h]; unfold Env.T; rw [List.getD_eq_getElem?_getD, List.getElem?_eq_none h']; rfl

theorem Env.lt_of_zero {e : Env} {t : TypeId} (h : (e.T t).zero ≠ []) : t < e.ti.length := by
  rcases Nat.lt_or_ge t e.ti.length with h' | h'
  · exact h'
  · exfalso; apply h; unfold Env.T; rw [List.getD_eq_getElem?_getD, List.getElem?_eq_none h']; rfl

theorem Env.lt_of_eq {e : Env} {t : TypeId} {ks : List KC} (h : (e.T t).eq = some ks) : t < e.ti.length := by
  rcases Nat.lt_or_ge t e.ti.length with h' | h'
  · exact h'
  · exfalso; revert h; unfold Env.T; rw [List.getD_eq_getElem?_getD, List.getElem?_eq_none h']; simp [default]

theorem allTI {P : Program} {l : List TI} (h : (l.zipIdx.all fun p => tiB P p.2 p.1) = true) (calls : FuncId → Option (Mode × Spec)) (N : Nat) (rows : List Plc) (fz : List Nat) (keep : Option (List Nat)) : TAll P ⟨l, calls, N, rows, fz, keep⟩ := by
  intro t ht
  apply tiB_ok
  rw [List.all_eq_true] at h
  have := h (l[t], t) (by rw [List.mem_zipIdx_iff_getElem?]; simp [List.getElem?_eq_getElem ht])
  simpa [Env.T, List.getD_eq_getElem?_getD, List.getElem?_eq_getElem ht] using this

end
end Ab
