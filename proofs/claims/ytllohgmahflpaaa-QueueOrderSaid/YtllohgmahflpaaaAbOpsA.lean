/- The operations that leave memory alone, each held against the machine's. -/
import Derived.Test.YtllohgmahflpaaaAbTI
import Derived.Laws.Slices
import Derived.Laws.Rows
import Derived.Laws.Build
set_option linter.unusedSectionVars false
set_option linter.unusedSimpArgs false
namespace Ab
open Go
section
variable [Uni] [Cod]
variable {P : Program} {e : Env} {X : Cx} {h : List Blk} {w : World} {o : Oper} {ρA : Operand → AV} {ρ : Operand → Value} {v : AV}

theorem Res.eval_opt {α β : Type} (x : Option β) (f : β → Res α) : (Res.opt x f).eval = match x with | some b => (f b).eval | none => none := by cases x <;> rfl
theorem Res.eval_br {α : Type} (b : Bool) (x y : Res α) : (Res.br b x y).eval = bif b then x.eval else y.eval := rfl
theorem Res.eval_fail {α : Type} : (Res.fail : Res α).eval = none := rfl
theorem Res.eval_val {α : Type} (a : α) : (Res.val a).eval = some a := rfl
theorem Res.eval_bind {α β : Type} (r : Res α) (f : α → Res β) : (r.bind f).eval = r.eval.bind fun a => (f a).eval := by
  induction r with
  | fail => rfl
  | val a => rfl
  | br b x y ihx ihy => cases b <;> simp [Res.bind, Res.eval, ihx, ihy]
  | opt o g ih => cases o with
    | none => rfl
    | some b => simpa [Res.bind, Res.eval_opt] using ih b

/-- A world that reads as another did, wherever that one could be read. -/
def Agree (w w2 : World) : Prop := ∀ a u, w.cell? a = some u → w2.cell? a = some u

/-- What the operation yields: a value, in the very world. -/
def Yields1 (P : Program) (X : Cx) (h : List Blk) (w : World) (o : Oper) (ρ : Operand → Value) (v : AV) : Prop :=
  ∃ cv, (∀ w2, Agree w w2 → (execOp ρ o).run P w2 = .ok (.value cv) w2) ∧ RepV X h w v cv

/-- .. whatever memory holds. -/
def Yields0 (P : Program) (X : Cx) (h : List Blk) (w : World) (o : Oper) (ρ : Operand → Value) (v : AV) : Prop :=
  ∃ cv, (∀ w2, True → (execOp ρ o).run P w2 = .ok (.value cv) w2) ∧ RepV X h w v cv
theorem Yields0.one (y : Yields0 P X h w o ρ v) : Yields1 P X h w o ρ v := let ⟨cv, h1, h2⟩ := y; ⟨cv, fun w2 _ => h1 w2 trivial, h2⟩

abbrev RepO (X : Cx) (h : List Blk) (w : World) (ρA : Operand → AV) (ρ : Operand → Value) : Prop := ∀ x, RepV X h w (ρA x) (ρ x)

theorem repV_ofPart_part {x : AV} {u : Value} (r : RepV X h w x u) : RepP X h w x.part? u := by
  cases x with
  | top => trivial
  | c x => exact r
  | agg l => exact r
  | tup l => trivial

theorem repV_ofPart {x : Option (Bool × List Cl)} {u : Value} (r : RepP X h w x u) : RepV X h w (ofPart x) u := by
  match x, r with
  | none, _ => trivial
  | some (true, l), r => exact r
  | some (false, []), _ => trivial
  | some (false, [y]), r => exact r
  | some (false, _ :: _ :: _), _ => trivial

theorem repC_int {k : IntKind} {n : Int} {u : Value} (r : RepC X h w (.int k n) u) : u = .int k n := by cases r; rfl
theorem repC_bool {b : Bool} {u : Value} (r : RepC X h w (.bool b) u) : u = .bool b := by cases r; rfl
theorem repC_str {s : ByteArray} {u : Value} (r : RepC X h w (.str s) u) : u = .string s := by cases r; rfl
theorem repC_nilp {u : Value} (r : RepC X h w .nilp u) : u = .pointer none := by cases r; rfl
theorem repC_nilf {u : Value} (r : RepC X h w .nilf u) : u = .nilFunc := by cases r; rfl
theorem repC_ptr {b k : Nat} {u : Value} (r : RepC X h w (.ptr b k) u) : b < h.length ∧ u = .pointer (some (X.addr b k)) := by cases r; exact ⟨by assumption, rfl⟩
theorem repC_sl {b k n : Nat} {c : Option Nat} {u : Value} (r : RepC X h w (.sl b k n c) u) : b < h.length ∧ ∃ cap, u = .slice (some (X.addr b k)) n cap ∧ n ≤ cap := by cases r; exact ⟨by assumption, _, rfl, by assumption⟩

theorem repC_ep {b z i k : Nat} {u : Value} (r : RepC X h w (.ep b z i k) u) : b < h.length ∧ u = .pointer (some (X.addr b (i * z + k))) := by cases r; exact ⟨by assumption, rfl⟩

theorem V_move {x : Operand} (ho : o.op = .move x ∨ o.op = .assign x) (hρ : RepO X h w ρA ρ) (hv : (stepV e o ρA h).eval = some v) : Yields0 P X h w o ρ v := by
  rcases ho with ho | ho
  · simp only [stepV, ho, Res.eval, Option.some.injEq] at hv
    subst hv
    exact ⟨ρ x, fun w2 _ => by simp [execOp, ho], hρ x⟩
  · have hx := hρ x
    unfold stepV at hv; simp only [ho] at hv
    split at hv
    · rename_i k n _ hxa
      rw [hxa] at hx
      have e1 := repC_int hx
      unfold splitI at hv
      rw [Res.eval_br] at hv
      refine ⟨ρ x, fun w2 _ => by simp [execOp, ho], ?_⟩
      rw [e1]
      cases h0 : (n == 0) with
      | true =>
        rw [h0] at hv
        simp only [cond_true, Res.eval, Option.some.injEq] at hv
        subst hv
        have : n = 0 := by simpa using h0
        subst this
        exact .int
      | false =>
        rw [h0] at hv
        simp only [cond_false] at hv
        rw [Res.eval_br] at hv
        cases h1 : (n == 1) with
        | true =>
          rw [h1] at hv
          simp only [cond_true, Res.eval, Option.some.injEq] at hv
          subst hv
          have : n = 1 := by simpa using h1
          subst this
          exact .int
        | false =>
          rw [h1] at hv
          simp [Res.eval] at hv
    · simp only [Res.eval, Option.some.injEq] at hv
      subst hv
      exact ⟨ρ x, fun w2 _ => by simp [execOp, ho], hx⟩

theorem V_pick {c a b : Operand} (ho : o.op = .pick c a b) (hρ : RepO X h w ρA ρ) (hv : (stepV e o ρA h).eval = some v) : Yields1 P X h w o ρ v := by
  have hc := hρ c; have ha := hρ a; have hb := hρ b
  unfold stepV at hv; simp only [ho] at hv
  split at hv
  · rename_i t ht
    rw [ht] at hc
    have hc' := repC_bool hc
    have run : ∀ w2, Agree w w2 → (execOp ρ o).run P w2 = .ok (.value (if t then ρ a else ρ b)) w2 := fun w2 _ => by simp [execOp, ho, hc', asBool]
    refine ⟨_, run, ?_⟩
    split at hv
    · rename_i x y hx hy
      rw [hx] at ha; rw [hy] at hb
      simp only [Res.eval, Option.some.injEq] at hv; subst hv
      cases t
      · simpa using hb
      · simpa using ha
    · simp only [Res.eval] at hv
      cases t
      · simp at hv; subst hv; simpa using hb
      · simp at hv; subst hv; simpa using ha
  · simp [Res.eval] at hv

theorem run_isAgg {t : TypeId} {x : TI} (hx : TIok P t x) : ∀ w, (isAgg t).run P w = .ok x.agg w := by
  intro w
  obtain ⟨d, hd, ha, _⟩ := hx.und
  rw [← ha]
  unfold isAgg
  simp only [Sem.run_bind, run_underlying hd, Result.andThen_ok]
  cases d <;> rfl

theorem run_sizeOf {t : TypeId} {x : TI} (hx : TIok P t x) : ∀ w, (Go.sizeOf t).run P w = .ok x.size w := by
  intro w
  obtain ⟨i, hi, hs, _⟩ := hx.info
  simp [Go.sizeOf, typeInfo, hi, hs]

theorem drop_take_all2 {α β : Type} {R : α → β → Prop} {l : List α} {m : List β} (r : All2 R l m) (o n : Nat) : All2 R ((l.drop o).take n) ((m.drop o).take n) := (r.drop o).take n

/-- Cells read in memory, as a value of the type. -/
theorem repV_pack {ag : Bool} {l : List Cl} {vs : List Value} (r : RepL X h w l vs) (hl : ag = false → l.length = 1) :
    ∃ cv, RepV X h w (pack ag l) cv ∧ ((ag = true ∧ cv = .agg vs.toArray) ∨ (ag = false ∧ vs = [cv])) := by
  cases ag with
  | true => exact ⟨_, ⟨vs, rfl, r⟩, .inl ⟨rfl, rfl⟩⟩
  | false =>
    have h1 := hl rfl
    match l, vs, r with
    | [x], [u], .cons r .nil => exact ⟨u, r, .inr ⟨rfl, rfl⟩⟩

theorem run_loadVar_list {t : TypeId} {x : TI} (hx : TIok P t x) (a : Addr) (vs : List Value) (hs : vs.length = x.size) (h1 : 1 ≤ x.size)
    (hc : ∀ j u, vs[j]? = some u → w.cell? (a.add j) = some u) : (loadVar t a).run P w = .ok (if x.agg then .agg vs.toArray else vs.headD undef) w := by
  unfold loadVar
  simp only [Sem.run_bind, run_isAgg hx, Result.andThen_ok]
  cases ha : x.agg with
  | true =>
    have := run_loadCells_list (P := P) w a vs hc
    simp [run_sizeOf hx, ← hs, this, Result.andThen]
  | false =>
    obtain ⟨u, r, rfl⟩ : ∃ u r, vs = u :: r := by
      match vs with
      | [] => simp at hs; omega
      | u :: r => exact ⟨u, r, rfl⟩
    have := hc 0 u rfl
    simp only [Addr.add, if_true] at this
    simp [this]

theorem RelB.load {l : List Cl} {b : Nat} (r : RelB X h w b (.cells l)) {off n : Nat} (hn : off + n ≤ l.length) :
    ∃ vs : List Value, vs.length = n ∧ RepL X h w (slice l off n) vs ∧ ∀ j u, vs[j]? = some u → w.cell? ((X.addr b off).add j) = some u := by
  obtain ⟨carr, el, ⟨fz, hw, hfz⟩, hsz, hc⟩ := r
  refine ⟨(carr.toList.drop ((X.ρ b).2 + off)).take n, ?_, ?_, ?_⟩
  · simp; omega
  · apply All2.of_get
    · simp [slice]; omega
    · intro i x u hi hu
      simp only [slice, List.getElem?_take, List.getElem?_drop] at hi hu
      split at hi
      · rename_i hin
        simp only [hin, if_true] at hu
        obtain ⟨v, hv, rv⟩ := hc (off + i) x hi
        have : carr[(X.ρ b).2 + (off + i)]? = some u := by
          rw [← Array.getElem?_toList]; rw [← hu]; congr 1; omega
        rw [this] at hv; simp at hv; subst hv; exact rv
      · simp at hi
  · intro j u hu
    simp only [List.getElem?_take, List.getElem?_drop] at hu
    split at hu
    · have e1 : (X.addr b off).add j = ⟨(X.ρ b).1, (X.ρ b).2 + off + j, none⟩ := by
        unfold Cx.addr; rw [Addr.add_lit]
      rw [e1]
      simp only [World.cell?, hw, Option.isSome_none, Bool.false_eq_true, if_false]
      rw [← Array.getElem?_toList]; exact hu
    · simp at hu

theorem load_yields {t : TypeId} {a : Operand} {ad : Addr} {cs : List Cl} (hT : TAll P e) (ho : o.op = .load t a) (ha : ρ a = .pointer (some ad)) (h1 : 1 ≤ (e.T t).size)
    (hcs : cs.length = (e.T t).size)
    (hl : ∃ vs : List Value, vs.length = (e.T t).size ∧ RepL X h w cs vs ∧ ∀ j u, vs[j]? = some u → w.cell? (ad.add j) = some u) : Yields1 P X h w o ρ (pack (e.T t).agg cs) := by
  have hx := hT t (Env.lt_of_size (by omega))
  obtain ⟨vs, hlen, hr, hc⟩ := hl
  have hrun' : ∀ w2, Agree w w2 → (execOp ρ o).run P w2 = .ok (.value (if (e.T t).agg then .agg vs.toArray else vs.headD undef)) w2 := by
    intro w2 hag
    have hrun := run_loadVar_list (w := w2) hx ad vs hlen h1 (fun j u hu => hag _ _ (hc j u hu))
    simp [execOp, ho, Instr.loadAt, ha, Instr.sureAddr, hrun, Result.andThen]
  refine ⟨_, hrun', ?_⟩
  cases hag : (e.T t).agg with
  | true => exact ⟨vs, by simp, hr⟩
  | false =>
    match cs, vs, hr with
    | [], _, _ => simp at hcs; omega
    | [x], [u], .cons r .nil => exact r
    | _ :: _ :: _, _, _ => trivial

theorem kEq_same {a b : IntKind} (h : kEq a b = true) : a = b := by cases a <;> cases b <;> first | rfl | (simp [kEq] at h)
theorem preI_get {k : IntKind} : ∀ {l : List Cl} {i : Nat}, i < preI k l → l[i]? = some (.int k (selI l i))
  | [], i, h => by simp [preI] at h
  | x :: r, i, h => by
    cases x with
    | int k' n =>
      simp only [preI] at h
      split at h
      · rename_i hk
        have := kEq_same hk; subst this
        cases i with
        | zero => simp [selI]
        | succ i =>
          have h3 := preI_get (l := r) (i := i) (Nat.lt_of_succ_lt_succ h)
          simp only [List.getElem?_cons_succ]
          rw [h3]
          simp only [selI, List.getElem?_cons_succ]
      · omega
    | _ => simp [preI] at h
theorem setI_lt {k : IntKind} {v : Int} {i : Nat} : ∀ {l : List Cl} {q : Nat}, i < q → setI k v i q l = l
  | [], q, h => rfl
  | x :: r, q, h => by
    cases x with
    | int k' n =>
      simp only [setI]
      split
      · rename_i hk
        have := kEq_same hk; subst this
        rw [setI_lt (by omega)]
        have : Nat.beq i q = false := by
          cases hb : Nat.beq i q with
          | false => rfl
          | true => have := Nat.eq_of_beq_eq_true hb; omega
        rw [this]; rfl
      · rfl
    | _ => rfl
theorem setI_eq {k : IntKind} {v : Int} {i : Nat} : ∀ {l : List Cl} {q : Nat}, q ≤ i → i - q < preI k l → setI k v i q l = l.set (i - q) (.int k v)
  | [], q, _, h => by simp [preI] at h
  | x :: r, q, hq, h => by
    cases x with
    | int k' n =>
      simp only [preI] at h
      split at h
      · rename_i hk
        simp only [setI, hk]
        have := kEq_same hk; subst this
        rcases Nat.eq_or_lt_of_le hq with rfl | hlt
        · rw [setI_lt (by omega)]; simp
        · have hb : Nat.beq i q = false := by
            cases hb : Nat.beq i q with
            | false => rfl
            | true => have := Nat.eq_of_beq_eq_true hb; omega
          rw [setI_eq (by omega) (by omega), hb, show i - q = (i - (q + 1)) + 1 by omega]
          rfl
      · omega
    | _ => simp [preI] at h
theorem slice_one {l : List Cl} {off i : Nat} {x : Cl} (h : (l.drop off)[i]? = some x) : slice l (i * 1 + off) 1 = [x] ∧ i * 1 + off + 1 ≤ l.length := by
  rw [List.getElem?_drop] at h
  have hlt : off + i < l.length := by
    rcases Nat.lt_or_ge (off + i) l.length with h' | h'
    · exact h'
    · simp [List.getElem?_eq_none h'] at h
  refine ⟨?_, by omega⟩
  unfold slice
  rw [show i * 1 + off = off + i by omega, List.drop_eq_getElem_cons hlt]
  rw [List.getElem?_eq_getElem hlt] at h
  simp at h
  simp [h]

theorem repC_jk {b : Nat} {m : JM} {u : Value} {c2 c : Nat} {LL : List (List (Uni.val c))} {p : Option Nat} (r : RepC X h w (.jk b m) u) (hb : h[b]? = some (.bg c2 c LL p)) : b < h.length ∧ JVal X b (LL.map (·.length)) p.isSome u m := by
  cases r with
  | jk hlt h1 _ => exact ⟨hlt, (h1 _ _ _ _ hb).1⟩

theorem bg_own {b c2 c k : Nat} {LL : List (List (Uni.val c))} {p : Option Nat} (hH : RelH X h w) (hb : h[b]? = some (.bg c2 c LL p)) (hk : k < LL.length) : X.own b := by
  by_cases ho : X.own b
  · exact ho
  · have := ((hH.blk b _ hb).2 ho).1; subst this; simp at hk

/-- Where it lies what is read. -/
theorem jkLoad_at {t : TypeId} {b : Nat} {m : JM} {u : Value} (ha : RepC X h w (.jk b m) u) (hH : RelH X h w) (hv : (jkLoad e t b m h).eval = some v) :
    ∃ ad y, u = .pointer (some ad) ∧ (e.T t).size = 1 ∧ (e.T t).agg = false ∧ v = .c y ∧ ∃ cv, w.cell? ad = some cv ∧ RepC X h w y cv := by
  unfold jkLoad at hv
  split at hv
  · rename_i k c2 c LL hb
    split at hv
    case h_2 => simp [Res.eval] at hv
    rename_i hc
    simp only [Bool.and_eq_true, Nat.beq_eq, Bool.not_eq_true'] at hc
    rw [Res.eval_opt] at hv
    split at hv
    case h_2 => simp at hv
    rename_i L hL
    simp only [Res.eval, Option.some.injEq] at hv
    subst hv
    obtain ⟨hlt, hj⟩ := repC_jk ha hb
    obtain ⟨ho, rfl⟩ := hj
    obtain ⟨carr, el, ⟨fz, hw, _⟩, hsz, hrow, _⟩ := (hH.blk b _ hb).1 ho
    obtain ⟨_, cv, hcv, hhd⟩ := hrow k L hL
    refine ⟨_, _, rfl, hc.1, hc.2, rfl, cv, ?_, ?_⟩
    · simp only [World.cell?, Cx.addr, hw, Option.isSome_none, Bool.false_eq_true, if_false]
      exact hcv
    · have hone : cv.oneCell' = true := by
        rcases hhd with ⟨_, cap, rfl, _⟩ | ⟨_, a, rfl⟩ <;> rfl
      refine .jk hlt (fun c2' c' LL' p' hb' => ?_) hone
      rw [hb] at hb'
      simp only [Option.some.injEq, Blk.bg.injEq] at hb'
      obtain ⟨rfl, rfl, h3, rfl⟩ := hb'
      have h3 := eq_of_heq h3
      subst h3
      refine ⟨⟨L.length, by simp [hL], ?_⟩, fun hm => by cases hm⟩
      rcases hhd with ⟨ho2, cap, hv2, hcap, _⟩ | ⟨ho2, a, hv2⟩
      · exact .inl ⟨ho2, cap, hv2, hcap.1⟩
      · have : L = [] := by
          obtain ⟨hra, _⟩ := hrow k L hL
          exact hra.2 ho2
        subst this
        exact .inr ⟨ho2, rfl, a, hv2⟩
  · rename_i k j c2 c LL hb
    split at hv
    case h_2 => simp [Res.eval] at hv
    rename_i hc
    simp only [Bool.and_eq_true, Nat.beq_eq, Bool.not_eq_true'] at hc
    rw [Res.eval_opt] at hv
    split at hv
    case h_2 => simp at hv
    rename_i L hL
    rw [Res.eval_opt] at hv
    split at hv
    case h_2 => simp at hv
    rename_i x hx
    simp only [Res.eval, Option.some.injEq] at hv
    subst hv
    obtain ⟨hlt, hj⟩ := repC_jk ha hb
    obtain ⟨_, ho, rfl⟩ := hj
    have hkl : k < LL.length := by
      rcases Nat.lt_or_ge k LL.length with h | h
      · exact h
      · simp [List.getElem?_eq_none h] at hL
    obtain ⟨carr, el, ⟨fz, hw, _⟩, hsz, hrow, _⟩ := (hH.blk b _ hb).1 (bg_own hH hb hkl)
    obtain ⟨hra, _⟩ := hrow k L hL
    obtain ⟨carr2, el2, ⟨fz2, hw2, _⟩, hsz2, hcell⟩ := hra.1 ho
    have hlen : (Cod.enc c x).length = 1 := by rw [Cod.enc_len, hc.2]
    obtain ⟨y, hy⟩ : ∃ y, Cod.enc c x = [y] := by
      match hq : Cod.enc c x, hlen with
      | [y], _ => exact ⟨y, rfl⟩
    obtain ⟨cv, hcv, rv⟩ := hcell j x 0 y hx (by rw [hy]; rfl)
    refine ⟨_, _, rfl, hc.1.1, hc.1.2, rfl, cv, ?_, by rw [hy]; exact rv⟩
    simp only [World.cell?, hw2, Option.isSome_none, Bool.false_eq_true, if_false]
    rw [← hcv, hc.2]
    congr 1; omega
  · simp [Res.eval] at hv

theorem V_jkLoad {t : TypeId} {a : Operand} {b : Nat} {m : JM} (hT : TAll P e) (ho : o.op = .load t a) (ha : RepC X h w (.jk b m) (ρ a)) (hH : RelH X h w) (hv : (jkLoad e t b m h).eval = some v) : Yields1 P X h w o ρ v := by
  obtain ⟨ad, y, hu, hs, hag, rfl, cv, hcv, rv⟩ := jkLoad_at ha hH hv
  have := load_yields (cs := [y]) hT ho hu (by omega) (by simp [hs]) ⟨[cv], by simp [hs], .cons rv .nil, fun j u' hu' => by
    cases j with
    | zero => simp at hu'; subst hu'; rw [show ad.add 0 = ad by unfold Addr.add; cases ad; rename_i k o sp; cases sp <;> simp]; exact hcv
    | succ j => simp at hu'⟩
  rw [hag] at this
  exact this

theorem V_load {t : TypeId} {a : Operand} (hT : TAll P e) (ho : o.op = .load t a) (hρ : RepO X h w ρA ρ) (hH : RelH X h w) (hv : (stepV e o ρA h).eval = some v) : Yields1 P X h w o ρ v := by
  have ha := hρ a
  unfold stepV at hv; simp only [ho] at hv
  split at hv
  · rename_i b off hb
    rw [hb] at ha
    obtain ⟨hlt, ha'⟩ := repC_ptr ha
    split at hv
    · rename_i l hl
      split at hv
      · rename_i hc
        simp only [Bool.and_eq_true, Nat.ble_eq] at hc
        simp only [Res.eval, Option.some.injEq] at hv; subst hv
        refine load_yields hT ho ha' hc.1 ?_ ((hH.blk b _ hl).load hc.2)
        simp [slice]; omega
      · simp [Res.eval] at hv
    · simp [Res.eval] at hv
  · rename_i c x off hb
    rw [hb] at ha
    split at hv
    · rename_i hc
      simp only [Bool.and_eq_true, Nat.ble_eq] at hc
      simp only [Res.eval, Option.some.injEq] at hv; subst hv
      have hle := Cod.enc_len c x
      generalize hu : ρ a = u at ha
      cases ha with
      | @rp _ _ _ k e' cv h1 h2 =>
        refine load_yields hT ho hu hc.1 (by simp [slice]; omega) ⟨(List.range (e.T t).size).map fun j => cv (off + j), by simp, ?_, ?_⟩
        · apply All2.of_get
          · simp [slice]; omega
          · intro i y u' hi hu'
            simp only [slice, List.getElem?_take, List.getElem?_drop] at hi
            split at hi
            · rename_i hin
              simp [hin] at hu'
              subst hu'
              exact h2 _ _ hi
            · simp at hi
        · intro j u' hu'
          rw [List.getElem?_map] at hu'
          obtain ⟨j', hj', rfl⟩ := Option.map_eq_some_iff.mp hu'
          obtain ⟨hj, rfl⟩ : j < (e.T t).size ∧ j = j' := by simpa [List.getElem?_range, List.getElem?_eq_some_iff] using hj'
          rw [Addr.add_lit]
          have := (h1 (off + j) (by omega)).2
          rw [show e' + off + j = e' + (off + j) by omega]; exact this
    · simp [Res.eval] at hv
  · rename_i b m hb
    rw [hb] at ha
    exact V_jkLoad hT ho ha hH hv
  · rename_i b z i off hb
    rw [hb] at ha
    split at hv
    · rename_i c L hl
      split at hv
      · rename_i hc
        simp only [Bool.and_eq_true, Nat.ble_eq, Nat.beq_eq] at hc
        obtain ⟨⟨hz, hc1⟩, hc2⟩ := hc
        subst hz
        rw [Res.eval_opt] at hv
        split at hv
        · rename_i x hx
          simp only [Res.eval, Option.some.injEq] at hv; subst hv
          have hle := Cod.enc_len c x
          obtain ⟨_, hp⟩ := repC_ep ha
          · obtain ⟨hrow, hno⟩ := hH.blk b _ hl
            have hown : X.own b := by
              by_cases hw : X.own b
              · exact hw
              · have := hno hw; subst this; simp at hx
            obtain ⟨carr, el, ⟨fz, hw, hfz⟩, hsz, hcell⟩ := hrow hown
            have hi : i < L.length := by
              rcases Nat.lt_or_ge i L.length with h | h
              · exact h
              · simp [List.getElem?_eq_none h] at hx
            have hm : i * Uni.sz c + Uni.sz c ≤ L.length * Uni.sz c := by
              have : (i + 1) * Uni.sz c ≤ L.length * Uni.sz c := Nat.mul_le_mul_right _ hi
              rw [Nat.succ_mul] at this; exact this
            refine load_yields hT ho hp hc1 (by simp [slice]; omega) ⟨(carr.toList.drop ((X.ρ b).2 + (i * Uni.sz c + off))).take (e.T t).size, by simp; omega, ?_, ?_⟩
            · apply All2.of_get
              · simp [slice]; omega
              · intro j y u' hj hu'
                simp only [slice, List.getElem?_take, List.getElem?_drop] at hj hu'
                split at hj
                · rename_i hin
                  simp only [hin, if_true] at hu'
                  obtain ⟨v, hv, rv⟩ := hcell i x (off + j) y hx hj
                  have : carr[(X.ρ b).2 + (i * Uni.sz c + (off + j))]? = some u' := by
                    rw [← Array.getElem?_toList]; rw [← hu']; congr 1; omega
                  rw [this] at hv; simp at hv; subst hv; exact rv
                · simp at hj
            · intro j u' hu'
              simp only [List.getElem?_take, List.getElem?_drop] at hu'
              split at hu'
              · unfold Cx.addr; rw [Addr.add_lit]
                simp only [World.cell?, hw, Option.isSome_none, Bool.false_eq_true, if_false]
                rw [← Array.getElem?_toList]; exact hu'
              · simp at hu'
        · simp at hv
      · simp [Res.eval] at hv
    · rename_i l hl
      split at hv
      · rename_i k hsh
        split at hv
        · rename_i hc
          simp only [Bool.and_eq_true, Nat.beq_eq] at hc
          obtain ⟨hz, hsz⟩ := hc
          subst hz
          rw [Res.eval_br] at hv
          cases hq : Nat.blt i (preI k (l.drop off)) with
          | false => rw [hq] at hv; simp [Res.eval] at hv
          | true =>
          rw [hq] at hv
          simp only [cond_true, Res.eval, Option.some.injEq] at hv; subst hv
          have hq := Nat.le_of_ble_eq_true hq
          obtain ⟨_, hp⟩ := repC_ep ha
          obtain ⟨hcs, hle⟩ := slice_one (preI_get hq)
          have hag : (e.T t).agg = false := by unfold TI.agg; rw [hsh]
          have := load_yields (cs := slice l (i * 1 + off) 1) hT ho hp (by omega) (by rw [hcs, hsz]; rfl) (by rw [hsz]; exact (hH.blk b _ hl).load hle)
          rw [hcs, hag] at this
          exact this
        · simp [Res.eval] at hv
      · simp [Res.eval] at hv
    · simp [Res.eval] at hv
  · simp [Res.eval] at hv

/-- The cells of a place are as they were. -/
def AgreeAt (ad : Addr) (z : Nat) (w w2 : World) : Prop := ∀ j u, j < z → w.cell? (ad.add j) = some u → w2.cell? (ad.add j) = some u
theorem AgreeAt.refl (ad : Addr) (z : Nat) (w : World) : AgreeAt ad z w w := fun _ _ _ h => h
theorem AgreeAt.trans {ad : Addr} {z : Nat} {w1 w2 w3 : World} (h : AgreeAt ad z w1 w2) (k : AgreeAt ad z w2 w3) : AgreeAt ad z w1 w3 := fun j u hj hu => k j u hj (h j u hj hu)
theorem AgreeAt.of_agree {ad : Addr} {z : Nat} {w1 w2 : World} (h : Agree w1 w2) : AgreeAt ad z w1 w2 := fun _ _ _ hu => h _ _ hu

theorem load_at {t : TypeId} {a : Operand} {ad : Addr} {cs : List Cl} (hT : TAll P e) (ho : o.op = .load t a) (ha : ρ a = .pointer (some ad)) (h1 : 1 ≤ (e.T t).size)
    (hcs : cs.length = (e.T t).size)
    (hl : ∃ vs : List Value, vs.length = (e.T t).size ∧ RepL X h w cs vs ∧ ∀ j u, vs[j]? = some u → w.cell? (ad.add j) = some u) : ∃ cv ad, ρ a = .pointer (some ad) ∧ (∀ w2, AgreeAt ad (e.T t).size w w2 → (execOp ρ o).run P w2 = .ok (.value cv) w2) ∧ RepV X h w (pack (e.T t).agg cs) cv := by
  have hx := hT t (Env.lt_of_size (by omega))
  obtain ⟨vs, hlen, hr, hc⟩ := hl
  have hrun' : ∀ w2, AgreeAt ad (e.T t).size w w2 → (execOp ρ o).run P w2 = .ok (.value (if (e.T t).agg then .agg vs.toArray else vs.headD undef)) w2 := by
    intro w2 hag
    have hrun := run_loadVar_list (w := w2) hx ad vs hlen h1 (fun j u hu => hag j u (by rw [← hlen]; exact (List.getElem?_eq_some_iff.mp hu).1) (hc j u hu))
    simp [execOp, ho, Instr.loadAt, ha, Instr.sureAddr, hrun, Result.andThen]
  refine ⟨_, ad, ha, hrun', ?_⟩
  cases hag : (e.T t).agg with
  | true => exact ⟨vs, by simp, hr⟩
  | false =>
    match cs, vs, hr with
    | [], _, _ => simp at hcs; omega
    | [x], [u], .cons r .nil => exact r
    | _ :: _ :: _, _, _ => trivial

theorem V_loadAt {t : TypeId} {a : Operand} (hT : TAll P e) (ho : o.op = .load t a) (hρ : RepO X h w ρA ρ) (hH : RelH X h w) (hv : (stepV e o ρA h).eval = some v) : ∃ cv ad, ρ a = .pointer (some ad) ∧ (∀ w2, AgreeAt ad (e.T t).size w w2 → (execOp ρ o).run P w2 = .ok (.value cv) w2) ∧ RepV X h w v cv := by
  have ha := hρ a
  unfold stepV at hv; simp only [ho] at hv
  split at hv
  · rename_i b off hb
    rw [hb] at ha
    obtain ⟨hlt, ha'⟩ := repC_ptr ha
    split at hv
    · rename_i l hl
      split at hv
      · rename_i hc
        simp only [Bool.and_eq_true, Nat.ble_eq] at hc
        simp only [Res.eval, Option.some.injEq] at hv; subst hv
        refine load_at hT ho ha' hc.1 ?_ ((hH.blk b _ hl).load hc.2)
        simp [slice]; omega
      · simp [Res.eval] at hv
    · simp [Res.eval] at hv
  · rename_i c x off hb
    rw [hb] at ha
    split at hv
    · rename_i hc
      simp only [Bool.and_eq_true, Nat.ble_eq] at hc
      simp only [Res.eval, Option.some.injEq] at hv; subst hv
      have hle := Cod.enc_len c x
      generalize hu : ρ a = u at ha
      cases ha with
      | @rp _ _ _ k e' cv h1 h2 =>
        rw [← hu]
        refine load_at (cs := slice (Cod.enc c x) off (e.T t).size) hT ho hu hc.1 (by simp [slice]; omega) ⟨(List.range (e.T t).size).map fun j => cv (off + j), by simp, ?_, ?_⟩
        · apply All2.of_get
          · simp [slice]; omega
          · intro i y u' hi hu'
            simp only [slice, List.getElem?_take, List.getElem?_drop] at hi
            split at hi
            · rename_i hin
              simp [hin] at hu'
              subst hu'
              exact h2 _ _ hi
            · simp at hi
        · intro j u' hu'
          rw [List.getElem?_map] at hu'
          obtain ⟨j', hj', rfl⟩ := Option.map_eq_some_iff.mp hu'
          obtain ⟨hj, rfl⟩ : j < (e.T t).size ∧ j = j' := by simpa [List.getElem?_range, List.getElem?_eq_some_iff] using hj'
          rw [Addr.add_lit]
          have := (h1 (off + j) (by omega)).2
          rw [show e' + off + j = e' + (off + j) by omega]; exact this
    · simp [Res.eval] at hv
  · rename_i b m hb
    rw [hb] at ha
    obtain ⟨ad, y, hu, hs, hag, rfl, cv, hcv, rv⟩ := jkLoad_at ha hH hv
    have := load_at (cs := [y]) hT ho hu (by omega) (by simp [hs]) ⟨[cv], by simp [hs], .cons rv .nil, fun j u' hu' => by
      cases j with
      | zero => simp at hu'; subst hu'; rw [show ad.add 0 = ad by unfold Addr.add; cases ad; rename_i k o sp; cases sp <;> simp]; exact hcv
      | succ j => simp at hu'⟩
    rw [hag] at this
    exact this
  · rename_i b z i off hb
    rw [hb] at ha
    split at hv
    · rename_i c L hl
      split at hv
      · rename_i hc
        simp only [Bool.and_eq_true, Nat.ble_eq, Nat.beq_eq] at hc
        obtain ⟨⟨hz, hc1⟩, hc2⟩ := hc
        subst hz
        rw [Res.eval_opt] at hv
        split at hv
        · rename_i x hx
          simp only [Res.eval, Option.some.injEq] at hv; subst hv
          have hle := Cod.enc_len c x
          obtain ⟨_, hp⟩ := repC_ep ha
          · obtain ⟨hrow, hno⟩ := hH.blk b _ hl
            have hown : X.own b := by
              by_cases hw : X.own b
              · exact hw
              · have := hno hw; subst this; simp at hx
            obtain ⟨carr, el, ⟨fz, hw, hfz⟩, hsz, hcell⟩ := hrow hown
            have hi : i < L.length := by
              rcases Nat.lt_or_ge i L.length with h | h
              · exact h
              · simp [List.getElem?_eq_none h] at hx
            have hm : i * Uni.sz c + Uni.sz c ≤ L.length * Uni.sz c := by
              have : (i + 1) * Uni.sz c ≤ L.length * Uni.sz c := Nat.mul_le_mul_right _ hi
              rw [Nat.succ_mul] at this; exact this
            refine load_at (cs := slice (Cod.enc c x) off (e.T t).size) hT ho hp hc1 (by simp [slice]; omega) ⟨(carr.toList.drop ((X.ρ b).2 + (i * Uni.sz c + off))).take (e.T t).size, by simp; omega, ?_, ?_⟩
            · apply All2.of_get
              · simp [slice]; omega
              · intro j y u' hj hu'
                simp only [slice, List.getElem?_take, List.getElem?_drop] at hj hu'
                split at hj
                · rename_i hin
                  simp only [hin, if_true] at hu'
                  obtain ⟨v, hv, rv⟩ := hcell i x (off + j) y hx hj
                  have : carr[(X.ρ b).2 + (i * Uni.sz c + (off + j))]? = some u' := by
                    rw [← Array.getElem?_toList]; rw [← hu']; congr 1; omega
                  rw [this] at hv; simp at hv; subst hv; exact rv
                · simp at hj
            · intro j u' hu'
              simp only [List.getElem?_take, List.getElem?_drop] at hu'
              split at hu'
              · unfold Cx.addr; rw [Addr.add_lit]
                simp only [World.cell?, hw, Option.isSome_none, Bool.false_eq_true, if_false]
                rw [← Array.getElem?_toList]; exact hu'
              · simp at hu'
        · simp at hv
      · simp [Res.eval] at hv
    · rename_i l hl
      split at hv
      · rename_i k hsh
        split at hv
        · rename_i hc
          simp only [Bool.and_eq_true, Nat.beq_eq] at hc
          obtain ⟨hz, hsz⟩ := hc
          subst hz
          rw [Res.eval_br] at hv
          cases hq : Nat.blt i (preI k (l.drop off)) with
          | false => rw [hq] at hv; simp [Res.eval] at hv
          | true =>
          rw [hq] at hv
          simp only [cond_true, Res.eval, Option.some.injEq] at hv; subst hv
          have hq := Nat.le_of_ble_eq_true hq
          obtain ⟨_, hp⟩ := repC_ep ha
          obtain ⟨hcs, hle⟩ := slice_one (preI_get hq)
          have hag : (e.T t).agg = false := by unfold TI.agg; rw [hsh]
          have := load_at (cs := slice l (i * 1 + off) 1) hT ho hp (by omega) (by rw [hcs, hsz]; rfl) (by rw [hsz]; exact (hH.blk b _ hl).load hle)
          rw [hcs, hag] at this
          exact this
        · simp [Res.eval] at hv
      · simp [Res.eval] at hv
    · simp [Res.eval] at hv
  · simp [Res.eval] at hv


end
end Ab
