/- Calls: what a callee's specification says, and how a call goes on by it. -/
import Derived.Test.YtllohgmahflpaaaAbCells
import Derived.Test.YtllohgmahflpaaaAbOpsI
set_option linter.unusedSectionVars false
set_option linter.unusedSimpArgs false
set_option linter.unusedVariables false
namespace Ab
open Go
section
variable [Uni] [Cod]
variable {P : Program} {e : Env} {X Y : Cx} {h i : List Blk} {w w' : World} {o : Oper} {ρA : Operand → AV} {ρ : Operand → Value} {v : AV}

/-- How a call ends: a value, memory as told. -/
def Ends (X : Cx) (h : List Blk) (w : World) (v : AV) (h' : List Blk) (en : Ending) (w' : World) : Prop :=
  ∃ cv X', en = .returned cv ∧ RepV X' h' w' v cv ∧ Good X h w X' h' w'

/-- A specification that the program's function meets. -/
structure SpecOk (P : Program) (f : FuncId) (sp : Spec) : Prop where
  enter : ∀ args w, (callFunc f args).run P w = .ok (.enter f args) w
  calls : ∀ X h w args cargs v h', RelH X h w → All2 (RepV X h w) args cargs → (sp args h).eval = some (v, h') → Calls P f (List.toArray cargs) w (Ends X h w v h')

def CallsOk (P : Program) (e : Env) : Prop := ∀ f m sp, e.calls f = some (m, sp) → SpecOk P f sp

/-- Cells that lie in none of those blocks. -/
def apartF (X : Cx) (h : List Blk) (w : World) (m : List Nat) : Nat → Nat → Prop := fun k q => k < w.heap.size ∧ ∀ b, b ∈ m → ¬ foot X h b k q

/-- What an operation comes to: at once, or by a call. -/
def Goes (P : Program) (gr : Bool) (m : List Nat) (X : Cx) (h : List Blk) (w : World) (o : Oper) (ρ : Operand → Value) (v : AV) (h' : List Blk) : Prop :=
  (Steps1 P X h w o ρ v h' ∧ (gr = true → grO o = true) ∧ isCv o = false) ∨ ∃ f args, (execOp ρ o).run P w = .ok (.enter f args) w ∧ Calls P f args w (fun en w3 => Ends X h w v h' en w3 ∧ (gr = true → RowKit.Below w.heap.size w w3) ∧ Ext (apartF X h w m) w w3)

/-- A flat value is one value. -/
def conC : Cl → Value
  | .bool b => .bool b
  | .int k n => .int k n
  | .str s => .string s
  | .nilp => .pointer none
  | .nils => .slice none 0 0
  | .nilf => .nilFunc
  | .nilch => .chan none
  | .fn f _ _ => .func (.func f) #[] #[]
  | _ => undef

theorem flat_con {x : Cl} {u : Value} (r : RepC X h w x u) (hf : flatC x = true) : u = conC x := by
  cases r <;> simp [flatC] at hf <;> first | rfl | skip
  · rename_i f first caps h1 h2
    cases first <;> cases caps <;> simp at hf
    rfl

theorem flat_rep {x : Cl} (hf : flatC x = true) : RepC X h w x (conC x) := by
  cases x <;> simp [flatC] at hf
  · exact .bool
  · exact .int
  · exact .str
  · exact .nilp
  · exact .nils
  · exact .nilf
  · rename_i f first caps
    cases first <;> cases caps <;> simp at hf
    exact .fn (by simp) (by simp)
  · exact .nilch

def conV : AV → Value
  | .c x => conC x
  | .agg l => .agg (l.map conC).toArray
  | .tup l => .tuple (l.map fun
    | some (true, l) => .agg (List.map conC l).toArray
    | some (false, [x]) => conC x
    | _ => undef).toArray
  | .top => undef

theorem flatL_con {l : List Cl} {vs : List Value} (r : RepL X h w l vs) (hf : l.all flatC = true) : vs = l.map conC := by
  induction r with
  | nil => rfl
  | cons a _ ih =>
    simp only [List.all_cons, Bool.and_eq_true] at hf
    rw [List.map_cons, ← flat_con a hf.1, ← ih hf.2]

theorem flatL_rep {l : List Cl} (hf : l.all flatC = true) : RepL X h w l (l.map conC) := by
  induction l with
  | nil => exact .nil
  | cons a l ih =>
    simp only [List.all_cons, Bool.and_eq_true] at hf
    exact .cons (flat_rep hf.1) (ih hf.2)

theorem flatV_con {x : AV} {u : Value} (r : RepV X h w x u) (hf : flatV x = true) : u = conV x := by
  cases x with
  | top => simp [flatV] at hf
  | c y => exact flat_con r hf
  | agg l => obtain ⟨vs, rfl, r⟩ := r; simp only [flatV] at hf; rw [flatL_con r hf]; rfl
  | tup l =>
    obtain ⟨vs, rfl, r⟩ := r
    simp only [flatV] at hf
    unfold conV
    congr 2
    induction r with
    | nil => rfl
    | @cons p u l vs a _ ih =>
      simp only [List.all_cons, Bool.and_eq_true] at hf
      rw [List.map_cons, ← ih hf.2]
      congr 1
      have h1 := hf.1
      match p, a, h1 with
      | some (true, l), a, h1 => obtain ⟨vs, rfl, r⟩ := a; rw [flatL_con r h1]
      | some (false, [y]), a, h1 => simp [flatP] at h1; exact flat_con a h1

theorem flatV_rep {x : AV} (hf : flatV x = true) : RepV X h w x (conV x) := by
  cases x with
  | top => trivial
  | c y => exact flat_rep hf
  | agg l => exact ⟨l.map conC, rfl, flatL_rep hf⟩
  | tup l =>
    refine ⟨_, rfl, ?_⟩
    simp only [flatV] at hf
    induction l with
    | nil => exact .nil
    | cons p l ih =>
      simp only [List.all_cons, Bool.and_eq_true] at hf
      refine .cons ?_ (ih hf.2)
      have h1 := hf.1
      match p, h1 with
      | some (true, l), h1 => exact ⟨l.map conC, rfl, flatL_rep h1⟩
      | some (false, [y]), h1 => simp [flatP] at h1; exact flat_rep h1

theorem ext_all (ex : Ext (allF w) w w') : RowKit.Below w.heap.size w w' := by
  refine ⟨ex.os, ex.tape, ex.output, ex.size, fun k hk => ?_⟩
  have hh := ex.mark k hk (fun _ => hk)
  unfold sameMk at hh
  split at hh
  · rename_i c e f hc
    obtain ⟨c', hc'⟩ := hh
    rw [hc', hc]
    congr 2
    apply Array.ext_getElem?
    intro q
    have := ex.cell k q hk
    rw [cell_of_heap hc', cell_of_heap hc] at this
    exact this
  · exact hh

theorem below_agree (hb : RowKit.Below w.heap.size w w') : Agree w w' := by
  intro a u hu
  have := hb.cell (lt_of_cell hu)
  rw [this]; exact hu

theorem rep_ptrs : ∀ {ps : List (Nat × Nat)}, (∀ p ∈ ps, p.1 < h.length) → All2 (RepV X h w) (ps.map ptrAV) (ps.map fun p => Value.pointer (some (X.addr p.1 p.2)))
  | [], _ => .nil
  | p :: ps, hp => .cons (RepC.ptr (hp p (by simp))) (rep_ptrs fun q hq => hp q (by simp [hq]))

/-- A call's arguments, behind one another, and how the machine comes to the callee. -/
theorem call_args {c : Call} {f : Operand} {g : FuncId} {first caps : List (Nat × Nat)} (ho : o.op = .call c) (hc : c.callee = .value f) (hρ : RepO X h w ρA ρ) (hf : ρA f = .c (.fn g first caps))
    (hen : ∀ args w, (callFunc g args).run P w = .ok (.enter g args) w) :
    ∃ cargs, All2 (RepV X h w) (first.map ptrAV ++ (c.args.toList.map ρA) ++ caps.map ptrAV) cargs ∧ ∀ w2, (execOp ρ o).run P w2 = .ok (.enter g (List.toArray cargs)) w2 := by
  have hx := hρ f
  rw [hf] at hx
  generalize hu : ρ f = u at hx
  cases hx with
  | fn h1 h2 =>
    refine ⟨_, ((rep_ptrs h1).app (repO_map hρ c.args.toList)).app (rep_ptrs h2), fun w2 => ?_⟩
    simp only [execOp, ho, resolve, hc, hu, Deferred.ofValue, Sem.run_bind, Sem.run_pure, Result.andThen_ok, invoke, hen]
    congr 2
    apply Array.ext'
    simp

theorem rdPtr_ok (hH : RelH X h w) {c : Nat} {x : Cl} {u : Value} (r : RepC X h w x u) : RepC (Cx.froz w) [] w (rdPtr h c x) u := by
  have top : RepC (Cx.froz w) [] w .top u := .top r.one
  unfold rdPtr
  split
  · rename_i b o
    obtain ⟨_, hu⟩ := repC_ptr r
    split
    · rename_i l hl
      split
      · rename_i x hx
        have he := Cod.dec_enc c l x hx
        have hn := Cod.enc_len c x
        obtain ⟨carr, el, ⟨fz, hw, hfz⟩, hsz, hcell⟩ := hH.blk b _ hl
        subst hu
        have hlen : l.length = Uni.sz c := by rw [← he, hn]
        have hc : ∀ j, j < Uni.sz c → ∃ v, carr[(X.ρ b).2 + j]? = some v := fun j hj => by
          rw [Array.getElem?_eq_getElem (by omega)]; exact ⟨_, rfl⟩
        refine RepC.rp (k := (X.ρ b).1) (e := (X.ρ b).2) (cv := fun j => carr.getD ((X.ρ b).2 + j) undef) (fun j hj => ?_) (fun j y hy => ?_)
        · refine ⟨lt_of_heap hw, ?_⟩
          obtain ⟨v, hv⟩ := hc j hj
          rw [cell_of_heap hw, hv, Array.getD_eq_getD_getElem?, hv]; rfl
        · have hy' := hy
          rw [he] at hy'
          obtain ⟨v, hv, rv⟩ := hcell j y hy'
          rw [Array.getD_eq_getD_getElem?, hv]
          exact rv.closed (Cod.enc_closed c x y (List.mem_of_getElem? hy))
      · exact top
    · exact top
  · exact snap_ok hH r

theorem snapK_ok (hH : RelH X h w) : ∀ {ks : List (Option Nat)} {l : List AV} {vs : List Value}, All2 (RepV X h w) l vs → All2 (RepV (Cx.froz w) [] w) (snapK h ks l) vs
  | [], l, vs, r => by unfold snapK; exact All2.map (All2.mono r fun a b q => snapV_ok hH q)
  | k :: ks, [], vs, r => by cases r; exact .nil
  | k :: ks, v :: l, _, .cons r1 r2 => by
    unfold snapK
    refine .cons ?_ (snapK_ok hH r2)
    split
    · exact rdPtr_ok hH r1
    · exact snapV_ok hH r1

theorem V_call {c : Call} {f : Operand} (hC : CallsOk P e) (ho : o.op = .call c) (hc : c.callee = .value f) (hρ : RepO X h w ρA ρ) (hH : RelH X h w) (hv : (stepV e o ρA h).eval = some v) :
    flatV v = true ∧ ∃ g args, (∀ w2, (execOp ρ o).run P w2 = .ok (.enter g args) w2) ∧ ∀ w2, RowKit.Below w.heap.size w w2 → Calls P g args w2 (fun en w3 => en = .returned (conV v) ∧ RowKit.Below w2.heap.size w2 w3) := by
  unfold stepV at hv; simp only [ho, hc] at hv
  split at hv
  case h_2 => simp [Res.eval] at hv
  rename_i g first caps hf
  have fin : ∀ (m : Mode) (sp : Spec) (A : List AV), e.calls g = some (m, sp) →
      (∀ cargs w2, RelH X h w2 → All2 (RepV X h w2) (first.map ptrAV ++ (c.args.toList.map ρA) ++ caps.map ptrAV) cargs → All2 (RepV (Cx.froz w2) [] w2) A cargs) →
      ((sp A []).bind fun p => match flatV p.1, p.2 with | true, [] => Res.val p.1 | _, _ => .fail).eval = some v →
      flatV v = true ∧ ∃ g args, (∀ w2, (execOp ρ o).run P w2 = .ok (.enter g args) w2) ∧ ∀ w2, RowKit.Below w.heap.size w w2 → Calls P g args w2 (fun en w3 => en = .returned (conV v) ∧ RowKit.Below w2.heap.size w2 w3) := by
    intro m sp A hsp hA hv
    have ok := hC g _ sp hsp
    obtain ⟨cargs, hargs, hrun⟩ := call_args ho hc hρ hf ok.enter
    rw [Res.eval_bind] at hv
    obtain ⟨p, hp, hv⟩ := Option.bind_eq_some_iff.mp hv
    split at hv
    case h_2 => simp [Res.eval] at hv
    rename_i hfl hnil
    simp only [Res.eval, Option.some.injEq] at hv
    subst hv
    refine ⟨hfl, g, _, hrun, fun w2 hb => ?_⟩
    have hg := Good.below hH hb
    have hargs2 := hA cargs w2 hg.rel (All2.mono hargs fun a b r => RepV.mono hg.mono (hg.extF hH) r)
    have hcall := ok.calls (Cx.froz w2) [] w2 _ cargs p.1 p.2 (RelH.froz w2) hargs2 hp
    refine hcall.mono fun en w3 hen => ?_
    obtain ⟨cv, X', hen, hr, hgd⟩ := hen
    refine ⟨by rw [hen, flatV_con hr hfl], ext_all (hgd.extF (RelH.froz w2))⟩
  split at hv
  · rename_i sp hsp
    exact fin _ sp _ hsp (fun cargs w2 hH2 ha => All2.map (All2.mono ha fun a b r => snapV_ok hH2 r)) hv
  · rename_i ks sp hsp
    exact fin _ sp _ hsp (fun cargs w2 hH2 ha => snapK_ok hH2 ha) hv
  · rename_i ks sp hsp
    exact fin _ sp _ hsp (fun cargs w2 hH2 ha => snapK_ok hH2 ha) hv
  · simp [Res.eval] at hv

end
end Ab
