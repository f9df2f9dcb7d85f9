/- The last of the operations that leave memory alone. -/
import Derived.Test.YtllohgmahflpaaaAbOpsC
set_option linter.unusedSectionVars false
set_option linter.unusedSimpArgs false
namespace Ab
open Go
section
variable [Uni] [Cod]
variable {P : Program} {e : Env} {X : Cx} {h : List Blk} {w : World} {o : Oper} {ρA : Operand → AV} {ρ : Operand → Value} {v : AV}

/-- A part of an aggregate, as a value of its type. -/
theorem run_part {t : TypeId} (hT : TAll P e) (h1 : 1 ≤ (e.T t).size) {l : List Cl} {vs : List Value} (r : RepL X h w l vs) {off : Nat} (hb : off + (e.T t).size ≤ l.length) :
    ∃ cv, (∀ w2, (part t vs.toArray off).run P w2 = .ok cv w2) ∧ RepV X h w (pack (e.T t).agg (slice l off (e.T t).size)) cv := by
  have hx := hT t (Env.lt_of_size (by omega))
  have hlen := r.len
  unfold part
  cases hag : (e.T t).agg with
  | true =>
    refine ⟨.agg (vs.toArray.extract off (off + (e.T t).size)), fun w2 => by simp [run_isAgg hx, hag, run_sizeOf hx], ?_⟩
    refine ⟨(vs.drop off).take (e.T t).size, ?_, (r.drop off).take _⟩
    simp [List.extract_eq_take_drop]
  | false =>
    obtain ⟨u, hu⟩ : ∃ u, vs[off]? = some u := ⟨vs[off]'(by omega), List.getElem?_eq_getElem (by omega)⟩
    refine ⟨u, fun w2 => by simp [run_isAgg hx, hag, hu], ?_⟩
    unfold pack
    have hs := (r.drop off).take (e.T t).size
    unfold slice
    match hm : (l.drop off).take (e.T t).size, hs with
    | [], _ => trivial
    | _ :: _ :: _, _ => trivial
    | [y], hs =>
      have h2 : ((vs.drop off).take (e.T t).size)[0]? = some u := by
        rw [List.getElem?_take, if_pos (by omega), List.getElem?_drop]; simpa using hu
      obtain ⟨u', hu', ru⟩ := hs.get (i := 0) (a := y) rfl
      rw [h2] at hu'; simp at hu'; subst hu'
      exact ru

theorem V_field {t : TypeId} {x : Operand} {f : Nat} (hT : TAll P e) (ho : o.op = .field t x f) (hρ : RepO X h w ρA ρ) (hv : (stepV e o ρA h).eval = some v) : Yields0 P X h w o ρ v := by
  have hx := hρ x
  unfold stepV at hv; simp only [ho] at hv
  split at hv
  · rename_i l fo ft hb hf
    rw [hb] at hx
    obtain ⟨vs, hvs, r⟩ := hx
    split at hv
    · rename_i hc
      simp only [Bool.and_eq_true, Nat.ble_eq] at hc
      simp only [Res.eval, Option.some.injEq] at hv; subst hv
      obtain ⟨fields, fl, j, hd, hfl, rfl, rfl, hj, hjn⟩ := fieldOf_ok hT hf
      obtain ⟨cv, hrun, hrep⟩ := run_part (P := P) (w := w) hT hc.1 r hc.2
      exact ⟨cv, fun w2 _ => by simp [execOp, ho, hvs, Instr.field, run_underlying hd, hfl, asAgg, hrun w2], hrep⟩
    · simp [Res.eval] at hv
  · simp [Res.eval] at hv

theorem V_extract {x : Operand} {i : Nat} (ho : o.op = .extract x i) (hρ : RepO X h w ρA ρ) (hv : (stepV e o ρA h).eval = some v) : Yields0 P X h w o ρ v := by
  have hx := hρ x
  unfold stepV at hv; simp only [ho] at hv
  split at hv
  · rename_i l hb
    rw [hb] at hx
    obtain ⟨vs, hvs, r⟩ := hx
    split at hv
    · rename_i p hp
      simp only [Res.eval, Option.some.injEq] at hv; subst hv
      obtain ⟨u, hu, hr⟩ := r.get hp
      exact ⟨u, fun w2 _ => by simp [execOp, ho, hvs, Instr.extract, hu], repV_ofPart hr⟩
    · simp [Res.eval] at hv
  · simp [Res.eval] at hv

theorem run_cmp {op : BinOp} {t : TypeId} {k : IntKind} {a b : Int} {r : Bool} (hr : cmpI op a b = some r) : binOp op t (.int k a) (.int k b) = pure (.bool r) := by
  cases op <;> simp [cmpI] at hr <;> subst hr <;> simp [binOp, Op.intCmp]

theorem run_ar {op : BinOp} {t : TypeId} {k : IntKind} {a b r : Int} (hr : arI op k a b = some r) : binOp op t (.int k a) (.int k b) = pure (.int k r) := by
  cases op <;> simp [arI] at hr <;> subst hr <;> simp [binOp, Op.intArith, Op.intBits]

theorem eqGuard_pure (op : BinOp) (t : TypeId) (x y : Operand) (a b : Value) (h : (∀ cs, a ≠ .agg cs) ∧ a ≠ .nilIface) : eqGuard op t x y a b = pure () := by
  cases a <;> first | (exact absurd rfl (h.1 _)) | (exact absurd rfl h.2) | (cases op <;> rfl)

theorem run_shl (k k' : IntKind) (a b : Int) (h : ¬ b < 0) : Op.shift .shl k a k' b = pure (.int k (k.wrap (a * 2 ^ (min b.toNat k.bits)))) := by simp [Op.shift, h]
theorem run_shr (k k' : IntKind) (a b : Int) (h : ¬ b < 0) : Op.shift .shr k a k' b = pure (.int k (a.fdiv (2 ^ (min b.toNat k.bits)))) := by simp [Op.shift, h]

theorem V_binInt {op : BinOp} {t u : TypeId} {x y : Operand} {k k' : IntKind} {a b : Int} (ho : o.op = .binOp op t x y u) (hρ : RepO X h w ρA ρ) (hxa : ρA x = .c (.int k a)) (hyb : ρA y = .c (.int k' b)) (hv : (stepV e o ρA h).eval = some v) : Yields0 P X h w o ρ v := by
  have hx := hρ x; have hy := hρ y
  rw [hxa] at hx; rw [hyb] at hy
  have ex := repC_int hx; have ey := repC_int hy
  have hrun : ∀ cv, binOp op t (.int k a) (.int k' b) = pure cv → ∀ w2, True → (execOp ρ o).run P w2 = .ok (.value cv) w2 := by
    intro cv hcv w2 _
    simp [execOp, ho, ex, ey, eqGuard_at_int, hcv]
  unfold stepV at hv; simp only [ho, hxa, hyb] at hv
  split at hv
  · rename_i r hr
    split at hv
    · rename_i hk
      obtain rfl : k = k' := kEq_eq hk
      simp only [Res.eval, Option.some.injEq] at hv; subst hv
      exact ⟨_, hrun _ (run_cmp hr), .bool⟩
    · simp [Res.eval] at hv
  · split at hv
    · rename_i r hr
      split at hv
      · rename_i hk
        obtain rfl : k = k' := kEq_eq hk
        simp only [Res.eval, Option.some.injEq] at hv; subst hv
        exact ⟨_, hrun _ (run_ar hr), .int⟩
      · simp [Res.eval] at hv
    · split at hv
      · split at hv
        · rename_i hk
          obtain rfl : k = k' := kEq_eq hk
          simp only [Res.eval_br, Res.eval] at hv
          by_cases hb : b = 0
          · rw [show (b == 0) = true by simpa using hb] at hv; simp at hv
          · rw [show (b == 0) = false by simpa using hb] at hv
            simp only [cond_false, Option.some.injEq] at hv; subst hv
            exact ⟨_, hrun _ (by simp [binOp, Op.intDiv, hb]), .int⟩
        · simp [Res.eval] at hv
      · split at hv
        · rename_i hk
          obtain rfl : k = k' := kEq_eq hk
          simp only [Res.eval_br, Res.eval] at hv
          by_cases hb : b = 0
          · rw [show (b == 0) = true by simpa using hb] at hv; simp at hv
          · rw [show (b == 0) = false by simpa using hb] at hv
            simp only [cond_false, Option.some.injEq] at hv; subst hv
            exact ⟨_, hrun _ (by simp [binOp, Op.intDiv, hb]), .int⟩
        · simp [Res.eval] at hv
      · simp only [Res.eval_br, Res.eval] at hv
        by_cases hb : b < 0
        · rw [show decide (b < 0) = true by simpa using hb] at hv; simp at hv
        · rw [show decide (b < 0) = false by simpa using hb] at hv
          simp only [cond_false, Option.some.injEq] at hv; subst hv
          exact ⟨_, hrun _ (by rw [show binOp .shl t (.int k a) (.int k' b) = Op.shift .shl k a k' b from rfl, run_shl _ _ _ _ hb]), .int⟩
      · simp only [Res.eval_br, Res.eval] at hv
        by_cases hb : b < 0
        · rw [show decide (b < 0) = true by simpa using hb] at hv; simp at hv
        · rw [show decide (b < 0) = false by simpa using hb] at hv
          simp only [cond_false, Option.some.injEq] at hv; subst hv
          exact ⟨_, hrun _ (by rw [show binOp .shr t (.int k a) (.int k' b) = Op.shift .shr k a k' b from rfl, run_shr _ _ _ _ hb]), .int⟩
      · simp [Res.eval] at hv

/-- Cell by cell, on values. -/
def eqVs : List Value → List Value → Bool
  | [], [] => true
  | .int _ a :: l, .int _ b :: m => a == b && eqVs l m
  | .bool a :: l, .bool b :: m => a == b && eqVs l m
  | .string a :: l, .string b :: m => a == b && eqVs l m
  | _, _ => false

def KV : KC → Value → Prop
  | .int k, .int k' _ => k = k'
  | .bool, .bool _ => True
  | .str, .string _ => True
  | _, _ => False

theorem eqVs_append : ∀ {ks : List KC} {l l' m m' : List Value}, All2 KV ks l → All2 KV ks m → eqVs (l ++ l') (m ++ m') = (eqVs l m && eqVs l' m')
  | [], [], _, [], _, .nil, .nil => by simp [eqVs]
  | k :: ks, a :: l, l', b :: m, m', .cons h1 t1, .cons h2 t2 => by
    have := eqVs_append (l' := l') (m' := m') t1 t2
    cases k <;> cases a <;> simp [KV] at h1 <;> cases b <;> simp [KV] at h2 <;> simp [eqVs, this, Bool.and_assoc]

def FormT (P : Program) (t : TypeId) (x : Value) (cs : List Value) : Prop := match P.underlying t with
  | some (.struct _) | some (.array _ _) => x = .agg cs.toArray
  | _ => cs = [x]

theorem run_part_form {t : TypeId} {cs : List Value} {off : Nat} (hu : (P.underlying t).isSome = true) (hn : off + P.cellsOf t ≤ cs.length) (h1 : (∀ fs, P.underlying t ≠ some (.struct fs)) → (∀ m u, P.underlying t ≠ some (.array m u)) → P.cellsOf t = 1) (hi : (P.info? t).isSome = true) :
    ∃ u, (part t cs.toArray off).run P w = .ok u w ∧ FormT P t u ((cs.drop off).take (P.cellsOf t)) := by
  obtain ⟨d, hd⟩ := Option.isSome_iff_exists.mp hu
  obtain ⟨i, hi⟩ := Option.isSome_iff_exists.mp hi
  have hs : (Go.sizeOf t).run P w = .ok (P.cellsOf t) w := by simp [Go.sizeOf, typeInfo, hi, Program.cellsOf]
  unfold part isAgg FormT
  rw [hd] at h1 ⊢
  simp only [Sem.run_bind, run_underlying hd, Result.andThen_ok]
  by_cases ha : (∃ fs, d = .struct fs) ∨ ∃ m u, d = .array m u
  · rcases ha with ⟨fs, rfl⟩ | ⟨m, u, rfl⟩
    all_goals exact ⟨.agg (cs.toArray.extract off (off + P.cellsOf t)), by simp [hs], by simp [List.extract_eq_take_drop]⟩
  · have hone : P.cellsOf t = 1 := h1 (fun fs h => ha (.inl ⟨fs, by simpa using h⟩)) (fun m u h => ha (.inr ⟨m, u, by simpa using h⟩))
    obtain ⟨u, hu⟩ : ∃ u, cs[off]? = some u := ⟨cs[off]'(by omega), List.getElem?_eq_getElem (by omega)⟩
    have hdt : (cs.drop off).take 1 = [u] := by
      rw [List.take_one]; simp [List.head?_drop, hu]
    refine ⟨u, ?_, ?_⟩
    · cases d <;> first | (exact absurd (.inl ⟨_, rfl⟩) ha) | (exact absurd (.inr ⟨_, _, rfl⟩) ha) | (simp [hu])
    · rw [hone, hdt]
      cases d <;> first | (exact absurd (.inl ⟨_, rfl⟩) ha) | (exact absurd (.inr ⟨_, _, rfl⟩) ha) | rfl

end
end Ab
