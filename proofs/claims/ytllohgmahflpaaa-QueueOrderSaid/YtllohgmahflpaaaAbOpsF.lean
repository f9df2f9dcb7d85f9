/- Tests on values of any kind; elements; lengths; the least and the greatest. -/
import Derived.Test.YtllohgmahflpaaaAbOpsE
import Derived.Laws.Pointers
set_option linter.unusedSectionVars false
set_option linter.unusedSimpArgs false
namespace Ab
open Go
section
variable [Uni] [Cod]
variable {P : Program} {e : Env} {X : Cx} {h : List Blk} {w : World} {o : Oper} {ρA : Operand → AV} {ρ : Operand → Value} {v : AV}

theorem isSome_ptr {x : Cl} {t : TypeId} {b : Bool} {u z : Value} {s : Sh} (hx : RepC X h w x u) {y : Cl} (hy : RepC X h w y z) (hT : TIok P t ⟨0, 0, [], s, none⟩ ∨ True) (hb : nilQ s x y = some b) :
    ((∃ q, s = .ptr q) ∧ ∃ p, u = .pointer p ∧ z = .pointer none ∧ b = p.isNone) ∨ (s = .func ∧ z = .nilFunc ∧ ((∃ f a c, u = .func f a c ∧ b = false) ∨ (u = .nilFunc ∧ b = true))) ∨ ((∃ q c, s = .slice q c) ∧ ∃ a n k, u = .slice a n k ∧ z = .slice none 0 0 ∧ b = a.isNone) ∨ ((∃ q c, s = .chan q c) ∧ ∃ r, u = .chan r ∧ z = .chan none ∧ b = r.isNone) := by
  unfold nilQ at hb
  split at hb
  all_goals simp only [Option.some.injEq, reduceCtorEq] at hb
  all_goals (try subst hb)
  · cases hx; cases hy; exact .inl ⟨⟨_, rfl⟩, _, rfl, rfl, rfl⟩
  · cases hx; cases hy; exact .inl ⟨⟨_, rfl⟩, _, rfl, rfl, rfl⟩
  · cases hx; cases hy; exact .inl ⟨⟨_, rfl⟩, _, rfl, rfl, rfl⟩
  · cases hx; cases hy; exact .inl ⟨⟨_, rfl⟩, _, rfl, rfl, rfl⟩
  · cases hx; cases hy; exact .inr (.inl ⟨rfl, rfl, .inl ⟨_, _, _, rfl, rfl⟩⟩)
  · cases hx; cases hy; exact .inr (.inl ⟨rfl, rfl, .inr ⟨rfl, rfl⟩⟩)
  · cases hx; cases hy; exact .inr (.inr (.inr ⟨⟨_, _, rfl⟩, _, rfl, rfl, rfl⟩))
  · cases hx; cases hy; exact .inr (.inr (.inr ⟨⟨_, _, rfl⟩, _, rfl, rfl, rfl⟩))
  · cases hx with
    | rn hz _ _ _ => cases hy; exact .inr (.inr (.inl ⟨⟨_, _, rfl⟩, _, _, _, rfl, rfl, hz⟩))

theorem equalIn_func (d : Nat) {t : TypeId} {a b : Array TypeId} {c : Bool} (hu : P.underlying t = some (.func a b c)) (w : World) :
    (∀ f x y, (Op.equalIn (d + 1) t (.func f x y) .nilFunc).run P w = .ok false w) ∧ (Op.equalIn (d + 1) t .nilFunc .nilFunc).run P w = .ok true w :=
  ⟨fun f x y => by simp [Op.equalIn, run_underlying hu], by simp [Op.equalIn, run_underlying hu]⟩

theorem run_slice_nil (t el : TypeId) (a : Option Addr) (n c : Nat) (hd : P.underlying t = some (.slice el)) (w : World) : (Op.equal t (.slice a n c) (.slice none 0 0)).run P w = .ok a.isNone w := by
  show (Op.equalIn 10000 t (.slice a n c) (.slice none 0 0)).run P w = _
  unfold Op.equalIn
  cases a <;> simp [run_underlying hd]

theorem run_chan_nil (t el : TypeId) (dir : ChanDir) (r : Option Nat) (hd : P.underlying t = some (.chan dir el)) (w : World) : (Op.equal t (.chan r) (.chan none)).run P w = .ok r.isNone w := by
  show (Op.equalIn 10000 t (.chan r) (.chan none)).run P w = _
  unfold Op.equalIn
  cases r <;> simp [run_underlying hd]

theorem V_binOp {op : BinOp} {t u : TypeId} {x y : Operand} (hT : TAll P e) (ho : o.op = .binOp op t x y u) (hρ : RepO X h w ρA ρ) (hv : (stepV e o ρA h).eval = some v) : Yields0 P X h w o ρ v := by
  have hx := hρ x; have hy := hρ y
  have hv0 := hv
  unfold stepV at hv; simp only [ho] at hv
  split at hv
  · rename_i k a k' b hxa hyb
    exact V_binInt ho hρ hxa hyb hv0
  · rename_i a b hxa hyb
    rw [hxa] at hx; rw [hyb] at hy
    have ex := repC_bool hx; have ey := repC_bool hy
    split at hv
    · rename_i hs
      simp only [Res.eval, Option.some.injEq] at hv; subst hv
      obtain ⟨d, hd, _, hs'⟩ := (hT t (Env.lt_of_sh hs (by simp))).und
      rw [hs] at hs'; simp only at hs'; subst hs'
      exact ⟨_, fun w2 _ => by simp [execOp, ho, ex, ey, eqGuard_at_bool, run_eql_bool w2 t a b hd], .bool⟩
    · rename_i hs
      simp only [Res.eval, Option.some.injEq] at hv; subst hv
      obtain ⟨d, hd, _, hs'⟩ := (hT t (Env.lt_of_sh hs (by simp))).und
      rw [hs] at hs'; simp only at hs'; subst hs'
      exact ⟨_, fun w2 _ => by simp [execOp, ho, ex, ey, eqGuard_at_bool, run_neq_bool w2 t a b hd], .bool⟩
    · simp [Res.eval] at hv
  · rename_i a b hxa hyb
    rw [hxa] at hx; rw [hyb] at hy
    have ex := repC_str hx; have ey := repC_str hy
    split at hv
    · simp only [Res.eval, Option.some.injEq] at hv; subst hv
      exact ⟨.bool (a == b), fun w2 _ => by simp [execOp, ho, ex, ey, eqGuard_at_string, binOp, Op.stringOp, beq_toListBytes a b], .bool⟩
    · simp only [Res.eval, Option.some.injEq] at hv; subst hv
      exact ⟨.bool (!(a == b)), fun w2 _ => by simp [execOp, ho, ex, ey, eqGuard_at_string, binOp, Op.stringOp, bne, beq_toListBytes a b], .bool⟩
    · simp [Res.eval] at hv
  · rename_i l m hxa hyb
    rw [hxa] at hx; rw [hyb] at hy
    obtain ⟨vs, hvs, rl⟩ := hx
    obtain ⟨us, hus, rm⟩ := hy
    split at hv
    · rename_i ks hag heq
      have hx' := hT t (Env.lt_of_eq heq)
      obtain ⟨hg, hks⟩ := hx'.eq ks heq
      obtain ⟨K, E⟩ := eqT_ok P 12 t ks hks
      have form : ∀ cs, FormT P t (.agg (List.toArray cs)) cs := by
        intro cs
        obtain ⟨d, hd, ha, _⟩ := hx'.und
        rw [hag] at ha
        unfold FormT
        rw [hd]
        cases d <;> first | rfl | (simp at ha)
      have run : ∀ b, eqCls ks l m = some b → ∀ w2, (Op.equalIn 10000 t (.agg vs.toArray) (.agg us.toArray)).run P w2 = .ok b w2 := by
        intro b hb w2
        obtain ⟨k1, k2, hb'⟩ := eqCls_ok rl rm hb
        rw [← hb']
        exact E 10000 (by omega) _ _ _ _ (form vs) (form us) k1 k2 w2
      have hgr := fun w2 => run_eqGuard_agg (P := P) w2 op t x y vs.toArray us.toArray hg
      split at hv
      · rename_i b hb
        simp only [Res.eval, Option.some.injEq] at hv; subst hv
        exact ⟨.bool b, fun w2 _ => by simp [execOp, ho, hvs, hus, hgr, run_eql_struct, run b hb], .bool⟩
      · rename_i b hb
        simp only [Res.eval, Option.some.injEq] at hv; subst hv
        exact ⟨.bool (!b), fun w2 _ => by simp [execOp, ho, hvs, hus, hgr, run_neq_struct, run b hb], .bool⟩
      · simp [Res.eval] at hv
    · simp [Res.eval] at hv
  · rename_i xc yc _ _ _ hxa hyb
    rw [hxa] at hx; rw [hyb] at hy
    have main : ∀ b, nilQ (e.T t).sh xc yc = some b → (op = .eql → ∀ w2, True → (execOp ρ o).run P w2 = .ok (.value (.bool b)) w2) ∧ (op = .neq → ∀ w2, True → (execOp ρ o).run P w2 = .ok (.value (.bool (!b))) w2) := by
      intro b hb
      rcases isSome_ptr (P := P) (t := t) hx hy (.inr trivial) hb with ⟨⟨q, hq⟩, p, hu, hz, rfl⟩ | ⟨hq, hz, hu⟩ | ⟨⟨q, c, hq⟩, a, n, k, hu, hz, rfl⟩ | ⟨⟨q, c, hq⟩, r, hu, hz, rfl⟩
      · obtain ⟨d, hd, _, hs'⟩ := (hT t (Env.lt_of_sh hq (by simp))).und
        rw [hq] at hs'; simp only at hs'; subst hs'
        have hd' : P.underlying t = some (.pointer (P.pointee t)) := by simp [Program.pointee, hd]
        exact ⟨fun h w2 _ => by subst h; simp [execOp, ho, hu, hz, eqGuard_at_pointer, run_eql_pointer_nil w2 t p hd'], fun h w2 _ => by subst h; simp [execOp, ho, hu, hz, eqGuard_at_pointer, run_neq_pointer_nil w2 t p hd']⟩
      · obtain ⟨d, hd, _, hs'⟩ := (hT t (Env.lt_of_sh hq (by simp))).und
        rw [hq] at hs'; simp only at hs'; obtain ⟨a1, a2, a3, rfl⟩ := hs'
        rcases hu with ⟨f, a, c, hu, rfl⟩ | ⟨hu, rfl⟩
        · have hr : ∀ w, (Op.equal t (.func f a c) .nilFunc).run P w = .ok false w := fun w => (equalIn_func 9999 hd w).1 f a c
          exact ⟨fun h w2 _ => by subst h; simp [execOp, ho, hu, hz, eqGuard_at_func, binOp, hr], fun h w2 _ => by subst h; simp [execOp, ho, hu, hz, eqGuard_at_func, binOp, hr]⟩
        · have hr : ∀ w, (Op.equal t .nilFunc .nilFunc).run P w = .ok true w := fun w => (equalIn_func 9999 hd w).2
          exact ⟨fun h w2 _ => by subst h; simp [execOp, ho, hu, hz, eqGuard_at_nilFunc, binOp, hr], fun h w2 _ => by subst h; simp [execOp, ho, hu, hz, eqGuard_at_nilFunc, binOp, hr]⟩
      · obtain ⟨d, hd, _, hs'⟩ := (hT t (Env.lt_of_sh hq (by simp))).und
        rw [hq] at hs'; simp only at hs'; subst hs'
        have hr : ∀ w, (Op.equal t (.slice a n k) (.slice none 0 0)).run P w = .ok a.isNone w := fun w => run_slice_nil t _ a n k hd w
        exact ⟨fun h w2 _ => by subst h; simp [execOp, ho, hu, hz, eqGuard_at_slice, binOp, hr], fun h w2 _ => by subst h; simp [execOp, ho, hu, hz, eqGuard_at_slice, binOp, hr]⟩
      · obtain ⟨d, hd, _, hs'⟩ := (hT t (Env.lt_of_sh hq (by simp))).und
        rw [hq] at hs'; simp only at hs'; obtain ⟨dir, rfl⟩ := hs'
        have hr : ∀ w, (Op.equal t (.chan r) (.chan none)).run P w = .ok r.isNone w := fun w => run_chan_nil t _ dir r hd w
        exact ⟨fun h w2 _ => by subst h; simp [execOp, ho, hu, hz, eqGuard, binOp, hr], fun h w2 _ => by subst h; simp [execOp, ho, hu, hz, eqGuard, binOp, hr]⟩
    split at hv
    · rename_i b hb
      simp only [Res.eval, Option.some.injEq] at hv; subst hv
      exact ⟨_, (main b hb).1 rfl, .bool⟩
    · rename_i b hb
      simp only [Res.eval, Option.some.injEq] at hv; subst hv
      exact ⟨_, (main b hb).2 rfl, .bool⟩
    · simp [Res.eval] at hv
  · simp [Res.eval] at hv

theorem and_of_cond {b : Bool} {x y : Option AV} (hv : (bif b then x else y) = some v) (hy : y = none) : b = true ∧ x = some v := by
  cases b
  · simp [hy] at hv
  · exact ⟨rfl, hv⟩

theorem Res.br_fail {b : Bool} {x : Res AV} (hv : (Res.br b x .fail).eval = some v) : b = true ∧ x.eval = some v := by
  rw [Res.eval_br] at hv
  exact and_of_cond hv rfl

theorem allInt_get {k : IntKind} {l : List Cl} {j : Nat} (ha : l.all (isInt k) = true) (hj : j < l.length) : ∃ n, l[j]? = some (.int k n) ∧ selI l j = n := by
  rw [List.all_eq_true] at ha
  have hg : l[j]? = some l[j] := List.getElem?_eq_getElem hj
  have := ha l[j] (List.getElem_mem hj)
  unfold isInt at this
  split at this
  · rename_i k' n hk
    obtain rfl := kEq_eq this
    exact ⟨n, by rw [hg, hk], by unfold selI; rw [hg, hk]⟩
  · simp at this

theorem selJ_ok {ag : Bool} {l : List Cl} {z : Nat} {j : Int} : ∀ {n k : Nat}, (selJ ag l z j n k).eval = some v → ∃ q, k ≤ q ∧ q < k + n ∧ j = (q : Int) ∧ v = pack ag (slice l (q * z) z)
  | 0, k, h => by simp [selJ, Res.eval] at h
  | n + 1, k, h => by
    unfold selJ at h
    rw [Res.eval_br] at h
    cases hb : (j == (k : Int)) with
    | true =>
      rw [hb] at h
      simp only [cond_true, Res.eval, Option.some.injEq] at h
      exact ⟨k, Nat.le_refl _, by omega, by simpa using hb, h.symm⟩
    | false =>
      rw [hb] at h
      simp only [cond_false] at h
      obtain ⟨q, h1, h2, h3, h4⟩ := selJ_ok h
      exact ⟨q, by omega, by omega, h3, h4⟩

theorem V_index {t : TypeId} {x i : Operand} (hT : TAll P e) (ho : o.op = .index t x i) (hρ : RepO X h w ρA ρ) (hv : (stepV e o ρA h).eval = some v) : Yields0 P X h w o ρ v := by
  have hx := hρ x; have hi := hρ i
  unfold stepV at hv; simp only [ho] at hv
  split at hv
  · rename_i n el l kj j hsh hxa hia
    rw [hxa] at hx; rw [hia] at hi
    obtain ⟨vs, hvs, rl⟩ := hx
    have ei := repC_int hi
    obtain ⟨d, hd, _, hs'⟩ := (hT t (Env.lt_of_sh hsh (by simp))).und
    rw [hsh] at hs'; simp only at hs'; subst hs'
    have run : ∀ (cv : Value) (m : Nat), 0 ≤ j → j < n → (∀ w2, (Go.sizeOf el).run P w2 = .ok m w2) → (∀ w2, (part el vs.toArray (j.toNat * m)).run P w2 = .ok cv w2) → ∀ w2, True → (execOp ρ o).run P w2 = .ok (.value cv) w2 := by
      intro cv m h0 h1 hm hp w2 _
      simp [execOp, ho, hvs, ei, Instr.index, asIntOf, run_underlying hd, h0, h1, hm, hp]
    split at hv
    · rename_i k hk
      split at hv
      · rename_i hc
        simp only [Bool.and_eq_true, Nat.beq_eq] at hc
        obtain ⟨hb, hv'⟩ := Res.br_fail hv
        simp only [Bool.and_eq_true, decide_eq_true_eq] at hb
        simp only [Res.eval, Option.some.injEq] at hv'; subst hv'
        have hx' := hT el (Env.lt_of_sh hk (by simp))
        obtain ⟨d', hd', hag, hs''⟩ := hx'.und
        rw [hk] at hs''; simp only at hs''; subst hs''
        obtain ⟨⟨hc1, hc2⟩, hz1⟩ := hc
        obtain ⟨q, hq, hsel⟩ := allInt_get (j := j.toNat) hc1 (by omega)
        obtain ⟨u, hu, ru⟩ := rl.get hq
        rw [hsel]
        have := repC_int ru; subst this
        refine ⟨.int k q, run _ _ hb.1 hb.2 (run_sizeOf hx') ?_, .int⟩
        intro w2
        rw [hz1, Nat.mul_one]
        unfold part
        simp only [Sem.run_bind, run_isAgg hx', Result.andThen_ok, ← hag, Bool.false_eq_true, if_false]
        simp [hu]
      · simp [Res.eval] at hv
    · obtain ⟨hb, hv'⟩ := Res.br_fail hv
      simp only [Bool.and_eq_true, decide_eq_true_eq] at hb
      split at hv'
      · rename_i hc
        simp only [Bool.and_eq_true, Nat.ble_eq] at hc
        obtain ⟨q, _, hq, hjq, rfl⟩ := selJ_ok hv'
        have hqn : q < n := by omega
        have hle : q * (e.T el).size + (e.T el).size ≤ l.length := by
          have : (q + 1) * (e.T el).size ≤ n * (e.T el).size := Nat.mul_le_mul_right _ hqn
          rw [Nat.succ_mul] at this; omega
        have hjt : j.toNat = q := by omega
        obtain ⟨cv, hp, hr⟩ := run_part (P := P) (w := w) hT hc.1 rl hle
        rw [← hjt] at hp
        exact ⟨cv, run _ _ hb.1 hb.2 (run_sizeOf (hT el (Env.lt_of_size (by omega)))) hp, hr⟩
      · simp [Res.eval] at hv'
  · simp [Res.eval] at hv

end
end Ab
