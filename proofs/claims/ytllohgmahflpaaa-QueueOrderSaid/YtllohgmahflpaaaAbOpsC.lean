/- More of the operations that leave memory alone: tests, sums, conversions, addresses. -/
import Derived.Test.YtllohgmahflpaaaAbOpsB
import Derived.Lib.Slices
set_option linter.unusedSectionVars false
set_option linter.unusedSimpArgs false
namespace Ab
open Go
section
variable [Uni] [Cod]
variable {P : Program} {e : Env} {X : Cx} {h : List Blk} {w : World} {o : Oper} {ρA : Operand → AV} {ρ : Operand → Value} {v : AV}

theorem V_nilCheck {x : Operand} (ho : o.op = .nilCheck x) (hρ : RepO X h w ρA ρ) (hv : (stepV e o ρA h).eval = some v) : Yields0 P X h w o ρ v := by
  have hx := hρ x
  unfold stepV at hv; simp only [ho] at hv
  split at hv
  all_goals simp only [Res.eval, Option.some.injEq] at hv
  · rename_i b off hb; subst hv
    rw [hb] at hx
    obtain ⟨_, hx'⟩ := repC_ptr hx
    exact ⟨_, fun w2 _ => by simp [execOp, ho, hx'], hx' ▸ hx⟩
  · rename_i b z i off hb; subst hv
    rw [hb] at hx
    obtain ⟨_, hx'⟩ := repC_ep hx
    exact ⟨_, fun w2 _ => by simp [execOp, ho, hx'], hx' ▸ hx⟩
  · rename_i c y off hb; subst hv
    rw [hb] at hx
    generalize hu : ρ x = u at hx
    cases hx with
    | rp h1 h2 => exact ⟨_, fun w2 _ => by simp [execOp, ho, hu], .rp h1 h2⟩
  · rename_i f a c hb; subst hv
    rw [hb] at hx
    generalize hu : ρ x = u at hx
    cases hx with
    | fn h1 h2 => exact ⟨_, fun w2 _ => by simp [execOp, ho, hu], .fn h1 h2⟩
  · simp at hv

theorem V_unOp {op : UnOp} {t : TypeId} {x : Operand} (ho : o.op = .unOp op t x) (hρ : RepO X h w ρA ρ) (hv : (stepV e o ρA h).eval = some v) : Yields0 P X h w o ρ v := by
  have hx := hρ x
  unfold stepV at hv; simp only [ho] at hv
  split at hv
  all_goals simp only [Res.eval, Option.some.injEq] at hv
  · rename_i b hb; subst hv
    rw [hb] at hx
    exact ⟨.bool (!b), fun w2 _ => by simp [execOp, ho, repC_bool hx, Op.unary], .bool⟩
  · rename_i k n hb; subst hv
    rw [hb] at hx
    exact ⟨.int k (k.wrap (0 - n)), fun w2 _ => by simp [execOp, ho, repC_int hx, Op.unary, Op.intArith], .int⟩
  · simp at hv

theorem V_convert {s d : TypeId} {x : Operand} (hB : ∀ el c, (e.T s).sh = .slice el c → (e.T d).sh = .str → (convB e el (ρA x) h).eval = some v → Yields1 P X h w o ρ v) (hT : TAll P e) (ho : o.op = .convert s d x) (hρ : RepO X h w ρA ρ) (hv : (stepV e o ρA h).eval = some v) : Yields1 P X h w o ρ v := by
  have hx := hρ x
  unfold stepV at hv; simp only [ho] at hv
  split at hv
  case h_3 => rename_i el c hs hd; exact hB el c hs hd hv
  all_goals simp only [Res.eval, Option.some.injEq] at hv
  · rename_i k' k k2 n hs hd hb; subst hv
    rw [hb] at hx
    obtain ⟨ds, hds, _, hs'⟩ := (hT s (Env.lt_of_sh hs (by simp))).und
    obtain ⟨dd, hdd, _, hd'⟩ := (hT d (Env.lt_of_sh hd (by simp))).und
    rw [hs] at hs'; rw [hd] at hd'; simp only at hs' hd'; subst hs'; subst hd'
    exact ⟨.int k (k.wrap n), fun w2 _ => by simp [execOp, ho, repC_int hx, convert, run_underlying hds, run_underlying hdd, Conv.intToInt], .int⟩
  · rename_i b hs hd hb; subst hv
    rw [hb] at hx
    obtain ⟨ds, hds, _, hs'⟩ := (hT s (Env.lt_of_sh hs (by simp))).und
    obtain ⟨dd, hdd, _, hd'⟩ := (hT d (Env.lt_of_sh hd (by simp))).und
    rw [hs] at hs'; rw [hd] at hd'; simp only at hs' hd'; subst hs'; subst hd'
    exact ⟨.string b, fun w2 _ => by simp [execOp, ho, repC_str hx, convert, run_underlying hds, run_underlying hdd], .str⟩
  · simp at hv

theorem repV_ptrs : ∀ {l : List AV} {vs : List Value} {ps : List (Nat × Nat)}, All2 (RepV X h w) l vs → ptrs l = some ps → (∀ p ∈ ps, p.1 < h.length) ∧ vs = ps.map fun p => Value.pointer (some (X.addr p.1 p.2))
  | [], [], ps, .nil, hp => by simp [ptrs] at hp; subst hp; simp
  | a :: l, u :: vs, ps, .cons hr ht, hp => by
    unfold ptrs at hp
    split at hp
    · simp at *
    · rename_i b k r heq
      simp at heq
      obtain ⟨rfl, rfl⟩ := heq
      split at hp
      · rename_i l' hl'
        simp at hp; subst hp
        obtain ⟨h1, h2⟩ := repV_ptrs ht hl'
        obtain ⟨hb, rfl⟩ := repC_ptr hr
        subst h2
        exact ⟨fun p hp => by simp at hp; rcases hp with rfl | hp; exact hb; exact h1 p hp, by simp⟩
      · simp at hp
    · simp at hp

theorem repO_map (hρ : RepO X h w ρA ρ) (l : List Operand) : All2 (RepV X h w) (l.map ρA) (l.map ρ) := by
  induction l with
  | nil => exact .nil
  | cons a l ih => exact .cons (hρ a) ih

theorem V_makeFunc {fn : Fn} {first caps : Array Operand} (ho : o.op = .makeFunc fn first caps) (hρ : RepO X h w ρA ρ) (hv : (stepV e o ρA h).eval = some v) : Yields0 P X h w o ρ v := by
  unfold stepV at hv; simp only [ho] at hv
  cases fn with
  | func f =>
    simp only at hv
    split at hv
    all_goals simp only [Res.eval, Option.some.injEq] at hv
    · rename_i a b ha hb; subst hv
      obtain ⟨h1, e1⟩ := repV_ptrs (repO_map hρ first.toList) ha
      obtain ⟨h2, e2⟩ := repV_ptrs (repO_map hρ caps.toList) hb
      refine ⟨.func (.func f) (first.map ρ) (caps.map ρ), fun w2 _ => by simp [execOp, ho, Instr.makeFunc], ?_⟩
      have E1 : first.map ρ = (a.map fun p => Value.pointer (some (X.addr p.1 p.2))).toArray := by apply Array.ext'; simpa using e1
      have E2 : caps.map ρ = (b.map fun p => Value.pointer (some (X.addr p.1 p.2))).toArray := by apply Array.ext'; simpa using e2
      rw [E1, E2]
      exact .fn h1 h2
    · simp at hv
  | _ => simp [Res.eval] at hv

theorem fieldOf_ok {t : TypeId} {f fo ft : Nat} (hT : TAll P e) (hf : fieldOf e t f = some (fo, ft)) :
    ∃ fields fl j, P.underlying t = some (.struct fields) ∧ fields[f]? = some fl ∧ fl.offset = fo ∧ fl.type = ft ∧ P.info? ft = some j ∧ j.size ≠ 0 := by
  unfold fieldOf at hf
  split at hf
  · rename_i fs hsh
    obtain ⟨d, hd, _, hs⟩ := (hT t (Env.lt_of_sh hsh (by simp))).und
    rw [hsh] at hs
    obtain ⟨fields, rfl, hfs, hfj⟩ := hs
    rw [← hfs, List.getElem?_map] at hf
    obtain ⟨fl, hfl, he⟩ := Option.map_eq_some_iff.mp hf
    simp at he
    obtain ⟨rfl, rfl⟩ := he
    obtain ⟨j, hj, hjn⟩ := hfj fl (List.mem_of_getElem? hfl)
    exact ⟨fields, fl, j, hd, by simpa using hfl, rfl, rfl, hj, hjn⟩
  · simp at hf

theorem run_fieldAt {t f fo ft : Nat} (hT : TAll P e) (hf : fieldOf e t f = some (fo, ft)) (a : Addr) :
    (Instr.fieldAt t (.pointer (some a)) f).run P w = .ok (.pointer (some (a.add fo))) w := by
  obtain ⟨fields, fl, j, hd, hfl, rfl, rfl, hj, hjn⟩ := fieldOf_ok hT hf
  simp [Instr.fieldAt, run_underlying hd, hfl, Instr.sureAddr, fieldPlace, Go.sizeOf, typeInfo, hj, hjn]

theorem V_fieldAddr {t : TypeId} {x : Operand} {f : Nat} (hT : TAll P e) (ho : o.op = .fieldAddr t x f) (hρ : RepO X h w ρA ρ) (hv : (stepV e o ρA h).eval = some v) : Yields0 P X h w o ρ v := by
  have hx := hρ x
  unfold stepV at hv; simp only [ho] at hv
  split at hv
  all_goals simp only [Res.eval, Option.some.injEq] at hv
  · rename_i b off fo ft hb hf; subst hv
    rw [hb] at hx
    obtain ⟨hlt, hx'⟩ := repC_ptr hx
    refine ⟨.pointer (some ((X.addr b off).add fo)), fun w2 _ => by simp [execOp, ho, hx', run_fieldAt (w := w2) hT hf], ?_⟩
    unfold Cx.addr; rw [Addr.add_lit, Nat.add_assoc]
    exact .ptr hlt
  · rename_i b z i off fo ft hb hf; subst hv
    rw [hb] at hx
    obtain ⟨hlt, hx'⟩ := repC_ep hx
    refine ⟨.pointer (some ((X.addr b (i * z + off)).add fo)), fun w2 _ => by simp [execOp, ho, hx', run_fieldAt (w := w2) hT hf], ?_⟩
    unfold Cx.addr; rw [Addr.add_lit]
    have := @RepC.ep _ _ X h w b z i (off + fo) hlt
    unfold Cx.addr at this
    rw [show (X.ρ b).2 + (i * z + off) + fo = (X.ρ b).2 + (i * z + (off + fo)) by omega]
    exact this
  · rename_i c y off fo ft hb hf; subst hv
    rw [hb] at hx
    generalize hu : ρ x = u at hx
    cases hx with
    | @rp _ _ _ k e' cv h1 h2 =>
      refine ⟨.pointer (some (Addr.add ⟨k, e' + off, none⟩ fo)), fun w2 _ => by simp [execOp, ho, hu, run_fieldAt (w := w2) hT hf], ?_⟩
      rw [Addr.add_lit, Nat.add_assoc]
      exact .rp h1 h2
  · simp at hv

end
end Ab
