/- More of the operations that leave memory alone. -/
import Derived.Test.YtllohgmahflpaaaAbOpsA
import Derived.Laws.Tables
set_option linter.unusedSectionVars false
set_option linter.unusedSimpArgs false
namespace Ab
open Go
section
variable [Uni] [Cod]
variable {P : Program} {e : Env} {X : Cx} {h : List Blk} {w : World} {o : Oper} {ρA : Operand → AV} {ρ : Operand → Value} {v : AV}

theorem cells_one {u : Value} (hu : u.oneCell' = true) : u.cells = #[u] := by cases u <;> simp [Value.oneCell', Value.cells] at *

theorem repV_cells {x : AV} {u : Value} {l : List Cl} (r : RepV X h w x u) (hl : x.cells? = some l) : RepL X h w l u.cells.toList := by
  cases x with
  | top => simp [AV.cells?] at hl
  | c y => simp [AV.cells?] at hl; subst hl; rw [cells_one (RepC.one r)]; exact .cons r .nil
  | agg m => simp [AV.cells?] at hl; subst hl; obtain ⟨vs, rfl, r⟩ := r; simpa [Value.cells] using r
  | tup m => simp [AV.cells?] at hl

theorem splice_set : ∀ (l : List Value) (m : List Value) (off : Nat), off + l.length ≤ m.length →
    (l.zipIdx).foldl (fun cs (p : Value × Nat) => cs.set (off + p.2) p.1) m = m.take off ++ (l ++ m.drop (off + l.length)) := by
  suffices H : ∀ (l : List Value) (k : Nat) (m : List Value) (off : Nat), off + k + l.length ≤ m.length →
      (l.zipIdx k).foldl (fun cs (p : Value × Nat) => cs.set (off + p.2) p.1) m = m.take (off + k) ++ (l ++ m.drop (off + k + l.length)) by
    intro l m off h; simpa using H l 0 m off (by omega)
  intro l
  induction l with
  | nil => intro k m off h; simp
  | cons a l ih =>
    intro k m off h
    simp only [List.length_cons] at h
    simp only [List.zipIdx_cons, List.foldl_cons]
    rw [ih (k + 1) (m.set (off + k) a) off (by simp; omega)]
    rw [List.take_set, List.drop_set]
    rw [if_pos (by omega)]
    rw [show off + (k + 1) = (off + k) + 1 by omega]
    rw [List.take_succ_eq_append_getElem (by omega)]
    have hlen : (List.take (off + k) m).length = off + k := by simp; omega
    rw [List.set_append_right _ _ (by omega)]
    rw [hlen, Nat.sub_self]
    simp only [List.set_cons_zero, List.append_assoc, List.singleton_append, List.cons_append, List.length_cons]
    rw [List.nil_append, show off + k + 1 + l.length = off + k + (l.length + 1) by omega]

theorem foldl_toList (v : Array Value) (off : Nat) (cs : Array Value) :
    (v.zipIdx.foldl (fun cs (p : Value × Nat) => cs.setIfInBounds (off + p.2) p.1) cs).toList = (v.toList.zipIdx).foldl (fun cs (p : Value × Nat) => cs.set (off + p.2) p.1) cs.toList := by
  rw [← Array.foldl_toList, Array.toList_zipIdx]
  generalize v.toList.zipIdx = l
  induction l generalizing cs with
  | nil => rfl
  | cons p l ih => simp only [List.foldl_cons]; rw [ih]; simp

theorem repL_splice {m l : List Cl} {ms ls : List Value} {off : Nat} (hm : RepL X h w m ms) (hl : RepL X h w l ls) : RepL X h w (splice m off l) (ms.take off ++ (ls ++ ms.drop (off + ls.length))) := by
  unfold splice
  rw [← hl.len]
  exact (hm.take off).app (hl.app (hm.drop _))

theorem fill_rep (place : Nat → Option (Nat × Nat)) : ∀ (psA : List (Nat × Nat × AV)) (ps : List (Nat × Value)) (zA : List Cl) (z : Array Value) (l : List Cl),
    All2 (fun a b => (a.2.2 = .top ∨ a.2.1 = 0 ∨ place b.1 = some (a.1, a.2.1)) ∧ RepV X h w a.2.2 b.2) psA ps → RepL X h w zA z.toList → fillA zA psA = some l → ∃ cells, Instr.fill place z ps = some cells ∧ RepL X h w l cells.toList
  | [], [], zA, z, l, _, hz, hf => by
    simp [fillA] at hf; subst hf
    exact ⟨z, rfl, hz⟩
  | (off, n, av) :: psA, (i, cv) :: ps, zA, z, l, .cons hr ht, hz, hf => by
    unfold fillA at hf
    split at hf
    · rename_i m hm
      split at hf
      · rename_i hc
        simp only [Bool.and_eq_true, Nat.ble_eq, Nat.beq_eq] at hc
        obtain ⟨⟨hc1, hc2⟩, hc3⟩ := hc
        have hp : place i = some (off, n) := by
          rcases hr.1 with h | h | h
          · simp at h; subst h; simp [AV.cells?] at hm
          · simp at h; omega
          · exact h
        have hcs := repV_cells hr.2 hm
        have hlen := hcs.len
        have hzl := hz.len
        obtain ⟨cells, h1, h2⟩ := fill_rep place psA ps (splice zA off m) (cv.cells.zipIdx.foldl (fun cs (c, j) => cs.setIfInBounds (off + j) c) z) l ht (by
          show RepL X h w _ (cv.cells.zipIdx.foldl (fun cs (p : Value × Nat) => cs.setIfInBounds (off + p.2) p.1) z).toList
          rw [foldl_toList, splice_set _ _ _ (by rw [← hlen, ← hzl]; omega)]
          exact repL_splice hz hcs) hf
        refine ⟨cells, ?_, h2⟩
        unfold Instr.fill
        simp only [hp]
        have hsz : cv.cells.size = n := by rw [← Array.length_toList, ← hlen]; exact hc2
        rw [if_neg]
        · exact h1
        · simp only [Array.length_toList] at hzl
          simp only [ne_eq, hsz, not_true_eq_false, false_or, Bool.or_eq_true, decide_eq_true_eq, bne_iff_ne, decide_not, Bool.not_eq_true', decide_eq_false_iff_not]
          omega
      · simp at hf
    · simp at hf

theorem conLB_rep : ∀ {l : List Cl} {vs : List Value}, conLB l vs = true → RepL X h w l vs
  | [], [], _ => .nil
  | x :: l, u :: m, hc => by
    simp only [conLB, Bool.and_eq_true] at hc
    refine .cons ?_ (conLB_rep hc.2)
    have := hc.1
    unfold conB at this
    split at this
    · simp at this; subst this; exact .bool
    · simp at this; obtain ⟨rfl, rfl⟩ := this; exact .int
    · rename_i a b
      have : a = b := by
        obtain ⟨⟨a⟩⟩ := a; obtain ⟨⟨b⟩⟩ := b
        simpa using this
      subst this; exact .str
    · exact .nilp
    · exact .nils
    · exact .nilf
    · rename_i c L
      have hL : L = [] := by cases L with | nil => rfl | cons _ _ => simp at this
      subst hL
      exact .rs (cv := fun _ _ => undef) (Nat.le_refl _) (fun i x hx => by simp at hx) (fun i x j y hx => by simp at hx)
    · exact .nilch
    · simp at this

theorem zero_info {t : TypeId} (hT : TAll P e) (hz : (e.T t).zero ≠ []) : ∃ i z, P.info? t = some i ∧ i.zero = some z ∧ RepL X h w (e.T t).zero z.cells.toList ∧ TIok P t (e.T t) := by
  have hx := hT t (Env.lt_of_zero hz)
  obtain ⟨i, z, hi, hzz, hc, _, _⟩ := hx.zero hz
  exact ⟨i, z, hi, hzz, conLB_rep hc, hx⟩

theorem built_places (P : Program) (fs : List Field) (hj : ∀ f ∈ fs, ∃ j, P.info? f.type = some j ∧ j.size ≠ 0) :
    ∃ places, fs.mapM (fun (f : Field) => (P.info? f.type).map fun i => (f.offset, i.size)) = some places ∧ ∀ (i : Nat), places[i]? = (fs[i]?).map fun (f : Field) => (f.offset, ((P.info? f.type).map (·.size)).getD 0) := by
  induction fs with
  | nil => exact ⟨[], rfl, fun i => by simp⟩
  | cons f fs ih =>
    obtain ⟨places, h1, h2⟩ := ih fun f hf => hj f (by simp [hf])
    obtain ⟨j, hj1, _⟩ := hj f (by simp)
    refine ⟨(f.offset, j.size) :: places, by simp [List.mapM_cons, h1, hj1], fun i => ?_⟩
    cases i with
    | zero => simp [hj1]
    | succ i => simpa using h2 i

theorem size_info {t : TypeId} (hT : TAll P e) (ht : t < e.ti.length) : ∃ i, P.info? t = some i ∧ i.size = (e.T t).size := by
  obtain ⟨i, h1, h2, _⟩ := (hT t ht).info
  exact ⟨i, h1, h2⟩

theorem V_build {t : TypeId} {ps : Array (Nat × Operand)} (hT : TAll P e) (ho : o.op = .build t ps) (hρ : RepO X h w ρA ρ) (hv : (stepV e o ρA h).eval = some v) : Yields0 P X h w o ρ v := by
  unfold stepV at hv; simp only [ho] at hv
  split at hv
  · simp [Res.eval] at hv
  · rename_i fs hsh hz
    have hne : (e.T t).zero ≠ [] := fun h => hz h
    obtain ⟨i, z, hi, hzz, hrz, hx⟩ := zero_info (X := X) (h := h) (w := w) hT hne
    split at hv
    · rename_i l hl
      simp only [Res.eval, Option.some.injEq] at hv; subst hv
      obtain ⟨d, hd, _, hs⟩ := hx.und
      rw [hsh] at hs
      obtain ⟨fields, rfl, hfs, hfj⟩ := hs
      obtain ⟨places, hp1, hp2⟩ := built_places P fields.toList hfj
      obtain ⟨cells, hc1, hc2⟩ := fill_rep (X := X) (h := h) (w := w) (places.toArray[·]?) _ (ps.toList.map fun p => (p.1, ρ p.2)) _ z.cells l (by
        apply All2.of_get
        · simp
        · intro k a b ha hb
          rw [List.getElem?_map] at ha hb
          obtain ⟨p, hp, rfl⟩ := Option.map_eq_some_iff.mp ha
          rw [hp] at hb; simp at hb; subst hb
          split
          · rename_i off ft hft
            refine ⟨?_, hρ p.2⟩
            have hft' : (fields.toList[p.1]?).map (fun f => (f.offset, f.type)) = some (off, ft) := by rw [← List.getElem?_map, hfs]; exact hft
            obtain ⟨f, hf, hff⟩ := Option.map_eq_some_iff.mp hft'
            simp at hff
            obtain ⟨rfl, rfl⟩ := hff
            by_cases hz0 : (e.T f.type).size = 0
            · exact .inr (.inl hz0)
            right; right
            show places.toArray[p.1]? = _
            rw [List.getElem?_toArray, hp2, hf]
            obtain ⟨j, hj, hjn⟩ := hfj f (List.mem_of_getElem? hf)
            simp only [Option.map_some, hj, Option.getD_some, Option.some.injEq, Prod.mk.injEq, true_and]
            obtain ⟨i', h1, h2⟩ := size_info hT (Env.lt_of_size hz0)
            rw [hj] at h1; simp at h1; subst h1; exact h2
          · exact ⟨.inl rfl, trivial⟩) hrz hl
      refine ⟨.agg cells, ?_, ⟨cells.toList, by simp, hc2⟩⟩
      have hb : P.built t (ps.toList.map fun p => (p.1, ρ p.2)) = some cells := by
        unfold Program.built
        simp only [hi, hd, hzz, hp1]
        exact hc1
      intro w2 _
      have hrun := run_build (P := P) w2 t (ps.map fun (i, x) => (i, ρ x)) cells (by simpa using hb)
      simp only [execOp, ho, Sem.run_bind, hrun, Result.andThen_ok, Sem.run_pure]
    · simp [Res.eval] at hv
  · rename_i n el hsh hz
    have hne : (e.T t).zero ≠ [] := fun h => hz h
    obtain ⟨i, z, hi, hzz, hrz, hx⟩ := zero_info (X := X) (h := h) (w := w) hT hne
    split at hv
    case isFalse => simp [Res.eval] at hv
    rename_i hel
    split at hv
    · rename_i l hl
      simp only [Res.eval, Option.some.injEq] at hv; subst hv
      obtain ⟨d, hd, _, hs⟩ := hx.und
      rw [hsh] at hs
      simp only at hs; subst hs
      have hz0 : (e.T el).size ≠ 0 := by simp only [Nat.ble_eq] at hel; omega
      obtain ⟨ie, hie, hse⟩ := size_info hT (Env.lt_of_size hz0)
      obtain ⟨cells, hc1, hc2⟩ := fill_rep (X := X) (h := h) (w := w) (fun i => some (i * ie.size, ie.size)) _ (ps.toList.map fun p => (p.1, ρ p.2)) _ z.cells l (by
        apply All2.of_get
        · simp
        · intro k a b ha hb
          rw [List.getElem?_map] at ha hb
          obtain ⟨p, hp, rfl⟩ := Option.map_eq_some_iff.mp ha
          rw [hp] at hb; simp at hb; subst hb
          exact ⟨.inr (.inr (by simp [hse])), hρ p.2⟩) hrz hl
      refine ⟨.agg cells, ?_, ⟨cells.toList, by simp, hc2⟩⟩
      have hb : P.built t (ps.toList.map fun p => (p.1, ρ p.2)) = some cells := by
        unfold Program.built
        simp only [hi, hd, hzz, hie]
        exact hc1
      intro w2 _
      have hrun := run_build (P := P) w2 t (ps.map fun (i, x) => (i, ρ x)) cells (by simpa using hb)
      simp only [execOp, ho, Sem.run_bind, hrun, Result.andThen_ok, Sem.run_pure]
    · simp [Res.eval] at hv
  · simp [Res.eval] at hv

end
end Ab
