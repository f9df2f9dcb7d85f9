/- A function called: what its run comes to is what the machine's call does. -/
import Derived.Test.YtllohgmahflpaaaAbCode
set_option linter.unusedSectionVars false
set_option linter.unusedSimpArgs false
set_option linter.unusedVariables false
namespace Ab
open Go
section
variable [Uni] [Cod]
variable {P : Program} {e : Env} {X Y : Cx} {h i : List Blk} {w w' : World} {v : AV}

theorem repV_getD {s : St} {a : Act} {ds : List Deferred} (ht : TOk X w s a ds) (t : Tmp) : RepV X s.heap w (s.tmps.getD t .top) (a.tmps.getD t undef) := by
  rw [List.getD_eq_getElem?_getD]
  cases hs : s.tmps[t]? with
  | none => trivial
  | some av => exact ht.tmp t av hs

theorem resAV_ok (hT : TAll P e) {s : St} {a : Act} {ds : List Deferred} (ht : TOk X w s a ds) (hH : RelH X s.heap w) {r : ResultVar} {v : AV} (hv : resAV e s r = some v) :
    ∃ cv, ((match r with
      | .tmp t => pure (a.tmps.getD t undef)
      | .cell p t => do loadVar t (← asAddr (a.tmps.getD p undef)) : Sem Value)).run P w = .ok cv w ∧ RepV X s.heap w v cv := by
  cases r with
  | tmp t =>
    simp [resAV] at hv; subst hv
    exact ⟨_, rfl, by have := repV_getD ht t; rwa [List.getD_eq_getElem?_getD] at this⟩
  | cell p t =>
    unfold resAV at hv
    simp only at hv
    split at hv
    · rename_i b off hp
      have hr := repV_getD ht p
      rw [hp] at hr
      obtain ⟨_, hu⟩ := repC_ptr hr
      split at hv
      · rename_i l hl
        split at hv
        · rename_i hc
          simp only [Bool.and_eq_true, Nat.ble_eq] at hc
          simp at hv; subst hv
          have hx := hT t (Env.lt_of_size (by omega))
          obtain ⟨vs, hlen, hr, hcell⟩ := (hH.blk b _ hl).load hc.2
          have hrun := run_loadVar_list (w := w) hx (X.addr b off) vs hlen hc.1 hcell
          refine ⟨_, by simp [hu, asAddr, hrun]; rfl, ?_⟩
          cases hag : (e.T t).agg with
          | true => exact ⟨vs, by simp, hr⟩
          | false =>
            have hsl : (slice l off (e.T t).size).length = (e.T t).size := by simp [slice]; omega
            match hcs : slice l off (e.T t).size, vs, hr with
            | [], _, _ => rw [hcs] at hsl; simp at hsl; omega
            | [x], [u], .cons r .nil => exact r
            | _ :: _ :: _, _, _ => trivial
        · simp at hv
      · simp at hv
    · simp at hv

theorem resAVs_ok (hT : TAll P e) {s : St} {a : Act} {ds : List Deferred} (ht : TOk X w s a ds) (hH : RelH X s.heap w) : ∀ {rs : List ResultVar} {vs : List AV}, resAVs e s rs = some vs →
    ∃ cvs, (rs.mapM (fun r => (match r with
      | .tmp t => pure (a.tmps.getD t undef)
      | .cell p t => do loadVar t (← asAddr (a.tmps.getD p undef)) : Sem Value))).run P w = .ok cvs w ∧ All2 (RepV X s.heap w) vs cvs
  | [], vs, hv => by simp [resAVs] at hv; subst hv; exact ⟨[], by simp, .nil⟩
  | r :: rs, vs, hv => by
    unfold resAVs at hv
    split at hv
    · rename_i v l h1 h2
      simp at hv; subst hv
      obtain ⟨cv, hr1, hv1⟩ := resAV_ok hT ht hH h1
      obtain ⟨cvs, hr2, hv2⟩ := resAVs_ok hT ht hH h2
      refine ⟨cv :: cvs, ?_, .cons hv1 hv2⟩
      rw [List.mapM_cons]
      simp only [Sem.run_bind, hr1, hr2, Result.andThen_ok, Sem.run_pure]
    · simp at hv

theorem tuple_ok : ∀ {vs : List AV} {cvs : List Value} {v : AV}, All2 (RepV X h w) vs cvs → (match some vs with | some [v] => some v | some vs => some (AV.tup (vs.map AV.part?)) | none => none) = some v →
    RepV X h w v (if h : cvs.toArray.size = 1 then cvs.toArray[0] else .tuple cvs.toArray)
  | [v1], [c1], v, .cons h1 .nil, hv => by simp at hv; subst hv; simpa using h1
  | [], [], v, .nil, hv => by simp at hv; subst hv; exact ⟨[], by simp, .nil⟩
  | v1 :: v2 :: vs, c1 :: c2 :: cs, v, hr, hv => by
    simp at hv; subst hv
    refine ⟨c1 :: c2 :: cs, by simp, ?_⟩
    have : All2 (RepP X h w) ((v1 :: v2 :: vs).map AV.part?) (c1 :: c2 :: cs) := All2.map (All2.mono hr fun _ _ q => repV_ofPart_part q)
    simpa using this

theorem results_ok (hT : TAll P e) {fn : Func} {s : St} {a : Act} {ds : List Deferred} (ht : TOk X w s a ds) (hH : RelH X s.heap w) {v : AV} (hv : resultsR e fn s = some v) :
    ∃ cv, (results fn a.tmps).run P w = .ok cv w ∧ RepV X s.heap w v cv := by
  unfold resultsR at hv
  cases hrs : resAVs e s fn.results.toList with
  | none => rw [hrs] at hv; simp at hv
  | some vs =>
    obtain ⟨cvs, hrun, hr⟩ := resAVs_ok hT ht hH hrs
    have hrun' : (results fn a.tmps).run P w = .ok (if h : cvs.toArray.size = 1 then cvs.toArray[0] else .tuple cvs.toArray) w := by
      unfold results
      rw [Array.mapM_eq_mapM_toList]
      simp only [Sem.run_bind, Sem.run_map, Result.andThen_ok]
      refine Eq.trans (congrArg (fun r => Result.andThen r _) (congrArg (fun r => Result.andThen r _) hrun)) ?_
      simp
    rw [hrs] at hv
    exact ⟨_, hrun', tuple_ok hr hv⟩

theorem run_ok (hm : P.follows .mixedOrders = true) (hT : TAll P e) (hC : CallsOk P e) (hS : StepHOk P e) {f : FuncId} {fn : Func} (hf : P.funcs[f]? = some fn) (hen : ∀ args w, (callFunc f args).run P w = .ok (.enter f args) w) :
    SpecOk P f (runR e fn) := by
  refine ⟨hen, fun X h w args cargs v h' hH hargs hv => ?_⟩
  unfold runR at hv
  split at hv
  · simp [Res.eval] at hv
  rename_i c hc
  rw [Res.eval_bind] at hv
  obtain ⟨⟨x, s⟩, hp, hv⟩ := Option.bind_eq_some_iff.mp hv
  have hlen := hargs.len
  refine calls_of_wp hf hc (wp_mono (code_ok hm hT hC hS (X0 := X) (h0 := h) (w0 := w) (ds := []) c _ _ w X x s ⟨rfl, ?_, fun t av hav => ?_⟩ (Good.refl hH) hp) fun ex a' w' hq => ?_)
  · simp [hlen]
  · show RepV X h w av _
    rw [List.getElem?_append] at hav
    rw [Array.getD_eq_getD_getElem?, Array.getElem?_append]
    split at hav
    · rename_i hlt
      obtain ⟨u, hu, hr⟩ := hargs.get hav
      rw [if_pos (by simp; omega)]
      simpa [hu] using hr
    · rw [List.getElem?_replicate] at hav
      split at hav
      · simp at hav; subst hav; trivial
      · simp at hav
  · obtain ⟨rfl, X', ht, hg⟩ := hq
    have fin : ∀ v0, resultsR e fn s = some v0 → (nodupB (reachOf s.heap (List.range h.length ++ refsV v0)) && firstB 0 h.length (reachOf s.heap (List.range h.length ++ refsV v0))) = true →
        (renV (fun x => idxOf x (reachOf s.heap (List.range h.length ++ refsV v0))) v0, pickB s.heap (reachOf s.heap (List.range h.length ++ refsV v0))) = (v, h') →
        a'.defers = [] ∧ ∃ cv, (results fn a'.tmps).run P w' = .ok cv w' ∧ Ends X h w v h' (.returned cv) w' := by
      intro v0 hres hcond heq
      simp only [Bool.and_eq_true] at hcond
      obtain ⟨rfl, rfl⟩ := Prod.mk.injEq .. ▸ heq
      obtain ⟨cv, hrun, hr⟩ := results_ok hT ht hg.rel hres
      exact ⟨ht.defers, cv, hrun, cv, _, rfl, renV_ok (pick_fits _) hr, hg.pick hcond.1 hcond.2⟩
    cases x with
    | exit id => simp [Res.eval] at hv
    | normal =>
      simp only at hv
      split at hv
      · simp [Res.eval] at hv
      · rename_i v0 hres
        split at hv
        · rename_i hcond
          simp only [Res.eval, Option.some.injEq] at hv
          exact fin v0 hres hcond hv
        · simp [Res.eval] at hv
    | ret =>
      simp only at hv
      split at hv
      · simp [Res.eval] at hv
      · rename_i v0 hres
        split at hv
        · rename_i hcond
          simp only [Res.eval, Option.some.injEq] at hv
          exact fin v0 hres hcond hv
        · simp [Res.eval] at hv

end
end Ab
