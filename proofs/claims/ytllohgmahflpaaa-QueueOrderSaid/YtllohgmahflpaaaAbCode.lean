/- Code carried out; a function called. -/
import Derived.Test.YtllohgmahflpaaaAbRen
import Derived.Scope
set_option linter.unusedSectionVars false
set_option linter.unusedSimpArgs false
set_option linter.unusedVariables false
namespace Ab
open Go
section
variable [Uni] [Cod]
variable {P : Program} {e : Env} {X Y : Cx} {h i : List Blk} {w w' : World} {v : AV}

def Ex.to : Ex → Exit
  | .normal => .normal
  | .exit id => .exit id
  | .ret => .ret

/-- The state stands for a frame. -/
structure TOk (X : Cx) (w : World) (s : St) (a : Act) (ds : List Deferred) : Prop where
  defers : a.defers = ds
  len : s.tmps.length = a.tmps.size
  tmp : ∀ t av, s.tmps[t]? = some av → RepV X s.heap w av (a.tmps.getD t undef)

/-- What holds behind a piece of code. -/
def Post (X0 : Cx) (h0 : List Blk) (w0 : World) (ds : List Deferred) (x : Ex) (s' : St) : Exit → Act → World → Prop := fun ex a' w' =>
  ex = x.to ∧ ∃ X', TOk X' w' s' a' ds ∧ Good X0 h0 w0 X' s'.heap w'

theorem TOk.lit {s : St} {a : Act} {ds : List Deferred} (h : TOk X w s a ds) {c : Operand} {b : Bool} (hc : evO s [] [] c = .c (.bool b)) : TOk X w (setCond s c b) a ds ∧ a.eval c = .bool b := by
  have ev : a.eval c = .bool b := by
    have iv : Inv X w ⟨[], []⟩ s a.tmps [] := ⟨h.len, h.tmp, fun p hp => by simp at hp, fun q hq => by simp at hq⟩
    have := evO_ok (ds := a.defers) iv (gs := []) (by simp) c
    rw [show (Rg.W ⟨[], []⟩ : List (Tmp × List (Tmp × Bool) × AV)) = [] from rfl, hc] at this
    exact repC_bool this
  refine ⟨?_, ev⟩
  cases c with
  | tmp t =>
    refine ⟨h.defers, by simp [setCond, setLit, h.len], fun u av hu => ?_⟩
    simp only [setCond, setLit, List.getElem?_set] at hu
    split at hu
    · rename_i heq
      subst heq
      split at hu
      · simp at hu; subst hu
        have : a.tmps.getD t undef = .bool b := ev
        rw [this]; exact RepC.bool
      · simp at hu
    · exact h.tmp u av hu
  | _ => exact h

theorem setCond_heap (s : St) (c : Operand) (b : Bool) : (setCond s c b).heap = s.heap := by cases c <;> rfl

theorem mask_get : ∀ {m l : List AV} {t : Nat} {av : AV}, (mask m l)[t]? = some av → av = .top ∨ l[t]? = some av
  | m, [], t, av, h => by
    have : mask m [] = [] := by unfold mask; split <;> simp_all
    rw [this] at h; simp at h
  | [], v :: l, t, av, h => by
    left
    unfold mask at h
    rw [List.getElem?_map] at h
    obtain ⟨_, _, h2⟩ := Option.map_eq_some_iff.mp h
    exact h2.symm
  | x :: m, v :: l, t, av, h => by
    cases t with
    | zero =>
      unfold mask at h
      split at h
      · simp at h; exact .inl h.symm
      · rename_i h1 h2; simp at h1 h2 h
        obtain ⟨rfl, rfl⟩ := h2; exact .inr (by simpa using h)
      · simp_all
    | succ t =>
      unfold mask at h
      split at h
      · rename_i h1 h2; simp at h1 h2 h
        obtain ⟨rfl, rfl⟩ := h1; obtain ⟨rfl, rfl⟩ := h2
        have := mask_get h; simpa using this
      · rename_i h1 h2; simp at h1 h2 h
        obtain ⟨rfl, rfl⟩ := h1; obtain ⟨rfl, rfl⟩ := h2
        have := mask_get h; simpa using this
      · simp_all

theorem mask_len : ∀ (m l : List AV), (mask m l).length = l.length
  | m, [] => by unfold mask; split <;> simp_all
  | [], v :: l => by simp [mask]
  | x :: m, v :: l => by
    unfold mask
    split
    · rename_i h1 h2; simp at h1 h2; obtain ⟨rfl, rfl⟩ := h1; obtain ⟨rfl, rfl⟩ := h2; simp [mask_len]
    · rename_i h1 h2; simp at h1 h2; obtain ⟨rfl, rfl⟩ := h1; obtain ⟨rfl, rfl⟩ := h2; simp [mask_len]
    · simp

theorem canon_ok {X0 : Cx} {h0 : List Blk} {w0 : World} {s s1 : St} {a : Act} {ds : List Deferred} {m : List AV} (ht : TOk X w s a ds) (hg : Good X0 h0 w0 X s.heap w) (hc : (canon h0.length m s).eval = some s1) :
    ∃ X1, TOk X1 w s1 a ds ∧ Good X0 h0 w0 X1 s1.heap w := by
  unfold canon at hc
  simp only at hc
  split at hc
  · rename_i hcond
    simp only [Bool.and_eq_true] at hcond
    simp only [Res.eval, Option.some.injEq] at hc
    subst hc
    refine ⟨_, ⟨ht.defers, by simp [mask_len, ht.len], fun t av hav => ?_⟩, hg.pick hcond.1 hcond.2⟩
    rw [List.getElem?_map] at hav
    obtain ⟨av', hav', rfl⟩ := Option.map_eq_some_iff.mp hav
    refine renV_ok (pick_fits _) ?_
    rcases mask_get hav' with rfl | h1
    · trivial
    · exact ht.tmp t av' h1
  · simp [Res.eval] at hc

/-- A row that has nothing, at the end. -/
theorem Good.pushNo (hH : RelH X h w) (c : Nat) : Good X h w (X.push h.length 0 False) (h ++ [.row c []]) w := by
  have m := mono_push (X := X) (h := h) (bl := .row c []) 0 False
  have key : ∀ b k q, foot (X.push h.length 0 False) (h ++ [.row c []]) b k q → foot X h b k q := by
    intro b k q hf
    have hb := foot_blt hf
    simp at hb
    rcases Nat.lt_or_ge b h.length with hlt | hge
    · rw [foot_push hlt] at hf; exact hf
    · have : b = h.length := by omega
      subst this
      unfold foot at hf
      simp [Cx.push] at hf
  refine ⟨⟨fun b bl hb => ?_, fun b b' k q hf hf' => hH.disj b b' k q (key _ _ _ hf) (key _ _ _ hf'), fun b k q hf => hH.free b k q (key _ _ _ hf), hH.fsz⟩, m, Ext.refl _ w, fun _ _ f => .inl f, fun b k q hf => .inr ⟨b, key _ _ _ hf⟩⟩
  rcases Nat.lt_or_ge b h.length with hlt | hge
  · rw [List.getElem?_append_left hlt] at hb
    exact (hH.blk b bl hb).keep hb m (Ext.refl _ w) (fun _ _ _ => rfl) rfl (fun _ _ => sameMk.refl _)
  · have hbe : b = h.length := by
      have := lt_of_list hb; simp at this; omega
    subst hbe
    simp at hb; subst hb
    exact ⟨fun ho => by simp [Cx.push] at ho, fun _ => rfl⟩

theorem isNo_slw {x : Cl} {v : Value} {c : Nat} (hx : isNo x = true) (r : RepC X h w x v) : RepC (X.push h.length 0 False) (h ++ [.row c []]) w (.slw h.length) v := by
  have hv : ∃ a, v = .slice a 0 0 := by
    cases x <;> simp [isNo] at hx <;> cases r <;> exact ⟨_, rfl⟩
  obtain ⟨a, rfl⟩ := hv
  refine .slw (by simp) (fun c' L hL => .inr ⟨by simp [Cx.push], a, rfl⟩) rfl

/-- A block's cells told otherwise. -/
theorem Good.recell (hH : RelH X h w) {b : Nat} {l l' : List Cl} (hb : h[b]? = some (.cells l)) (hlen : l'.length = l.length) (hr : ∀ (i : Nat) x x' v, l[i]? = some x → l'[i]? = some x' → RepC X h w x v → RepC X h w x' v) :
    Good X h w X (h.set b (.cells l')) w := by
  have m' : Mono X h X (h.set b (.cells l')) := mono_set (fun c L' hh => by simp at hh)
  have hbl := lt_of_list hb
  have key : ∀ b' k q, foot X (h.set b (.cells l')) b' k q → foot X h b' k q := by
    intro b' k q hf
    rcases foot_set hbl hf with rfl | h1
    · unfold foot at hf ⊢
      simp [hbl] at hf
      rw [hb]; rw [hlen] at hf; exact hf
    · exact h1
  refine ⟨⟨fun b' bl hb' => ?_, fun b1 b2 k q hf hf' => hH.disj b1 b2 k q (key _ _ _ hf) (key _ _ _ hf'), fun b k q hf => hH.free b k q (key _ _ _ hf), hH.fsz⟩, m', Ext.refl _ w, fun _ _ f => .inl f, fun b k q hf => .inr ⟨b, key _ _ _ hf⟩⟩
  by_cases heq : b = b'
  · subst heq
    simp [hbl] at hb'; subst hb'
    obtain ⟨carr, el, ⟨fz, hw, hfz⟩, hsz, hcell⟩ := hH.blk b _ hb
    refine ⟨carr, el, ⟨fz, hw, hfz⟩, by omega, fun i x hx => ?_⟩
    have hi : i < l.length := by have := lt_of_list hx; omega
    obtain ⟨v, hv, rv⟩ := hcell i _ (List.getElem?_eq_getElem hi)
    exact ⟨v, hv, (hr i _ x v (List.getElem?_eq_getElem hi) hx rv).mono m' (Ext.refl _ w)⟩
  · rw [List.getElem?_set, if_neg heq] at hb'
    exact (hH.blk b' bl hb').keep hb' m' (Ext.refl _ w) (fun _ _ _ => rfl) rfl (fun _ _ => sameMk.refl _)

/-- A slice of slices that has nothing, at the end. -/
theorem Good.pushNoB (hH : RelH X h w) (c2 c : Nat) : Good X h w (X.push h.length 0 False) (h ++ [.bg c2 c [] none]) w := by
  have m := mono_push (X := X) (h := h) (bl := .bg c2 c [] none) 0 False
  have key : ∀ b k q, foot (X.push h.length 0 False) (h ++ [.bg c2 c [] none]) b k q → foot X h b k q := by
    intro b k q hf
    have hb := foot_blt hf
    simp at hb
    rcases Nat.lt_or_ge b h.length with hlt | hge
    · rw [foot_push hlt] at hf; exact hf
    · have : b = h.length := by omega
      subst this
      unfold foot at hf
      simp [Cx.push] at hf
  refine ⟨⟨fun b bl hb => ?_, fun b b' k q hf hf' => hH.disj b b' k q (key _ _ _ hf) (key _ _ _ hf'), fun b k q hf => hH.free b k q (key _ _ _ hf), hH.fsz⟩, m, Ext.refl _ w, fun _ _ f => .inl f, fun b k q hf => .inr ⟨b, key _ _ _ hf⟩⟩
  rcases Nat.lt_or_ge b h.length with hlt | hge
  · rw [List.getElem?_append_left hlt] at hb
    exact (hH.blk b bl hb).keep hb m (Ext.refl _ w) (fun _ _ _ => rfl) rfl (fun _ _ => sameMk.refl _)
  · have hbe : b = h.length := by
      have := lt_of_list hb; simp at this; omega
    subst hbe
    simp at hb; subst hb
    exact ⟨fun ho => by simp [Cx.push] at ho, fun _ => ⟨rfl, rfl⟩⟩

theorem isNo_jk {x : Cl} {v : Value} {c2 c : Nat} (hx : isNo x = true) (r : RepC X h w x v) : RepC (X.push h.length 0 False) (h ++ [.bg c2 c [] none]) w (.jk h.length .whole) v := by
  have hv : ∃ a, v = .slice a 0 0 := by
    cases x <;> simp [isNo] at hx <;> cases r <;> exact ⟨_, rfl⟩
  obtain ⟨a, rfl⟩ := hv
  refine .jk (by simp) (fun c2' c' LL' p' hL => ?_) rfl
  simp at hL
  obtain ⟨rfl, rfl, hL, rfl⟩ := hL
  exact ⟨.inr ⟨by simp [Cx.push], rfl, a, rfl⟩, fun _ ho => by simp [Cx.push] at ho⟩

theorem getD_of {l : List AV} {t : Nat} {v : AV} (h : l[t]? = some v) : t < l.length := lt_of_list h

theorem coe1_ok {X0 : Cx} {h0 : List Blk} {w0 : World} {s : St} {a : Act} {ds : List Deferred} (p : Plc) (ht : TOk X w s a ds) (hg : Good X0 h0 w0 X s.heap w) : ∃ X1, TOk X1 w (coe1 s p) a ds ∧ Good X0 h0 w0 X1 (coe1 s p).heap w := by
  have same : ∃ X1, TOk X1 w s a ds ∧ Good X0 h0 w0 X1 s.heap w := ⟨X, ht, hg⟩
  have gp := fun c => Good.pushNo hg.rel c
  cases p with
  | rsb b j c =>
    unfold coe1
    simp only
    split
    · rename_i l hl
      split
      · rename_i x hx
        cases hno : isNo x with
        | false => exact same
        | true =>
          have g2 := Good.recell (l' := l.set j (.rs c [])) hg.rel hl (by simp) (fun i y y' v hy hy' rv => by
            rw [List.getElem?_set] at hy'
            split at hy'
            · rename_i hji
              subst hji
              split at hy'
              · simp at hy'; subst hy'
                rw [hx] at hy; simp at hy; subst hy
                have hv : ∃ a, v = .slice a 0 0 := by
                  cases x <;> simp [isNo] at hno <;> cases rv <;> exact ⟨_, rfl⟩
                obtain ⟨a, rfl⟩ := hv
                exact .rs (L := []) (cv := fun _ _ => undef) (Nat.le_refl _) (fun i x hx => by simp at hx) (fun i x j y hx => by simp at hx)
              · simp at hy'
            · rw [hy] at hy'; simp at hy'; subst hy'; exact rv)
          exact ⟨_, ⟨ht.defers, ht.len, fun u av hu => RepV.mono g2.mono (Ext.refl _ w) (ht.tmp u av hu)⟩, hg.trans g2⟩
      · exact same
    · exact same
  | drop t =>
    refine ⟨X, ⟨ht.defers, by simp [coe1, ht.len], fun u av hu => ?_⟩, hg⟩
    simp only [coe1, List.getElem?_set] at hu
    split at hu
    · split at hu
      · simp at hu; subst hu; trivial
      · simp at hu
    · exact ht.tmp u av hu
  | bag t c2 c =>
    unfold coe1
    simp only
    split
    · rename_i x hx
      cases hno : isNo x with
      | false => exact same
      | true =>
        have gb := Good.pushNoB hg.rel c2 c
        refine ⟨_, ⟨ht.defers, by simp [ht.len], fun u av hu => ?_⟩, hg.trans gb⟩
        simp only [List.getElem?_set] at hu
        split at hu
        · rename_i heq
          subst heq
          split at hu
          · simp at hu; subst hu
            exact isNo_jk hno (ht.tmp t _ hx)
          · simp at hu
        · exact RepV.mono gb.mono (Ext.refl _ w) (ht.tmp u av hu)
    · exact same
  | tmp t c =>
    unfold coe1
    simp only
    split
    · rename_i x hx
      cases hno : isNo x with
      | false => exact same
      | true =>
        refine ⟨_, ⟨ht.defers, by simp [ht.len], fun u av hu => ?_⟩, hg.trans (gp c)⟩
        simp only [List.getElem?_set] at hu
        split at hu
        · rename_i heq
          subst heq
          split at hu
          · simp at hu; subst hu
            exact isNo_slw hno (ht.tmp t _ hx)
          · simp at hu
        · exact RepV.mono (gp c).mono (Ext.refl _ w) (ht.tmp u av hu)
    · exact same
  | cell t j c =>
    unfold coe1
    simp only
    split
    · rename_i l hl
      split
      · rename_i x hx
        cases hno : isNo x with
        | false => exact same
        | true =>
          refine ⟨_, ⟨ht.defers, by simp [ht.len], fun u av hu => ?_⟩, hg.trans (gp c)⟩
          simp only [List.getElem?_set] at hu
          split at hu
          · rename_i heq
            subst heq
            split at hu
            · simp at hu; subst hu
              obtain ⟨vs, hvs, rl⟩ := ht.tmp t _ hl
              refine ⟨vs, hvs, All2.of_get (by simp [rl.len]) (fun i y v hy hv => ?_)⟩
              rw [List.getElem?_set] at hy
              split at hy
              · rename_i hji
                subst hji
                split at hy
                · simp at hy; subst hy
                  obtain ⟨v', hv', rv⟩ := rl.get hx
                  rw [hv] at hv'; simp at hv'; subst hv'
                  exact isNo_slw hno rv
                · simp at hy
              · obtain ⟨v', hv', rv⟩ := rl.get hy
                rw [hv] at hv'; simp at hv'; subst hv'
                exact rv.mono (gp c).mono (Ext.refl _ w)
            · simp at hu
          · exact RepV.mono (gp c).mono (Ext.refl _ w) (ht.tmp u av hu)
      · exact same
    · exact same
  | blk b j c =>
    unfold coe1
    simp only
    split
    · rename_i l hl
      split
      · rename_i x hx
        cases hno : isNo x with
        | false => exact same
        | true =>
          have hbl := lt_of_list hl
          have g1 := gp c
          have hl' : (s.heap ++ [Blk.row c []])[b]? = some (.cells l) := by rw [List.getElem?_append_left hbl]; exact hl
          have g2 := Good.recell (l' := l.set j (.slw s.heap.length)) g1.rel hl' (by simp) (fun i y y' v hy hy' rv => by
            rw [List.getElem?_set] at hy'
            split at hy'
            · rename_i hji
              subst hji
              split at hy'
              · simp at hy'; subst hy'
                rw [hx] at hy; simp at hy; subst hy
                have hv : ∃ a, v = .slice a 0 0 := by
                  cases x <;> simp [isNo] at hno <;> cases rv <;> exact ⟨_, rfl⟩
                obtain ⟨a, rfl⟩ := hv
                exact .slw (by simp) (fun c' L hL => .inr ⟨by simp [Cx.push], a, rfl⟩) rfl
              · simp at hy'
            · rw [hy] at hy'; simp at hy'; subst hy'; exact rv)
          refine ⟨_, ⟨ht.defers, ht.len, fun u av hu => ?_⟩, (hg.trans g1).trans g2⟩
          exact RepV.mono g2.mono (Ext.refl _ w) (RepV.mono g1.mono (Ext.refl _ w) (ht.tmp u av hu))
      · exact same
    · exact same

theorem coeS_ok {X0 : Cx} {h0 : List Blk} {w0 : World} {a : Act} {ds : List Deferred} : ∀ (ps : List Plc) {X : Cx} {s : St}, TOk X w s a ds → Good X0 h0 w0 X s.heap w → ∃ X1, TOk X1 w (coeS ps s) a ds ∧ Good X0 h0 w0 X1 (coeS ps s).heap w
  | [], X, s, ht, hg => ⟨X, ht, hg⟩
  | p :: r, X, s, ht, hg => by
    obtain ⟨X1, ht1, hg1⟩ := coe1_ok p ht hg
    exact coeS_ok r ht1 hg1

theorem keepT_len {ks : List Nat} : ∀ {l : List AV} {i : Nat}, (keepT ks i l).length = l.length
  | [], i => rfl
  | v :: r, i => by simp [keepT, keepT_len]
theorem keepT_get {ks : List Nat} : ∀ {l : List AV} {i t : Nat} {av : AV}, (keepT ks i l)[t]? = some av → av = .top ∨ l[t]? = some av
  | [], i, t, av, h => by simp [keepT] at h
  | v :: r, i, 0, av, h => by
    simp only [keepT, List.getElem?_cons_zero, Option.some.injEq] at h
    split at h
    · exact .inr (by simpa using h)
    · exact .inl h.symm
  | v :: r, i, t + 1, av, h => by
    simp only [keepT, List.getElem?_cons_succ] at h ⊢
    exact keepT_get h
theorem clr_ok {s : St} {a : Act} {ds : List Deferred} (k : Option (List Nat)) (ht : TOk X w s a ds) : TOk X w (clrS k s) a ds ∧ (clrS k s).heap = s.heap := by
  cases k with
  | none => exact ⟨ht, rfl⟩
  | some ks =>
    refine ⟨⟨ht.defers, by rw [← ht.len]; exact keepT_len, fun t av h => ?_⟩, rfl⟩
    rcases keepT_get h with rfl | h
    · trivial
    · exact ht.tmp t av h

theorem code_ok (hm : P.follows .mixedOrders = true) (hT : TAll P e) (hC : CallsOk P e) (hS : StepHOk P e) {X0 : Cx} {h0 : List Blk} {w0 : World} {ds : List Deferred} :
    ∀ (c : Code) (s : St) (a : Act) (w : World) (X : Cx) (x : Ex) (s' : St), TOk X w s a ds → Good X0 h0 w0 X s.heap w → (codeR e h0.length c s).eval = some (x, s') → c.wp P (Post X0 h0 w0 ds x s') a w := by
  intro c
  induction c with
  | skip =>
    intro s a w X x s' ht hg hv
    simp only [codeR, Res.eval, Option.some.injEq, Prod.mk.injEq] at hv
    obtain ⟨rfl, rfl⟩ := hv
    exact wp_skip ⟨rfl, X, ht, hg⟩
  | label l =>
    intro s a w X x s' ht hg hv
    simp only [codeR, Res.eval, Option.some.injEq, Prod.mk.injEq] at hv
    obtain ⟨rfl, rfl⟩ := hv
    exact wp_label ⟨rfl, X, ht, hg⟩
  | region id ops d =>
    intro s a w X x s' ht hg hv
    have after : ∀ s1, x = .normal → s1 = s' → After X s.heap w a.defers s1 (Post X0 h0 w0 ds x s') := by
      intro s1 hx hs a' w' X' h1 h2 h3 h4
      subst hs; subst hx
      exact ⟨rfl, X', ⟨by rw [h1]; exact ht.defers, h2, h3⟩, hg.trans h4⟩
    unfold codeR at hv
    split at hv
    · split at hv
      case isFalse => simp [Res.eval] at hv
      rename_i hwf
      rw [Res.eval_bind] at hv
      obtain ⟨s1, hs1, hv⟩ := Option.bind_eq_some_iff.mp hv
      simp only [Res.eval, Option.some.injEq, Prod.mk.injEq] at hv
      obtain ⟨h1, h2⟩ := hv
      exact region_ok hT hC hS hwf ht.len ht.tmp hg.rel hs1 (after s1 h1.symm h2)
    · simp only at hv
      split at hv
      case h_2 => simp [Res.eval] at hv
      rename_i r hr
      split at hv
      case isFalse => simp [Res.eval] at hv
      rename_i hwf
      simp only [Bool.and_eq_true] at hwf
      have fin : ∀ dr fr, (fr = true → ddB ops = true) → goesB e dr fr .any ops (Array.replicate ops.size false) (orderG e .any ops ops.size (Array.replicate ops.size false)) = true →
          ((opsR e dr fr ops.toList r ⟨[], []⟩ s).bind fun s => .val (Ex.normal, s)).eval = some (x, s') → (Code.region id ops true).wp P (Post X0 h0 w0 ds x s') a w := by
        intro dr fr hdd hgo hv
        rw [Res.eval_bind] at hv
        obtain ⟨s1, hs1, hv⟩ := Option.bind_eq_some_iff.mp hv
        simp only [Res.eval, Option.some.injEq, Prod.mk.injEq] at hv
        obtain ⟨h1, h2⟩ := hv
        exact region_draw_ok hm hT hC hS hdd hr hwf.1.1 hwf.1.2 hwf.2 hgo ht.len ht.tmp hg.rel hs1 (after s1 h1.symm h2)
      split at hv
      · rename_i hgo; exact fin false false (fun h => by cases h) hgo hv
      · split at hv
        · rename_i hgo; exact fin true false (fun h => by cases h) hgo hv
        · split at hv
          · rename_i hgo
            simp only [Bool.and_eq_true] at hgo
            exact fin true true (fun _ => hgo.2) hgo.1 hv
          · simp [Res.eval] at hv
  | seq c1 c2 ih1 ih2 =>
    intro s a w X x s' ht hg hv
    unfold codeR at hv
    rw [Res.eval_bind] at hv
    obtain ⟨⟨x1, s1⟩, hp, hv⟩ := Option.bind_eq_some_iff.mp hv
    refine wp_seq (wp_mono (ih1 s a w X x1 s1 ht hg hp) fun ex a' w' hq => ?_)
    obtain ⟨rfl, X', ht', hg'⟩ := hq
    cases x1 with
    | normal => exact ih2 s1 a' w' X' x s' ht' hg' hv
    | exit id =>
      simp only [Res.eval, Option.some.injEq, Prod.mk.injEq] at hv
      obtain ⟨rfl, rfl⟩ := hv
      exact ⟨rfl, X', ht', hg'⟩
    | ret =>
      simp only [Res.eval, Option.some.injEq, Prod.mk.injEq] at hv
      obtain ⟨rfl, rfl⟩ := hv
      exact ⟨rfl, X', ht', hg'⟩
  | cond c c1 c2 ih1 ih2 =>
    intro s a w X x s' ht hg hv
    unfold codeR at hv
    split at hv
    · rename_i t hc
      obtain ⟨ht', hev⟩ := ht.lit hc
      rw [Res.eval_br] at hv
      cases t with
      | true => exact wp_cond_true hev (ih1 _ a w X x s' ht' (by rw [setCond_heap]; exact hg) hv)
      | false => exact wp_cond_false hev (ih2 _ a w X x s' ht' (by rw [setCond_heap]; exact hg) hv)
    · simp [Res.eval] at hv
  | block id c ih =>
    intro s a w X x s' ht hg hv
    unfold codeR at hv
    rw [Res.eval_bind] at hv
    obtain ⟨⟨x1, s1⟩, hp, hv⟩ := Option.bind_eq_some_iff.mp hv
    refine wp_block (wp_mono (ih s a w X x1 s1 ht hg hp) fun ex a' w' hq => ?_)
    obtain ⟨rfl, X', ht', hg'⟩ := hq
    cases x1 with
    | normal =>
      simp only [Res.eval, Option.some.injEq, Prod.mk.injEq] at hv
      obtain ⟨rfl, rfl⟩ := hv
      exact ⟨rfl, X', ht', hg'⟩
    | exit j =>
      simp only at hv
      split at hv
      · rename_i hj
        simp only [Nat.beq_eq] at hj
        simp only [Res.eval, Option.some.injEq, Prod.mk.injEq] at hv
        obtain ⟨rfl, rfl⟩ := hv
        subst hj
        show (if j = j then Post X0 h0 w0 ds .normal s1 .normal a' w' else _)
        rw [if_pos rfl]
        exact ⟨rfl, X', ht', hg'⟩
      · rename_i hj
        simp only [Nat.beq_eq] at hj
        simp only [Res.eval, Option.some.injEq, Prod.mk.injEq] at hv
        obtain ⟨rfl, rfl⟩ := hv
        show (if j = id then _ else Post X0 h0 w0 ds (.exit j) s1 (.exit j) a' w')
        rw [if_neg hj]
        exact ⟨rfl, X', ht', hg'⟩
    | ret =>
      simp only [Res.eval, Option.some.injEq, Prod.mk.injEq] at hv
      obtain ⟨rfl, rfl⟩ := hv
      exact ⟨rfl, X', ht', hg'⟩
  | loop c ih =>
    intro s a w X x s' ht hg hv
    unfold codeR at hv
    intro b k cs
    have key : ∀ (n : Nat) (m : List AV) (s : St) (a : Act) (w : World) (X : Cx), TOk X w s a ds → Good X0 h0 w0 X s.heap w → (loopR (codeR e h0.length c) h0.length m n s).eval = some (x, s') →
        ∃ ex a' w', Post X0 h0 w0 ds x s' ex a' w' ∧ Arrives P (lone (b.at a (.code c :: .inLoop c :: k)) cs w) b k cs ex a' w' := by
      intro n
      induction n with
      | zero => intro m s a w X ht hg hv; simp [loopR, Res.eval] at hv
      | succ n ihn =>
        intro m s a w X ht hg hv
        unfold loopR at hv
        rw [Res.eval_bind] at hv
        obtain ⟨s1, hs1, hv⟩ := Option.bind_eq_some_iff.mp hv
        rw [Res.eval_bind] at hv
        obtain ⟨⟨x1, s2⟩, hp, hv⟩ := Option.bind_eq_some_iff.mp hv
        obtain ⟨X1, ht1, hg1⟩ := canon_ok ht hg hs1
        obtain ⟨ex, a1, w1, hq, harr⟩ := ih s1 a w X1 x1 s2 ht1 hg1 hp b (.inLoop c :: k) cs
        obtain ⟨rfl, X', ht', hg'⟩ := hq
        cases x1 with
        | normal =>
          obtain ⟨ex, a2, w2, hq2, harr2⟩ := ihn m s2 a1 w1 X' ht' hg' hv
          exact ⟨ex, a2, w2, hq2, .of_steps (Steps.trans harr (.one step_inLoop)) harr2⟩
        | exit id =>
          simp only [Res.eval_bind] at hv
          obtain ⟨s3, hs3, hv⟩ := Option.bind_eq_some_iff.mp hv
          obtain ⟨X3, ht3, hg3⟩ := canon_ok ht' hg' hs3
          simp only [Res.eval, Option.some.injEq, Prod.mk.injEq] at hv
          obtain ⟨rfl, rfl⟩ := hv
          exact ⟨_, a1, w1, ⟨rfl, X3, ht3, hg3⟩, .pass (x := .inLoop c) rfl (fun _ _ => .inl (by simp [Ex.to])) harr⟩
        | ret =>
          simp only [Res.eval_bind] at hv
          obtain ⟨s3, hs3, hv⟩ := Option.bind_eq_some_iff.mp hv
          obtain ⟨X3, ht3, hg3⟩ := canon_ok ht' hg' hs3
          simp only [Res.eval, Option.some.injEq, Prod.mk.injEq] at hv
          obtain ⟨rfl, rfl⟩ := hv
          exact ⟨_, a1, w1, ⟨rfl, X3, ht3, hg3⟩, .pass (x := .inLoop c) rfl (fun _ _ => .inl (by simp [Ex.to])) harr⟩
    obtain ⟨Xc, htc, hgc⟩ := coeS_ok e.rows ht hg
    obtain ⟨ex, a', w', hq, harr⟩ := key _ _ _ a w Xc htc hgc hv
    exact ⟨ex, a', w', hq, .of_steps (.one step_loop) harr⟩
  | exit id =>
    intro s a w X x s' ht hg hv
    simp only [codeR, Res.eval, Option.some.injEq, Prod.mk.injEq] at hv
    obtain ⟨rfl, rfl⟩ := hv
    exact wp_exit ⟨rfl, X, ht, hg⟩
  | ret =>
    intro s a w X x s' ht hg hv
    simp only [codeR, Res.eval, Option.some.injEq, Prod.mk.injEq] at hv
    obtain ⟨rfl, rfl⟩ := hv
    exact wp_ret ⟨rfl, X, (clr_ok e.keep ht).1, by rw [(clr_ok e.keep ht).2]; exact hg⟩
  | scope c ih =>
    intro s a w X x s' ht hg hv
    unfold codeR at hv
    refine wp_scope_straight (wp_mono (ih s a w X x s' ht hg hv) fun ex a' w' hq => ?_)
    obtain ⟨rfl, X', ht', hg'⟩ := hq
    cases x <;> exact ⟨rfl, X', ht', hg'⟩
  | rangeFunc f ps c1 c2 _ _ => intro s a w X x s' ht hg hv; simp [codeR, Res.eval] at hv
  | goto l => intro s a w X x s' ht hg hv; simp [codeR, Res.eval] at hv
  | refuse why => intro s a w X x s' ht hg hv; simp [codeR, Res.eval] at hv

end
end Ab
