/- Regions whose operations come up in whatever order: one order serves all. -/
import Derived.Test.YtllohgmahflpaaaAbCall
import Derived.Deep.Quiet
import Derived.OrdersHeld
import Derived.Tactics
set_option linter.unusedSectionVars false
set_option linter.unusedSimpArgs false
set_option linter.unusedVariables false
namespace Ab
open Go

/-- The worlds in which all that was there is as it was. -/
def Cls (w : World) : World → Prop := fun w' => RowKit.Below w.heap.size w w'

theorem Cls.self (w : World) : Cls w w := RowKit.Below.refl _ w
theorem Cls.step {w w2 w3 : World} (h : Cls w w2) (k : RowKit.Below w2.heap.size w2 w3) : Cls w w3 := RowKit.Below.trans h (k.mono h.size)

section
variable {P : Program} {ops : Array Oper} {Q : Act → World → Prop} {md : Region.Mode}

/-- What has come up has come up behind all that it waits for. -/
def Shut (md : Region.Mode) (ops : Array Oper) (listed : Array Bool) : Prop := ∀ j o, ops[j]? = some o → listed.getD j false = true → ∀ e ∈ o.after, Region.binds md e = true → listed.getD e.on false = true

theorem Shut.set {listed : Array Bool} (h : Shut md ops listed) {j : Nat} (hj : j ∈ Region.ready md ops listed) : Shut md ops (listed.setIfInBounds j true) := by
  intro k o ho hk e he hb
  by_cases hkj : j = k
  · subst hkj
    obtain ⟨_, o', ho', hall⟩ := mem_ready.1 hj
    rw [ho] at ho'; simp at ho'; subst ho'
    exact getD_set_true (hall e he hb)
  · rw [getD_set_ne false hkj] at hk
    exact getD_set_true (h k o ho hk e he hb)

theorem getD_listed {listed : Array Bool} {i : Nat} (h : listed.getD i true = false) : listed.getD i false = false := by
  simp only [Array.getD_eq_getD_getElem?] at h ⊢
  cases hl : listed[i]? with
  | none => rw [hl] at h; simp at h
  | some b => rw [hl] at h; simpa using h

/-- A chain of those that wait. -/
inductive Chain (md : Region.Mode) (ops : Array Oper) (j : Nat) : Nat → Prop
  | one {i} : i ∈ depsB md ops j → Chain md ops j i
  | more {k i} : Chain md ops j k → i ∈ depsB md ops k → Chain md ops j i

theorem newB_sub {seen : List Nat} : ∀ {l : List Nat} {x : Nat}, x ∈ newB seen l → x ∈ l
  | [], x, h => by simp [newB] at h
  | y :: r, x, h => by
    unfold newB at h
    split at h
    · exact List.mem_cons_of_mem _ (newB_sub h)
    · rcases List.mem_cons.mp h with rfl | h
      · simp
      · exact List.mem_cons_of_mem _ (newB_sub h)

theorem ancB_chain {j : Nat} : ∀ {n : Nat} {fr seen : List Nat}, (∀ x ∈ fr, x = j ∨ Chain md ops j x) → (∀ x ∈ seen, Chain md ops j x) → ∀ x ∈ ancB md ops n fr seen, Chain md ops j x
  | 0, _, _, _, hs, x, hx => hs x hx
  | n + 1, fr, seen, hf, hs, x, hx => by
    have step : ∀ y ∈ fr.flatMap (depsB md ops), Chain md ops j y := by
      intro y hy
      obtain ⟨k, hk, hy⟩ := List.mem_flatMap.mp hy
      rcases hf k hk with rfl | h
      · exact .one hy
      · exact .more h hy
    unfold ancB at hx
    split at hx
    · exact hs x hx
    · rename_i y r hn
      have hy : ∀ z ∈ y :: r, Chain md ops j z := fun z hz => step z (newB_sub (seen := seen) (by rw [hn]; exact hz))
      exact ancB_chain (fun z hz => .inr (hy z hz)) (fun z hz => by
        rcases List.mem_append.mp hz with h | h
        · exact hy z h
        · exact hs z h) x hx

theorem deps_mem {j i : Nat} (h : i ∈ depsB md ops j) : ∃ o e, ops[j]? = some o ∧ e ∈ o.after ∧ Region.binds md e = true ∧ e.on = i := by
  unfold depsB at h
  split at h
  · rename_i o ho
    obtain ⟨e, he, hi⟩ := List.mem_map.mp h
    rw [List.mem_filter] at he
    exact ⟨o, e, ho, by simpa using he.1, by simpa using he.2, hi⟩
  · simp at h

theorem chain_listed {listed : Array Bool} (hs : Shut md ops listed) {j i : Nat} (hj : j ∈ Region.ready md ops listed) (h : Chain md ops j i) : listed.getD i false = true := by
  induction h with
  | one h =>
    obtain ⟨o, e, ho, he, hb, rfl⟩ := deps_mem h
    obtain ⟨_, o', ho', hall⟩ := mem_ready.1 hj
    rw [ho] at ho'; simp at ho'; subst ho'
    exact hall e he hb
  | more _ h ih =>
    obtain ⟨o, e, ho, he, hb, rfl⟩ := deps_mem h
    exact hs _ o ho ih e he hb

theorem w2B_ready {listed : Array Bool} (hs : Shut md ops listed) {i j : Nat} (hj : j ∈ Region.ready md ops listed) (hi : listed.getD i true = false) : w2B md ops j i = false := by
  cases hc : w2B md ops j i with
  | false => rfl
  | true =>
    exfalso
    unfold w2B at hc
    rw [List.any_eq_true] at hc
    obtain ⟨x, hx, hxi⟩ := hc
    simp only [Nat.beq_eq] at hxi
    subst hxi
    have h1 := ancB_chain (md := md) (ops := ops) (j := j) (fun x hx => .inl (by simpa using hx)) (fun x hx => by simp at hx) i hx
    have := chain_listed hs hj h1
    rw [getD_listed hi] at this; cases this

abbrev Log := List (Nat × (World → Prop))

def onlyN (Q : Act → World → Prop) : Exit → Act → World → Prop := fun x a w => x = .normal ∧ Q a w

/-- Whatever order is picked from here on; what is kept in the log still holds behind each operation that doesn't wait for its owner. -/
def wpAnyG (P : Program) (md : Region.Mode) (ops : Array Oper) (Q : Act → World → Prop) : Nat → Array Bool → Act → World → Log → Prop
  | 0, listed, a, w, _ => Region.ready md ops listed = [] ∧ ∀ w', Cls w w' → Q a w'
  | n + 1, listed, a, w, L => (Region.ready md ops listed = [] → ∀ w', Cls w w' → Q a w') ∧
    ∀ i ∈ Region.ready md ops listed, ∀ w1, Cls w w1 → wpOp P ops (onlyN Q) i (fun a' w' => (∀ p ∈ L, w2B md ops i p.1 = false → p.2 w1 → p.2 w') ∧ wpAnyG P md ops Q n (listed.setIfInBounds i true) a' w' L) a w1

theorem wpAnyG.cls {L : Log} : ∀ {n : Nat} {listed : Array Bool} {a : Act} {w w' : World}, wpAnyG P md ops Q n listed a w L → Cls w w' → wpAnyG P md ops Q n listed a w' L
  | 0, _, _, _, _, h, hc => ⟨h.1, fun w2 h2 => h.2 w2 (hc.step h2)⟩
  | _ + 1, _, _, _, _, h, hc => ⟨fun h0 w2 h2 => h.1 h0 w2 (hc.step h2), fun i hi w1 h1 => h.2 i hi w1 (hc.step h1)⟩

theorem wpAny_of_G {L : Log} : ∀ (n : Nat) (listed : Array Bool) (a : Act) (w : World), wpAnyG P md ops Q n listed a w L → wpAny P md ops (onlyN Q) n listed a w
  | 0, _, _, w, h => ⟨h.1, rfl, h.2 w (Cls.self w)⟩
  | n + 1, _, _, w, h => ⟨fun h0 => ⟨rfl, h.1 h0 w (Cls.self w)⟩, fun i hi => wpOp_mono (fun a' w' h' => wpAny_of_G n _ a' w' h'.2) (h.2 i hi w (Cls.self w))⟩

/-- In state 'a', in every world of the kind, the operation leaves 'v', and all that was there as it was. -/
def YieldsG (P : Program) (ops : Array Oper) (B : World → Prop) (o : Oper) (v : Value) (a : Act) : Prop :=
  (Region.wanted o (yielded ops a.tmps) = true ∧ ∀ w, B w → o.quietAt P a (Cls w) w v) ∨ (Region.wanted o (yielded ops a.tmps) = false ∧ v = undef)

theorem YieldsG.of_same {B : World → Prop} {o : Oper} {v : Value} {a a' : Act} (hy : YieldsG P ops B o v a) (he : execOp a'.eval o = execOp a.eval o)
    (hw : Region.wanted o (yielded ops a'.tmps) = Region.wanted o (yielded ops a.tmps)) : YieldsG P ops B o v a' := by
  unfold YieldsG Oper.quietAt at *
  rw [he, hw]
  exact hy

theorem YieldsG.wpOp {B : World → Prop} {i : Nat} {o : Oper} {v : Value} {a : Act} {X : Exit → Act → World → Prop} (hi : ops[i]? = some o) (hy : YieldsG P ops B o v a) {K : Act → World → Prop} {w : World} (hB : B w)
    (h : ∀ w', Cls w w' → K (a.put o.dst v) w') : wpOp P ops X i K a w := by
  unfold Go.wpOp
  simp only [hi]
  rcases hy with ⟨hw, hv⟩ | ⟨hw, rfl⟩
  · simp only [hw, if_true]
    refine .inl ?_
    have h3 := hv w hB
    unfold Oper.quietAt at h3
    unfold Oper.wp
    generalize (execOp a.eval o).run P w = r at *
    cases r with
    | ok n w' =>
      cases n <;> simp only [Oper.quietUpon] at h3 <;> simp only [Oper.upon]
      case value u =>
        obtain ⟨e1, e2⟩ := h3
        rw [e1, e2]
        exact h w (Cls.self w)
      case skip =>
        obtain ⟨e1, e2⟩ := h3
        rw [e1, ← e2]
        exact h w (Cls.self w)
      case enter f args =>
        obtain ⟨e1, hc⟩ := h3
        rw [e1]
        exact hc.mono fun e w'' ⟨he, hw''⟩ => by subst he; exact h w'' hw''
    | halt x w' => simp only [Oper.quietUpon] at h3
  · simp only [hw, Bool.false_eq_true, if_false]
    exact h w (Cls.self w)

theorem wpOp_putG {B : World → Prop} {j : Nat} {oi oj : Oper} {v : Value} (hj : ops[j]? = some oj) (hap : oi.apart ops oj = true)
    (hsi : ∀ cs b, oi.op ≠ .select cs b) (hsj : ∀ cs b, oj.op ≠ .select cs b) {K : Act → World → Prop} {a : Act} {w : World}
    (hy : YieldsG P ops B oi v a) (h : wpOp P ops (onlyN Q) j K (a.put oi.dst v) w) :
    wpOp P ops (onlyN Q) j (fun a' w' => YieldsG P ops B oi v a' ∧ K (a'.put oi.dst v) w') a w := by
  obtain ⟨h1, h2, h3⟩ := Oper.apart_spec hap
  have keep : ∀ (a : Act), YieldsG P ops B oi v a → ∀ u, YieldsG P ops B oi v (a.put oj.dst u) := fun a hy u =>
    hy.of_same (execOp_put oi hsi a oj.dst u h3) (wanted_put oi a oj.dst u h3)
  have keepD : ∀ d, YieldsG P ops B oi v { a with defers := d :: a.defers } := fun d => hy.of_same rfl rfl
  unfold wpOp at *
  simp only [hj] at *
  rw [wanted_put oj a oi.dst v h1] at h
  split
  · rename_i hw
    simp only [hw, if_true] at h
    rcases h with h | ⟨hasks, hlets⟩
    case inr => exact .inr ⟨by unfold Oper.asks at *; rw [execOp_put oj hsj a oi.dst v h1] at hasks; exact hasks, hlets⟩
    refine .inl ?_
    unfold Oper.wp at *
    rw [execOp_put oj hsj a oi.dst v h1] at h
    generalize (execOp a.eval oj).run P w = r at *
    cases r with
    | ok n w' =>
      cases n <;> simp only [Oper.upon] at h ⊢
      case value u => exact ⟨keep a hy u, by rw [← Act.put_comm a v u h2]; exact h⟩
      case skip => exact ⟨keep a hy _, by rw [← Act.put_comm a v undef h2]; exact h⟩
      case defer d =>
        refine ⟨keep _ (keepD d) _, ?_⟩
        rw [← Act.put_comm _ v undef h2, ← Act.put_defers]
        exact h
      case enter f args =>
        refine Calls.mono h fun e w'' he => ?_
        cases e with
        | returned u => exact ⟨keep a hy u, by rw [← Act.put_comm a v u h2]; exact he⟩
        | panicked c => cases he.1
        | outgrown => exact he
      case row row args => exact Rows.mono h fun u w'' he => ⟨keep a hy u, by rw [← Act.put_comm a v u h2]; exact he⟩
    | halt x w' =>
      cases x <;> simp only [Oper.upon] at h ⊢
      case panic u => cases h.1
      all_goals first | (cases h.1; done) | exact h
  · rename_i hw
    simp only [hw] at h
    exact ⟨keep a hy _, by rw [← Act.put_comm a v undef h2]; exact h⟩

def Grows (B : World → Prop) : Prop := ∀ w w', B w → Cls w w' → B w'

theorem wpAnyG_first {i : Nat} {oi : Oper} {v : Value} {B : World → Prop} (hi : ops[i]? = some oi) (hsel : ∀ (j : Nat) (o : Oper) cs b, ops[j]? = some o → o.op ≠ .select cs b) (hBg : Grows B) {L : Log} (hL : ∀ p ∈ L, Grows p.2) :
    ∀ (fuel : Nat) (listed : Array Bool) (a : Act) (w : World),
      (∀ j oj, ops[j]? = some oj → j ≠ i → listed.getD j true = false → (∀ e ∈ oj.after, Region.binds md e = true → e.on ≠ i) → oi.apart ops oj = true) →
      Shut md ops listed → i ∈ Region.ready md ops listed → YieldsG P ops B oi v a → B w →
      wpAnyG P md ops Q fuel (listed.setIfInBounds i true) (a.put oi.dst v) w ((i, B) :: L) → wpAnyG P md ops Q (fuel + 1) listed a w L := by
  intro fuel
  have drop : ∀ {fuel : Nat} {listed : Array Bool} {a : Act} {w : World}, wpAnyG P md ops Q fuel listed a w ((i, B) :: L) → wpAnyG P md ops Q fuel listed a w L := by
    intro fuel
    induction fuel with
    | zero => intro listed a w h; exact h
    | succ n ih =>
      intro listed a w h
      exact ⟨h.1, fun j hj w1 h1 => wpOp_mono (fun a' w' h' => ⟨fun p hp => h'.1 p (List.mem_cons_of_mem _ hp), ih h'.2⟩) (h.2 j hj w1 h1)⟩
  have self : ∀ {fuel : Nat} {listed : Array Bool} {a : Act} {w : World}, YieldsG P ops B oi v a → B w → wpAnyG P md ops Q fuel (listed.setIfInBounds i true) (a.put oi.dst v) w ((i, B) :: L) → ∀ w1, Cls w w1 →
      wpOp P ops (onlyN Q) i (fun a' w' => (∀ p ∈ L, w2B md ops i p.1 = false → p.2 w1 → p.2 w') ∧ wpAnyG P md ops Q fuel (listed.setIfInBounds i true) a' w' L) a w1 := by
    intro fuel listed a w hy hB H w1 h1
    exact hy.wpOp hi (hBg _ _ hB h1) (fun w' hc => ⟨fun p hp _ hb => hL p hp _ _ hb hc, drop (H.cls (h1.step hc))⟩)
  induction fuel with
  | zero =>
    intro listed a w _ hsh hr hy hB H
    refine ⟨fun h => (by rw [h] at hr; cases hr), fun j hj w1 h1 => ?_⟩
    by_cases hji : j = i
    · subst hji; exact self hy hB H w1 h1
    · have := ready_mono hj hji
      rw [H.1] at this
      cases this
  | succ fuel ih =>
    intro listed a w hfree hsh hr hy hB H
    refine ⟨fun h => (by rw [h] at hr; cases hr), fun j hj w1 hc1 => ?_⟩
    by_cases hji : j = i
    · subst hji; exact self hy hB H w1 hc1
    · have h1 := H.2 j (ready_mono hj hji) w1 hc1
      obtain ⟨hjun, oj, hoj, hall⟩ := mem_ready.1 hj
      have hiun := (mem_ready.1 hr).1
      have hnot : ∀ e ∈ oj.after, Region.binds md e = true → e.on ≠ i := fun e he hb heq => by
        have h1 := hall e he hb
        rw [heq, getD_listed hiun] at h1
        cases h1
      have h2 := wpOp_putG hoj (hfree j oj hoj hji hjun hnot) (fun cs b => hsel i oi cs b hi) (fun cs b => hsel j oj cs b hoj) hy h1
      have hfree' : ∀ k ok, ops[k]? = some ok → k ≠ i → (listed.setIfInBounds j true).getD k true = false →
          (∀ e ∈ ok.after, Region.binds md e = true → e.on ≠ i) → oi.apart ops ok = true := fun k ok hk hki hun hno => by
        refine hfree k ok hk hki ?_ hno
        by_cases hjk : j = k
        · subst hjk; exact hjun
        · rw [getD_set_ne true hjk] at hun; exact hun
      refine wpOp_mono (fun a' w' h3 => ?_) h2
      obtain ⟨hya, hlog, hrest⟩ := h3
      refine ⟨fun p hp => hlog p (List.mem_cons_of_mem _ hp), ih (listed.setIfInBounds j true) a' w' hfree' (hsh.set hj) (ready_mono hr (Ne.symm hji)) hya
        (hlog (i, B) (by simp) (w2B_ready hsh hj hiun) (hBg _ _ hB hc1)) ?_⟩
      rw [Array.setIfInBounds_comm _ _ hji]
      exact hrest

end
end Ab
