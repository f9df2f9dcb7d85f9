/- A region's operations, one behind the other. -/
import Derived.Test.YtllohgmahflpaaaAbRegion
set_option linter.unusedSectionVars false
set_option linter.unusedSimpArgs false
set_option linter.unusedVariables false
namespace Ab
open Go
section
variable [Uni] [Cod]
variable {P : Program} {e : Env} {X Y : Cx} {h i : List Blk} {w w' : World} {o : Oper} {ρA : Operand → AV} {ρ : Operand → Value} {v : AV}

theorem getD_set {tm : Array Value} {d t : Nat} {c : Value} : (tm.setIfInBounds d c).getD t undef = if t = d ∧ d < tm.size then c else tm.getD t undef := by
  simp only [Array.getD_eq_getD_getElem?, Array.getElem?_setIfInBounds]
  by_cases h : d = t
  · subst h
    by_cases hd : d < tm.size
    · simp [hd]
    · simp [hd]
  · simp [h, Ne.symm h]

/-- The state with a temporary written. -/
theorem Inv.put {g : Rg} {s : St} {tm : Array Value} {seen : List Tmp} (iv : Inv X w g s tm seen) {d : Tmp} (hd : d ∉ seen) {cv : Value} {i : List Blk}
    (m : Mono X s.heap Y i) (ex : Ext X.F w w') (hv : RepV Y i w' v cv) : Inv Y w' g ⟨s.tmps.set d v, i⟩ (tm.setIfInBounds d cv) (d :: seen) := by
  have other : ∀ t, t ∈ seen → (tm.setIfInBounds d cv).getD t undef = tm.getD t undef := by
    intro t ht
    rw [getD_set, if_neg (fun (hh : t = d ∧ d < tm.size) => hd (hh.1 ▸ ht))]
  have conds : ∀ cs : List (Tmp × Bool), (∀ p ∈ cs, p.1 ∈ seen) → ((∀ p ∈ cs, (tm.setIfInBounds d cv).getD p.1 undef = .bool p.2) ↔ ∀ p ∈ cs, tm.getD p.1 undef = .bool p.2) := by
    intro cs hcs
    exact ⟨fun hh p hp => by rw [← other p.1 (hcs p hp)]; exact hh p hp, fun hh p hp => by rw [other p.1 (hcs p hp)]; exact hh p hp⟩
  refine ⟨by simp [iv.len], fun t av ht => ?_, fun p hp => ?_, fun q hq => ?_⟩
  · simp only [List.getElem?_set] at ht
    rw [getD_set]
    by_cases heq : d = t
    · subst heq
      rw [if_pos rfl] at ht
      split at ht
      · rename_i hlt
        simp at ht; subst ht
        rw [if_pos ⟨rfl, by rw [← iv.len]; exact hlt⟩]; exact hv
      · simp at ht
    · rw [if_neg heq] at ht
      rw [if_neg (fun hh => heq hh.1.symm)]
      exact RepV.mono m ex (iv.tmp t av ht)
  · obtain ⟨h1, h2⟩ := iv.G p hp
    exact ⟨List.mem_cons_of_mem _ h1, by rw [other _ h1]; exact h2⟩
  · obtain ⟨h1, h2, h3, h4⟩ := iv.W q hq
    refine ⟨List.mem_cons_of_mem _ h1, fun p hp => List.mem_cons_of_mem _ (h2 p hp), fun hc => ?_, fun hc => ?_⟩
    · rw [other _ h1]
      exact RepV.mono m ex (h3 ((conds _ h2).mp hc))
    · rw [other _ h1]
      exact h4 (fun hh => hc ((conds _ h2).mpr hh))

/-- The state as it is, a new name counted. -/
theorem Inv.more {g : Rg} {s : St} {tm : Array Value} {seen seen' : List Tmp} (iv : Inv X w g s tm seen) {i : List Blk} (m : Mono X s.heap Y i) (ex : Ext X.F w w') (hs : ∀ t, t ∈ seen → t ∈ seen') :
    Inv Y w' g ⟨s.tmps, i⟩ tm seen' :=
  ⟨iv.len, fun t av ht => RepV.mono m ex (iv.tmp t av ht), fun p hp => ⟨hs _ (iv.G p hp).1, (iv.G p hp).2⟩,
    fun q hq => ⟨hs _ (iv.W q hq).1, fun p hp => hs _ ((iv.W q hq).2.1 p hp), fun hc => RepV.mono m ex ((iv.W q hq).2.2.1 hc), (iv.W q hq).2.2.2⟩⟩

def seenWith (seen : List Tmp) : Option Tmp → List Tmp
  | some d => d :: seen
  | none => seen

theorem Inv.putO {g : Rg} {s : St} {a : Act} {seen : List Tmp} (iv : Inv X w g s a.tmps seen) {dst : Option Tmp} (hd : ∀ d, dst = some d → d ∉ seen) {cv : Value} {i : List Blk}
    (m : Mono X s.heap Y i) (ex : Ext X.F w w') (hv : RepV Y i w' v cv) : Inv Y w' g (putT s dst v i) (a.put dst cv).tmps (seenWith seen dst) := by
  cases dst with
  | none => exact iv.more m ex (fun _ h => h)
  | some d => exact iv.put (hd d rfl) m ex hv

theorem wfGo_cons {all : List Oper} {seen : List Tmp} {o : Oper} {r : List Oper} (h : wfGo all seen (o :: r) = true) :
    (∀ j want, o.guard = some (j, want) → ∃ t, dstOf all j = some t ∧ t ∈ seen) ∧ (∀ d, o.dst = some d → d ∉ seen) ∧ wfGo all (seenWith seen o.dst) r = true := by
  unfold wfGo at h
  simp only [Bool.and_eq_true] at h
  obtain ⟨h1, h2⟩ := h
  refine ⟨fun j want hg => ?_, fun d hd => ?_, ?_⟩
  · rw [hg] at h1
    simp only at h1
    split at h1
    · rename_i t ht
      refine ⟨t, ht, ?_⟩
      rw [List.any_eq_true] at h1
      obtain ⟨u, hu, he⟩ := h1
      simp only [Nat.beq_eq] at he
      subst he; exact hu
    · simp at h1
  · rw [hd] at h2
    simp only [Bool.and_eq_true, Bool.not_eq_true'] at h2
    intro hm
    have := h2.1
    rw [List.any_eq_false] at this
    exact absurd (this d hm) (by simp [Nat.beq_eq])
  · cases hd : o.dst with
    | none => rw [hd] at h2; exact h2
    | some d => rw [hd] at h2; simp only [Bool.and_eq_true] at h2; exact h2.2

theorem yielded_of {all : Array Oper} {tm : Array Value} {j : Nat} {t : Tmp} (hj : dstOf all.toList j = some t) : yielded all tm j = (match tm.getD t undef with | .bool b => some b | _ => none) := by
  unfold yielded
  have : (all[j]?).bind (·.dst) = some t := by
    unfold dstOf at hj
    rwa [Array.getElem?_toList] at hj
  rw [this]
  simp only [Option.bind_some, Array.getD_eq_getD_getElem?]
  cases tm[t]? with
  | none => simp [undef]
  | some u => cases u <;> rfl

theorem wanted_guard {all : Array Oper} {tm : Array Value} {j : Nat} {t : Tmp} {want : Bool} (hg : o.guard = some (j, want)) (hj : dstOf all.toList j = some t) :
    Region.wanted o (yielded all tm) = true ↔ tm.getD t undef = .bool want := by
  unfold Region.wanted
  rw [hg]
  simp only [yielded_of hj]
  constructor
  · intro h
    split at h
    · rename_i b hb
      simp at h; subst h; exact hb
    · simp at h
  · intro h
    rw [h]; simp

theorem wanted_none {f : Nat → Option Bool} (hg : o.guard = none) : Region.wanted o f = true := by unfold Region.wanted; rw [hg]

/-- The state with a known test written as known. -/
theorem Inv.lit {g : Rg} {s : St} {tm : Array Value} {seen : List Tmp} (iv : Inv X w g s tm seen) {t : Tmp} {b : Bool} (ht : tm.getD t undef = .bool b) : Inv X w g (setLit s t b) tm seen := by
  refine ⟨by simp [setLit, iv.len], fun u av hu => ?_, iv.G, iv.W⟩
  simp only [setLit, List.getElem?_set] at hu
  split at hu
  · rename_i heq
    subst heq
    split at hu
    · simp at hu; subst hu
      show RepV X s.heap w (.c (.bool b)) (tm.getD t undef)
      rw [ht]; exact .bool
    · simp at hu
  · exact iv.tmp u av hu

theorem condsW_mem {t : Tmp} : ∀ {W : List (Tmp × List (Tmp × Bool) × AV)} {cs : List (Tmp × Bool)}, condsW t W = some cs → ∃ v, (t, cs, v) ∈ W
  | [], cs, h => by simp [condsW] at h
  | (u, ds, v) :: r, cs, h => by
    unfold condsW at h
    split at h
    · rename_i hu
      simp only [Nat.beq_eq] at hu
      simp at h; subst h; subst hu
      exact ⟨v, by simp⟩
    · obtain ⟨v', hv'⟩ := condsW_mem h
      exact ⟨v', by simp [hv']⟩

/-- A test's conditions: where it is a truth value they hold. -/
theorem conds_ok {g : Rg} {s : St} {tm : Array Value} {seen : List Tmp} (iv : Inv X w g s tm seen) {t : Tmp} {b : Bool} (ht : tm.getD t undef = .bool b) :
    ∀ p ∈ (condsW t g.W).getD [], p.1 ∈ seen ∧ tm.getD p.1 undef = .bool p.2 := by
  intro p hp
  cases hc : condsW t g.W with
  | none => rw [hc] at hp; simp at hp
  | some cs =>
    rw [hc] at hp; simp at hp
    obtain ⟨v, hm⟩ := condsW_mem hc
    obtain ⟨_, h2, _, h4⟩ := iv.W _ hm
    refine ⟨h2 p hp, ?_⟩
    by_cases hall : ∀ p ∈ cs, tm.getD p.1 undef = .bool p.2
    · exact hall p hp
    · have := h4 hall
      simp only at this
      rw [ht] at this; simp [undef] at this

theorem holdsAll_ok {s : St} {tm : Array Value} (htmp : ∀ t av, s.tmps[t]? = some av → RepV X s.heap w av (tm.getD t undef)) : ∀ {cs : List (Tmp × Bool)} {x : Bool}, holdsAll s cs = some x → (x = true ↔ ∀ p ∈ cs, tm.getD p.1 undef = .bool p.2)
  | [], x, h => by simp [holdsAll] at h; subst h; simp
  | (t, wt) :: r, x, h => by
    unfold holdsAll at h
    split at h
    · rename_i b y hb hy
      simp at h
      have ih := holdsAll_ok htmp hy
      have hr : tm.getD t undef = .bool b := by
        rw [List.getD_eq_getElem?_getD] at hb
        cases hs : s.tmps[t]? with
        | none => rw [hs] at hb; simp at hb
        | some av => rw [hs] at hb; simp at hb; subst hb; exact repC_bool (htmp t _ hs)
      subst h
      simp only [List.mem_cons, forall_eq_or_imp, hr, ← ih, Value.bool.injEq]
      cases b <;> cases wt <;> cases y <;> simp
    · simp at h

/-- The test of an operation that is not known: just where it holds is the operation carried out. -/
theorem wantB_ok {g : Rg} {s : St} {tm : Array Value} {seen : List Tmp} (iv : Inv X w g s tm seen) {t : Tmp} {want b : Bool} (hb : wantB s g.W t want ((condsW t g.W).getD []) = some b) :
    b = true ↔ tm.getD t undef = .bool want := by
  unfold wantB at hb
  split at hb
  · rename_i b' x hv hx
    simp at hb
    have hh := holdsAll_ok iv.tmp hx
    have hv' : (∀ p ∈ (condsW t g.W).getD [], tm.getD p.1 undef = .bool p.2) → tm.getD t undef = .bool b' := by
      intro hall
      cases hs : s.tmps[t]? with
      | none =>
        rw [List.getD_eq_getElem?_getD, hs] at hv
        have := lookW_ok (X := X) (h := s.heap) (w := w) (t := t) hall (W := g.W) (fun q hq => (iv.W q hq).2.2.1)
        simp only [Option.getD_none] at hv
        rw [hv] at this
        exact repC_bool this
      | some av =>
        rw [List.getD_eq_getElem?_getD, hs] at hv
        have h1 := iv.tmp t av hs
        simp only [Option.getD_some] at hv
        cases av with
        | top =>
          have := lookW_ok (X := X) (h := s.heap) (w := w) (t := t) hall (W := g.W) (fun q hq => (iv.W q hq).2.2.1)
          simp only at hv
          rw [hv] at this
          exact repC_bool this
        | c y => simp only [AV.c.injEq] at hv; subst hv; exact repC_bool h1
        | agg l => simp at hv
        | tup l => simp at hv
    constructor
    · intro hbt
      subst hbt
      have hx' : x = true := by cases x <;> simp at hb ⊢
      subst hx'
      have := hv' (hh.mp rfl)
      rw [this]
      cases want <;> cases b' <;> simp at hb ⊢
    · intro ht
      have hx' : x = true := hh.mpr (fun p hp => (conds_ok iv ht p hp).2)
      subst hx'
      have := hv' (hh.mp rfl)
      rw [this] at ht
      simp at ht
      subst ht
      cases b' <;> simp at hb <;> first | exact hb | exact hb.symm
  · simp at hb

end
end Ab
