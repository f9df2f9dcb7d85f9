/- Trees read, loops gone through, rows changed place by place. -/
import Derived.Test.YtllohgmahflpaaaAbFresh
set_option linter.unusedVariables false
set_option linter.unusedSimpArgs false
namespace Ab
open Go
theorem get_leaf {α : Type} {a : α} : (Tr.leaf a).get? = some a := rfl
theorem get_fail {α : Type} : (Tr.fail : Tr α).get? = none := rfl
theorem get_br {α : Type} {b : Bool} {x y : Tr α} : (Tr.br b x y).get? = bif b then x.get? else y.get? := rfl
theorem get_opt {α β : Type} {o : Option β} {f : β → Tr α} : (Tr.opt o f).get? = o.bind fun z => (f z).get? := by cases o <;> rfl
theorem get_optS {α β : Type} {z : β} {f : β → Tr α} : (Tr.opt (some z) f).get? = (f z).get? := rfl
theorem gett_leaf {α : Type} {d a : α} : (Tr.leaf a).get d = a := rfl
theorem gett_br {α : Type} {b : Bool} {d : α} {x y : Tr α} : (Tr.br b x y).get d = bif b then x.get d else y.get d := rfl

theorem iter_range {V : Type} {R : V → Tr (V ⊕ (Bool × V))} (inv : Nat → V) (len : Nat) (step : ∀ j, j < len → (R (inv j)).get? = some (.inl (inv (j + 1)))) {o : Bool × V} (fin : (R (inv len)).get? = some (.inr o)) :
    ∀ (k j n : Nat), j + k = len → k < n → iter R n (inv j) = some o
  | 0, j, n, hj, hn => by
    obtain ⟨n, rfl⟩ : ∃ q, n = q + 1 := ⟨n - 1, by omega⟩
    have : j = len := by omega
    subst this
    unfold iter; rw [fin]
  | k + 1, j, n, hj, hn => by
    obtain ⟨n, rfl⟩ : ∃ q, n = q + 1 := ⟨n - 1, by omega⟩
    unfold iter; rw [step j (by omega)]
    exact iter_range inv len step fin k (j + 1) n (by omega) (by omega)

theorem iter_all {V : Type} {R : V → Tr (V ⊕ (Bool × V))} (inv : Nat → V) (len : Nat) (step : ∀ j, j < len → (R (inv j)).get? = some (.inl (inv (j + 1)))) {o : Bool × V} (fin : (R (inv len)).get? = some (.inr o)) {n : Nat} (hn : len < n) {v : V} (hv : inv 0 = v) : iter R n v = some o := by
  rw [← hv]; exact iter_range inv len step fin len 0 n (by omega) hn

/-- A loop that may be left early. -/
def firstP {α : Type} (p : Nat → Option α) : Nat → Nat → Option α
  | 0, _ => none
  | k + 1, j => match p j with
    | some a => some a
    | none => firstP p k (j + 1)
theorem iter_find {V : Type} {R : V → Tr (V ⊕ (Bool × V))} (inv : Nat → V) (len : Nat) (p : Nat → Option (Bool × V)) (step : ∀ j, j < len → (R (inv j)).get? = some (match p j with | some o => .inr o | none => .inl (inv (j + 1)))) {o : Bool × V} (fin : (R (inv len)).get? = some (.inr o)) :
    ∀ (k j n : Nat), j + k = len → k < n → iter R n (inv j) = some ((firstP p k j).getD o)
  | 0, j, n, hj, hn => by
    obtain ⟨n, rfl⟩ : ∃ q, n = q + 1 := ⟨n - 1, by omega⟩
    have : j = len := by omega
    subst this
    unfold iter; rw [fin]; rfl
  | k + 1, j, n, hj, hn => by
    obtain ⟨n, rfl⟩ : ∃ q, n = q + 1 := ⟨n - 1, by omega⟩
    unfold iter; rw [step j (by omega)]
    unfold firstP
    cases hp : p j with
    | some a => rfl
    | none => exact iter_find inv len p step fin k (j + 1) n (by omega) (by omega)
theorem iter_find0 {V : Type} {R : V → Tr (V ⊕ (Bool × V))} (inv : Nat → V) (len : Nat) (p : Nat → Option (Bool × V)) (step : ∀ j, j < len → (R (inv j)).get? = some (match p j with | some o => .inr o | none => .inl (inv (j + 1)))) {o : Bool × V} (fin : (R (inv len)).get? = some (.inr o)) {n : Nat} (hn : len < n) {v : V} (hv : inv 0 = v) :
    iter R n v = some ((firstP p len 0).getD o) := by
  rw [← hv]; exact iter_find inv len p step fin len 0 n (by omega) hn
theorem firstP_none {α : Type} {p : Nat → Option α} : ∀ {k j : Nat}, (∀ q, j ≤ q → q < j + k → p q = none) → firstP p k j = none
  | 0, _, _ => rfl
  | k + 1, j, h => by
    unfold firstP
    rw [h j (by omega) (by omega)]
    exact firstP_none fun q h1 h2 => h q (by omega) (by omega)
theorem firstP_congr {α β : Type} {p : Nat → Option α} {q : Nat → Option β} {f : α → β} : ∀ {k j : Nat}, (∀ i, j ≤ i → i < j + k → q i = (p i).map f) → firstP q k j = (firstP p k j).map f
  | 0, _, _ => rfl
  | k + 1, j, h => by
    unfold firstP
    rw [h j (by omega) (by omega)]
    cases p j with
    | some a => rfl
    | none => exact firstP_congr fun i h1 h2 => h i (by omega) (by omega)
theorem firstP_some {α : Type} {p : Nat → Option α} {a : α} : ∀ {k j : Nat}, firstP p k j = some a → ∃ q, j ≤ q ∧ q < j + k ∧ p q = some a ∧ ∀ i, j ≤ i → i < q → p i = none
  | 0, _, h => by simp [firstP] at h
  | k + 1, j, h => by
    unfold firstP at h
    cases hp : p j with
    | some b =>
      rw [hp] at h; simp at h; subst h
      exact ⟨j, Nat.le_refl _, by omega, hp, fun i h1 h2 => by omega⟩
    | none =>
      rw [hp] at h
      obtain ⟨q, h1, h2, h3, h4⟩ := firstP_some h
      refine ⟨q, by omega, by omega, h3, fun i h5 h6 => ?_⟩
      by_cases hij : i = j
      · subst hij; exact hp
      · exact h4 i (by omega) h6

/-- Each place from j on changed. -/
def mapF {α : Type} (f : Nat → α → α) (j : Nat) (L : List α) : List α := L.mapIdx fun q p => if j ≤ q then f q p else p
theorem mapF_len {α : Type} (f : Nat → α → α) (j : Nat) (L : List α) : (mapF f j L).length = L.length := by simp [mapF]
theorem mapF_get {α : Type} (f : Nat → α → α) (j : Nat) (L : List α) (q : Nat) : (mapF f j L)[q]? = (L[q]?).map fun p => if j ≤ q then f q p else p := by simp [mapF]
theorem mapF_zero {α : Type} (f : Nat → α → α) (L : List α) : mapF f 0 L = L.mapIdx f := by simp [mapF]
theorem mapF_end {α : Type} (f : Nat → α → α) (j : Nat) (L : List α) (h : L.length ≤ j) : mapF f j L = L := by
  apply List.ext_getElem?
  intro q
  rw [mapF_get]
  rcases Nat.lt_or_ge q L.length with hq | hq
  · rw [List.getElem?_eq_getElem hq]; simp; intro h2; omega
  · rw [List.getElem?_eq_none hq]; rfl
/-- Each place below j changed. -/
def mapT {α : Type} (f : Nat → α → α) (j : Nat) (L : List α) : List α := L.mapIdx fun q p => if q < j then f q p else p
theorem mapT_len {α : Type} (f : Nat → α → α) (j : Nat) (L : List α) : (mapT f j L).length = L.length := by simp [mapT]
theorem mapT_get {α : Type} (f : Nat → α → α) (j : Nat) (L : List α) (q : Nat) : (mapT f j L)[q]? = (L[q]?).map fun p => if q < j then f q p else p := by simp [mapT]
theorem mapT_zero {α : Type} (f : Nat → α → α) (L : List α) : mapT f 0 L = L := by
  apply List.ext_getElem?
  intro q
  rw [mapT_get]
  cases L[q]? <;> simp
theorem mapT_all {α : Type} (f : Nat → α → α) (L : List α) : mapT f L.length L = L.mapIdx f := by
  apply List.ext_getElem?
  intro q
  rw [mapT_get, List.getElem?_mapIdx]
  rcases Nat.lt_or_ge q L.length with hq | hq
  · rw [List.getElem?_eq_getElem hq]; simp [hq]
  · rw [List.getElem?_eq_none hq]; rfl
theorem mapT_step {α : Type} (f : Nat → α → α) {j : Nat} {L : List α} {p : α} (h : L[j]? = some p) : (mapT f j L).set j (f j p) = mapT f (j + 1) L := by
  apply List.ext_getElem?
  intro q
  rw [mapT_get, List.getElem?_set, mapT_get, mapT_len]
  have hj : j < L.length := by
    rcases Nat.lt_or_ge j L.length with h' | h'
    · exact h'
    · rw [List.getElem?_eq_none h'] at h; simp at h
  by_cases hq : j = q
  · subst hq; rw [if_pos rfl, if_pos hj, h]; simp
  · rw [if_neg hq]
    cases L[q]? with
    | none => rfl
    | some x =>
      simp only [Option.map_some]
      congr 1
      by_cases h1 : q < j
      · rw [if_pos h1, if_pos (by omega)]
      · rw [if_neg h1, if_neg (by omega)]
theorem mapT_at {α : Type} (f : Nat → α → α) {j : Nat} {L : List α} {p : α} (h : L[j]? = some p) : (mapT f j L)[j]? = some p := by rw [mapT_get, h]; simp
/-- A place left as it is. -/
theorem mapT_stay {α : Type} (f : Nat → α → α) {j : Nat} {L : List α} {p : α} (h : L[j]? = some p) (hf : f j p = p) : mapT f (j + 1) L = mapT f j L := by
  rw [← mapT_step f h, hf]
  apply List.ext_getElem?
  intro q
  rw [List.getElem?_set, mapT_len]
  split
  · rename_i hq; subst hq
    rw [mapT_at f h]
    have : j < L.length := by
      rcases Nat.lt_or_ge j L.length with h' | h'
      · exact h'
      · rw [List.getElem?_eq_none h'] at h; simp at h
    simp [this]
  · rfl
/-- The first j, changed, one behind the other. -/
def tkF {α β : Type} (f : Nat → α → β) (j : Nat) (L : List α) : List β := (L.take j).mapIdx f
theorem tkF_zero {α β : Type} (f : Nat → α → β) (L : List α) : tkF f 0 L = [] := by simp [tkF]
theorem tkF_len {α β : Type} (f : Nat → α → β) {j : Nat} {L : List α} (h : j ≤ L.length) : (tkF f j L).length = j := by simp [tkF, h]
theorem tkF_all {α β : Type} (f : Nat → α → β) (L : List α) : tkF f L.length L = L.mapIdx f := by simp [tkF]
theorem tkF_step {α β : Type} (f : Nat → α → β) {j : Nat} {L : List α} {p : α} (h : L[j]? = some p) : tkF f j L ++ [f j p] = tkF f (j + 1) L := by
  have hj : j < L.length := by
    rcases Nat.lt_or_ge j L.length with h' | h'
    · exact h'
    · rw [List.getElem?_eq_none h'] at h; simp at h
  have hp : p = L[j] := by rw [List.getElem?_eq_getElem hj] at h; simpa using h.symm
  subst hp
  unfold tkF
  rw [List.take_succ_eq_append_getElem hj, List.mapIdx_append]
  simp [Nat.min_eq_left (Nat.le_of_lt hj)]

theorem set_self {α : Type} {L : List α} {k : Nat} {p : α} (h : L[k]? = some p) : L.set k p = L := by
  apply List.ext_getElem?
  intro q
  rw [List.getElem?_set]
  split
  · rename_i hq; subst hq
    have : k < L.length := by
      rcases Nat.lt_or_ge k L.length with h' | h'
      · exact h'
      · rw [List.getElem?_eq_none h'] at h; simp at h
    rw [if_pos this, h]
  · rfl
theorem get_set {α : Type} {L : List α} {k : Nat} (h : k < L.length) (q : α) : (L.set k q)[k]? = some q := by simp [h]
theorem clone_small {c b : Nat} [Uni] (L : List (Uni.val c)) (hb : b ≤ 1000000) (h : L.length ≤ 1000) : cloneB c b L = true := by
  unfold cloneB
  simp only [List.length_nil, Nat.zero_add, Bool.and_eq_true, Nat.ble_eq]
  refine ⟨by omega, ?_⟩
  calc L.length * b ≤ 1000 * 1000000 := Nat.mul_le_mul h hb
    _ ≤ _ := by omega
theorem room_small {n b : Nat} (hb : b ≤ 1000000) (h : n ≤ 1000) : (Nat.ble n 140737488355328 && Nat.ble (n * b) 140737488355328) = true := by
  simp only [Bool.and_eq_true, Nat.ble_eq]
  refine ⟨by omega, ?_⟩
  calc n * b ≤ 1000 * 1000000 := Nat.mul_le_mul h hb
    _ ≤ _ := by omega
theorem or_cond (a b : Bool) : (bif a then true else b) = (a || b) := by cases a <;> rfl
theorem and_cond (a b : Bool) : (bif a then b else false) = (a && b) := by cases a <;> rfl
theorem i64_nat {j : Nat} (h : j ≤ 1000000) : IntKind.i64.wrap ((j : Int) + 1) = ((j + 1 : Nat) : Int) := by rw [IntWalk.i64_in _ (by omega)]; omega
end Ab
