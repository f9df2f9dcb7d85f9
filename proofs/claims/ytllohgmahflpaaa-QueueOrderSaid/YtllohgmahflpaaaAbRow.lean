/- From a met specification to a row: arguments opened, the run, arguments read again. -/
import Derived.Test.YtllohgmahflpaaaAbHeapCall
import Derived.ProofKit
import Derived.Carry
import Derived.ChangeCalls
import Derived.OpenShut
import Derived.Deep.Slices
set_option linter.unusedSectionVars false
set_option linter.unusedSimpArgs false
set_option linter.unusedVariables false
namespace Ab
open Go Go.ChangeShapes Go.WideShapes Go.ChangeAt Go.RowKit
section
variable [Uni] [Cod]
variable {P : Program} {X : Cx} {h : List Blk} {w W : World} {H : Type} {enc : TypeId × Value → H} {base : Nat} {spare : Nat → Bool} {held : Bool}

/-- A cell is of that kind, and in its range. -/
def KC.has : KC → Cl → Prop
  | .int k, .int k' n => k' = k ∧ (Lit.int k n).wf = true
  | .bool, .bool _ => True
  | .str, .str s => s.size ≤ maxLen
  | _, _ => False

def OpenL (X : Cx) (h : List Blk) (w : World) (ks : List KC) (cs : List Value) : Prop := ∃ l, All2 KC.has ks l ∧ All2 (RepC X h w) l cs

theorem OpenL.app {ks ks' : List KC} {cs cs' : List Value} (a : OpenL X h w ks cs) (b : OpenL X h w ks' cs') : OpenL X h w (ks ++ ks') (cs ++ cs') := by
  obtain ⟨l, a1, a2⟩ := a
  obtain ⟨l', b1, b2⟩ := b
  exact ⟨l ++ l', a1.app b1, a2.app b2⟩

theorem plainKs_size : ∀ {n : Nat} {t : TypeId} {ks : List KC}, plainKs P n t = some ks → P.cellsOf t = ks.length
  | 0, t, ks, hk => by simp [plainKs] at hk
  | n + 1, t, ks, hk => by
    unfold plainKs at hk
    split at hk
    · simp at hk
    · split at hk
      · split at hk
        · rename_i hc; simp at hk; subst hk; simpa using hc
        · simp at hk
      · split at hk
        · rename_i hc; simp at hk; subst hk; simpa using hc
        · simp at hk
      · split at hk
        · rename_i hc; simp at hk; subst hk; simpa using hc
        · simp at hk
      · split at hk
        · simp at hk
        · split at hk
          · split at hk
            · rename_i hc; simp at hk; subst hk; simp at hc; exact hc.1
            · simp at hk
          · simp at hk
      · split at hk
        · split at hk
          · rename_i hc; simp at hk; subst hk; simp at hc; simp [hc.1]
          · simp at hk
        · simp at hk
      · simp at hk

theorem open_plain : ∀ {n : Nat} {t : TypeId} {ks : List KC}, plainKs P n t = some ks → ∀ {m : Nat} {cs : List Value} {x : DataW H × List MemPlace}, DataW.trod enc P W base spare held m t cs = some x → OpenL X h w ks cs
  | 0, t, ks, hk, _, _, _, _ => by simp [plainKs] at hk
  | n + 1, t, ks, hk, m, cs, x, hd => by
    have hk0 := hk
    unfold plainKs at hk
    split at hk
    · simp at hk
    · split at hk
      · rename_i k hu
        split at hk
        · simp at hk; subst hk
          obtain ⟨q, rfl, _, hw⟩ := DataW.trod_int hu hd
          exact ⟨[.int k q], .cons ⟨rfl, hw⟩ .nil, .cons .int .nil⟩
        · simp at hk
      · rename_i hu
        split at hk
        · simp at hk; subst hk
          obtain ⟨q, rfl, _⟩ := DataW.trod_bool hu hd
          exact ⟨[.bool q], .cons trivial .nil, .cons .bool .nil⟩
        · simp at hk
      · rename_i hu
        split at hk
        · simp at hk; subst hk
          obtain ⟨q, rfl, _, hq⟩ := DataW.trod_string hu hd
          exact ⟨[.str q], .cons hq .nil, .cons .str .nil⟩
        · simp at hk
      · rename_i fs hu
        split at hk
        · simp at hk
        · split at hk
          · rename_i l hl
            split at hk
            · rename_i hc
              simp at hk; subst hk
              simp at hc
              obtain ⟨xs, m', _, _, hlen, hxl, hget⟩ := DataW.trod_struct hu hd
              have key : ∀ (fl : List Field) (off i : Nat) (l : List KC), fs.toList.drop i = fl → plainFs (plainKs P n) fl off = some l → off + l.length ≤ cs.length → OpenL X h w l ((cs.drop off).take l.length) := by
                intro fl
                induction fl with
                | nil =>
                  intro off i l _ hp _
                  simp [plainFs] at hp; subst hp
                  exact ⟨[], .nil, by simpa using .nil⟩
                | cons f fl ih =>
                  intro off i l hdr hp hle
                  unfold plainFs at hp
                  split at hp
                  · rename_i hof
                    simp at hof
                    split at hp
                    · rename_i ks1 hk1
                      split at hp
                      · rename_i l2 hl2
                        simp at hp; subst hp
                        simp at hle
                        have hi : fs.toList[i]? = some f := by
                          have := congrArg (fun z => z[0]?) hdr
                          simpa using this
                        have hilt : i < fs.size := by simpa using (List.getElem?_eq_some_iff.mp hi).1
                        have hg := hget i f (by simpa using hi)
                        rw [List.getElem?_eq_getElem (by omega)] at hg
                        have h1 := open_plain hk1 hg
                        rw [plainKs_size hk1, hof.2] at h1
                        have h2 := ih (off + ks1.length) (i + 1) l2 (by
                          rw [← List.drop_drop, hdr]; rfl) hl2 (by omega)
                        have := h1.app h2
                        rw [List.length_append, show (cs.drop off).take (ks1.length + l2.length) = (cs.drop off).take ks1.length ++ (cs.drop (off + ks1.length)).take l2.length by
                          rw [List.take_add, List.drop_drop]]
                        exact this
                      · simp at hp
                    · simp at hp
                  · simp at hp
              have := key fs.toList 0 0 l rfl hl (by omega)
              simpa [show l.length = cs.length by omega] using this
            · simp at hk
          · simp at hk
      · rename_i q el hu
        split at hk
        · rename_i ks1 hk1
          split at hk
          · rename_i hc
            simp at hk; subst hk
            simp at hc
            obtain ⟨xs, m', _, _, hlen, hxl, hget⟩ := DataW.trod_array hu hd
            have key : ∀ j, j ≤ q → OpenL X h w (List.replicate j ks1).flatten (cs.take (j * ks1.length)) := by
              intro j
              induction j with
              | zero => intro _; exact ⟨[], by simpa using .nil, by simpa using .nil⟩
              | succ j ih =>
                intro hj
                have h0 := ih (by omega)
                have hg := hget j (by omega)
                rw [List.getElem?_eq_getElem (by omega)] at hg
                have h1 := open_plain hk1 hg
                rw [plainKs_size hk1] at h1
                have := h0.app h1
                rw [List.replicate_succ', List.flatten_append, Nat.succ_mul, List.take_add]
                simpa using this
            have := key q (Nat.le_refl _)
            rwa [show q * ks1.length = cs.length by omega, List.take_length] at this
          · simp at hk
        · simp at hk
      · simp at hk

/-- A cell's kind: a plain one, or a slice of plain elements. -/
inductive CK where
  | plain (k : KC)
  | rows (c : Nat)

def CK.has (kd : Nat → List KC) : CK → Cl → Prop
  | .plain k, x => KC.has k x
  | .rows c, x => ∃ L, x = .rs c L ∧ L.length ≤ maxLen ∧ ∀ y ∈ L, All2 KC.has (kd c) (Cod.enc c y)

/-- How an argument of a law is opened. -/
inductive ArgK where
  | agg (ks : List KC)
  | one (k : KC)
  | rows (c : Nat)
  | mix (l : List CK)
  | rowsM (c : Nat) (l : List CK) (h : ∀ (kd : Nat → List KC) (cl : List Cl), All2 (CK.has kd) l cl → ∃ x, Cod.enc c x = cl)

/-- The cells' kinds of the elements of each kind of row: each such list of cells is an element. -/
structure Elems (kd : Nat → List KC) : Prop where
  all : ∀ c l, 0 < (kd c).length → All2 KC.has (kd c) l → ∃ x, Cod.enc c x = l

def ArgK.has (kd : Nat → List KC) : ArgK → AV → Prop
  | .agg ks, v => ∃ l, v = .agg l ∧ All2 KC.has ks l
  | .one k, v => ∃ x, v = .c x ∧ KC.has k x
  | .rows c, v => ∃ L, v = .c (.rs c L) ∧ L.length ≤ maxLen ∧ ∀ x ∈ L, All2 KC.has (kd c) (Cod.enc c x)
  | .mix ks, v => ∃ l, v = .agg l ∧ All2 (CK.has kd) ks l
  | .rowsM c l _, v => ∃ L, v = .c (.rs c L) ∧ L.length ≤ maxLen ∧ ∀ x ∈ L, All2 (CK.has kd) l (Cod.enc c x)

def isAggT (P : Program) (t : TypeId) : Bool := match P.underlying t with | some (.struct _) | some (.array _ _) => true | _ => false

def plainPre : List KC → List CK → Bool
  | [], _ => true
  | k :: ks, .plain k' :: l => kcEq k k' && plainPre ks l
  | _ :: _, _ => false

def mixFs (P : Program) (kd : Nat → List KC) : List Field → Nat → List CK → Bool
  | [], _, [] => true
  | f :: fs, off, l => f.offset == off && (match P.underlying f.type with
    | some (.slice el) => (match l with
      | .rows c :: l' => P.cellsOf f.type == 1 && (match plainKs P 12 el with | some ks => kcsEq ks (kd c) && ks.length == Uni.sz c | none => false) && mixFs P kd fs (off + 1) l'
      | _ => false)
    | _ => match plainKs P 12 f.type with
      | some ks => plainPre ks l && mixFs P kd fs (off + ks.length) (l.drop ks.length)
      | none => false)
  | [], _, _ :: _ => false

def ArgK.fits (P : Program) (kd : Nat → List KC) (t : TypeId) : ArgK → Bool
  | .agg ks => isAggT P t && (match plainKs P 12 t with | some l => kcsEq l ks | none => false)
  | .one k => !isAggT P t && (match plainKs P 12 t with | some l => kcsEq l [k] | none => false)
  | .rows c => match P.underlying t with
    | some (.slice el) => (match plainKs P 12 el with | some l => kcsEq l (kd c) && l.length == Uni.sz c | none => false)
    | _ => false
  | .mix ks => match P.underlying t with
    | some (.struct fs) => mixFs P kd fs.toList 0 ks && P.cellsOf t == ks.length
    | _ => false
  | .rowsM c l _ => match P.underlying t with
    | some (.slice el) => (match P.underlying el with
      | some (.struct fs) => mixFs P kd fs.toList 0 l && P.cellsOf el == l.length && l.length == Uni.sz c
      | _ => false)
    | _ => false

theorem cellsRow_one {t : TypeId} {v : Value} {r : Reach} (ha : isAggT P t = false) (hv : Value.okWide P W r base t v) : v.cells = #[v] := by
  have h1 : Cell.okWide P W r base t v := by
    unfold Value.okWide at hv
    unfold isAggT at ha
    split at hv <;> simp_all
  cases v with
  | agg cs =>
    exfalso
    unfold Cell.okWide at h1
    unfold Cell.ok at h1
    repeat' split at h1
    all_goals simp_all
  | _ => rfl

theorem mapM_get' {α β : Type} {f : α → Option β} {l : List α} {r : List β} (hh : l.mapM f = some r) {i : Nat} {x : α} (hi : l[i]? = some x) : f x = r[i]? := mapM_some_get hh i x hi

theorem cells_get {a : Addr} {n : Nat} {cs : List Value} (hc : w.cells? base a n = some cs) : cs.length = n ∧ ∀ j, j < n → w.cell? (a.add j) = cs[j]? := by
  unfold World.cells? at hc
  split at hc
  · refine ⟨by simpa using mapM_some_length hc, fun j hj => ?_⟩
    exact mapM_some_get hc j j (by simp [hj])
  · simp at hc

/-- A slice of elements that can be opened. -/
theorem open_rowsQ {Q : List Cl → Prop} {t el : TypeId} {c m : Nat} {cs : List Value} {x : DataW H × List MemPlace} (hu : P.underlying t = some (.slice el)) (hcel : P.cellsOf el = Uni.sz c) (hQ : ∀ cl, Q cl → ∃ x, Cod.enc c x = cl)
    (hopen : ∀ {W0 : World} {b0 : Nat} {sp0 : Nat → Bool} {hd0 : Bool} {m : Nat} {cs : List Value} {x : DataW H × List MemPlace}, DataW.trod enc P W0 b0 sp0 hd0 m el cs = some x → W0 = w → ∃ cl, Q cl ∧ All2 (RepC (Cx.froz w) [] w) cl cs)
    (hm : DataW.trod enc P w base spare held m t cs = some x) : ∃ v L, cs = [v] ∧ RepC (Cx.froz w) [] w (.rs c L) v ∧ L.length ≤ maxLen ∧ ∀ x ∈ L, Q (Cod.enc c x) := by
  rcases Deep.open_slice hu hm with ⟨h1, _⟩ | ⟨a, len, cap, q, n, D, Pl, h1, hb, hlc, hcm, hq, _, hel⟩
  · subst h1
    exact ⟨_, [], rfl, .rs (cv := fun _ _ => default) (Nat.le_refl _) (by simp) (by simp), by simp, by simp⟩
  · subst h1
    have hqlen : len ≤ q := by rw [hq]; split <;> omega
    -- the address is a plain one
    have helem : ∀ i, i < len → ∃ cs', w.cells? base (a.add (i * P.cellsOf el)) (P.cellsOf el) = some cs' ∧ ∃ x, Q (Cod.enc c x) ∧ All2 (RepC (Cx.froz w) [] w) (Cod.enc c x) cs' := by
      intro i hi
      obtain ⟨cs', h2, h3⟩ := hel i (by omega)
      obtain ⟨cl, h4, h5⟩ := hopen h3 rfl
      obtain ⟨x, rfl⟩ := hQ cl h4
      exact ⟨cs', h2, x, h4, h5⟩
    by_cases hlen : len = 0
    · subst hlen
      exact ⟨_, [], rfl, .rs (cv := fun _ _ => default) (L := []) (by simp) (by simp) (by simp), by simp, by simp⟩
    · obtain ⟨x0, _, hx0, _⟩ : ∃ x : Uni.val c, True ∧ Q (Cod.enc c x) ∧ True := by
        obtain ⟨_, _, x, hx, _⟩ := helem 0 (by omega)
        exact ⟨x, trivial, hx, trivial⟩
      letI : Inhabited (Uni.val c) := ⟨x0⟩
      obtain ⟨f, hx⟩ := Deep.choose_lt (α := Uni.val c × List Value) (n := len) (p := fun i z => w.cells? base (a.add (i * P.cellsOf el)) (P.cellsOf el) = some z.2 ∧ Q (Cod.enc c z.1) ∧ All2 (RepC (Cx.froz w) [] w) (Cod.enc c z.1) z.2)
        (h := fun i hi => by
          obtain ⟨cs', h2, x, h3, h4⟩ := helem i hi
          exact ⟨(x, cs'), h2, h3, h4⟩)
      have hz0 := Cod.sz_pos c
      have hspot : a.spot = none := by
        obtain ⟨h2, _, _⟩ := hx 0 (by omega)
        have h3 := (cells_get h2).2 0 (by rw [hcel]; exact hz0)
        have h4 := (cells_get h2).1
        rw [List.getElem?_eq_getElem (by rw [h4, hcel]; exact hz0)] at h3
        simp [Addr.add] at h3
        unfold World.cell? at h3
        split at h3
        · cases hs : a.spot with
          | none => rfl
          | some _ => rw [hs] at h3; simp at h3
        · simp at h3
      have hadd : ∀ i j, (a.add i).add j = ⟨a.block, a.off + i + j, none⟩ := by
        intro i j
        rw [Deep.add_add]
        obtain ⟨ab, ao, asp⟩ := a
        simp at hspot; subst hspot
        unfold Addr.add
        split <;> simp <;> omega
      suffices hrep : RepC (Cx.froz w) [] w (.rs c ((List.range len).map fun i => (f i).1)) (.slice (some a) len cap) by
        refine ⟨_, _, rfl, hrep, by simp; omega, fun x hxm => ?_⟩
        simp at hxm
        obtain ⟨i, hi, rfl⟩ := hxm
        exact (hx i hi).2.1
      · have key : ∀ i x, ((List.range len).map fun i => (f i).1)[i]? = some x → i < len ∧ x = (f i).1 := by
          intro i x hix
          rw [List.getElem?_map] at hix
          obtain ⟨z, hz1, hz⟩ := Option.map_eq_some_iff.mp hix
          rw [List.getElem?_eq_some_iff] at hz1
          obtain ⟨hz2, hz3⟩ := hz1
          simp at hz2 hz3
          subst hz3
          exact ⟨hz2, hz.symm⟩
        have := @RepC.rs _ _ (Cx.froz w) [] w c ((List.range len).map fun i => (f i).1) (some a) cap (fun i j => (f i).2.getD j default) (by simpa using hlc)
          (fun i x hix => by
            obtain ⟨hi, rfl⟩ := key i x hix
            refine ⟨a.block, a.off, by obtain ⟨ab, ao, asp⟩ := a; simp at hspot; subst hspot; rfl, fun j hj => ?_⟩
            have h2 := cells_get (hx i hi).1
            have h3 := h2.2 j (by rw [hcel]; exact hj)
            rw [hadd, hcel] at h3
            have hjl : j < (f i).2.length := by rw [h2.1, hcel]; exact hj
            rw [List.getElem?_eq_getElem hjl] at h3
            refine ⟨lt_of_cell (a := ⟨a.block, a.off + i * Uni.sz c + j, none⟩) h3, ?_⟩
            show w.cell? ⟨a.block, a.off + i * Uni.sz c + j, none⟩ = _
            rw [h3]; simp [List.getD, List.getElem?_eq_getElem hjl])
          (fun i x j y hix hy => by
            obtain ⟨hi, rfl⟩ := key i x hix
            obtain ⟨u, hu, hr⟩ := (hx i hi).2.2.get hy
            simp [List.getD, hu]; exact hr)
        show RepC _ _ _ _ _
        simpa using this

/-- A slice of plain elements. -/
theorem open_rows {kd : Nat → List KC} (hE : Elems kd) {t el : TypeId} {c m : Nat} {cs : List Value} {x : DataW H × List MemPlace} (hu : P.underlying t = some (.slice el)) (hl : plainKs P 12 el = some (kd c)) (hsz : (kd c).length = Uni.sz c)
    (hm : DataW.trod enc P w base spare held m t cs = some x) : ∃ v L, cs = [v] ∧ RepC (Cx.froz w) [] w (.rs c L) v ∧ L.length ≤ maxLen ∧ ∀ x ∈ L, All2 KC.has (kd c) (Cod.enc c x) :=
  open_rowsQ (Q := fun cl => All2 KC.has (kd c) cl) hu ((plainKs_size hl).trans hsz) (fun cl h => hE.all c cl (by rw [hsz]; exact Cod.sz_pos c) h)
    (fun h3 hw => by subst hw; exact open_plain (X := Cx.froz _) (h := []) hl h3) hm

theorem plainPre_ok {kd : Nat → List KC} : ∀ {ks : List KC} {l : List CK} {cl : List Cl}, plainPre ks l = true → All2 KC.has ks cl → All2 (CK.has kd) (l.take ks.length) cl ∧ ks.length ≤ l.length
  | [], l, cl, _, h => by cases h; simpa using All2.nil
  | k :: ks, [], cl, hp, h => by simp [plainPre] at hp
  | k :: ks, .rows c :: l, cl, hp, h => by simp [plainPre] at hp
  | k :: ks, .plain k' :: l, cl, hp, h => by
    simp only [plainPre, Bool.and_eq_true] at hp
    have hk : k = k' := by
      have := hp.1
      cases k <;> cases k' <;> simp [kcEq] at this <;> simp
      exact kEq_eq this
    subst hk
    cases h with
    | cons h1 h2 =>
      obtain ⟨h3, h4⟩ := plainPre_ok hp.2 h2
      exact ⟨by simpa using .cons h1 h3, by simpa using h4⟩

theorem open_mix {kd : Nat → List KC} (hE : Elems kd) {n : Nat} {cs : List Value} {fs : Array Field} {xs : List (DataW H × List MemPlace)}
    (hget : ∀ (i : Nat) (f : Field), fs[i]? = some f → DataW.trod enc P w base spare held n f.type ((cs.drop f.offset).take (P.cellsOf f.type)) = xs[i]?) (hxl : xs.length = fs.size) :
    ∀ (fl : List Field) (off i : Nat) (l : List CK), fs.toList.drop i = fl → mixFs P kd fl off l = true → off + l.length ≤ cs.length → ∃ cl, All2 (CK.has kd) l cl ∧ All2 (RepC (Cx.froz w) [] w) cl ((cs.drop off).take l.length)
  | [], off, i, l, hdr, hp, hle => by
    cases l with
    | nil => exact ⟨[], .nil, by simpa using .nil⟩
    | cons _ _ => simp [mixFs] at hp
  | f :: fl, off, i, l, hdr, hp, hle => by
    unfold mixFs at hp
    simp only [Bool.and_eq_true, beq_iff_eq] at hp
    obtain ⟨hoff, hp⟩ := hp
    have hi : fs.toList[i]? = some f := by
      have := congrArg (fun z => z[0]?) hdr
      simpa using this
    have hilt : i < fs.size := by simpa using (List.getElem?_eq_some_iff.mp hi).1
    have hg := hget i f (by simpa using hi)
    rw [List.getElem?_eq_getElem (by omega), hoff] at hg
    have hdr' : fs.toList.drop (i + 1) = fl := by rw [← List.drop_drop, hdr]; rfl
    split at hp
    · rename_i el hu
      split at hp
      case h_2 => simp at hp
      rename_i c l'
      simp only [Bool.and_eq_true, beq_iff_eq] at hp
      obtain ⟨⟨h1, h2⟩, h3⟩ := hp
      split at h2
      case h_2 => simp at h2
      rename_i ks hks
      simp only [Bool.and_eq_true, beq_iff_eq] at h2
      have hkk := kcsEq_eq h2.1
      subst hkk
      rw [h1] at hg
      obtain ⟨v, L, e1, e2, e3, e4⟩ := open_rows hE hu hks h2.2 hg
      simp at hle
      obtain ⟨cl, f1, f2⟩ := open_mix hE hget hxl fl (off + 1) (i + 1) l' hdr' h3 (by omega)
      refine ⟨.rs c L :: cl, .cons ⟨L, rfl, e3, e4⟩ f1, ?_⟩
      rw [List.length_cons, show (cs.drop off).take (l'.length + 1) = (cs.drop off).take 1 ++ (cs.drop (off + 1)).take l'.length by
        rw [Nat.add_comm, List.take_add, List.drop_drop], e1]
      exact .cons e2 f2
    · split at hp
      case h_2 => simp at hp
      rename_i ks hks
      simp only [Bool.and_eq_true] at hp
      obtain ⟨cl1, h1, h2⟩ := open_plain (X := Cx.froz w) (h := []) (w := w) hks hg
      obtain ⟨h3, h4⟩ := plainPre_ok (kd := kd) hp.1 h1
      rw [plainKs_size hks] at h2
      obtain ⟨cl, f1, f2⟩ := open_mix hE hget hxl fl (off + ks.length) (i + 1) (l.drop ks.length) hdr' hp.2 (by simp; omega)
      refine ⟨cl1 ++ cl, by rw [← List.take_append_drop ks.length l]; exact h3.app f1, ?_⟩
      have e : l.length = ks.length + (l.drop ks.length).length := by simp; omega
      rw [e, List.take_add, List.drop_drop]
      exact h2.app f2

theorem open_arg {kd : Nat → List KC} (hE : Elems kd) {t : TypeId} {a : ArgK} (hf : a.fits P kd t = true) {v : Value} {d : DataW H} {ps : List MemPlace} {r : Reach} {b0 : Nat} (hv : Value.okWide P w r b0 t v)
    (hd : DataW.Trod enc P w base spare held t v d ps) : ∃ av, a.has kd av ∧ RepV (Cx.froz w) [] w av v := by
  obtain ⟨m, hm⟩ := hd
  cases a with
  | agg ks =>
    simp only [ArgK.fits, Bool.and_eq_true] at hf
    split at hf
    · rename_i l hl
      have hl' := kcsEq_eq hf.2
      subst hl'
      obtain ⟨cl, h1, h2⟩ := open_plain (X := Cx.froz w) (h := []) (w := w) hl hm
      have hag : ∃ cs, v = .agg cs := by
        have := hf.1
        unfold isAggT at this
        unfold Value.okWide at hv
        split at hv
        · obtain ⟨cs, hcs, _⟩ := hv; exact ⟨cs, hcs⟩
        · obtain ⟨cs, hcs, _⟩ := hv; exact ⟨cs, hcs⟩
        · simp_all
      obtain ⟨cs, rfl⟩ := hag
      exact ⟨.agg cl, ⟨cl, rfl, h1⟩, cs.toList, by simp, by simpa [Value.cells] using h2⟩
    · simp at hf
  | one k =>
    simp only [ArgK.fits, Bool.and_eq_true, Bool.not_eq_true'] at hf
    split at hf
    · rename_i l hl
      have hl' := kcsEq_eq hf.2
      subst hl'
      obtain ⟨cl, h1, h2⟩ := open_plain (X := Cx.froz w) (h := []) (w := w) hl hm
      rw [cellsRow_one hf.1 hv] at h2
      cases h1 with
      | cons hx hn =>
        cases hn
        cases h2 with
        | cons hy hn => exact ⟨.c _, ⟨_, rfl, hx⟩, hy⟩
    · simp at hf
  | rows c =>
    simp only [ArgK.fits] at hf
    split at hf
    · rename_i el hu
      split at hf
      · rename_i l hl
        simp only [Bool.and_eq_true, beq_iff_eq] at hf
        have hl' := kcsEq_eq hf.1
        subst hl'
        have hcel := plainKs_size hl
        have hna : isAggT P t = false := by unfold isAggT; rw [hu]
        have hvc := cellsRow_one hna hv
        rw [hvc] at hm
        obtain ⟨v', L, h1, h2, h3, h4⟩ := open_rows hE hu hl hf.2 hm
        simp at h1
        subst h1
        exact ⟨.c (.rs c L), ⟨L, rfl, h3, h4⟩, h2⟩
      · simp at hf
    · simp at hf
  | mix ks =>
    simp only [ArgK.fits] at hf
    split at hf
    case h_2 => simp at hf
    rename_i fs hu
    simp only [Bool.and_eq_true, beq_iff_eq] at hf
    obtain ⟨xs, m', _, _, hlen, hxl, hget⟩ := DataW.trod_struct hu hm
    have hag : ∃ cs, v = .agg cs := by
      unfold Value.okWide at hv
      split at hv
      · obtain ⟨cs, hcs, _⟩ := hv; exact ⟨cs, hcs⟩
      · obtain ⟨cs, hcs, _⟩ := hv; exact ⟨cs, hcs⟩
      · simp_all
    obtain ⟨cs, rfl⟩ := hag
    obtain ⟨cl, h1, h2⟩ := open_mix hE hget hxl fs.toList 0 0 ks rfl hf.1 (by omega)
    refine ⟨.agg cl, ⟨cl, rfl, h1⟩, cs.toList, by simp, ?_⟩
    have h3 : (cs.toList.drop 0).take ks.length = cs.toList := by
      have : cs.toList.length = ks.length := by simpa [Value.cells] using hlen.trans hf.2
      rw [← this, List.drop_zero, List.take_length]
    simp only [Value.cells] at h2
    rw [h3] at h2
    exact h2
  | rowsM c l hx =>
    simp only [ArgK.fits] at hf
    split at hf
    case h_2 => simp at hf
    rename_i el hu
    split at hf
    case h_2 => simp at hf
    rename_i fs hue
    simp only [Bool.and_eq_true, beq_iff_eq] at hf
    have hna : isAggT P t = false := by unfold isAggT; rw [hu]
    have hvc := cellsRow_one hna hv
    rw [hvc] at hm
    obtain ⟨v', L, h1, h2, h3, h4⟩ := open_rowsQ (Q := fun cl => All2 (CK.has kd) l cl) (c := c) hu (hf.1.2.trans hf.2) (hx kd)
      (fun {W0 b0 sp0 hd0 m0 cs0 x0} h3 hw => by
        subst hw
        obtain ⟨xs, m', _, _, hlen, hxl, hget⟩ := DataW.trod_struct hue h3
        obtain ⟨cl, g1, g2⟩ := open_mix hE hget hxl fs.toList 0 0 l rfl hf.1.1 (by omega)
        refine ⟨cl, g1, ?_⟩
        have h3 : (cs0.drop 0).take l.length = cs0 := by
          have : cs0.length = l.length := hlen.trans hf.1.2
          rw [← this, List.drop_zero, List.take_length]
        rw [h3] at g2
        exact g2) hm
    simp at h1
    subst h1
    exact ⟨.c (.rs c L), ⟨L, rfl, h3, h4⟩, h2⟩


theorem open_args {kd : Nat → List KC} (hE : Elems kd) : ∀ {ks : List ArgK} {ts : List TypeId} {vs : List Value} {ds : List (DataW H)} {ps : List MemPlace}, List.length ks = ts.length → (∀ (j : Nat) k t, ks[j]? = some k → ts[j]? = some t → k.fits P kd t = true) →
    (∀ (j : Nat) t v, ts[j]? = some t → vs[j]? = some v → Value.okWide P w .any base t v) → DataW.TrodAll enc P w 0 spare held ts vs ds ps →
    ∃ avs, All2 (ArgK.has kd) ks avs ∧ All2 (RepV (Cx.froz w) [] w) avs vs
  | [], [], vs, ds, ps, _, _, _, h => by
    obtain ⟨rfl, _, _⟩ := trodAll_nil h
    exact ⟨[], .nil, .nil⟩
  | k :: ks, t :: ts, vs, ds, ps, hl, hf, hv, h => by
    obtain ⟨v, vs1, d, ds1, a, b, rfl, rfl, rfl, h1, h2⟩ := trodAll_cons h
    obtain ⟨av, h3, h4⟩ := open_arg hE (hf 0 k t rfl rfl) (hv 0 t v rfl rfl) h1
    obtain ⟨avs, h5, h6⟩ := open_args hE (ks := ks) (by simpa using hl) (fun j k t hk ht => hf (j + 1) k t (by simpa using hk) (by simpa using ht)) (fun j t v ht hv' => hv (j + 1) t v (by simpa using ht) (by simpa using hv')) h2
    exact ⟨av :: avs, .cons h3 h5, .cons h4 h6⟩
  | [], _ :: _, _, _, _, hl, _, _, _ => by simp at hl
  | _ :: _, [], _, _, _, hl, _, _, _ => by simp at hl

theorem trodAll_stays (hl : laidOutB P = true) : ∀ {ts : List TypeId}, (∀ t ∈ ts, P.readableRec t = true ∧ t < P.types.size) → ∀ {W W' : World} {sp : Nat → Bool} {vs : List Value} {ds : List (DataW H)} {ps : List MemPlace},
    DataW.TrodAll enc P W 0 (fun _ => true) true ts vs ds ps → (∀ p ∈ ps, W.sameAt W' p) → (∀ p ∈ ps, sp p.block = true) → DataW.TrodAll enc P W' 0 sp true ts vs ds ps
  | [], _, W, W', sp, vs, ds, ps, h, _, _ => by
    obtain ⟨rfl, rfl, rfl⟩ := trodAll_nil h
    exact rfl
  | t :: ts, hr, W, W', sp, vs, ds, ps, h, hs, hp => by
    obtain ⟨v, vs1, d, ds1, a, b, rfl, rfl, rfl, h1, h2⟩ := trodAll_cons h
    exact ⟨a, b, WideElems.Trod_stays hl (hr t (by simp)).1 (hr t (by simp)).2 h1 (fun x hx => hs x (by simp [hx])) (fun x hx => hp x (by simp [hx])),
      trodAll_stays hl (fun t ht => hr t (by simp [ht])) h2 (fun x hx => hs x (by simp [hx])) (fun x hx => hp x (by simp [hx])), rfl⟩

def readB (P : Program) (ts : List TypeId) : Bool := ts.all fun t => P.readableRec t && decide (t < P.types.size)
def fitsB (P : Program) (kd : Nat → List KC) : List ArgK → List TypeId → Bool
  | [], [] => true
  | k :: ks, t :: ts => k.fits P kd t && fitsB P kd ks ts
  | _, _ => false

theorem fitsB_ok {kd : Nat → List KC} : ∀ {ks : List ArgK} {ts : List TypeId}, fitsB P kd ks ts = true → List.length ks = ts.length ∧ ∀ (j : Nat) k t, ks[j]? = some k → ts[j]? = some t → k.fits P kd t = true
  | [], [], _ => ⟨rfl, fun j k t h => by simp at h⟩
  | k :: ks, t :: ts, h => by
    simp only [fitsB, Bool.and_eq_true] at h
    have := fitsB_ok h.2
    refine ⟨by simp [this.1], fun j k' t' hk ht => ?_⟩
    cases j with
    | zero => simp at hk ht; subst hk; subst ht; exact h.1
    | succ j => exact this.2 j k' t' (by simpa using hk) (by simpa using ht)
  | [], _ :: _, h => by simp [fitsB] at h
  | _ :: _, [], h => by simp [fitsB] at h

/-- THE ROW: a law whose specification says true whatever its arguments are. -/
theorem row_lift {C : Checked} {os : Os} (own : ownKnob C.prog.godebug = none) (started : os.Started) {f : FuncId} {fn : Func} (noInit : C.prog.inits.idxOf? f = none) (hfn : C.prog.funcs[f]? = some fn)
    {s : ChangeSpec} {conds : List PathCond} (hvars : s.vars = []) (hlaid : laidOutB C.prog = true) (hread : readB C.prog fn.params.toList = true) {tb : TypeId} (hres : fn.resultTypes = #[tb]) (htb : C.prog.underlying tb = some .bool)
    (hs : ∀ (ds : List (DataW H)), ds.length = fn.params.size → s.fn H ds = { results := [.lit (.bool true)], args := ds })
    (witness : ∃ (w : World) (tape : Tape) (i : Input), w.os = os ∧ (w.forCall tape i).Shaped C.prog ∧ i.vars = [] ∧ Input.okWide C.prog (w.forCall tape i) .any w.heap.size f i ∧
      s.pre6 enc C.prog fn conds false (w.forCall tape i).memory i.args ∧ ({} : Assume).holds C.prog (lone (Frame.enter C.prog f i.args .normal) [] (w.forCall tape i)))
    {kd : Nat → List KC} (hE : Elems kd) {ks : List ArgK} (hks : fitsB C.prog kd ks fn.params.toList = true) {sp : Spec} (hsp : SpecOk C.prog f sp)
    (law : ∀ avs, All2 (ArgK.has kd) ks avs → ∃ h', (sp avs []).eval = some (.c (.bool true), h')) :
    ReturnsInHanded {} C os f .any (s.pre6 enc C.prog fn conds false) (s.post enc C.prog fn false true false false) := by
  refine returnsInHanded_of_change own started noInit hfn witness ?_
  intro W base args ds gs before hval hW _ _
  have hW' := hW
  obtain ⟨p, q, hA, hV, rfl, hfz, hnd⟩ := hW
  rw [hvars] at hV
  obtain ⟨rfl, rfl⟩ := trodVars_none hV
  have hlen := trodAll_length hA
  obtain ⟨hkl, hkf⟩ := fitsB_ok hks
  obtain ⟨avs, h1, h2⟩ := open_args (P := C.prog) (w := W) (base := base) hE hkl hkf (fun j t v ht hv => hval j t v (by simpa using ht) (by simpa using hv)) hA
  obtain ⟨h', hrun⟩ := law avs h1
  have hcall := hsp.calls (Cx.froz W) [] W avs args.toList _ h' (RelH.froz W) h2 hrun
  rw [Array.toArray_toList] at hcall
  refine hcall.mono fun e W' ⟨cv, X', he, hr, hg⟩ => ?_
  subst he
  have hcv : cv = .bool true := by cases hr; rfl
  subst hcv
  have hb : RowKit.Below W.heap.size W W' := ext_all (hg.extF (RelH.froz W))
  have hlt : ∀ x ∈ p ++ [], x.block < W.heap.size := fun x hx => hW'.lt x hx
  have hds : (ds ++ []).length = fn.params.size := by simpa using hlen.2
  have hfn' := hs (ds ++ []) hds
  have hr' : ∀ t ∈ fn.params.toList, C.prog.readableRec t = true ∧ t < C.prog.types.size := by
    intro t ht
    have := List.all_eq_true.mp hread t ht
    simpa using this
  have hargs : ∀ sp : Nat → Bool, (∀ p1 ∈ p ++ [], sp p1.block = true) → DataW.TrodAll enc C.prog W' 0 sp true fn.params.toList args.toList (s.fn H (ds ++ [])).args p := by
    intro sp hsp
    rw [hfn', List.append_nil]
    exact trodAll_stays hlaid hr' hA (fun x hx => hb.same (hlt x (by simp [hx]))) (fun x hx => hsp x (by simp [hx]))
  have hrs : ∀ (b : Nat) (sp : Nat → Bool) (hd : Bool), DataW.TrodAll enc C.prog W' b sp hd fn.resultTypes.toList ((Value.bool true).resultList fn.resultTypes.size) (s.fn H (ds ++ [])).results [] := by
    intro b sp hd
    rw [hfn', hres]
    exact trodAll_mk1 ⟨1, by simp [DataW.trod, htb, Value.cells]⟩
  have hvs : ∀ sp : Nat → Bool, DataW.TrodVars enc C.prog W' sp s.vars (s.fn H (ds ++ [])).vars [] := by
    intro sp; rw [hvars, hfn']; exact rfl
  refine ⟨_, rfl, ⟨ds, [], p ++ [], [], p, [], hW', hrs _ _ _, hargs _ (fun x hx => by simpa using hlt x hx), hvs _, hb.frame _, fun _ => ⟨?_, _, _, ([] ++ p) ++ [], ⟨[] ++ p, [], trodAll_append (hargs _ (fun _ _ => rfl)) (hrs _ _ _), hvs _, rfl, ?_, ?_⟩, ?_⟩⟩⟩
  · intro j t r hj hv
    rw [hres] at hj hv
    match j, hj, hv with
    | 0, hj, hv =>
      simp [Value.resultList] at hj hv
      subst hj; subst hv
      simp [Value.okWide, htb, Cell.okWide, Cell.ok]
  · intro b off hp
    have hp' : MemPlace.cell b off ∈ p ++ [] := by simpa using hp
    rw [hb.frozen (p := ⟨b, off, none⟩) (hlt _ hp')]
    exact hfz b off hp'
  · intro ha
    have := hnd ha
    simpa using this
  · intro p1 hp _
    simpa using hp

end
end Ab
