/- Results whose slices are memory of one's own: a slice of nothing is such a one, too. -/
import Derived.Test.YtllohgmahflpaaaAbSpec
set_option linter.unusedSectionVars false
set_option linter.unusedSimpArgs false
set_option linter.unusedVariables false
namespace Ab
open Go
section
variable [Uni] [Cod]
variable {P : Program} {e : Env} {X Y : Cx} {h i : List Blk} {w w' : World} {v : AV}

def frsL : List (Option Nat) → List Cl → List Blk → List Cl × List Blk
  | some c :: ks, x :: l, h => match isNo x with
    | true => let r := frsL ks l (h ++ [.row c []]); (.slw h.length :: r.1, r.2)
    | false => let r := frsL ks l h; (x :: r.1, r.2)
  | none :: ks, x :: l, h => let r := frsL ks l h; (x :: r.1, r.2)
  | _, l, h => (l, h)
def frsT : List (List (Option Nat)) → List (Option (Bool × List Cl)) → List Blk → List (Option (Bool × List Cl)) × List Blk
  | k :: ks, some (b, y) :: l, h => let q := frsL k y h; let r := frsT ks l q.2; (some (b, q.1) :: r.1, r.2)
  | k :: ks, none :: l, h => let r := frsT ks l h; (none :: r.1, r.2)
  | _, l, h => (l, h)
def frsV (ks : List (List (Option Nat))) (v : AV) (h : List Blk) : AV × List Blk := match v with
  | .c x => (match frsL (ks.getD 0 []) [x] h with
    | ([y], h') => (.c y, h')
    | (_, _) => (.c x, h))
  | .agg l => let r := frsL (ks.getD 0 []) l h; (.agg r.1, r.2)
  | .tup l => let r := frsT ks l h; (.tup r.1, r.2)
  | .top => (.top, h)

/-- A context that goes on, in the same world. -/
def Onto (X : Cx) (h : List Blk) (w : World) (Y : Cx) (i : List Blk) : Prop := Good X h w Y i w

theorem Onto.repL {l : List Cl} {vs : List Value} (o : Onto X h w Y i) (r : RepL X h w l vs) : RepL Y i w l vs := RepL.mono o.mono (Ext.refl _ w) r
theorem Onto.repC {x : Cl} {u : Value} (o : Onto X h w Y i) (r : RepC X h w x u) : RepC Y i w x u := RepC.mono o.mono (Ext.refl _ w) r

theorem frsL_ok : ∀ {ks : List (Option Nat)} {l : List Cl} {X : Cx} {h : List Blk} {vs : List Value}, RelH X h w → RepL X h w l vs → ∃ Y, Onto X h w Y (frsL ks l h).2 ∧ RepL Y (frsL ks l h).2 w (frsL ks l h).1 vs
  | [], l, X, h, vs, hH, r => by unfold frsL; exact ⟨X, Good.refl hH, r⟩
  | some c :: ks, [], X, h, vs, hH, r => by unfold frsL; exact ⟨X, Good.refl hH, r⟩
  | none :: ks, [], X, h, vs, hH, r => by unfold frsL; exact ⟨X, Good.refl hH, r⟩
  | none :: ks, x :: l, X, h, _, hH, .cons r1 r2 => by
    unfold frsL
    obtain ⟨Y, h1, h2⟩ := frsL_ok (ks := ks) hH r2
    exact ⟨Y, h1, .cons (h1.repC r1) h2⟩
  | some c :: ks, x :: l, X, h, _, hH, .cons r1 r2 => by
    unfold frsL
    cases hno : isNo x with
    | true =>
      have g := Good.pushNo hH c
      obtain ⟨Y, h1, h2⟩ := frsL_ok (ks := ks) g.rel (RepL.mono g.mono (Ext.refl _ w) r2)
      refine ⟨Y, Good.trans g h1, .cons (h1.repC (isNo_slw hno r1)) h2⟩
    | false =>
      obtain ⟨Y, h1, h2⟩ := frsL_ok (ks := ks) hH r2
      exact ⟨Y, h1, .cons (h1.repC r1) h2⟩

theorem frsL_len : ∀ {ks : List (Option Nat)} {l : List Cl} {h : List Blk}, (frsL ks l h).1.length = l.length
  | [], l, h => by unfold frsL; rfl
  | some c :: ks, [], h => by unfold frsL; rfl
  | none :: ks, [], h => by unfold frsL; rfl
  | none :: ks, x :: l, h => by unfold frsL; simp [frsL_len]
  | some c :: ks, x :: l, h => by
    unfold frsL
    cases isNo x <;> simp [frsL_len]

theorem Onto.repP {p : Option (Bool × List Cl)} {u : Value} (o : Onto X h w Y i) (r : RepP X h w p u) : RepP Y i w p u := by
  match p, r with
  | none, _ => trivial
  | some (true, l), r => obtain ⟨vs, hu, r⟩ := r; exact ⟨vs, hu, o.repL r⟩
  | some (false, []), _ => trivial
  | some (false, [y]), r => exact o.repC r
  | some (false, _ :: _ :: _), _ => trivial

theorem frsT_ok : ∀ {ks : List (List (Option Nat))} {l : List (Option (Bool × List Cl))} {X : Cx} {h : List Blk} {vs : List Value}, RelH X h w → All2 (RepP X h w) l vs → ∃ Y, Onto X h w Y (frsT ks l h).2 ∧ All2 (RepP Y (frsT ks l h).2 w) (frsT ks l h).1 vs
  | [], l, X, h, vs, hH, r => by unfold frsT; exact ⟨X, Good.refl hH, r⟩
  | k :: ks, [], X, h, vs, hH, r => by unfold frsT; exact ⟨X, Good.refl hH, r⟩
  | k :: ks, none :: l, X, h, _, hH, .cons r1 r2 => by
    unfold frsT
    obtain ⟨Y, h1, h2⟩ := frsT_ok (ks := ks) hH r2
    exact ⟨Y, h1, .cons trivial h2⟩
  | k :: ks, some (b, y) :: l, X, h, _, hH, .cons (b := u) r1 r2 => by
    unfold frsT
    have part : ∃ Y, Onto X h w Y (frsL k y h).2 ∧ RepP Y (frsL k y h).2 w (some (b, (frsL k y h).1)) u := by
      cases b with
      | true =>
        obtain ⟨vs, hu, r⟩ := r1
        obtain ⟨Y, h1, h2⟩ := frsL_ok (ks := k) hH r
        exact ⟨Y, h1, vs, hu, h2⟩
      | false =>
        cases y with
        | nil =>
          have e1 : (frsL k [] h).2 = h := by unfold frsL; cases k with | nil => rfl | cons a _ => cases a <;> rfl
          have e2 : (frsL k [] h).1 = [] := by have := frsL_len (ks := k) (l := []) (h := h); simpa using this
          rw [e1, e2]; exact ⟨X, Good.refl hH, trivial⟩
        | cons x y =>
          cases y with
          | nil =>
            obtain ⟨Y, h1, h2⟩ := frsL_ok (ks := k) hH (All2.cons (show RepC X h w x u from r1) .nil)
            refine ⟨Y, h1, ?_⟩
            have hl := frsL_len (ks := k) (l := [x]) (h := h)
            generalize (frsL k [x] h).1 = z at hl h2
            match z, hl, h2 with
            | [z], _, .cons h3 .nil => exact h3
          | cons x2 y =>
            have hl := frsL_len (ks := k) (l := x :: x2 :: y) (h := h)
            have hh : ∃ Y, Onto X h w Y (frsL k (x :: x2 :: y) h).2 := by
              have key : ∀ {ks : List (Option Nat)} {l : List Cl} {X : Cx} {h : List Blk}, RelH X h w → ∃ Y, Onto X h w Y (frsL ks l h).2 := by
                intro ks
                induction ks with
                | nil => intro l X h hH; unfold frsL; exact ⟨X, Good.refl hH⟩
                | cons a ks ih =>
                  intro l X h hH
                  cases l with
                  | nil => unfold frsL; cases a <;> exact ⟨X, Good.refl hH⟩
                  | cons x l =>
                    cases a with
                    | none => unfold frsL; exact ih hH
                    | some c =>
                      unfold frsL
                      cases isNo x with
                      | true =>
                        have g := Good.pushNo hH c
                        obtain ⟨Y, h1⟩ := ih (l := l) g.rel
                        exact ⟨Y, Good.trans g h1⟩
                      | false => exact ih hH
              exact key hH
            obtain ⟨Y, h1⟩ := hh
            refine ⟨Y, h1, ?_⟩
            generalize (frsL k (x :: x2 :: y) h).1 = z at hl
            match z, hl with
            | _ :: _ :: _, _ => trivial
    obtain ⟨Y, h1, h2⟩ := part
    obtain ⟨Z, h3, h4⟩ := frsT_ok (ks := ks) h1.rel (All2.mono r2 fun _ _ q => h1.repP q)
    exact ⟨Z, Good.trans h1 h3, .cons (h3.repP h2) h4⟩

theorem frsV_ok {ks : List (List (Option Nat))} {x : AV} {u : Value} (hH : RelH X h w) (r : RepV X h w x u) : ∃ Y, Onto X h w Y (frsV ks x h).2 ∧ RepV Y (frsV ks x h).2 w (frsV ks x h).1 u := by
  cases x with
  | top => exact ⟨X, Good.refl hH, trivial⟩
  | c y =>
    unfold frsV
    simp only
    have hr : RepC X h w y u := r
    obtain ⟨Y, h1, h2⟩ := frsL_ok (ks := ks.getD 0 []) hH (All2.cons hr .nil)
    split
    · rename_i z h' hz
      rw [hz] at h1 h2
      cases h2 with
      | cons h3 _ => exact ⟨Y, h1, h3⟩
    · exact ⟨X, Good.refl hH, r⟩
  | agg l =>
    obtain ⟨vs, hu, r⟩ := r
    obtain ⟨Y, h1, h2⟩ := frsL_ok (ks := ks.getD 0 []) hH r
    exact ⟨Y, h1, vs, hu, h2⟩
  | tup l =>
    obtain ⟨vs, hu, r⟩ := r
    obtain ⟨Y, h1, h2⟩ := frsT_ok (ks := ks) hH r
    exact ⟨Y, h1, vs, hu, h2⟩

def frsR (ks : List (List (Option Nat))) (sp : Spec) : Spec := fun args h => match h with
  | [] => (sp args []).bind fun p => .val (frsV ks p.1 p.2)
  | _ :: _ => .fail

theorem SpecOk.fresh {f : FuncId} {sp : Spec} (ok : SpecOk P f sp) (ks : List (List (Option Nat))) : SpecOk P f (frsR ks sp) := by
  refine ⟨ok.enter, fun X h w args cargs v h' hH ha hv => ?_⟩
  unfold frsR at hv
  cases h with
  | cons b r => simp [Res.eval] at hv
  | nil =>
    simp only at hv
    rw [Res.eval_bind] at hv
    obtain ⟨p, hp, hv⟩ := Option.bind_eq_some_iff.mp hv
    simp only [Res.eval, Option.some.injEq] at hv
    refine (ok.calls X [] w args cargs p.1 p.2 hH ha hp).mono fun en w3 hen => ?_
    obtain ⟨cv, X', rfl, hr, hg⟩ := hen
    obtain ⟨Y, h1, h2⟩ := frsV_ok (ks := ks) hg.rel hr
    rw [hv] at h1 h2
    exact ⟨cv, Y, rfl, h2, hg.trans h1⟩

end
end Ab
