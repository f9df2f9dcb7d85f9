/- Seat 06: the functions. -/
import Derived.Test.YtnbcmbbhmknbbaaAb06xa
set_option maxRecDepth 100000
set_option maxHeartbeats 4000000
set_option linter.unusedVariables false
set_option linter.unusedSimpArgs false
namespace Ab06x
open Go Ab

/-- pontage/vector.Add -/
noncomputable def L17 : SL := []
noncomputable def e17 : Env := ⟨ti, fun g => lookS g L17, 1000000⟩
def g17T (x0 : S0) (x1 : Int) : Tr (S0) :=
  .leaf ({ x0 with f1 := (IntKind.u32.wrap (x0.f1 + x1)) })
def g17 (x0 : S0) (x1 : Int) : S0 := (g17T x0 x1).get default
def s17 : Ab.Spec := fun args h =>
  dN h <| dL args fun v0 a0 => dG v0 fun l0 => dE 0 l0 fun x0 => dL a0 fun v1 a1 => dC v1 fun c0 => dI .u32 c0 fun x1 => dN a1 <|
  let r := g17 x0 x1; .val (.agg (Cod.enc 0 r), [])
theorem g17_run (x0 : S0) (x1 : Int) : (runR e17 Go.Proofs.Try.f17 [.agg (Cod.enc 0 x0), .c (.int .u32 x1)] []).eval = (g17T x0 x1).ev fun r => ((.agg (Cod.enc 0 r) : AV), ([] : List Blk)) := by kernel_rfl
theorem s17_ok : SpecOk Go.Proofs.Try.prog 17 s17 :=
  (runR_ok (e := e17) follows (allTI ti_ok _ _) (callsOk_nil) Go.Proofs.Try.func17 Go.Proofs.Try.call17).less fun args hs r h => by
    unfold s17 at h
    obtain ⟨rfl, hh1⟩ := dN_inv h
    obtain ⟨v0, a0, rfl, hh2⟩ := dL_inv hh1
    obtain ⟨l0, rfl, hh3⟩ := dG_inv hh2
    obtain ⟨x0, rfl, hh4⟩ := dE_inv hh3
    obtain ⟨v1, a1, rfl, hh5⟩ := dL_inv hh4
    obtain ⟨c0, rfl, hh6⟩ := dC_inv hh5
    obtain ⟨x1, rfl, hh7⟩ := dI_inv hh6
    obtain ⟨rfl, hh8⟩ := dN_inv hh7
    rw [g17_run, Tr.ev_get (d := default) (by kernel_rfl)]
    exact hh8
/-- pontage/pontageref06.Add -/
noncomputable def L18 : SL := []
noncomputable def e18 : Env := ⟨ti, fun g => lookS g L18, 1000000⟩
def g18T (x0 : S0) (x1 : Int) : Tr (S0) :=
  .leaf ({ x0 with f1 := (IntKind.u32.wrap (x0.f1 + x1)) })
def g18 (x0 : S0) (x1 : Int) : S0 := (g18T x0 x1).get default
def s18 : Ab.Spec := fun args h =>
  dN h <| dL args fun v0 a0 => dG v0 fun l0 => dE 0 l0 fun x0 => dL a0 fun v1 a1 => dC v1 fun c0 => dI .u32 c0 fun x1 => dN a1 <|
  let r := g18 x0 x1; .val (.agg (Cod.enc 0 r), [])
theorem g18_run (x0 : S0) (x1 : Int) : (runR e18 Go.Proofs.Try.f18 [.agg (Cod.enc 0 x0), .c (.int .u32 x1)] []).eval = (g18T x0 x1).ev fun r => ((.agg (Cod.enc 0 r) : AV), ([] : List Blk)) := by kernel_rfl
theorem s18_ok : SpecOk Go.Proofs.Try.prog 18 s18 :=
  (runR_ok (e := e18) follows (allTI ti_ok _ _) (callsOk_nil) Go.Proofs.Try.func18 Go.Proofs.Try.call18).less fun args hs r h => by
    unfold s18 at h
    obtain ⟨rfl, hh1⟩ := dN_inv h
    obtain ⟨v0, a0, rfl, hh2⟩ := dL_inv hh1
    obtain ⟨l0, rfl, hh3⟩ := dG_inv hh2
    obtain ⟨x0, rfl, hh4⟩ := dE_inv hh3
    obtain ⟨v1, a1, rfl, hh5⟩ := dL_inv hh4
    obtain ⟨c0, rfl, hh6⟩ := dC_inv hh5
    obtain ⟨x1, rfl, hh7⟩ := dI_inv hh6
    obtain ⟨rfl, hh8⟩ := dN_inv hh7
    rw [g18_run, Tr.ev_get (d := default) (by kernel_rfl)]
    exact hh8
/-- pontage/vector.Own -/
noncomputable def L19 : SL := []
noncomputable def e19 : Env := ⟨ti, fun g => lookS g L19, 1000000⟩
def g19T (x0 : Int) : Tr (S0) :=
  .leaf ((S0.mk x0 0 x0 0))
def g19 (x0 : Int) : S0 := (g19T x0).get default
def s19 : Ab.Spec := fun args h =>
  dN h <| dL args fun v0 a0 => dC v0 fun c0 => dI .u64 c0 fun x0 => dN a0 <|
  let r := g19 x0; .val (.agg (Cod.enc 0 r), [])
theorem g19_run (x0 : Int) : (runR e19 Go.Proofs.Try.f19 [.c (.int .u64 x0)] []).eval = (g19T x0).ev fun r => ((.agg (Cod.enc 0 r) : AV), ([] : List Blk)) := by kernel_rfl
theorem s19_ok : SpecOk Go.Proofs.Try.prog 19 s19 :=
  (runR_ok (e := e19) follows (allTI ti_ok _ _) (callsOk_nil) Go.Proofs.Try.func19 Go.Proofs.Try.call19).less fun args hs r h => by
    unfold s19 at h
    obtain ⟨rfl, hh1⟩ := dN_inv h
    obtain ⟨v0, a0, rfl, hh2⟩ := dL_inv hh1
    obtain ⟨c0, rfl, hh3⟩ := dC_inv hh2
    obtain ⟨x0, rfl, hh4⟩ := dI_inv hh3
    obtain ⟨rfl, hh5⟩ := dN_inv hh4
    rw [g19_run, Tr.ev_get (d := default) (by kernel_rfl)]
    exact hh5
/-- pontage/pontageref06.Own -/
noncomputable def L20 : SL := []
noncomputable def e20 : Env := ⟨ti, fun g => lookS g L20, 1000000⟩
def g20T (x0 : Int) : Tr (S0) :=
  .leaf ((S0.mk x0 0 x0 0))
def g20 (x0 : Int) : S0 := (g20T x0).get default
def s20 : Ab.Spec := fun args h =>
  dN h <| dL args fun v0 a0 => dC v0 fun c0 => dI .u64 c0 fun x0 => dN a0 <|
  let r := g20 x0; .val (.agg (Cod.enc 0 r), [])
theorem g20_run (x0 : Int) : (runR e20 Go.Proofs.Try.f20 [.c (.int .u64 x0)] []).eval = (g20T x0).ev fun r => ((.agg (Cod.enc 0 r) : AV), ([] : List Blk)) := by kernel_rfl
theorem s20_ok : SpecOk Go.Proofs.Try.prog 20 s20 :=
  (runR_ok (e := e20) follows (allTI ti_ok _ _) (callsOk_nil) Go.Proofs.Try.func20 Go.Proofs.Try.call20).less fun args hs r h => by
    unfold s20 at h
    obtain ⟨rfl, hh1⟩ := dN_inv h
    obtain ⟨v0, a0, rfl, hh2⟩ := dL_inv hh1
    obtain ⟨c0, rfl, hh3⟩ := dC_inv hh2
    obtain ⟨x0, rfl, hh4⟩ := dI_inv hh3
    obtain ⟨rfl, hh5⟩ := dN_inv hh4
    rw [g20_run, Tr.ev_get (d := default) (by kernel_rfl)]
    exact hh5
/-- pontage/vector.Compare -/
noncomputable def L10 : SL := []
noncomputable def e10 : Env := ⟨ti, fun g => lookS g L10, 1000000⟩
def g10T (x0 : S0) (x1 : S0) : Tr (Int) :=
  .br (decide (x0.f0 < x1.f0)) (
   .leaf ((-1))) (
   .br (decide (x0.f0 > x1.f0)) (
    .leaf (1)) (
    .br (decide ((IntKind.u64.wrap x0.f1) < (IntKind.u64.wrap x1.f1))) (
     .leaf ((-1))) (
     .br (decide ((IntKind.u64.wrap x0.f1) > (IntKind.u64.wrap x1.f1))) (
      .leaf (1)) (
      .br (decide (x0.f2 < x1.f2)) (
       .leaf ((-1))) (
       .br (decide (x0.f2 > x1.f2)) (
        .leaf (1)) (
        .br (decide ((IntKind.u64.wrap x0.f3) < (IntKind.u64.wrap x1.f3))) (
         .leaf ((-1))) (
         .br (decide ((IntKind.u64.wrap x0.f3) > (IntKind.u64.wrap x1.f3))) (
          .leaf (1)) (
          .leaf (0)))))))))
def g10 (x0 : S0) (x1 : S0) : Int := (g10T x0 x1).get default
def s10 : Ab.Spec := fun args h =>
  dN h <| dL args fun v0 a0 => dG v0 fun l0 => dE 0 l0 fun x0 => dL a0 fun v1 a1 => dG v1 fun l1 => dE 0 l1 fun x1 => dN a1 <|
  let r := g10 x0 x1; .val (.c (.int .i64 r), [])
theorem g10_run (x0 : S0) (x1 : S0) : (runR e10 Go.Proofs.Try.f10 [.agg (Cod.enc 0 x0), .agg (Cod.enc 0 x1)] []).eval = (g10T x0 x1).ev fun r => ((.c (.int .i64 r) : AV), ([] : List Blk)) := by kernel_rfl
theorem s10_ok : SpecOk Go.Proofs.Try.prog 10 s10 :=
  (runR_ok (e := e10) follows (allTI ti_ok _ _) (callsOk_nil) Go.Proofs.Try.func10 Go.Proofs.Try.call10).less fun args hs r h => by
    unfold s10 at h
    obtain ⟨rfl, hh1⟩ := dN_inv h
    obtain ⟨v0, a0, rfl, hh2⟩ := dL_inv hh1
    obtain ⟨l0, rfl, hh3⟩ := dG_inv hh2
    obtain ⟨x0, rfl, hh4⟩ := dE_inv hh3
    obtain ⟨v1, a1, rfl, hh5⟩ := dL_inv hh4
    obtain ⟨l1, rfl, hh6⟩ := dG_inv hh5
    obtain ⟨x1, rfl, hh7⟩ := dE_inv hh6
    obtain ⟨rfl, hh8⟩ := dN_inv hh7
    rw [g10_run, Tr.ev_get (d := default) (by kernel_rfl)]
    exact hh8
/-- pontage/vector.Better -/
noncomputable def L12 : SL := [(10, .byVal, s10)]
noncomputable def e12 : Env := ⟨ti, fun g => lookS g L12, 1000000⟩
def g12T (x0 : S0) (x1 : S0) : Tr (Bool) :=
  let z1 := g10 x0 x1
  .leaf ((decide (z1 < 0)))
def g12 (x0 : S0) (x1 : S0) : Bool := (g12T x0 x1).get default
def s12 : Ab.Spec := fun args h =>
  dN h <| dL args fun v0 a0 => dG v0 fun l0 => dE 0 l0 fun x0 => dL a0 fun v1 a1 => dG v1 fun l1 => dE 0 l1 fun x1 => dN a1 <|
  let r := g12 x0 x1; .val (.c (.bool r), [])
theorem g12_run (x0 : S0) (x1 : S0) : (runR e12 Go.Proofs.Try.f12 [.agg (Cod.enc 0 x0), .agg (Cod.enc 0 x1)] []).eval = (g12T x0 x1).ev fun r => ((.c (.bool r) : AV), ([] : List Blk)) := by kernel_rfl
theorem s12_ok : SpecOk Go.Proofs.Try.prog 12 s12 :=
  (runR_ok (e := e12) follows (allTI ti_ok _ _) (callsOk_cons s10_ok (callsOk_nil)) Go.Proofs.Try.func12 Go.Proofs.Try.call12).less fun args hs r h => by
    unfold s12 at h
    obtain ⟨rfl, hh1⟩ := dN_inv h
    obtain ⟨v0, a0, rfl, hh2⟩ := dL_inv hh1
    obtain ⟨l0, rfl, hh3⟩ := dG_inv hh2
    obtain ⟨x0, rfl, hh4⟩ := dE_inv hh3
    obtain ⟨v1, a1, rfl, hh5⟩ := dL_inv hh4
    obtain ⟨l1, rfl, hh6⟩ := dG_inv hh5
    obtain ⟨x1, rfl, hh7⟩ := dE_inv hh6
    obtain ⟨rfl, hh8⟩ := dN_inv hh7
    rw [g12_run, Tr.ev_get (d := default) (by kernel_rfl)]
    exact hh8
/-- pontage/vector.Best -/
noncomputable def L21 : SL := [(12, .byVal, s12)]
noncomputable def e21 : Env := ⟨ti, fun g => lookS g L21, 1000000⟩
structure W21_0 where
  a0 : List S0
  a1 : Int
  a2 : Int
  a3 : List S0
  a4 : Int
  a5 : Int
def hd21_0 (v : W21_0) : St := ⟨[.c (.rs 0 v.a0), .top, .c (.int .i64 v.a1), .c (.int .i64 v.a2), .top, .top, .c (.rs 0 v.a3), .c (.int .i64 v.a4), .c (.int .i64 v.a5), .top, .top, .top, .top, .top, .top, .top, .top, .top, .top, .top, .top, .top, .top, .top, .top, .top], []⟩
def pa21_0 : List PA := [.c (.rs 0), .top, .c (.int .i64), .c (.int .i64), .top, .top, .c (.rs 0), .c (.int .i64), .c (.int .i64), .top, .top, .top, .top, .top, .top, .top, .top, .top, .top, .top, .top, .top, .top, .top, .top, .top]
def pb21_0 : List PB := []
def ini21_0 (s : St) : W21_0 := ⟨rC 0 (aC (s.tmps.getD 0 .top)), iC (aC (s.tmps.getD 2 .top)), iC (aC (s.tmps.getD 3 .top)), rC 0 (aC (s.tmps.getD 6 .top)), iC (aC (s.tmps.getD 7 .top)), iC (aC (s.tmps.getD 8 .top))⟩
def gR21_0 (v : W21_0) : Tr (W21_0 ⊕ (Bool × W21_0)) :=
  .br (decide (v.a5 < v.a4)) (
   .br (decide (0 ≤ v.a5)) (
    .opt (v.a3[Int.toNat v.a5]?) fun y2 =>
     .br (!(decide (v.a2 < 0))) (
      .br (decide (0 ≤ v.a2)) (
       .opt (v.a0[Int.toNat v.a2]?) fun y4 =>
        let z5 := g12 y2 y4
        .br z5 (
         .leaf (.inl (W21_0.mk (v.a0) (v.a1) (v.a5) (v.a3) (v.a4) ((IntKind.i64.wrap (v.a5 + 1)))))) (
         .leaf (.inl (W21_0.mk (v.a0) (v.a1) (v.a2) (v.a3) (v.a4) ((IntKind.i64.wrap (v.a5 + 1))))))) (
       .fail)) (
      .leaf (.inl (W21_0.mk (v.a0) (v.a1) (v.a5) (v.a3) (v.a4) ((IntKind.i64.wrap (v.a5 + 1))))))) (
    .fail)) (
   .leaf (.inr (false, W21_0.mk (v.a0) (v.a1) (v.a2) (v.a3) (v.a4) (v.a5))))
noncomputable def lb21_0 : Code := match findB 0 (Go.Proofs.Try.f21.body.getD .skip) with | [.loop b] => b | _ => .skip
noncomputable def F21_0 : St → Res (Ex × St) := loopF pa21_0 pb21_0 1000000 hd21_0 gR21_0 ini21_0 false
theorem F21_0_ok (s : St) (r : Ex × St) (h : (F21_0 s).eval = some r) : (codeR e21 0 (.block 0 (.loop lb21_0)) s).eval = some r :=
  blk_ok (e := e21) (T := lookT []) (fun s v => by kernel_rfl) (fun s => by kernel_rfl) (tab_nil) s r h
def g21T (x0 : List S0) : Tr (Int) :=
  .opt (iter gR21_0 1000000 (W21_0.mk (x0) (0) ((-1)) (x0) ((x0.length : Int)) (0))) fun r6 =>
   .br r6.1 (
    .fail) (
    .leaf (r6.2.a2))
def g21 (x0 : List S0) : Option (Int) := (g21T x0).get?
def s21 : Ab.Spec := fun args h =>
  dN h <| dL args fun v0 a0 => dC v0 fun c0 => dR0 0 c0 fun x0 => dN a0 <|
  .opt (g21 x0) fun r => .val (.c (.int .i64 r), [])
noncomputable def T21 : TL := [(0, F21_0)]
theorem g21_run (x0 : List S0) : (runQ e21 (lookT T21) Go.Proofs.Try.f21 [.c (.rs 0 x0)] []).eval = (g21T x0).ev fun r => ((.c (.int .i64 r) : AV), ([] : List Blk)) := by kernel_rfl
theorem s21_ok : SpecOk Go.Proofs.Try.prog 21 s21 :=
  (runR_ok (e := e21) follows (allTI ti_ok _ _) (callsOk_cons s12_ok (callsOk_nil)) Go.Proofs.Try.func21 Go.Proofs.Try.call21).less fun args hs r h => by
    unfold s21 at h
    obtain ⟨rfl, hh1⟩ := dN_inv h
    obtain ⟨v0, a0, rfl, hh2⟩ := dL_inv hh1
    obtain ⟨c0, rfl, hh3⟩ := dC_inv hh2
    obtain ⟨x0, rfl, hh4⟩ := dR0_inv hh3
    obtain ⟨rfl, hh5⟩ := dN_inv hh4
    refine runQ_le (T := lookT T21) (fun c hc => ?_) ?_
    · have hb : c = Go.Proofs.Try.f21.body.getD .skip := by rw [hc]; rfl
      subst hb
      exact tab_cons (by kernel_rfl) F21_0_ok (tab_nil)
    rw [g21_run, Tr.ev_get?]
    change (Res.opt (g21 x0) _).eval = some r at hh5
    rw [eval_opt] at hh5
    obtain ⟨z, hz, hh6⟩ := Option.bind_eq_some_iff.mp hh5
    unfold g21 at hz
    rw [hz]; exact hh6
/-- pontage/pontageref06.Better -/
noncomputable def L13 : SL := []
noncomputable def e13 : Env := ⟨ti, fun g => lookS g L13, 1000000⟩
def g13T (x0 : S0) (x1 : S0) : Tr (Bool) :=
  .br (x0.f0 != x1.f0) (
   .leaf ((decide (x0.f0 < x1.f0)))) (
   .br (x0.f1 != x1.f1) (
    .leaf ((decide (x0.f1 < x1.f1)))) (
    .br (x0.f2 != x1.f2) (
     .leaf ((decide (x0.f2 < x1.f2)))) (
     .leaf ((decide (x0.f3 < x1.f3))))))
def g13 (x0 : S0) (x1 : S0) : Bool := (g13T x0 x1).get default
def s13 : Ab.Spec := fun args h =>
  dN h <| dL args fun v0 a0 => dG v0 fun l0 => dE 0 l0 fun x0 => dL a0 fun v1 a1 => dG v1 fun l1 => dE 0 l1 fun x1 => dN a1 <|
  let r := g13 x0 x1; .val (.c (.bool r), [])
theorem g13_run (x0 : S0) (x1 : S0) : (runR e13 Go.Proofs.Try.f13 [.agg (Cod.enc 0 x0), .agg (Cod.enc 0 x1)] []).eval = (g13T x0 x1).ev fun r => ((.c (.bool r) : AV), ([] : List Blk)) := by kernel_rfl
theorem s13_ok : SpecOk Go.Proofs.Try.prog 13 s13 :=
  (runR_ok (e := e13) follows (allTI ti_ok _ _) (callsOk_nil) Go.Proofs.Try.func13 Go.Proofs.Try.call13).less fun args hs r h => by
    unfold s13 at h
    obtain ⟨rfl, hh1⟩ := dN_inv h
    obtain ⟨v0, a0, rfl, hh2⟩ := dL_inv hh1
    obtain ⟨l0, rfl, hh3⟩ := dG_inv hh2
    obtain ⟨x0, rfl, hh4⟩ := dE_inv hh3
    obtain ⟨v1, a1, rfl, hh5⟩ := dL_inv hh4
    obtain ⟨l1, rfl, hh6⟩ := dG_inv hh5
    obtain ⟨x1, rfl, hh7⟩ := dE_inv hh6
    obtain ⟨rfl, hh8⟩ := dN_inv hh7
    rw [g13_run, Tr.ev_get (d := default) (by kernel_rfl)]
    exact hh8
/-- pontage/pontageref06.Best -/
noncomputable def L22 : SL := [(13, .byVal, s13)]
noncomputable def e22 : Env := ⟨ti, fun g => lookS g L22, 1000000⟩
structure W22_0 where
  a0 : List S0
  a1 : Int
  a2 : Int
  a3 : Int
def hd22_0 (v : W22_0) : St := ⟨[.c (.rs 0 v.a0), .top, .c (.int .i64 v.a1), .c (.int .i64 v.a2), .c (.int .i64 v.a3), .top, .top, .top, .top, .top, .top, .top, .top, .top, .top, .top, .top, .top, .top, .top, .top, .top, .top, .top, .top, .top], []⟩
def pa22_0 : List PA := [.c (.rs 0), .top, .c (.int .i64), .c (.int .i64), .c (.int .i64), .top, .top, .top, .top, .top, .top, .top, .top, .top, .top, .top, .top, .top, .top, .top, .top, .top, .top, .top, .top, .top]
def pb22_0 : List PB := []
def ini22_0 (s : St) : W22_0 := ⟨rC 0 (aC (s.tmps.getD 0 .top)), iC (aC (s.tmps.getD 2 .top)), iC (aC (s.tmps.getD 3 .top)), iC (aC (s.tmps.getD 4 .top))⟩
def gR22_0 (v : W22_0) : Tr (W22_0 ⊕ (Bool × W22_0)) :=
  .br (decide (v.a3 < (v.a0.length : Int))) (
   .br (!(decide (v.a2 < 0))) (
    .br (decide (0 ≤ v.a3)) (
     .opt (v.a0[Int.toNat v.a3]?) fun y8 =>
      .br (decide (0 ≤ v.a2)) (
       .opt (v.a0[Int.toNat v.a2]?) fun y9 =>
        let z10 := g13 y8 y9
        .br z10 (
         .leaf (.inl (W22_0.mk (v.a0) (v.a1) (v.a3) ((IntKind.i64.wrap (v.a3 + 1)))))) (
         .leaf (.inl (W22_0.mk (v.a0) (v.a1) (v.a2) ((IntKind.i64.wrap (v.a3 + 1))))))) (
       .fail)) (
     .fail)) (
    .leaf (.inl (W22_0.mk (v.a0) (v.a1) (v.a3) ((IntKind.i64.wrap (v.a3 + 1))))))) (
   .leaf (.inr (false, W22_0.mk (v.a0) (v.a1) (v.a2) (v.a3))))
noncomputable def lb22_0 : Code := match findB 0 (Go.Proofs.Try.f22.body.getD .skip) with | [.loop b] => b | _ => .skip
noncomputable def F22_0 : St → Res (Ex × St) := loopF pa22_0 pb22_0 1000000 hd22_0 gR22_0 ini22_0 false
theorem F22_0_ok (s : St) (r : Ex × St) (h : (F22_0 s).eval = some r) : (codeR e22 0 (.block 0 (.loop lb22_0)) s).eval = some r :=
  blk_ok (e := e22) (T := lookT []) (fun s v => by kernel_rfl) (fun s => by kernel_rfl) (tab_nil) s r h
def g22T (x0 : List S0) : Tr (Int) :=
  .opt (iter gR22_0 1000000 (W22_0.mk (x0) (0) ((-1)) (0))) fun r11 =>
   .br r11.1 (
    .fail) (
    .leaf (r11.2.a2))
def g22 (x0 : List S0) : Option (Int) := (g22T x0).get?
def s22 : Ab.Spec := fun args h =>
  dN h <| dL args fun v0 a0 => dC v0 fun c0 => dR0 0 c0 fun x0 => dN a0 <|
  .opt (g22 x0) fun r => .val (.c (.int .i64 r), [])
noncomputable def T22 : TL := [(0, F22_0)]
theorem g22_run (x0 : List S0) : (runQ e22 (lookT T22) Go.Proofs.Try.f22 [.c (.rs 0 x0)] []).eval = (g22T x0).ev fun r => ((.c (.int .i64 r) : AV), ([] : List Blk)) := by kernel_rfl
theorem s22_ok : SpecOk Go.Proofs.Try.prog 22 s22 :=
  (runR_ok (e := e22) follows (allTI ti_ok _ _) (callsOk_cons s13_ok (callsOk_nil)) Go.Proofs.Try.func22 Go.Proofs.Try.call22).less fun args hs r h => by
    unfold s22 at h
    obtain ⟨rfl, hh1⟩ := dN_inv h
    obtain ⟨v0, a0, rfl, hh2⟩ := dL_inv hh1
    obtain ⟨c0, rfl, hh3⟩ := dC_inv hh2
    obtain ⟨x0, rfl, hh4⟩ := dR0_inv hh3
    obtain ⟨rfl, hh5⟩ := dN_inv hh4
    refine runQ_le (T := lookT T22) (fun c hc => ?_) ?_
    · have hb : c = Go.Proofs.Try.f22.body.getD .skip := by rw [hc]; rfl
      subst hb
      exact tab_cons (by kernel_rfl) F22_0_ok (tab_nil)
    rw [g22_run, Tr.ev_get?]
    change (Res.opt (g22 x0) _).eval = some r at hh5
    rw [eval_opt] at hh5
    obtain ⟨z, hz, hh6⟩ := Option.bind_eq_some_iff.mp hh5
    unfold g22 at hz
    rw [hz]; exact hh6
/-- pontage/vector.Number -/
noncomputable def L33 : SL := []
noncomputable def e33 : Env := ⟨ti, fun g => lookS g L33, 1000000⟩
def g33T (x0 : Int) : Tr (Int) :=
  .leaf ((andI .u16 x0 4095))
def g33 (x0 : Int) : Int := (g33T x0).get default
def s33 : Ab.Spec := fun args h =>
  dN h <| dL args fun v0 a0 => dC v0 fun c0 => dI .u16 c0 fun x0 => dN a0 <|
  let r := g33 x0; .val (.c (.int .u16 r), [])
theorem g33_run (x0 : Int) : (runR e33 Go.Proofs.Try.f33 [.c (.int .u16 x0)] []).eval = (g33T x0).ev fun r => ((.c (.int .u16 r) : AV), ([] : List Blk)) := by kernel_rfl
theorem s33_ok : SpecOk Go.Proofs.Try.prog 33 s33 :=
  (runR_ok (e := e33) follows (allTI ti_ok _ _) (callsOk_nil) Go.Proofs.Try.func33 Go.Proofs.Try.call33).less fun args hs r h => by
    unfold s33 at h
    obtain ⟨rfl, hh1⟩ := dN_inv h
    obtain ⟨v0, a0, rfl, hh2⟩ := dL_inv hh1
    obtain ⟨c0, rfl, hh3⟩ := dC_inv hh2
    obtain ⟨x0, rfl, hh4⟩ := dI_inv hh3
    obtain ⟨rfl, hh5⟩ := dN_inv hh4
    rw [g33_run, Tr.ev_get (d := default) (by kernel_rfl)]
    exact hh5
/-- pontage/vector.Superior -/
noncomputable def L14 : SL := [(12, .byVal, s12), (33, .byVal, s33)]
noncomputable def e14 : Env := ⟨ti, fun g => lookS g L14, 1000000⟩
def g14T (x0 : S0) (x1 : S0) : Tr (Bool) :=
  let z12 := g12 x0 x1
  let z13 := g33 x0.f3
  let z14 := g33 x1.f3
  .leaf ((bif z12 then true else (bif ((andI .u64 x0.f2 281474976710655) == (andI .u64 x1.f2 281474976710655)) then (z13 == z14) else false)))
def g14 (x0 : S0) (x1 : S0) : Bool := (g14T x0 x1).get default
def s14 : Ab.Spec := fun args h =>
  dN h <| dL args fun v0 a0 => dG v0 fun l0 => dE 0 l0 fun x0 => dL a0 fun v1 a1 => dG v1 fun l1 => dE 0 l1 fun x1 => dN a1 <|
  let r := g14 x0 x1; .val (.c (.bool r), [])
theorem g14_run (x0 : S0) (x1 : S0) : (runR e14 Go.Proofs.Try.f14 [.agg (Cod.enc 0 x0), .agg (Cod.enc 0 x1)] []).eval = (g14T x0 x1).ev fun r => ((.c (.bool r) : AV), ([] : List Blk)) := by kernel_rfl
theorem s14_ok : SpecOk Go.Proofs.Try.prog 14 s14 :=
  (runR_ok (e := e14) follows (allTI ti_ok _ _) (callsOk_cons s12_ok (callsOk_cons s33_ok (callsOk_nil))) Go.Proofs.Try.func14 Go.Proofs.Try.call14).less fun args hs r h => by
    unfold s14 at h
    obtain ⟨rfl, hh1⟩ := dN_inv h
    obtain ⟨v0, a0, rfl, hh2⟩ := dL_inv hh1
    obtain ⟨l0, rfl, hh3⟩ := dG_inv hh2
    obtain ⟨x0, rfl, hh4⟩ := dE_inv hh3
    obtain ⟨v1, a1, rfl, hh5⟩ := dL_inv hh4
    obtain ⟨l1, rfl, hh6⟩ := dG_inv hh5
    obtain ⟨x1, rfl, hh7⟩ := dE_inv hh6
    obtain ⟨rfl, hh8⟩ := dN_inv hh7
    rw [g14_run, Tr.ev_get (d := default) (by kernel_rfl)]
    exact hh8
/-- pontage/pontagelaw06.awake -/
noncomputable def L16 : SL := [(12, .byVal, s12), (14, .byVal, s14), (21, .byVal, s21)]
noncomputable def e16 : Env := ⟨ti, fun g => lookS g L16, 1000000⟩
def g16T  : Tr (Bool) :=
  let z15 := g12 (S0.mk 1 5 3 0) (S0.mk 1 5 4 0)
  let z16 := g14 (S0.mk 1 9 3 7) (S0.mk 1 5 3 7)
  let z17 := g12 (S0.mk 1 9 3 7) (S0.mk 1 5 3 0)
  .br (bif (bif z15 then z16 else false) then (!z17) else false) (
   .opt (g21 [(S0.mk 1 5 4 0), (S0.mk 1 5 3 0)]) fun z18 =>
    .leaf ((z18 == 1))) (
   .leaf (false))
def g16  : Option (Bool) := (g16T ).get?
def s16 : Ab.Spec := fun args h =>
  dN h <| dN args <|
  .opt (g16) fun r => .val (.c (.bool r), [])
theorem g16_run  : (runR e16 Go.Proofs.Try.f16 [] []).eval = (g16T ).ev fun r => ((.c (.bool r) : AV), ([] : List Blk)) := by kernel_rfl
theorem s16_ok : SpecOk Go.Proofs.Try.prog 16 s16 :=
  (runR_ok (e := e16) follows (allTI ti_ok _ _) (callsOk_cons s12_ok (callsOk_cons s14_ok (callsOk_cons s21_ok (callsOk_nil)))) Go.Proofs.Try.func16 Go.Proofs.Try.call16).less fun args hs r h => by
    unfold s16 at h
    obtain ⟨rfl, hh1⟩ := dN_inv h
    obtain ⟨rfl, hh2⟩ := dN_inv hh1
    rw [g16_run, Tr.ev_get?]
    change (Res.opt (g16) _).eval = some r at hh2
    rw [eval_opt] at hh2
    obtain ⟨z, hz, hh3⟩ := Option.bind_eq_some_iff.mp hh2
    unfold g16 at hz
    rw [hz]; exact hh3
/-- pontage/pontagelaw06.VectorMakes -/
noncomputable def L6 : SL := [(17, .byVal, s17), (18, .byVal, s18), (19, .byVal, s19), (20, .byVal, s20), (21, .byVal, s21), (22, .byVal, s22), (16, .byVal, s16)]
noncomputable def e6 : Env := ⟨ti, fun g => lookS g L6, 1000000⟩
def g6T (x0 : S0) (x1 : Int) (x2 : Int) (x3 : List S0) : Tr (Bool) :=
  .br (decide ((x3.length : Int) > 40)) (
   .br (decide (0 ≤ 40) && decide (40 ≤ (x3.length : Int))) (
    let z19 := g17 x0 x1
    let z20 := g18 x0 x1
    let z21 := g19 x2
    let z22 := g20 x2
    .br (bif ((z19.f0 == z20.f0) && ((z19.f1 == z20.f1) && ((z19.f2 == z20.f2) && (z19.f3 == z20.f3)))) then ((z21.f0 == z22.f0) && ((z21.f1 == z22.f1) && ((z21.f2 == z22.f2) && (z21.f3 == z22.f3)))) else false) (
     .opt (g21 (List.take (Int.toNat 40) x3)) fun z24 =>
      .opt (g22 (List.take (Int.toNat 40) x3)) fun z25 =>
       .br (z24 == z25) (
        .opt (g16 ) fun z27 =>
         .leaf (z27)) (
        .leaf (false))) (
     .leaf (false))) (
    .fail)) (
   let z29 := g17 x0 x1
   let z30 := g18 x0 x1
   let z31 := g19 x2
   let z32 := g20 x2
   .br (bif ((z29.f0 == z30.f0) && ((z29.f1 == z30.f1) && ((z29.f2 == z30.f2) && (z29.f3 == z30.f3)))) then ((z31.f0 == z32.f0) && ((z31.f1 == z32.f1) && ((z31.f2 == z32.f2) && (z31.f3 == z32.f3)))) else false) (
    .opt (g21 x3) fun z34 =>
     .opt (g22 x3) fun z35 =>
      .br (z34 == z35) (
       .opt (g16 ) fun z37 =>
        .leaf (z37)) (
       .leaf (false))) (
    .leaf (false)))
def g6 (x0 : S0) (x1 : Int) (x2 : Int) (x3 : List S0) : Option (Bool) := (g6T x0 x1 x2 x3).get?
def s6 : Ab.Spec := fun args h =>
  dN h <| dL args fun v0 a0 => dG v0 fun l0 => dE 0 l0 fun x0 => dL a0 fun v1 a1 => dC v1 fun c0 => dI .u32 c0 fun x1 => dL a1 fun v2 a2 => dC v2 fun c1 => dI .u64 c1 fun x2 => dL a2 fun v3 a3 => dC v3 fun c2 => dR0 0 c2 fun x3 => dN a3 <|
  .opt (g6 x0 x1 x2 x3) fun r => .val (.c (.bool r), [])
theorem g6_run (x0 : S0) (x1 : Int) (x2 : Int) (x3 : List S0) : (runR e6 Go.Proofs.Try.f6 [.agg (Cod.enc 0 x0), .c (.int .u32 x1), .c (.int .u64 x2), .c (.rs 0 x3)] []).eval = (g6T x0 x1 x2 x3).ev fun r => ((.c (.bool r) : AV), ([] : List Blk)) := by kernel_rfl
theorem s6_ok : SpecOk Go.Proofs.Try.prog 6 s6 :=
  (runR_ok (e := e6) follows (allTI ti_ok _ _) (callsOk_cons s17_ok (callsOk_cons s18_ok (callsOk_cons s19_ok (callsOk_cons s20_ok (callsOk_cons s21_ok (callsOk_cons s22_ok (callsOk_cons s16_ok (callsOk_nil)))))))) Go.Proofs.Try.func6 Go.Proofs.Try.call6).less fun args hs r h => by
    unfold s6 at h
    obtain ⟨rfl, hh1⟩ := dN_inv h
    obtain ⟨v0, a0, rfl, hh2⟩ := dL_inv hh1
    obtain ⟨l0, rfl, hh3⟩ := dG_inv hh2
    obtain ⟨x0, rfl, hh4⟩ := dE_inv hh3
    obtain ⟨v1, a1, rfl, hh5⟩ := dL_inv hh4
    obtain ⟨c0, rfl, hh6⟩ := dC_inv hh5
    obtain ⟨x1, rfl, hh7⟩ := dI_inv hh6
    obtain ⟨v2, a2, rfl, hh8⟩ := dL_inv hh7
    obtain ⟨c1, rfl, hh9⟩ := dC_inv hh8
    obtain ⟨x2, rfl, hh10⟩ := dI_inv hh9
    obtain ⟨v3, a3, rfl, hh11⟩ := dL_inv hh10
    obtain ⟨c2, rfl, hh12⟩ := dC_inv hh11
    obtain ⟨x3, rfl, hh13⟩ := dR0_inv hh12
    obtain ⟨rfl, hh14⟩ := dN_inv hh13
    rw [g6_run, Tr.ev_get?]
    change (Res.opt (g6 x0 x1 x2 x3) _).eval = some r at hh14
    rw [eval_opt] at hh14
    obtain ⟨z, hz, hh15⟩ := Option.bind_eq_some_iff.mp hh14
    unfold g6 at hz
    rw [hz]; exact hh15
end Ab06x
