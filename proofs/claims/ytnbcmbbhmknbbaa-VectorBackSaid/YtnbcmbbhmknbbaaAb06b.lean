/- Seat 06: the functions. -/
import Derived.Test.YtnbcmbbhmknbbaaAb06a
set_option maxRecDepth 100000
set_option maxHeartbeats 4000000
set_option linter.unusedVariables false
namespace Ab06
open Go Ab

/-- pontage/vector.Compare -/
def g10T (x0 : Int) (x1 : Int) (x2 : Int) (x3 : Int) (x4 : Int) (x5 : Int) (x6 : Int) (x7 : Int) : Tr (Int) :=
  .br (decide (x0 < x4)) (
   .leaf ((-1))) (
   .br (decide (x0 > x4)) (
    .leaf (1)) (
    .br (decide ((IntKind.u64.wrap x1) < (IntKind.u64.wrap x5))) (
     .leaf ((-1))) (
     .br (decide ((IntKind.u64.wrap x1) > (IntKind.u64.wrap x5))) (
      .leaf (1)) (
      .br (decide (x2 < x6)) (
       .leaf ((-1))) (
       .br (decide (x2 > x6)) (
        .leaf (1)) (
        .br (decide ((IntKind.u64.wrap x3) < (IntKind.u64.wrap x7))) (
         .leaf ((-1))) (
         .br (decide ((IntKind.u64.wrap x3) > (IntKind.u64.wrap x7))) (
          .leaf (1)) (
          .leaf (0)))))))))
def g10 (x0 : Int) (x1 : Int) (x2 : Int) (x3 : Int) (x4 : Int) (x5 : Int) (x6 : Int) (x7 : Int) : Int := (g10T x0 x1 x2 x3 x4 x5 x6 x7).get default
def s10 : Ab.Spec := fun args h =>
  dN h <| dL args fun v0 a0 => dG v0 fun l0 => dL l0 fun c0 m0 => dI .u64 c0 fun x0 => dL m0 fun c1 m1 => dI .u32 c1 fun x1 => dL m1 fun c2 m2 => dI .u64 c2 fun x2 => dL m2 fun c3 m3 => dI .u16 c3 fun x3 => dN m3 <| dL a0 fun v1 a1 => dG v1 fun l1 => dL l1 fun c4 m4 => dI .u64 c4 fun x4 => dL m4 fun c5 m5 => dI .u32 c5 fun x5 => dL m5 fun c6 m6 => dI .u64 c6 fun x6 => dL m6 fun c7 m7 => dI .u16 c7 fun x7 => dN m7 <| dN a1 <|
  let r := g10 x0 x1 x2 x3 x4 x5 x6 x7; .val (.c (.int .i64 r), [])
def L10 : SL := []
def e10 : Env := ⟨ti, fun g => lookS g L10, 100⟩
theorem g10_run (x0 : Int) (x1 : Int) (x2 : Int) (x3 : Int) (x4 : Int) (x5 : Int) (x6 : Int) (x7 : Int) : (runR e10 Go.Proofs.Try.f10 [.agg [.int .u64 x0, .int .u32 x1, .int .u64 x2, .int .u16 x3], .agg [.int .u64 x4, .int .u32 x5, .int .u64 x6, .int .u16 x7]] []).eval = (g10T x0 x1 x2 x3 x4 x5 x6 x7).ev fun r => ((.c (.int .i64 r) : AV), ([] : List Blk)) := by kernel_rfl
theorem s10_ok : SpecOk Go.Proofs.Try.prog 10 s10 :=
  (runR_ok (e := e10) follows (allTI ti_ok _ _) (callsOk_nil) Go.Proofs.Try.func10 Go.Proofs.Try.call10).less fun args hs r h => by
    unfold s10 at h
    obtain ⟨rfl, hh1⟩ := dN_inv h
    obtain ⟨v0, a0, rfl, hh2⟩ := dL_inv hh1
    obtain ⟨l0, rfl, hh3⟩ := dG_inv hh2
    obtain ⟨c0, m0, rfl, hh4⟩ := dL_inv hh3
    obtain ⟨x0, rfl, hh5⟩ := dI_inv hh4
    obtain ⟨c1, m1, rfl, hh6⟩ := dL_inv hh5
    obtain ⟨x1, rfl, hh7⟩ := dI_inv hh6
    obtain ⟨c2, m2, rfl, hh8⟩ := dL_inv hh7
    obtain ⟨x2, rfl, hh9⟩ := dI_inv hh8
    obtain ⟨c3, m3, rfl, hh10⟩ := dL_inv hh9
    obtain ⟨x3, rfl, hh11⟩ := dI_inv hh10
    obtain ⟨rfl, hh12⟩ := dN_inv hh11
    obtain ⟨v1, a1, rfl, hh13⟩ := dL_inv hh12
    obtain ⟨l1, rfl, hh14⟩ := dG_inv hh13
    obtain ⟨c4, m4, rfl, hh15⟩ := dL_inv hh14
    obtain ⟨x4, rfl, hh16⟩ := dI_inv hh15
    obtain ⟨c5, m5, rfl, hh17⟩ := dL_inv hh16
    obtain ⟨x5, rfl, hh18⟩ := dI_inv hh17
    obtain ⟨c6, m6, rfl, hh19⟩ := dL_inv hh18
    obtain ⟨x6, rfl, hh20⟩ := dI_inv hh19
    obtain ⟨c7, m7, rfl, hh21⟩ := dL_inv hh20
    obtain ⟨x7, rfl, hh22⟩ := dI_inv hh21
    obtain ⟨rfl, hh23⟩ := dN_inv hh22
    obtain ⟨rfl, hh24⟩ := dN_inv hh23
    rw [g10_run, Tr.ev_get (d := default) (by kernel_rfl)]
    exact hh24
/-- pontage/pontageref06.Better -/
def g13T (x0 : Int) (x1 : Int) (x2 : Int) (x3 : Int) (x4 : Int) (x5 : Int) (x6 : Int) (x7 : Int) : Tr (Bool) :=
  .br (x0 != x4) (
   .leaf ((decide (x0 < x4)))) (
   .br (x1 != x5) (
    .leaf ((decide (x1 < x5)))) (
    .br (x2 != x6) (
     .leaf ((decide (x2 < x6)))) (
     .leaf ((decide (x3 < x7))))))
def g13 (x0 : Int) (x1 : Int) (x2 : Int) (x3 : Int) (x4 : Int) (x5 : Int) (x6 : Int) (x7 : Int) : Bool := (g13T x0 x1 x2 x3 x4 x5 x6 x7).get default
def s13 : Ab.Spec := fun args h =>
  dN h <| dL args fun v0 a0 => dG v0 fun l0 => dL l0 fun c0 m0 => dI .u64 c0 fun x0 => dL m0 fun c1 m1 => dI .u32 c1 fun x1 => dL m1 fun c2 m2 => dI .u64 c2 fun x2 => dL m2 fun c3 m3 => dI .u16 c3 fun x3 => dN m3 <| dL a0 fun v1 a1 => dG v1 fun l1 => dL l1 fun c4 m4 => dI .u64 c4 fun x4 => dL m4 fun c5 m5 => dI .u32 c5 fun x5 => dL m5 fun c6 m6 => dI .u64 c6 fun x6 => dL m6 fun c7 m7 => dI .u16 c7 fun x7 => dN m7 <| dN a1 <|
  let r := g13 x0 x1 x2 x3 x4 x5 x6 x7; .val (.c (.bool r), [])
def L13 : SL := []
def e13 : Env := ⟨ti, fun g => lookS g L13, 100⟩
theorem g13_run (x0 : Int) (x1 : Int) (x2 : Int) (x3 : Int) (x4 : Int) (x5 : Int) (x6 : Int) (x7 : Int) : (runR e13 Go.Proofs.Try.f13 [.agg [.int .u64 x0, .int .u32 x1, .int .u64 x2, .int .u16 x3], .agg [.int .u64 x4, .int .u32 x5, .int .u64 x6, .int .u16 x7]] []).eval = (g13T x0 x1 x2 x3 x4 x5 x6 x7).ev fun r => ((.c (.bool r) : AV), ([] : List Blk)) := by kernel_rfl
theorem s13_ok : SpecOk Go.Proofs.Try.prog 13 s13 :=
  (runR_ok (e := e13) follows (allTI ti_ok _ _) (callsOk_nil) Go.Proofs.Try.func13 Go.Proofs.Try.call13).less fun args hs r h => by
    unfold s13 at h
    obtain ⟨rfl, hh1⟩ := dN_inv h
    obtain ⟨v0, a0, rfl, hh2⟩ := dL_inv hh1
    obtain ⟨l0, rfl, hh3⟩ := dG_inv hh2
    obtain ⟨c0, m0, rfl, hh4⟩ := dL_inv hh3
    obtain ⟨x0, rfl, hh5⟩ := dI_inv hh4
    obtain ⟨c1, m1, rfl, hh6⟩ := dL_inv hh5
    obtain ⟨x1, rfl, hh7⟩ := dI_inv hh6
    obtain ⟨c2, m2, rfl, hh8⟩ := dL_inv hh7
    obtain ⟨x2, rfl, hh9⟩ := dI_inv hh8
    obtain ⟨c3, m3, rfl, hh10⟩ := dL_inv hh9
    obtain ⟨x3, rfl, hh11⟩ := dI_inv hh10
    obtain ⟨rfl, hh12⟩ := dN_inv hh11
    obtain ⟨v1, a1, rfl, hh13⟩ := dL_inv hh12
    obtain ⟨l1, rfl, hh14⟩ := dG_inv hh13
    obtain ⟨c4, m4, rfl, hh15⟩ := dL_inv hh14
    obtain ⟨x4, rfl, hh16⟩ := dI_inv hh15
    obtain ⟨c5, m5, rfl, hh17⟩ := dL_inv hh16
    obtain ⟨x5, rfl, hh18⟩ := dI_inv hh17
    obtain ⟨c6, m6, rfl, hh19⟩ := dL_inv hh18
    obtain ⟨x6, rfl, hh20⟩ := dI_inv hh19
    obtain ⟨c7, m7, rfl, hh21⟩ := dL_inv hh20
    obtain ⟨x7, rfl, hh22⟩ := dI_inv hh21
    obtain ⟨rfl, hh23⟩ := dN_inv hh22
    obtain ⟨rfl, hh24⟩ := dN_inv hh23
    rw [g13_run, Tr.ev_get (d := default) (by kernel_rfl)]
    exact hh24
/-- pontage/pontageref06.Compare -/
def g11T (x0 : Int) (x1 : Int) (x2 : Int) (x3 : Int) (x4 : Int) (x5 : Int) (x6 : Int) (x7 : Int) : Tr (Int) :=
  let z1 := g13 x0 x1 x2 x3 x4 x5 x6 x7
  .br z1 (
   .leaf ((-1))) (
   let z2 := g13 x4 x5 x6 x7 x0 x1 x2 x3
   .br z2 (
    .leaf (1)) (
    .leaf (0)))
def g11 (x0 : Int) (x1 : Int) (x2 : Int) (x3 : Int) (x4 : Int) (x5 : Int) (x6 : Int) (x7 : Int) : Int := (g11T x0 x1 x2 x3 x4 x5 x6 x7).get default
def s11 : Ab.Spec := fun args h =>
  dN h <| dL args fun v0 a0 => dG v0 fun l0 => dL l0 fun c0 m0 => dI .u64 c0 fun x0 => dL m0 fun c1 m1 => dI .u32 c1 fun x1 => dL m1 fun c2 m2 => dI .u64 c2 fun x2 => dL m2 fun c3 m3 => dI .u16 c3 fun x3 => dN m3 <| dL a0 fun v1 a1 => dG v1 fun l1 => dL l1 fun c4 m4 => dI .u64 c4 fun x4 => dL m4 fun c5 m5 => dI .u32 c5 fun x5 => dL m5 fun c6 m6 => dI .u64 c6 fun x6 => dL m6 fun c7 m7 => dI .u16 c7 fun x7 => dN m7 <| dN a1 <|
  let r := g11 x0 x1 x2 x3 x4 x5 x6 x7; .val (.c (.int .i64 r), [])
def L11 : SL := [(13, .byVal, s13)]
def e11 : Env := ⟨ti, fun g => lookS g L11, 100⟩
theorem g11_run (x0 : Int) (x1 : Int) (x2 : Int) (x3 : Int) (x4 : Int) (x5 : Int) (x6 : Int) (x7 : Int) : (runR e11 Go.Proofs.Try.f11 [.agg [.int .u64 x0, .int .u32 x1, .int .u64 x2, .int .u16 x3], .agg [.int .u64 x4, .int .u32 x5, .int .u64 x6, .int .u16 x7]] []).eval = (g11T x0 x1 x2 x3 x4 x5 x6 x7).ev fun r => ((.c (.int .i64 r) : AV), ([] : List Blk)) := by kernel_rfl
theorem s11_ok : SpecOk Go.Proofs.Try.prog 11 s11 :=
  (runR_ok (e := e11) follows (allTI ti_ok _ _) (callsOk_cons s13_ok (callsOk_nil)) Go.Proofs.Try.func11 Go.Proofs.Try.call11).less fun args hs r h => by
    unfold s11 at h
    obtain ⟨rfl, hh1⟩ := dN_inv h
    obtain ⟨v0, a0, rfl, hh2⟩ := dL_inv hh1
    obtain ⟨l0, rfl, hh3⟩ := dG_inv hh2
    obtain ⟨c0, m0, rfl, hh4⟩ := dL_inv hh3
    obtain ⟨x0, rfl, hh5⟩ := dI_inv hh4
    obtain ⟨c1, m1, rfl, hh6⟩ := dL_inv hh5
    obtain ⟨x1, rfl, hh7⟩ := dI_inv hh6
    obtain ⟨c2, m2, rfl, hh8⟩ := dL_inv hh7
    obtain ⟨x2, rfl, hh9⟩ := dI_inv hh8
    obtain ⟨c3, m3, rfl, hh10⟩ := dL_inv hh9
    obtain ⟨x3, rfl, hh11⟩ := dI_inv hh10
    obtain ⟨rfl, hh12⟩ := dN_inv hh11
    obtain ⟨v1, a1, rfl, hh13⟩ := dL_inv hh12
    obtain ⟨l1, rfl, hh14⟩ := dG_inv hh13
    obtain ⟨c4, m4, rfl, hh15⟩ := dL_inv hh14
    obtain ⟨x4, rfl, hh16⟩ := dI_inv hh15
    obtain ⟨c5, m5, rfl, hh17⟩ := dL_inv hh16
    obtain ⟨x5, rfl, hh18⟩ := dI_inv hh17
    obtain ⟨c6, m6, rfl, hh19⟩ := dL_inv hh18
    obtain ⟨x6, rfl, hh20⟩ := dI_inv hh19
    obtain ⟨c7, m7, rfl, hh21⟩ := dL_inv hh20
    obtain ⟨x7, rfl, hh22⟩ := dI_inv hh21
    obtain ⟨rfl, hh23⟩ := dN_inv hh22
    obtain ⟨rfl, hh24⟩ := dN_inv hh23
    rw [g11_run, Tr.ev_get (d := default) (by kernel_rfl)]
    exact hh24
/-- pontage/vector.Better -/
def g12T (x0 : Int) (x1 : Int) (x2 : Int) (x3 : Int) (x4 : Int) (x5 : Int) (x6 : Int) (x7 : Int) : Tr (Bool) :=
  let z3 := g10 x0 x1 x2 x3 x4 x5 x6 x7
  .leaf ((decide (z3 < 0)))
def g12 (x0 : Int) (x1 : Int) (x2 : Int) (x3 : Int) (x4 : Int) (x5 : Int) (x6 : Int) (x7 : Int) : Bool := (g12T x0 x1 x2 x3 x4 x5 x6 x7).get default
def s12 : Ab.Spec := fun args h =>
  dN h <| dL args fun v0 a0 => dG v0 fun l0 => dL l0 fun c0 m0 => dI .u64 c0 fun x0 => dL m0 fun c1 m1 => dI .u32 c1 fun x1 => dL m1 fun c2 m2 => dI .u64 c2 fun x2 => dL m2 fun c3 m3 => dI .u16 c3 fun x3 => dN m3 <| dL a0 fun v1 a1 => dG v1 fun l1 => dL l1 fun c4 m4 => dI .u64 c4 fun x4 => dL m4 fun c5 m5 => dI .u32 c5 fun x5 => dL m5 fun c6 m6 => dI .u64 c6 fun x6 => dL m6 fun c7 m7 => dI .u16 c7 fun x7 => dN m7 <| dN a1 <|
  let r := g12 x0 x1 x2 x3 x4 x5 x6 x7; .val (.c (.bool r), [])
def L12 : SL := [(10, .byVal, s10)]
def e12 : Env := ⟨ti, fun g => lookS g L12, 100⟩
theorem g12_run (x0 : Int) (x1 : Int) (x2 : Int) (x3 : Int) (x4 : Int) (x5 : Int) (x6 : Int) (x7 : Int) : (runR e12 Go.Proofs.Try.f12 [.agg [.int .u64 x0, .int .u32 x1, .int .u64 x2, .int .u16 x3], .agg [.int .u64 x4, .int .u32 x5, .int .u64 x6, .int .u16 x7]] []).eval = (g12T x0 x1 x2 x3 x4 x5 x6 x7).ev fun r => ((.c (.bool r) : AV), ([] : List Blk)) := by kernel_rfl
theorem s12_ok : SpecOk Go.Proofs.Try.prog 12 s12 :=
  (runR_ok (e := e12) follows (allTI ti_ok _ _) (callsOk_cons s10_ok (callsOk_nil)) Go.Proofs.Try.func12 Go.Proofs.Try.call12).less fun args hs r h => by
    unfold s12 at h
    obtain ⟨rfl, hh1⟩ := dN_inv h
    obtain ⟨v0, a0, rfl, hh2⟩ := dL_inv hh1
    obtain ⟨l0, rfl, hh3⟩ := dG_inv hh2
    obtain ⟨c0, m0, rfl, hh4⟩ := dL_inv hh3
    obtain ⟨x0, rfl, hh5⟩ := dI_inv hh4
    obtain ⟨c1, m1, rfl, hh6⟩ := dL_inv hh5
    obtain ⟨x1, rfl, hh7⟩ := dI_inv hh6
    obtain ⟨c2, m2, rfl, hh8⟩ := dL_inv hh7
    obtain ⟨x2, rfl, hh9⟩ := dI_inv hh8
    obtain ⟨c3, m3, rfl, hh10⟩ := dL_inv hh9
    obtain ⟨x3, rfl, hh11⟩ := dI_inv hh10
    obtain ⟨rfl, hh12⟩ := dN_inv hh11
    obtain ⟨v1, a1, rfl, hh13⟩ := dL_inv hh12
    obtain ⟨l1, rfl, hh14⟩ := dG_inv hh13
    obtain ⟨c4, m4, rfl, hh15⟩ := dL_inv hh14
    obtain ⟨x4, rfl, hh16⟩ := dI_inv hh15
    obtain ⟨c5, m5, rfl, hh17⟩ := dL_inv hh16
    obtain ⟨x5, rfl, hh18⟩ := dI_inv hh17
    obtain ⟨c6, m6, rfl, hh19⟩ := dL_inv hh18
    obtain ⟨x6, rfl, hh20⟩ := dI_inv hh19
    obtain ⟨c7, m7, rfl, hh21⟩ := dL_inv hh20
    obtain ⟨x7, rfl, hh22⟩ := dI_inv hh21
    obtain ⟨rfl, hh23⟩ := dN_inv hh22
    obtain ⟨rfl, hh24⟩ := dN_inv hh23
    rw [g12_run, Tr.ev_get (d := default) (by kernel_rfl)]
    exact hh24
/-- pontage/vector.Number -/
def g33T (x0 : Int) : Tr (Int) :=
  .leaf ((andI .u16 x0 4095))
def g33 (x0 : Int) : Int := (g33T x0).get default
def s33 : Ab.Spec := fun args h =>
  dN h <| dL args fun v0 a0 => dC v0 fun c0 => dI .u16 c0 fun x0 => dN a0 <|
  let r := g33 x0; .val (.c (.int .u16 r), [])
def L33 : SL := []
def e33 : Env := ⟨ti, fun g => lookS g L33, 100⟩
theorem g33_run (x0 : Int) : (runR e33 Go.Proofs.Try.f33 [.c (.int .u16 x0)] []).eval = (g33T x0).ev fun r => ((.c (.int .u16 r) : AV), ([] : List Blk)) := by kernel_rfl
theorem s33_ok : SpecOk Go.Proofs.Try.prog 33 s33 :=
  (runR_ok (e := e33) follows (allTI ti_ok _ _) (callsOk_nil) Go.Proofs.Try.func33 Go.Proofs.Try.call33).less fun args hs r h => by
    unfold s33 at h
    obtain ⟨rfl, hh1⟩ := dN_inv h
    obtain ⟨v0, a0, rfl, hh2⟩ := dL_inv hh1
    obtain ⟨c0, rfl, hh3⟩ := dC_inv hh2
    obtain ⟨x0, rfl, hh4⟩ := dI_inv hh3
    obtain ⟨rfl, hh5⟩ := dN_inv hh4
    rw [g33_run, Tr.ev_get (d := default) (by kernel_rfl)]
    exact hh5
/-- pontage/vector.Superior -/
def g14T (x0 : Int) (x1 : Int) (x2 : Int) (x3 : Int) (x4 : Int) (x5 : Int) (x6 : Int) (x7 : Int) : Tr (Bool) :=
  let z4 := g12 x0 x1 x2 x3 x4 x5 x6 x7
  let z5 := g33 x3
  let z6 := g33 x7
  .leaf ((bif z4 then true else (bif ((andI .u64 x2 281474976710655) == (andI .u64 x6 281474976710655)) then (z5 == z6) else false)))
def g14 (x0 : Int) (x1 : Int) (x2 : Int) (x3 : Int) (x4 : Int) (x5 : Int) (x6 : Int) (x7 : Int) : Bool := (g14T x0 x1 x2 x3 x4 x5 x6 x7).get default
def s14 : Ab.Spec := fun args h =>
  dN h <| dL args fun v0 a0 => dG v0 fun l0 => dL l0 fun c0 m0 => dI .u64 c0 fun x0 => dL m0 fun c1 m1 => dI .u32 c1 fun x1 => dL m1 fun c2 m2 => dI .u64 c2 fun x2 => dL m2 fun c3 m3 => dI .u16 c3 fun x3 => dN m3 <| dL a0 fun v1 a1 => dG v1 fun l1 => dL l1 fun c4 m4 => dI .u64 c4 fun x4 => dL m4 fun c5 m5 => dI .u32 c5 fun x5 => dL m5 fun c6 m6 => dI .u64 c6 fun x6 => dL m6 fun c7 m7 => dI .u16 c7 fun x7 => dN m7 <| dN a1 <|
  let r := g14 x0 x1 x2 x3 x4 x5 x6 x7; .val (.c (.bool r), [])
def L14 : SL := [(12, .byVal, s12), (33, .byVal, s33)]
def e14 : Env := ⟨ti, fun g => lookS g L14, 100⟩
theorem g14_run (x0 : Int) (x1 : Int) (x2 : Int) (x3 : Int) (x4 : Int) (x5 : Int) (x6 : Int) (x7 : Int) : (runR e14 Go.Proofs.Try.f14 [.agg [.int .u64 x0, .int .u32 x1, .int .u64 x2, .int .u16 x3], .agg [.int .u64 x4, .int .u32 x5, .int .u64 x6, .int .u16 x7]] []).eval = (g14T x0 x1 x2 x3 x4 x5 x6 x7).ev fun r => ((.c (.bool r) : AV), ([] : List Blk)) := by kernel_rfl
theorem s14_ok : SpecOk Go.Proofs.Try.prog 14 s14 :=
  (runR_ok (e := e14) follows (allTI ti_ok _ _) (callsOk_cons s12_ok (callsOk_cons s33_ok (callsOk_nil))) Go.Proofs.Try.func14 Go.Proofs.Try.call14).less fun args hs r h => by
    unfold s14 at h
    obtain ⟨rfl, hh1⟩ := dN_inv h
    obtain ⟨v0, a0, rfl, hh2⟩ := dL_inv hh1
    obtain ⟨l0, rfl, hh3⟩ := dG_inv hh2
    obtain ⟨c0, m0, rfl, hh4⟩ := dL_inv hh3
    obtain ⟨x0, rfl, hh5⟩ := dI_inv hh4
    obtain ⟨c1, m1, rfl, hh6⟩ := dL_inv hh5
    obtain ⟨x1, rfl, hh7⟩ := dI_inv hh6
    obtain ⟨c2, m2, rfl, hh8⟩ := dL_inv hh7
    obtain ⟨x2, rfl, hh9⟩ := dI_inv hh8
    obtain ⟨c3, m3, rfl, hh10⟩ := dL_inv hh9
    obtain ⟨x3, rfl, hh11⟩ := dI_inv hh10
    obtain ⟨rfl, hh12⟩ := dN_inv hh11
    obtain ⟨v1, a1, rfl, hh13⟩ := dL_inv hh12
    obtain ⟨l1, rfl, hh14⟩ := dG_inv hh13
    obtain ⟨c4, m4, rfl, hh15⟩ := dL_inv hh14
    obtain ⟨x4, rfl, hh16⟩ := dI_inv hh15
    obtain ⟨c5, m5, rfl, hh17⟩ := dL_inv hh16
    obtain ⟨x5, rfl, hh18⟩ := dI_inv hh17
    obtain ⟨c6, m6, rfl, hh19⟩ := dL_inv hh18
    obtain ⟨x6, rfl, hh20⟩ := dI_inv hh19
    obtain ⟨c7, m7, rfl, hh21⟩ := dL_inv hh20
    obtain ⟨x7, rfl, hh22⟩ := dI_inv hh21
    obtain ⟨rfl, hh23⟩ := dN_inv hh22
    obtain ⟨rfl, hh24⟩ := dN_inv hh23
    rw [g14_run, Tr.ev_get (d := default) (by kernel_rfl)]
    exact hh24
/-- pontage/pontageref06.SameAddress -/
def g35T (x0 : Int) (x1 : Int) : Tr (Bool) :=
  .leaf (((remI x0 281474976710656) == (remI x1 281474976710656)))
def g35 (x0 : Int) (x1 : Int) : Bool := (g35T x0 x1).get default
def s35 : Ab.Spec := fun args h =>
  dN h <| dL args fun v0 a0 => dC v0 fun c0 => dI .u64 c0 fun x0 => dL a0 fun v1 a1 => dC v1 fun c1 => dI .u64 c1 fun x1 => dN a1 <|
  let r := g35 x0 x1; .val (.c (.bool r), [])
def L35 : SL := []
def e35 : Env := ⟨ti, fun g => lookS g L35, 100⟩
theorem g35_run (x0 : Int) (x1 : Int) : (runR e35 Go.Proofs.Try.f35 [.c (.int .u64 x0), .c (.int .u64 x1)] []).eval = (g35T x0 x1).ev fun r => ((.c (.bool r) : AV), ([] : List Blk)) := by kernel_rfl
theorem s35_ok : SpecOk Go.Proofs.Try.prog 35 s35 :=
  (runR_ok (e := e35) follows (allTI ti_ok _ _) (callsOk_nil) Go.Proofs.Try.func35 Go.Proofs.Try.call35).less fun args hs r h => by
    unfold s35 at h
    obtain ⟨rfl, hh1⟩ := dN_inv h
    obtain ⟨v0, a0, rfl, hh2⟩ := dL_inv hh1
    obtain ⟨c0, rfl, hh3⟩ := dC_inv hh2
    obtain ⟨x0, rfl, hh4⟩ := dI_inv hh3
    obtain ⟨v1, a1, rfl, hh5⟩ := dL_inv hh4
    obtain ⟨c1, rfl, hh6⟩ := dC_inv hh5
    obtain ⟨x1, rfl, hh7⟩ := dI_inv hh6
    obtain ⟨rfl, hh8⟩ := dN_inv hh7
    rw [g35_run, Tr.ev_get (d := default) (by kernel_rfl)]
    exact hh8
/-- pontage/pontageref06.Number -/
def g34T (x0 : Int) : Tr (Int) :=
  .leaf ((remI x0 4096))
def g34 (x0 : Int) : Int := (g34T x0).get default
def s34 : Ab.Spec := fun args h =>
  dN h <| dL args fun v0 a0 => dC v0 fun c0 => dI .u16 c0 fun x0 => dN a0 <|
  let r := g34 x0; .val (.c (.int .u16 r), [])
def L34 : SL := []
def e34 : Env := ⟨ti, fun g => lookS g L34, 100⟩
theorem g34_run (x0 : Int) : (runR e34 Go.Proofs.Try.f34 [.c (.int .u16 x0)] []).eval = (g34T x0).ev fun r => ((.c (.int .u16 r) : AV), ([] : List Blk)) := by kernel_rfl
theorem s34_ok : SpecOk Go.Proofs.Try.prog 34 s34 :=
  (runR_ok (e := e34) follows (allTI ti_ok _ _) (callsOk_nil) Go.Proofs.Try.func34 Go.Proofs.Try.call34).less fun args hs r h => by
    unfold s34 at h
    obtain ⟨rfl, hh1⟩ := dN_inv h
    obtain ⟨v0, a0, rfl, hh2⟩ := dL_inv hh1
    obtain ⟨c0, rfl, hh3⟩ := dC_inv hh2
    obtain ⟨x0, rfl, hh4⟩ := dI_inv hh3
    obtain ⟨rfl, hh5⟩ := dN_inv hh4
    rw [g34_run, Tr.ev_get (d := default) (by kernel_rfl)]
    exact hh5
/-- pontage/pontageref06.Superior -/
def g15T (x0 : Int) (x1 : Int) (x2 : Int) (x3 : Int) (x4 : Int) (x5 : Int) (x6 : Int) (x7 : Int) : Tr (Bool) :=
  let z7 := g13 x0 x1 x2 x3 x4 x5 x6 x7
  let z8 := g35 x2 x6
  let z9 := g34 x3
  let z10 := g34 x7
  .leaf ((bif z7 then true else (bif z8 then (z9 == z10) else false)))
def g15 (x0 : Int) (x1 : Int) (x2 : Int) (x3 : Int) (x4 : Int) (x5 : Int) (x6 : Int) (x7 : Int) : Bool := (g15T x0 x1 x2 x3 x4 x5 x6 x7).get default
def s15 : Ab.Spec := fun args h =>
  dN h <| dL args fun v0 a0 => dG v0 fun l0 => dL l0 fun c0 m0 => dI .u64 c0 fun x0 => dL m0 fun c1 m1 => dI .u32 c1 fun x1 => dL m1 fun c2 m2 => dI .u64 c2 fun x2 => dL m2 fun c3 m3 => dI .u16 c3 fun x3 => dN m3 <| dL a0 fun v1 a1 => dG v1 fun l1 => dL l1 fun c4 m4 => dI .u64 c4 fun x4 => dL m4 fun c5 m5 => dI .u32 c5 fun x5 => dL m5 fun c6 m6 => dI .u64 c6 fun x6 => dL m6 fun c7 m7 => dI .u16 c7 fun x7 => dN m7 <| dN a1 <|
  let r := g15 x0 x1 x2 x3 x4 x5 x6 x7; .val (.c (.bool r), [])
def L15 : SL := [(13, .byVal, s13), (35, .byVal, s35), (34, .byVal, s34)]
def e15 : Env := ⟨ti, fun g => lookS g L15, 100⟩
theorem g15_run (x0 : Int) (x1 : Int) (x2 : Int) (x3 : Int) (x4 : Int) (x5 : Int) (x6 : Int) (x7 : Int) : (runR e15 Go.Proofs.Try.f15 [.agg [.int .u64 x0, .int .u32 x1, .int .u64 x2, .int .u16 x3], .agg [.int .u64 x4, .int .u32 x5, .int .u64 x6, .int .u16 x7]] []).eval = (g15T x0 x1 x2 x3 x4 x5 x6 x7).ev fun r => ((.c (.bool r) : AV), ([] : List Blk)) := by kernel_rfl
theorem s15_ok : SpecOk Go.Proofs.Try.prog 15 s15 :=
  (runR_ok (e := e15) follows (allTI ti_ok _ _) (callsOk_cons s13_ok (callsOk_cons s35_ok (callsOk_cons s34_ok (callsOk_nil)))) Go.Proofs.Try.func15 Go.Proofs.Try.call15).less fun args hs r h => by
    unfold s15 at h
    obtain ⟨rfl, hh1⟩ := dN_inv h
    obtain ⟨v0, a0, rfl, hh2⟩ := dL_inv hh1
    obtain ⟨l0, rfl, hh3⟩ := dG_inv hh2
    obtain ⟨c0, m0, rfl, hh4⟩ := dL_inv hh3
    obtain ⟨x0, rfl, hh5⟩ := dI_inv hh4
    obtain ⟨c1, m1, rfl, hh6⟩ := dL_inv hh5
    obtain ⟨x1, rfl, hh7⟩ := dI_inv hh6
    obtain ⟨c2, m2, rfl, hh8⟩ := dL_inv hh7
    obtain ⟨x2, rfl, hh9⟩ := dI_inv hh8
    obtain ⟨c3, m3, rfl, hh10⟩ := dL_inv hh9
    obtain ⟨x3, rfl, hh11⟩ := dI_inv hh10
    obtain ⟨rfl, hh12⟩ := dN_inv hh11
    obtain ⟨v1, a1, rfl, hh13⟩ := dL_inv hh12
    obtain ⟨l1, rfl, hh14⟩ := dG_inv hh13
    obtain ⟨c4, m4, rfl, hh15⟩ := dL_inv hh14
    obtain ⟨x4, rfl, hh16⟩ := dI_inv hh15
    obtain ⟨c5, m5, rfl, hh17⟩ := dL_inv hh16
    obtain ⟨x5, rfl, hh18⟩ := dI_inv hh17
    obtain ⟨c6, m6, rfl, hh19⟩ := dL_inv hh18
    obtain ⟨x6, rfl, hh20⟩ := dI_inv hh19
    obtain ⟨c7, m7, rfl, hh21⟩ := dL_inv hh20
    obtain ⟨x7, rfl, hh22⟩ := dI_inv hh21
    obtain ⟨rfl, hh23⟩ := dN_inv hh22
    obtain ⟨rfl, hh24⟩ := dN_inv hh23
    rw [g15_run, Tr.ev_get (d := default) (by kernel_rfl)]
    exact hh24
/-- pontage/vector.Best -/
def g21T (x0 : Int × Int × Int × Int) (x1 : Int × Int × Int × Int) : Tr (Int) :=
  let z11 := g12 x1.1 x1.2.1 x1.2.2.1 x1.2.2.2 x0.1 x0.2.1 x0.2.2.1 x0.2.2.2
  .br z11 (
   .leaf (1)) (
   .leaf (0))
def g21 (x0 : Int × Int × Int × Int) (x1 : Int × Int × Int × Int) : Int := (g21T x0 x1).get default
def s21 : Ab.Spec := fun args h =>
  dN h <| dL args fun v0 a0 => dC v0 fun c0 => dR0 0 c0 fun w0_0 => dL w0_0 fun x0 w0_1 => dL w0_1 fun x1 w0_2 => dN w0_2 <| dN a0 <|
  let r := g21 x0 x1; .val (.c (.int .i64 r), [])
def L21 : SL := [(12, .byVal, s12)]
def e21 : Env := ⟨ti, fun g => lookS g L21, 100⟩
theorem g21_run (x0 : Int × Int × Int × Int) (x1 : Int × Int × Int × Int) : (runR e21 Go.Proofs.Try.f21 [.c (.rs 0 [x0, x1])] []).eval = (g21T x0 x1).ev fun r => ((.c (.int .i64 r) : AV), ([] : List Blk)) := by kernel_rfl
theorem s21_ok : SpecOk Go.Proofs.Try.prog 21 s21 :=
  (runR_ok (e := e21) follows (allTI ti_ok _ _) (callsOk_cons s12_ok (callsOk_nil)) Go.Proofs.Try.func21 Go.Proofs.Try.call21).less fun args hs r h => by
    unfold s21 at h
    obtain ⟨rfl, hh1⟩ := dN_inv h
    obtain ⟨v0, a0, rfl, hh2⟩ := dL_inv hh1
    obtain ⟨c0, rfl, hh3⟩ := dC_inv hh2
    obtain ⟨w0_0, rfl, hh4⟩ := dR0_inv hh3
    obtain ⟨x0, w0_1, rfl, hh5⟩ := dL_inv hh4
    obtain ⟨x1, w0_2, rfl, hh6⟩ := dL_inv hh5
    obtain ⟨rfl, hh7⟩ := dN_inv hh6
    obtain ⟨rfl, hh8⟩ := dN_inv hh7
    rw [g21_run, Tr.ev_get (d := default) (by kernel_rfl)]
    exact hh8
/-- pontage/pontagelaw06.awake -/
def g16T  : Tr (Bool) :=
  let z12 := g12 1 5 3 0 1 5 4 0
  let z13 := g14 1 9 3 7 1 5 3 7
  let z14 := g12 1 9 3 7 1 5 3 0
  .br (bif (bif z12 then z13 else false) then (!z14) else false) (
   let z15 := g21 (1, 5, 4, 0) (1, 5, 3, 0)
   .leaf ((z15 == 1))) (
   .leaf (false))
def g16  : Bool := (g16T ).get default
def s16 : Ab.Spec := fun args h =>
  dN h <| dN args <|
  let r := g16; .val (.c (.bool r), [])
def L16 : SL := [(12, .byVal, s12), (14, .byVal, s14), (21, .byVal, s21)]
def e16 : Env := ⟨ti, fun g => lookS g L16, 100⟩
theorem g16_run  : (runR e16 Go.Proofs.Try.f16 [] []).eval = (g16T ).ev fun r => ((.c (.bool r) : AV), ([] : List Blk)) := by kernel_rfl
theorem s16_ok : SpecOk Go.Proofs.Try.prog 16 s16 :=
  (runR_ok (e := e16) follows (allTI ti_ok _ _) (callsOk_cons s12_ok (callsOk_cons s14_ok (callsOk_cons s21_ok (callsOk_nil)))) Go.Proofs.Try.func16 Go.Proofs.Try.call16).less fun args hs r h => by
    unfold s16 at h
    obtain ⟨rfl, hh1⟩ := dN_inv h
    obtain ⟨rfl, hh2⟩ := dN_inv hh1
    rw [g16_run, Tr.ev_get (d := default) (by kernel_rfl)]
    exact hh2
/-- pontage/pontagelaw06.VectorCompares -/
def g3T (x0 : Int) (x1 : Int) (x2 : Int) (x3 : Int) (x4 : Int) (x5 : Int) (x6 : Int) (x7 : Int) : Tr (Bool) :=
  let z16 := g10 x0 x1 x2 x3 x4 x5 x6 x7
  let z17 := g11 x0 x1 x2 x3 x4 x5 x6 x7
  let z18 := g12 x0 x1 x2 x3 x4 x5 x6 x7
  let z19 := g13 x0 x1 x2 x3 x4 x5 x6 x7
  let z20 := g14 x0 x1 x2 x3 x4 x5 x6 x7
  let z21 := g15 x0 x1 x2 x3 x4 x5 x6 x7
  let z22 := g16 
  .leaf ((bif (bif (bif (z16 == z17) then (z18 == z19) else false) then (z20 == z21) else false) then z22 else false))
def g3 (x0 : Int) (x1 : Int) (x2 : Int) (x3 : Int) (x4 : Int) (x5 : Int) (x6 : Int) (x7 : Int) : Bool := (g3T x0 x1 x2 x3 x4 x5 x6 x7).get default
def s3 : Ab.Spec := fun args h =>
  dN h <| dL args fun v0 a0 => dG v0 fun l0 => dL l0 fun c0 m0 => dI .u64 c0 fun x0 => dL m0 fun c1 m1 => dI .u32 c1 fun x1 => dL m1 fun c2 m2 => dI .u64 c2 fun x2 => dL m2 fun c3 m3 => dI .u16 c3 fun x3 => dN m3 <| dL a0 fun v1 a1 => dG v1 fun l1 => dL l1 fun c4 m4 => dI .u64 c4 fun x4 => dL m4 fun c5 m5 => dI .u32 c5 fun x5 => dL m5 fun c6 m6 => dI .u64 c6 fun x6 => dL m6 fun c7 m7 => dI .u16 c7 fun x7 => dN m7 <| dN a1 <|
  let r := g3 x0 x1 x2 x3 x4 x5 x6 x7; .val (.c (.bool r), [])
def L3 : SL := [(10, .byVal, s10), (11, .byVal, s11), (12, .byVal, s12), (13, .byVal, s13), (14, .byVal, s14), (15, .byVal, s15), (16, .byVal, s16)]
def e3 : Env := ⟨ti, fun g => lookS g L3, 100⟩
theorem g3_run (x0 : Int) (x1 : Int) (x2 : Int) (x3 : Int) (x4 : Int) (x5 : Int) (x6 : Int) (x7 : Int) : (runR e3 Go.Proofs.Try.f3 [.agg [.int .u64 x0, .int .u32 x1, .int .u64 x2, .int .u16 x3], .agg [.int .u64 x4, .int .u32 x5, .int .u64 x6, .int .u16 x7]] []).eval = (g3T x0 x1 x2 x3 x4 x5 x6 x7).ev fun r => ((.c (.bool r) : AV), ([] : List Blk)) := by kernel_rfl
theorem s3_ok : SpecOk Go.Proofs.Try.prog 3 s3 :=
  (runR_ok (e := e3) follows (allTI ti_ok _ _) (callsOk_cons s10_ok (callsOk_cons s11_ok (callsOk_cons s12_ok (callsOk_cons s13_ok (callsOk_cons s14_ok (callsOk_cons s15_ok (callsOk_cons s16_ok (callsOk_nil)))))))) Go.Proofs.Try.func3 Go.Proofs.Try.call3).less fun args hs r h => by
    unfold s3 at h
    obtain ⟨rfl, hh1⟩ := dN_inv h
    obtain ⟨v0, a0, rfl, hh2⟩ := dL_inv hh1
    obtain ⟨l0, rfl, hh3⟩ := dG_inv hh2
    obtain ⟨c0, m0, rfl, hh4⟩ := dL_inv hh3
    obtain ⟨x0, rfl, hh5⟩ := dI_inv hh4
    obtain ⟨c1, m1, rfl, hh6⟩ := dL_inv hh5
    obtain ⟨x1, rfl, hh7⟩ := dI_inv hh6
    obtain ⟨c2, m2, rfl, hh8⟩ := dL_inv hh7
    obtain ⟨x2, rfl, hh9⟩ := dI_inv hh8
    obtain ⟨c3, m3, rfl, hh10⟩ := dL_inv hh9
    obtain ⟨x3, rfl, hh11⟩ := dI_inv hh10
    obtain ⟨rfl, hh12⟩ := dN_inv hh11
    obtain ⟨v1, a1, rfl, hh13⟩ := dL_inv hh12
    obtain ⟨l1, rfl, hh14⟩ := dG_inv hh13
    obtain ⟨c4, m4, rfl, hh15⟩ := dL_inv hh14
    obtain ⟨x4, rfl, hh16⟩ := dI_inv hh15
    obtain ⟨c5, m5, rfl, hh17⟩ := dL_inv hh16
    obtain ⟨x5, rfl, hh18⟩ := dI_inv hh17
    obtain ⟨c6, m6, rfl, hh19⟩ := dL_inv hh18
    obtain ⟨x6, rfl, hh20⟩ := dI_inv hh19
    obtain ⟨c7, m7, rfl, hh21⟩ := dL_inv hh20
    obtain ⟨x7, rfl, hh22⟩ := dI_inv hh21
    obtain ⟨rfl, hh23⟩ := dN_inv hh22
    obtain ⟨rfl, hh24⟩ := dN_inv hh23
    rw [g3_run, Tr.ev_get (d := default) (by kernel_rfl)]
    exact hh24
/-- pontage/pontagelaw06.VectorOrder -/
def g4T (x0 : Int) (x1 : Int) (x2 : Int) (x3 : Int) (x4 : Int) (x5 : Int) (x6 : Int) (x7 : Int) (x8 : Int) (x9 : Int) (x10 : Int) (x11 : Int) : Tr (Bool) :=
  let z23 := g12 x0 x1 x2 x3 x4 x5 x6 x7
  let z24 := g12 x4 x5 x6 x7 x0 x1 x2 x3
  let z25 := g10 x0 x1 x2 x3 x4 x5 x6 x7
  let z26 := g10 x4 x5 x6 x7 x0 x1 x2 x3
  .br (bif (bif (bif z23 then z24 else false) then true else (!((bif z23 then true else z24) == (!((x0 == x4) && ((x1 == x5) && ((x2 == x6) && (x3 == x7)))))))) then true else (z25 != (IntKind.i64.wrap (0 - z26)))) (
   .leaf (false)) (
   let z27 := g12 x0 x1 x2 x3 x4 x5 x6 x7
   let z28 := g12 x4 x5 x6 x7 x8 x9 x10 x11
   let z29 := g12 x0 x1 x2 x3 x8 x9 x10 x11
   let z30 := g16 
   .leaf ((bif (bif (bif (!z27) then true else (!z28)) then true else z29) then z30 else false)))
def g4 (x0 : Int) (x1 : Int) (x2 : Int) (x3 : Int) (x4 : Int) (x5 : Int) (x6 : Int) (x7 : Int) (x8 : Int) (x9 : Int) (x10 : Int) (x11 : Int) : Bool := (g4T x0 x1 x2 x3 x4 x5 x6 x7 x8 x9 x10 x11).get default
def s4 : Ab.Spec := fun args h =>
  dN h <| dL args fun v0 a0 => dG v0 fun l0 => dL l0 fun c0 m0 => dI .u64 c0 fun x0 => dL m0 fun c1 m1 => dI .u32 c1 fun x1 => dL m1 fun c2 m2 => dI .u64 c2 fun x2 => dL m2 fun c3 m3 => dI .u16 c3 fun x3 => dN m3 <| dL a0 fun v1 a1 => dG v1 fun l1 => dL l1 fun c4 m4 => dI .u64 c4 fun x4 => dL m4 fun c5 m5 => dI .u32 c5 fun x5 => dL m5 fun c6 m6 => dI .u64 c6 fun x6 => dL m6 fun c7 m7 => dI .u16 c7 fun x7 => dN m7 <| dL a1 fun v2 a2 => dG v2 fun l2 => dL l2 fun c8 m8 => dI .u64 c8 fun x8 => dL m8 fun c9 m9 => dI .u32 c9 fun x9 => dL m9 fun c10 m10 => dI .u64 c10 fun x10 => dL m10 fun c11 m11 => dI .u16 c11 fun x11 => dN m11 <| dN a2 <|
  let r := g4 x0 x1 x2 x3 x4 x5 x6 x7 x8 x9 x10 x11; .val (.c (.bool r), [])
def L4 : SL := [(12, .byVal, s12), (10, .byVal, s10), (16, .byVal, s16)]
def e4 : Env := ⟨ti, fun g => lookS g L4, 100⟩
theorem g4_run (x0 : Int) (x1 : Int) (x2 : Int) (x3 : Int) (x4 : Int) (x5 : Int) (x6 : Int) (x7 : Int) (x8 : Int) (x9 : Int) (x10 : Int) (x11 : Int) : (runR e4 Go.Proofs.Try.f4 [.agg [.int .u64 x0, .int .u32 x1, .int .u64 x2, .int .u16 x3], .agg [.int .u64 x4, .int .u32 x5, .int .u64 x6, .int .u16 x7], .agg [.int .u64 x8, .int .u32 x9, .int .u64 x10, .int .u16 x11]] []).eval = (g4T x0 x1 x2 x3 x4 x5 x6 x7 x8 x9 x10 x11).ev fun r => ((.c (.bool r) : AV), ([] : List Blk)) := by kernel_rfl
theorem s4_ok : SpecOk Go.Proofs.Try.prog 4 s4 :=
  (runR_ok (e := e4) follows (allTI ti_ok _ _) (callsOk_cons s12_ok (callsOk_cons s10_ok (callsOk_cons s16_ok (callsOk_nil)))) Go.Proofs.Try.func4 Go.Proofs.Try.call4).less fun args hs r h => by
    unfold s4 at h
    obtain ⟨rfl, hh1⟩ := dN_inv h
    obtain ⟨v0, a0, rfl, hh2⟩ := dL_inv hh1
    obtain ⟨l0, rfl, hh3⟩ := dG_inv hh2
    obtain ⟨c0, m0, rfl, hh4⟩ := dL_inv hh3
    obtain ⟨x0, rfl, hh5⟩ := dI_inv hh4
    obtain ⟨c1, m1, rfl, hh6⟩ := dL_inv hh5
    obtain ⟨x1, rfl, hh7⟩ := dI_inv hh6
    obtain ⟨c2, m2, rfl, hh8⟩ := dL_inv hh7
    obtain ⟨x2, rfl, hh9⟩ := dI_inv hh8
    obtain ⟨c3, m3, rfl, hh10⟩ := dL_inv hh9
    obtain ⟨x3, rfl, hh11⟩ := dI_inv hh10
    obtain ⟨rfl, hh12⟩ := dN_inv hh11
    obtain ⟨v1, a1, rfl, hh13⟩ := dL_inv hh12
    obtain ⟨l1, rfl, hh14⟩ := dG_inv hh13
    obtain ⟨c4, m4, rfl, hh15⟩ := dL_inv hh14
    obtain ⟨x4, rfl, hh16⟩ := dI_inv hh15
    obtain ⟨c5, m5, rfl, hh17⟩ := dL_inv hh16
    obtain ⟨x5, rfl, hh18⟩ := dI_inv hh17
    obtain ⟨c6, m6, rfl, hh19⟩ := dL_inv hh18
    obtain ⟨x6, rfl, hh20⟩ := dI_inv hh19
    obtain ⟨c7, m7, rfl, hh21⟩ := dL_inv hh20
    obtain ⟨x7, rfl, hh22⟩ := dI_inv hh21
    obtain ⟨rfl, hh23⟩ := dN_inv hh22
    obtain ⟨v2, a2, rfl, hh24⟩ := dL_inv hh23
    obtain ⟨l2, rfl, hh25⟩ := dG_inv hh24
    obtain ⟨c8, m8, rfl, hh26⟩ := dL_inv hh25
    obtain ⟨x8, rfl, hh27⟩ := dI_inv hh26
    obtain ⟨c9, m9, rfl, hh28⟩ := dL_inv hh27
    obtain ⟨x9, rfl, hh29⟩ := dI_inv hh28
    obtain ⟨c10, m10, rfl, hh30⟩ := dL_inv hh29
    obtain ⟨x10, rfl, hh31⟩ := dI_inv hh30
    obtain ⟨c11, m11, rfl, hh32⟩ := dL_inv hh31
    obtain ⟨x11, rfl, hh33⟩ := dI_inv hh32
    obtain ⟨rfl, hh34⟩ := dN_inv hh33
    obtain ⟨rfl, hh35⟩ := dN_inv hh34
    rw [g4_run, Tr.ev_get (d := default) (by kernel_rfl)]
    exact hh35
/-- pontage/vector.Add -/
def g17T (x0 : Int) (x1 : Int) (x2 : Int) (x3 : Int) (x4 : Int) : Tr (Int × Int × Int × Int) :=
  .leaf (x0, (IntKind.u32.wrap (x1 + x4)), x2, x3)
def g17 (x0 : Int) (x1 : Int) (x2 : Int) (x3 : Int) (x4 : Int) : Int × Int × Int × Int := (g17T x0 x1 x2 x3 x4).get default
def s17 : Ab.Spec := fun args h =>
  dN h <| dL args fun v0 a0 => dG v0 fun l0 => dL l0 fun c0 m0 => dI .u64 c0 fun x0 => dL m0 fun c1 m1 => dI .u32 c1 fun x1 => dL m1 fun c2 m2 => dI .u64 c2 fun x2 => dL m2 fun c3 m3 => dI .u16 c3 fun x3 => dN m3 <| dL a0 fun v1 a1 => dC v1 fun c4 => dI .u32 c4 fun x4 => dN a1 <|
  let r := g17 x0 x1 x2 x3 x4; .val (.agg [.int .u64 r.1, .int .u32 r.2.1, .int .u64 r.2.2.1, .int .u16 r.2.2.2], [])
def L17 : SL := []
def e17 : Env := ⟨ti, fun g => lookS g L17, 100⟩
theorem g17_run (x0 : Int) (x1 : Int) (x2 : Int) (x3 : Int) (x4 : Int) : (runR e17 Go.Proofs.Try.f17 [.agg [.int .u64 x0, .int .u32 x1, .int .u64 x2, .int .u16 x3], .c (.int .u32 x4)] []).eval = (g17T x0 x1 x2 x3 x4).ev fun r => ((.agg [.int .u64 r.1, .int .u32 r.2.1, .int .u64 r.2.2.1, .int .u16 r.2.2.2] : AV), ([] : List Blk)) := by kernel_rfl
theorem s17_ok : SpecOk Go.Proofs.Try.prog 17 s17 :=
  (runR_ok (e := e17) follows (allTI ti_ok _ _) (callsOk_nil) Go.Proofs.Try.func17 Go.Proofs.Try.call17).less fun args hs r h => by
    unfold s17 at h
    obtain ⟨rfl, hh1⟩ := dN_inv h
    obtain ⟨v0, a0, rfl, hh2⟩ := dL_inv hh1
    obtain ⟨l0, rfl, hh3⟩ := dG_inv hh2
    obtain ⟨c0, m0, rfl, hh4⟩ := dL_inv hh3
    obtain ⟨x0, rfl, hh5⟩ := dI_inv hh4
    obtain ⟨c1, m1, rfl, hh6⟩ := dL_inv hh5
    obtain ⟨x1, rfl, hh7⟩ := dI_inv hh6
    obtain ⟨c2, m2, rfl, hh8⟩ := dL_inv hh7
    obtain ⟨x2, rfl, hh9⟩ := dI_inv hh8
    obtain ⟨c3, m3, rfl, hh10⟩ := dL_inv hh9
    obtain ⟨x3, rfl, hh11⟩ := dI_inv hh10
    obtain ⟨rfl, hh12⟩ := dN_inv hh11
    obtain ⟨v1, a1, rfl, hh13⟩ := dL_inv hh12
    obtain ⟨c4, rfl, hh14⟩ := dC_inv hh13
    obtain ⟨x4, rfl, hh15⟩ := dI_inv hh14
    obtain ⟨rfl, hh16⟩ := dN_inv hh15
    rw [g17_run, Tr.ev_get (d := default) (by kernel_rfl)]
    exact hh16
/-- pontage/pontagelaw06.VectorCosts -/
def g5T (x0 : Int) (x1 : Int) (x2 : Int) (x3 : Int) (x4 : Int) (x5 : Int) (x6 : Int) (x7 : Int) (x8 : Int) : Tr (Bool) :=
  let z31 := g17 x0 x1 x2 x3 x8
  let z32 := g17 x0 x1 x6 x7 x8
  let z33 := g12 z31.1 z31.2.1 z31.2.2.1 z31.2.2.2 z32.1 z32.2.1 z32.2.2.1 z32.2.2.2
  let z34 := g12 x0 x1 x2 x3 x0 x1 x6 x7
  let z35 := g16 
  .leaf ((bif (z33 == z34) then z35 else false))
def g5 (x0 : Int) (x1 : Int) (x2 : Int) (x3 : Int) (x4 : Int) (x5 : Int) (x6 : Int) (x7 : Int) (x8 : Int) : Bool := (g5T x0 x1 x2 x3 x4 x5 x6 x7 x8).get default
def s5 : Ab.Spec := fun args h =>
  dN h <| dL args fun v0 a0 => dG v0 fun l0 => dL l0 fun c0 m0 => dI .u64 c0 fun x0 => dL m0 fun c1 m1 => dI .u32 c1 fun x1 => dL m1 fun c2 m2 => dI .u64 c2 fun x2 => dL m2 fun c3 m3 => dI .u16 c3 fun x3 => dN m3 <| dL a0 fun v1 a1 => dG v1 fun l1 => dL l1 fun c4 m4 => dI .u64 c4 fun x4 => dL m4 fun c5 m5 => dI .u32 c5 fun x5 => dL m5 fun c6 m6 => dI .u64 c6 fun x6 => dL m6 fun c7 m7 => dI .u16 c7 fun x7 => dN m7 <| dL a1 fun v2 a2 => dC v2 fun c8 => dI .u32 c8 fun x8 => dN a2 <|
  let r := g5 x0 x1 x2 x3 x4 x5 x6 x7 x8; .val (.c (.bool r), [])
def L5 : SL := [(17, .byVal, s17), (12, .byVal, s12), (16, .byVal, s16)]
def e5 : Env := ⟨ti, fun g => lookS g L5, 100⟩
theorem g5_run (x0 : Int) (x1 : Int) (x2 : Int) (x3 : Int) (x4 : Int) (x5 : Int) (x6 : Int) (x7 : Int) (x8 : Int) : (runR e5 Go.Proofs.Try.f5 [.agg [.int .u64 x0, .int .u32 x1, .int .u64 x2, .int .u16 x3], .agg [.int .u64 x4, .int .u32 x5, .int .u64 x6, .int .u16 x7], .c (.int .u32 x8)] []).eval = (g5T x0 x1 x2 x3 x4 x5 x6 x7 x8).ev fun r => ((.c (.bool r) : AV), ([] : List Blk)) := by kernel_rfl
theorem s5_ok : SpecOk Go.Proofs.Try.prog 5 s5 :=
  (runR_ok (e := e5) follows (allTI ti_ok _ _) (callsOk_cons s17_ok (callsOk_cons s12_ok (callsOk_cons s16_ok (callsOk_nil)))) Go.Proofs.Try.func5 Go.Proofs.Try.call5).less fun args hs r h => by
    unfold s5 at h
    obtain ⟨rfl, hh1⟩ := dN_inv h
    obtain ⟨v0, a0, rfl, hh2⟩ := dL_inv hh1
    obtain ⟨l0, rfl, hh3⟩ := dG_inv hh2
    obtain ⟨c0, m0, rfl, hh4⟩ := dL_inv hh3
    obtain ⟨x0, rfl, hh5⟩ := dI_inv hh4
    obtain ⟨c1, m1, rfl, hh6⟩ := dL_inv hh5
    obtain ⟨x1, rfl, hh7⟩ := dI_inv hh6
    obtain ⟨c2, m2, rfl, hh8⟩ := dL_inv hh7
    obtain ⟨x2, rfl, hh9⟩ := dI_inv hh8
    obtain ⟨c3, m3, rfl, hh10⟩ := dL_inv hh9
    obtain ⟨x3, rfl, hh11⟩ := dI_inv hh10
    obtain ⟨rfl, hh12⟩ := dN_inv hh11
    obtain ⟨v1, a1, rfl, hh13⟩ := dL_inv hh12
    obtain ⟨l1, rfl, hh14⟩ := dG_inv hh13
    obtain ⟨c4, m4, rfl, hh15⟩ := dL_inv hh14
    obtain ⟨x4, rfl, hh16⟩ := dI_inv hh15
    obtain ⟨c5, m5, rfl, hh17⟩ := dL_inv hh16
    obtain ⟨x5, rfl, hh18⟩ := dI_inv hh17
    obtain ⟨c6, m6, rfl, hh19⟩ := dL_inv hh18
    obtain ⟨x6, rfl, hh20⟩ := dI_inv hh19
    obtain ⟨c7, m7, rfl, hh21⟩ := dL_inv hh20
    obtain ⟨x7, rfl, hh22⟩ := dI_inv hh21
    obtain ⟨rfl, hh23⟩ := dN_inv hh22
    obtain ⟨v2, a2, rfl, hh24⟩ := dL_inv hh23
    obtain ⟨c8, rfl, hh25⟩ := dC_inv hh24
    obtain ⟨x8, rfl, hh26⟩ := dI_inv hh25
    obtain ⟨rfl, hh27⟩ := dN_inv hh26
    rw [g5_run, Tr.ev_get (d := default) (by kernel_rfl)]
    exact hh27
/-- pontage/vector.within -/
def g36T (x0 : Int) (x1 : Int) (x2 : Int) : Tr (Bool) :=
  .leaf ((bif (decide (x0 ≥ x1)) then (decide (x0 ≤ x2)) else false))
def g36 (x0 : Int) (x1 : Int) (x2 : Int) : Bool := (g36T x0 x1 x2).get default
def s36 : Ab.Spec := fun args h =>
  dN h <| dL args fun v0 a0 => dC v0 fun c0 => dI .u8 c0 fun x0 => dL a0 fun v1 a1 => dC v1 fun c1 => dI .u8 c1 fun x1 => dL a1 fun v2 a2 => dC v2 fun c2 => dI .u8 c2 fun x2 => dN a2 <|
  let r := g36 x0 x1 x2; .val (.c (.bool r), [])
def L36 : SL := []
def e36 : Env := ⟨ti, fun g => lookS g L36, 100⟩
theorem g36_run (x0 : Int) (x1 : Int) (x2 : Int) : (runR e36 Go.Proofs.Try.f36 [.c (.int .u8 x0), .c (.int .u8 x1), .c (.int .u8 x2)] []).eval = (g36T x0 x1 x2).ev fun r => ((.c (.bool r) : AV), ([] : List Blk)) := by kernel_rfl
theorem s36_ok : SpecOk Go.Proofs.Try.prog 36 s36 :=
  (runR_ok (e := e36) follows (allTI ti_ok _ _) (callsOk_nil) Go.Proofs.Try.func36 Go.Proofs.Try.call36).less fun args hs r h => by
    unfold s36 at h
    obtain ⟨rfl, hh1⟩ := dN_inv h
    obtain ⟨v0, a0, rfl, hh2⟩ := dL_inv hh1
    obtain ⟨c0, rfl, hh3⟩ := dC_inv hh2
    obtain ⟨x0, rfl, hh4⟩ := dI_inv hh3
    obtain ⟨v1, a1, rfl, hh5⟩ := dL_inv hh4
    obtain ⟨c1, rfl, hh6⟩ := dC_inv hh5
    obtain ⟨x1, rfl, hh7⟩ := dI_inv hh6
    obtain ⟨v2, a2, rfl, hh8⟩ := dL_inv hh7
    obtain ⟨c2, rfl, hh9⟩ := dC_inv hh8
    obtain ⟨x2, rfl, hh10⟩ := dI_inv hh9
    obtain ⟨rfl, hh11⟩ := dN_inv hh10
    rw [g36_run, Tr.ev_get (d := default) (by kernel_rfl)]
    exact hh11
/-- pontage/vector.CheckT -/
def g23T (x0 : Int) (x1 : Int) (x2 : Int) (x3 : Int) : Tr (Int) :=
  let z36 := g36 x1 6 40
  let z37 := g36 x2 1 2
  let z38 := g36 x3 4 30
  .br (bif (bif (bif (bif (!z36) then true else (!z37)) then true else (!z38)) then true else (decide ((IntKind.u8.wrap (2 * (IntKind.u8.wrap (x3 - 1)))) < x1))) then true else (decide (x1 < (IntKind.u8.wrap (2 * (IntKind.u8.wrap (x2 + 1))))))) (
   .leaf (60)) (
   .leaf (0))
def g23 (x0 : Int) (x1 : Int) (x2 : Int) (x3 : Int) : Int := (g23T x0 x1 x2 x3).get default
def s23 : Ab.Spec := fun args h =>
  dN h <| dL args fun v0 a0 => dG v0 fun l0 => dL l0 fun c0 m0 => dI .u8 c0 fun x0 => dL m0 fun c1 m1 => dI .u8 c1 fun x1 => dL m1 fun c2 m2 => dI .u8 c2 fun x2 => dL m2 fun c3 m3 => dI .u8 c3 fun x3 => dN m3 <| dN a0 <|
  let r := g23 x0 x1 x2 x3; .val (.c (.int .i64 r), [])
def L23 : SL := [(36, .byVal, s36)]
def e23 : Env := ⟨ti, fun g => lookS g L23, 100⟩
theorem g23_run (x0 : Int) (x1 : Int) (x2 : Int) (x3 : Int) : (runR e23 Go.Proofs.Try.f23 [.agg [.int .u8 x0, .int .u8 x1, .int .u8 x2, .int .u8 x3]] []).eval = (g23T x0 x1 x2 x3).ev fun r => ((.c (.int .i64 r) : AV), ([] : List Blk)) := by kernel_rfl
theorem s23_ok : SpecOk Go.Proofs.Try.prog 23 s23 :=
  (runR_ok (e := e23) follows (allTI ti_ok _ _) (callsOk_cons s36_ok (callsOk_nil)) Go.Proofs.Try.func23 Go.Proofs.Try.call23).less fun args hs r h => by
    unfold s23 at h
    obtain ⟨rfl, hh1⟩ := dN_inv h
    obtain ⟨v0, a0, rfl, hh2⟩ := dL_inv hh1
    obtain ⟨l0, rfl, hh3⟩ := dG_inv hh2
    obtain ⟨c0, m0, rfl, hh4⟩ := dL_inv hh3
    obtain ⟨x0, rfl, hh5⟩ := dI_inv hh4
    obtain ⟨c1, m1, rfl, hh6⟩ := dL_inv hh5
    obtain ⟨x1, rfl, hh7⟩ := dI_inv hh6
    obtain ⟨c2, m2, rfl, hh8⟩ := dL_inv hh7
    obtain ⟨x2, rfl, hh9⟩ := dI_inv hh8
    obtain ⟨c3, m3, rfl, hh10⟩ := dL_inv hh9
    obtain ⟨x3, rfl, hh11⟩ := dI_inv hh10
    obtain ⟨rfl, hh12⟩ := dN_inv hh11
    obtain ⟨rfl, hh13⟩ := dN_inv hh12
    rw [g23_run, Tr.ev_get (d := default) (by kernel_rfl)]
    exact hh13
/-- pontage/pontageref06.CheckT -/
def g24T (x0 : Int) (x1 : Int) (x2 : Int) (x3 : Int) : Tr (Int) :=
  .br (bif (bif (bif (bif (bif (bif (bif (decide ((IntKind.i64.wrap x1) < 6)) then true else (decide ((IntKind.i64.wrap x1) > 40))) then true else (decide ((IntKind.i64.wrap x2) < 1))) then true else (decide ((IntKind.i64.wrap x2) > 2))) then true else (decide ((IntKind.i64.wrap x3) < 4))) then true else (decide ((IntKind.i64.wrap x3) > 30))) then true else (decide ((IntKind.i64.wrap (2 * (IntKind.i64.wrap ((IntKind.i64.wrap x3) - 1)))) < (IntKind.i64.wrap x1)))) then true else (decide ((IntKind.i64.wrap x1) < (IntKind.i64.wrap (2 * (IntKind.i64.wrap ((IntKind.i64.wrap x2) + 1))))))) (
   .leaf (60)) (
   .leaf (0))
def g24 (x0 : Int) (x1 : Int) (x2 : Int) (x3 : Int) : Int := (g24T x0 x1 x2 x3).get default
def s24 : Ab.Spec := fun args h =>
  dN h <| dL args fun v0 a0 => dG v0 fun l0 => dL l0 fun c0 m0 => dI .u8 c0 fun x0 => dL m0 fun c1 m1 => dI .u8 c1 fun x1 => dL m1 fun c2 m2 => dI .u8 c2 fun x2 => dL m2 fun c3 m3 => dI .u8 c3 fun x3 => dN m3 <| dN a0 <|
  let r := g24 x0 x1 x2 x3; .val (.c (.int .i64 r), [])
def L24 : SL := []
def e24 : Env := ⟨ti, fun g => lookS g L24, 100⟩
theorem g24_run (x0 : Int) (x1 : Int) (x2 : Int) (x3 : Int) : (runR e24 Go.Proofs.Try.f24 [.agg [.int .u8 x0, .int .u8 x1, .int .u8 x2, .int .u8 x3]] []).eval = (g24T x0 x1 x2 x3).ev fun r => ((.c (.int .i64 r) : AV), ([] : List Blk)) := by kernel_rfl
theorem s24_ok : SpecOk Go.Proofs.Try.prog 24 s24 :=
  (runR_ok (e := e24) follows (allTI ti_ok _ _) (callsOk_nil) Go.Proofs.Try.func24 Go.Proofs.Try.call24).less fun args hs r h => by
    unfold s24 at h
    obtain ⟨rfl, hh1⟩ := dN_inv h
    obtain ⟨v0, a0, rfl, hh2⟩ := dL_inv hh1
    obtain ⟨l0, rfl, hh3⟩ := dG_inv hh2
    obtain ⟨c0, m0, rfl, hh4⟩ := dL_inv hh3
    obtain ⟨x0, rfl, hh5⟩ := dI_inv hh4
    obtain ⟨c1, m1, rfl, hh6⟩ := dL_inv hh5
    obtain ⟨x1, rfl, hh7⟩ := dI_inv hh6
    obtain ⟨c2, m2, rfl, hh8⟩ := dL_inv hh7
    obtain ⟨x2, rfl, hh9⟩ := dI_inv hh8
    obtain ⟨c3, m3, rfl, hh10⟩ := dL_inv hh9
    obtain ⟨x3, rfl, hh11⟩ := dI_inv hh10
    obtain ⟨rfl, hh12⟩ := dN_inv hh11
    obtain ⟨rfl, hh13⟩ := dN_inv hh12
    rw [g24_run, Tr.ev_get (d := default) (by kernel_rfl)]
    exact hh13
/-- pontage/vector.Older -/
def g25T (x0 : Int) (x1 : Int) (x2 : Int) (x3 : Int) : Tr (Int × Int × Int × Int) :=
  .br (decide (x0 < 255)) (
   .leaf ((IntKind.u8.wrap (x0 + 1)), x1, x2, x3)) (
   .leaf (x0, x1, x2, x3))
def g25 (x0 : Int) (x1 : Int) (x2 : Int) (x3 : Int) : Int × Int × Int × Int := (g25T x0 x1 x2 x3).get default
def s25 : Ab.Spec := fun args h =>
  dN h <| dL args fun v0 a0 => dG v0 fun l0 => dL l0 fun c0 m0 => dI .u8 c0 fun x0 => dL m0 fun c1 m1 => dI .u8 c1 fun x1 => dL m1 fun c2 m2 => dI .u8 c2 fun x2 => dL m2 fun c3 m3 => dI .u8 c3 fun x3 => dN m3 <| dN a0 <|
  let r := g25 x0 x1 x2 x3; .val (.agg [.int .u8 r.1, .int .u8 r.2.1, .int .u8 r.2.2.1, .int .u8 r.2.2.2], [])
def L25 : SL := []
def e25 : Env := ⟨ti, fun g => lookS g L25, 100⟩
theorem g25_run (x0 : Int) (x1 : Int) (x2 : Int) (x3 : Int) : (runR e25 Go.Proofs.Try.f25 [.agg [.int .u8 x0, .int .u8 x1, .int .u8 x2, .int .u8 x3]] []).eval = (g25T x0 x1 x2 x3).ev fun r => ((.agg [.int .u8 r.1, .int .u8 r.2.1, .int .u8 r.2.2.1, .int .u8 r.2.2.2] : AV), ([] : List Blk)) := by kernel_rfl
theorem s25_ok : SpecOk Go.Proofs.Try.prog 25 s25 :=
  (runR_ok (e := e25) follows (allTI ti_ok _ _) (callsOk_nil) Go.Proofs.Try.func25 Go.Proofs.Try.call25).less fun args hs r h => by
    unfold s25 at h
    obtain ⟨rfl, hh1⟩ := dN_inv h
    obtain ⟨v0, a0, rfl, hh2⟩ := dL_inv hh1
    obtain ⟨l0, rfl, hh3⟩ := dG_inv hh2
    obtain ⟨c0, m0, rfl, hh4⟩ := dL_inv hh3
    obtain ⟨x0, rfl, hh5⟩ := dI_inv hh4
    obtain ⟨c1, m1, rfl, hh6⟩ := dL_inv hh5
    obtain ⟨x1, rfl, hh7⟩ := dI_inv hh6
    obtain ⟨c2, m2, rfl, hh8⟩ := dL_inv hh7
    obtain ⟨x2, rfl, hh9⟩ := dI_inv hh8
    obtain ⟨c3, m3, rfl, hh10⟩ := dL_inv hh9
    obtain ⟨x3, rfl, hh11⟩ := dI_inv hh10
    obtain ⟨rfl, hh12⟩ := dN_inv hh11
    obtain ⟨rfl, hh13⟩ := dN_inv hh12
    rw [g25_run, Tr.ev_get (d := default) (by kernel_rfl)]
    exact hh13
/-- pontage/pontageref06.Older -/
def g26T (x0 : Int) (x1 : Int) (x2 : Int) (x3 : Int) : Tr (Int × Int × Int × Int) :=
  .br (decide (x0 < 255)) (
   .leaf ((IntKind.u8.wrap (x0 + 1)), x1, x2, x3)) (
   .leaf (x0, x1, x2, x3))
def g26 (x0 : Int) (x1 : Int) (x2 : Int) (x3 : Int) : Int × Int × Int × Int := (g26T x0 x1 x2 x3).get default
def s26 : Ab.Spec := fun args h =>
  dN h <| dL args fun v0 a0 => dG v0 fun l0 => dL l0 fun c0 m0 => dI .u8 c0 fun x0 => dL m0 fun c1 m1 => dI .u8 c1 fun x1 => dL m1 fun c2 m2 => dI .u8 c2 fun x2 => dL m2 fun c3 m3 => dI .u8 c3 fun x3 => dN m3 <| dN a0 <|
  let r := g26 x0 x1 x2 x3; .val (.agg [.int .u8 r.1, .int .u8 r.2.1, .int .u8 r.2.2.1, .int .u8 r.2.2.2], [])
def L26 : SL := []
def e26 : Env := ⟨ti, fun g => lookS g L26, 100⟩
theorem g26_run (x0 : Int) (x1 : Int) (x2 : Int) (x3 : Int) : (runR e26 Go.Proofs.Try.f26 [.agg [.int .u8 x0, .int .u8 x1, .int .u8 x2, .int .u8 x3]] []).eval = (g26T x0 x1 x2 x3).ev fun r => ((.agg [.int .u8 r.1, .int .u8 r.2.1, .int .u8 r.2.2.1, .int .u8 r.2.2.2] : AV), ([] : List Blk)) := by kernel_rfl
theorem s26_ok : SpecOk Go.Proofs.Try.prog 26 s26 :=
  (runR_ok (e := e26) follows (allTI ti_ok _ _) (callsOk_nil) Go.Proofs.Try.func26 Go.Proofs.Try.call26).less fun args hs r h => by
    unfold s26 at h
    obtain ⟨rfl, hh1⟩ := dN_inv h
    obtain ⟨v0, a0, rfl, hh2⟩ := dL_inv hh1
    obtain ⟨l0, rfl, hh3⟩ := dG_inv hh2
    obtain ⟨c0, m0, rfl, hh4⟩ := dL_inv hh3
    obtain ⟨x0, rfl, hh5⟩ := dI_inv hh4
    obtain ⟨c1, m1, rfl, hh6⟩ := dL_inv hh5
    obtain ⟨x1, rfl, hh7⟩ := dI_inv hh6
    obtain ⟨c2, m2, rfl, hh8⟩ := dL_inv hh7
    obtain ⟨x2, rfl, hh9⟩ := dI_inv hh8
    obtain ⟨c3, m3, rfl, hh10⟩ := dL_inv hh9
    obtain ⟨x3, rfl, hh11⟩ := dI_inv hh10
    obtain ⟨rfl, hh12⟩ := dN_inv hh11
    obtain ⟨rfl, hh13⟩ := dN_inv hh12
    rw [g26_run, Tr.ev_get (d := default) (by kernel_rfl)]
    exact hh13
/-- pontage/pontagelaw06.VectorTimes -/
def g7T (x0 : Int) (x1 : Int) (x2 : Int) (x3 : Int) : Tr (Bool) :=
  let z39 := g23 x0 x1 x2 x3
  let z40 := g24 x0 x1 x2 x3
  let z41 := g25 x0 x1 x2 x3
  let z42 := g26 x0 x1 x2 x3
  let z43 := g16 
  .leaf ((bif (bif (z39 == z40) then ((z41.1 == z42.1) && ((z41.2.1 == z42.2.1) && ((z41.2.2.1 == z42.2.2.1) && (z41.2.2.2 == z42.2.2.2)))) else false) then z43 else false))
def g7 (x0 : Int) (x1 : Int) (x2 : Int) (x3 : Int) : Bool := (g7T x0 x1 x2 x3).get default
def s7 : Ab.Spec := fun args h =>
  dN h <| dL args fun v0 a0 => dG v0 fun l0 => dL l0 fun c0 m0 => dI .u8 c0 fun x0 => dL m0 fun c1 m1 => dI .u8 c1 fun x1 => dL m1 fun c2 m2 => dI .u8 c2 fun x2 => dL m2 fun c3 m3 => dI .u8 c3 fun x3 => dN m3 <| dN a0 <|
  let r := g7 x0 x1 x2 x3; .val (.c (.bool r), [])
def L7 : SL := [(23, .byVal, s23), (24, .byVal, s24), (25, .byVal, s25), (26, .byVal, s26), (16, .byVal, s16)]
def e7 : Env := ⟨ti, fun g => lookS g L7, 100⟩
theorem g7_run (x0 : Int) (x1 : Int) (x2 : Int) (x3 : Int) : (runR e7 Go.Proofs.Try.f7 [.agg [.int .u8 x0, .int .u8 x1, .int .u8 x2, .int .u8 x3]] []).eval = (g7T x0 x1 x2 x3).ev fun r => ((.c (.bool r) : AV), ([] : List Blk)) := by kernel_rfl
theorem s7_ok : SpecOk Go.Proofs.Try.prog 7 s7 :=
  (runR_ok (e := e7) follows (allTI ti_ok _ _) (callsOk_cons s23_ok (callsOk_cons s24_ok (callsOk_cons s25_ok (callsOk_cons s26_ok (callsOk_cons s16_ok (callsOk_nil)))))) Go.Proofs.Try.func7 Go.Proofs.Try.call7).less fun args hs r h => by
    unfold s7 at h
    obtain ⟨rfl, hh1⟩ := dN_inv h
    obtain ⟨v0, a0, rfl, hh2⟩ := dL_inv hh1
    obtain ⟨l0, rfl, hh3⟩ := dG_inv hh2
    obtain ⟨c0, m0, rfl, hh4⟩ := dL_inv hh3
    obtain ⟨x0, rfl, hh5⟩ := dI_inv hh4
    obtain ⟨c1, m1, rfl, hh6⟩ := dL_inv hh5
    obtain ⟨x1, rfl, hh7⟩ := dI_inv hh6
    obtain ⟨c2, m2, rfl, hh8⟩ := dL_inv hh7
    obtain ⟨x2, rfl, hh9⟩ := dI_inv hh8
    obtain ⟨c3, m3, rfl, hh10⟩ := dL_inv hh9
    obtain ⟨x3, rfl, hh11⟩ := dI_inv hh10
    obtain ⟨rfl, hh12⟩ := dN_inv hh11
    obtain ⟨rfl, hh13⟩ := dN_inv hh12
    rw [g7_run, Tr.ev_get (d := default) (by kernel_rfl)]
    exact hh13
/-- pontage/vector.Priority -/
def g27T (x0 : Int) : Tr (Int) :=
  .leaf ((IntKind.u16.wrap (shrI .u64 x0 48)))
def g27 (x0 : Int) : Int := (g27T x0).get default
def s27 : Ab.Spec := fun args h =>
  dN h <| dL args fun v0 a0 => dC v0 fun c0 => dI .u64 c0 fun x0 => dN a0 <|
  let r := g27 x0; .val (.c (.int .u16 r), [])
def L27 : SL := []
def e27 : Env := ⟨ti, fun g => lookS g L27, 100⟩
theorem g27_run (x0 : Int) : (runR e27 Go.Proofs.Try.f27 [.c (.int .u64 x0)] []).eval = (g27T x0).ev fun r => ((.c (.int .u16 r) : AV), ([] : List Blk)) := by kernel_rfl
theorem s27_ok : SpecOk Go.Proofs.Try.prog 27 s27 :=
  (runR_ok (e := e27) follows (allTI ti_ok _ _) (callsOk_nil) Go.Proofs.Try.func27 Go.Proofs.Try.call27).less fun args hs r h => by
    unfold s27 at h
    obtain ⟨rfl, hh1⟩ := dN_inv h
    obtain ⟨v0, a0, rfl, hh2⟩ := dL_inv hh1
    obtain ⟨c0, rfl, hh3⟩ := dC_inv hh2
    obtain ⟨x0, rfl, hh4⟩ := dI_inv hh3
    obtain ⟨rfl, hh5⟩ := dN_inv hh4
    rw [g27_run, Tr.ev_get (d := default) (by kernel_rfl)]
    exact hh5
/-- pontage/pontageref06.Priority -/
def g28T (x0 : Int) : Tr (Int) :=
  .leaf ((IntKind.u16.wrap (quoI .u64 x0 281474976710656)))
def g28 (x0 : Int) : Int := (g28T x0).get default
def s28 : Ab.Spec := fun args h =>
  dN h <| dL args fun v0 a0 => dC v0 fun c0 => dI .u64 c0 fun x0 => dN a0 <|
  let r := g28 x0; .val (.c (.int .u16 r), [])
def L28 : SL := []
def e28 : Env := ⟨ti, fun g => lookS g L28, 100⟩
theorem g28_run (x0 : Int) : (runR e28 Go.Proofs.Try.f28 [.c (.int .u64 x0)] []).eval = (g28T x0).ev fun r => ((.c (.int .u16 r) : AV), ([] : List Blk)) := by kernel_rfl
theorem s28_ok : SpecOk Go.Proofs.Try.prog 28 s28 :=
  (runR_ok (e := e28) follows (allTI ti_ok _ _) (callsOk_nil) Go.Proofs.Try.func28 Go.Proofs.Try.call28).less fun args hs r h => by
    unfold s28 at h
    obtain ⟨rfl, hh1⟩ := dN_inv h
    obtain ⟨v0, a0, rfl, hh2⟩ := dL_inv hh1
    obtain ⟨c0, rfl, hh3⟩ := dC_inv hh2
    obtain ⟨x0, rfl, hh4⟩ := dI_inv hh3
    obtain ⟨rfl, hh5⟩ := dN_inv hh4
    rw [g28_run, Tr.ev_get (d := default) (by kernel_rfl)]
    exact hh5
/-- pontage/vector.Address -/
def g29T (x0 : Int) : Tr (Int × Int × Int × Int × Int × Int) :=
  .leaf ((IntKind.u8.wrap (shrI .u64 x0 40)), (IntKind.u8.wrap (shrI .u64 x0 32)), (IntKind.u8.wrap (shrI .u64 x0 24)), (IntKind.u8.wrap (shrI .u64 x0 16)), (IntKind.u8.wrap (shrI .u64 x0 8)), (IntKind.u8.wrap (shrI .u64 x0 0)))
def g29 (x0 : Int) : Int × Int × Int × Int × Int × Int := (g29T x0).get default
def s29 : Ab.Spec := fun args h =>
  dN h <| dL args fun v0 a0 => dC v0 fun c0 => dI .u64 c0 fun x0 => dN a0 <|
  let r := g29 x0; .val (.agg [.int .u8 r.1, .int .u8 r.2.1, .int .u8 r.2.2.1, .int .u8 r.2.2.2.1, .int .u8 r.2.2.2.2.1, .int .u8 r.2.2.2.2.2], [])
def L29 : SL := []
def e29 : Env := ⟨ti, fun g => lookS g L29, 100⟩
theorem g29_run (x0 : Int) : (runR e29 Go.Proofs.Try.f29 [.c (.int .u64 x0)] []).eval = (g29T x0).ev fun r => ((.agg [.int .u8 r.1, .int .u8 r.2.1, .int .u8 r.2.2.1, .int .u8 r.2.2.2.1, .int .u8 r.2.2.2.2.1, .int .u8 r.2.2.2.2.2] : AV), ([] : List Blk)) := by kernel_rfl
theorem s29_ok : SpecOk Go.Proofs.Try.prog 29 s29 :=
  (runR_ok (e := e29) follows (allTI ti_ok _ _) (callsOk_nil) Go.Proofs.Try.func29 Go.Proofs.Try.call29).less fun args hs r h => by
    unfold s29 at h
    obtain ⟨rfl, hh1⟩ := dN_inv h
    obtain ⟨v0, a0, rfl, hh2⟩ := dL_inv hh1
    obtain ⟨c0, rfl, hh3⟩ := dC_inv hh2
    obtain ⟨x0, rfl, hh4⟩ := dI_inv hh3
    obtain ⟨rfl, hh5⟩ := dN_inv hh4
    rw [g29_run, Tr.ev_get (d := default) (by kernel_rfl)]
    exact hh5
/-- pontage/pontageref06.Address -/
def g30T (x0 : Int) : Tr (Int × Int × Int × Int × Int × Int) :=
  .leaf ((IntKind.u8.wrap (remI (quoI .u64 (quoI .u64 (quoI .u64 (quoI .u64 (quoI .u64 x0 256) 256) 256) 256) 256) 256)), (IntKind.u8.wrap (remI (quoI .u64 (quoI .u64 (quoI .u64 (quoI .u64 x0 256) 256) 256) 256) 256)), (IntKind.u8.wrap (remI (quoI .u64 (quoI .u64 (quoI .u64 x0 256) 256) 256) 256)), (IntKind.u8.wrap (remI (quoI .u64 (quoI .u64 x0 256) 256) 256)), (IntKind.u8.wrap (remI (quoI .u64 x0 256) 256)), (IntKind.u8.wrap (remI x0 256)))
def g30 (x0 : Int) : Int × Int × Int × Int × Int × Int := (g30T x0).get default
def s30 : Ab.Spec := fun args h =>
  dN h <| dL args fun v0 a0 => dC v0 fun c0 => dI .u64 c0 fun x0 => dN a0 <|
  let r := g30 x0; .val (.agg [.int .u8 r.1, .int .u8 r.2.1, .int .u8 r.2.2.1, .int .u8 r.2.2.2.1, .int .u8 r.2.2.2.2.1, .int .u8 r.2.2.2.2.2], [])
def L30 : SL := []
def e30 : Env := ⟨ti, fun g => lookS g L30, 100⟩
theorem g30_run (x0 : Int) : (runR e30 Go.Proofs.Try.f30 [.c (.int .u64 x0)] []).eval = (g30T x0).ev fun r => ((.agg [.int .u8 r.1, .int .u8 r.2.1, .int .u8 r.2.2.1, .int .u8 r.2.2.2.1, .int .u8 r.2.2.2.2.1, .int .u8 r.2.2.2.2.2] : AV), ([] : List Blk)) := by kernel_rfl
theorem s30_ok : SpecOk Go.Proofs.Try.prog 30 s30 :=
  (runR_ok (e := e30) follows (allTI ti_ok _ _) (callsOk_nil) Go.Proofs.Try.func30 Go.Proofs.Try.call30).less fun args hs r h => by
    unfold s30 at h
    obtain ⟨rfl, hh1⟩ := dN_inv h
    obtain ⟨v0, a0, rfl, hh2⟩ := dL_inv hh1
    obtain ⟨c0, rfl, hh3⟩ := dC_inv hh2
    obtain ⟨x0, rfl, hh4⟩ := dI_inv hh3
    obtain ⟨rfl, hh5⟩ := dN_inv hh4
    rw [g30_run, Tr.ev_get (d := default) (by kernel_rfl)]
    exact hh5
/-- pontage/vector.ID -/
def g31T (x0 : Int) (x1 : Int) (x2 : Int) (x3 : Int) (x4 : Int) (x5 : Int) (x6 : Int) : Tr (Int) :=
  .leaf ((orI .u64 (shlI .u64 (orI .u64 (shlI .u64 (orI .u64 (shlI .u64 (orI .u64 (shlI .u64 (orI .u64 (shlI .u64 (orI .u64 (shlI .u64 (IntKind.u64.wrap x0) 8) (IntKind.u64.wrap x1)) 8) (IntKind.u64.wrap x2)) 8) (IntKind.u64.wrap x3)) 8) (IntKind.u64.wrap x4)) 8) (IntKind.u64.wrap x5)) 8) (IntKind.u64.wrap x6)))
def g31 (x0 : Int) (x1 : Int) (x2 : Int) (x3 : Int) (x4 : Int) (x5 : Int) (x6 : Int) : Int := (g31T x0 x1 x2 x3 x4 x5 x6).get default
def s31 : Ab.Spec := fun args h =>
  dN h <| dL args fun v0 a0 => dC v0 fun c0 => dI .u16 c0 fun x0 => dL a0 fun v1 a1 => dG v1 fun l1 => dL l1 fun c1 m1 => dI .u8 c1 fun x1 => dL m1 fun c2 m2 => dI .u8 c2 fun x2 => dL m2 fun c3 m3 => dI .u8 c3 fun x3 => dL m3 fun c4 m4 => dI .u8 c4 fun x4 => dL m4 fun c5 m5 => dI .u8 c5 fun x5 => dL m5 fun c6 m6 => dI .u8 c6 fun x6 => dN m6 <| dN a1 <|
  let r := g31 x0 x1 x2 x3 x4 x5 x6; .val (.c (.int .u64 r), [])
def L31 : SL := []
def e31 : Env := ⟨ti, fun g => lookS g L31, 100⟩
theorem g31_run (x0 : Int) (x1 : Int) (x2 : Int) (x3 : Int) (x4 : Int) (x5 : Int) (x6 : Int) : (runR e31 Go.Proofs.Try.f31 [.c (.int .u16 x0), .agg [.int .u8 x1, .int .u8 x2, .int .u8 x3, .int .u8 x4, .int .u8 x5, .int .u8 x6]] []).eval = (g31T x0 x1 x2 x3 x4 x5 x6).ev fun r => ((.c (.int .u64 r) : AV), ([] : List Blk)) := by kernel_rfl
theorem s31_ok : SpecOk Go.Proofs.Try.prog 31 s31 :=
  (runR_ok (e := e31) follows (allTI ti_ok _ _) (callsOk_nil) Go.Proofs.Try.func31 Go.Proofs.Try.call31).less fun args hs r h => by
    unfold s31 at h
    obtain ⟨rfl, hh1⟩ := dN_inv h
    obtain ⟨v0, a0, rfl, hh2⟩ := dL_inv hh1
    obtain ⟨c0, rfl, hh3⟩ := dC_inv hh2
    obtain ⟨x0, rfl, hh4⟩ := dI_inv hh3
    obtain ⟨v1, a1, rfl, hh5⟩ := dL_inv hh4
    obtain ⟨l1, rfl, hh6⟩ := dG_inv hh5
    obtain ⟨c1, m1, rfl, hh7⟩ := dL_inv hh6
    obtain ⟨x1, rfl, hh8⟩ := dI_inv hh7
    obtain ⟨c2, m2, rfl, hh9⟩ := dL_inv hh8
    obtain ⟨x2, rfl, hh10⟩ := dI_inv hh9
    obtain ⟨c3, m3, rfl, hh11⟩ := dL_inv hh10
    obtain ⟨x3, rfl, hh12⟩ := dI_inv hh11
    obtain ⟨c4, m4, rfl, hh13⟩ := dL_inv hh12
    obtain ⟨x4, rfl, hh14⟩ := dI_inv hh13
    obtain ⟨c5, m5, rfl, hh15⟩ := dL_inv hh14
    obtain ⟨x5, rfl, hh16⟩ := dI_inv hh15
    obtain ⟨c6, m6, rfl, hh17⟩ := dL_inv hh16
    obtain ⟨x6, rfl, hh18⟩ := dI_inv hh17
    obtain ⟨rfl, hh19⟩ := dN_inv hh18
    obtain ⟨rfl, hh20⟩ := dN_inv hh19
    rw [g31_run, Tr.ev_get (d := default) (by kernel_rfl)]
    exact hh20
/-- pontage/pontageref06.ID -/
def g32T (x0 : Int) (x1 : Int) (x2 : Int) (x3 : Int) (x4 : Int) (x5 : Int) (x6 : Int) : Tr (Int) :=
  .leaf ((IntKind.u64.wrap ((IntKind.u64.wrap ((IntKind.u64.wrap ((IntKind.u64.wrap ((IntKind.u64.wrap ((IntKind.u64.wrap ((IntKind.u64.wrap ((IntKind.u64.wrap ((IntKind.u64.wrap ((IntKind.u64.wrap ((IntKind.u64.wrap ((IntKind.u64.wrap ((IntKind.u64.wrap x0) * 256)) + (IntKind.u64.wrap x1))) * 256)) + (IntKind.u64.wrap x2))) * 256)) + (IntKind.u64.wrap x3))) * 256)) + (IntKind.u64.wrap x4))) * 256)) + (IntKind.u64.wrap x5))) * 256)) + (IntKind.u64.wrap x6))))
def g32 (x0 : Int) (x1 : Int) (x2 : Int) (x3 : Int) (x4 : Int) (x5 : Int) (x6 : Int) : Int := (g32T x0 x1 x2 x3 x4 x5 x6).get default
def s32 : Ab.Spec := fun args h =>
  dN h <| dL args fun v0 a0 => dC v0 fun c0 => dI .u16 c0 fun x0 => dL a0 fun v1 a1 => dG v1 fun l1 => dL l1 fun c1 m1 => dI .u8 c1 fun x1 => dL m1 fun c2 m2 => dI .u8 c2 fun x2 => dL m2 fun c3 m3 => dI .u8 c3 fun x3 => dL m3 fun c4 m4 => dI .u8 c4 fun x4 => dL m4 fun c5 m5 => dI .u8 c5 fun x5 => dL m5 fun c6 m6 => dI .u8 c6 fun x6 => dN m6 <| dN a1 <|
  let r := g32 x0 x1 x2 x3 x4 x5 x6; .val (.c (.int .u64 r), [])
def L32 : SL := []
def e32 : Env := ⟨ti, fun g => lookS g L32, 100⟩
theorem g32_run (x0 : Int) (x1 : Int) (x2 : Int) (x3 : Int) (x4 : Int) (x5 : Int) (x6 : Int) : (runR e32 Go.Proofs.Try.f32 [.c (.int .u16 x0), .agg [.int .u8 x1, .int .u8 x2, .int .u8 x3, .int .u8 x4, .int .u8 x5, .int .u8 x6]] []).eval = (g32T x0 x1 x2 x3 x4 x5 x6).ev fun r => ((.c (.int .u64 r) : AV), ([] : List Blk)) := by kernel_rfl
theorem s32_ok : SpecOk Go.Proofs.Try.prog 32 s32 :=
  (runR_ok (e := e32) follows (allTI ti_ok _ _) (callsOk_nil) Go.Proofs.Try.func32 Go.Proofs.Try.call32).less fun args hs r h => by
    unfold s32 at h
    obtain ⟨rfl, hh1⟩ := dN_inv h
    obtain ⟨v0, a0, rfl, hh2⟩ := dL_inv hh1
    obtain ⟨c0, rfl, hh3⟩ := dC_inv hh2
    obtain ⟨x0, rfl, hh4⟩ := dI_inv hh3
    obtain ⟨v1, a1, rfl, hh5⟩ := dL_inv hh4
    obtain ⟨l1, rfl, hh6⟩ := dG_inv hh5
    obtain ⟨c1, m1, rfl, hh7⟩ := dL_inv hh6
    obtain ⟨x1, rfl, hh8⟩ := dI_inv hh7
    obtain ⟨c2, m2, rfl, hh9⟩ := dL_inv hh8
    obtain ⟨x2, rfl, hh10⟩ := dI_inv hh9
    obtain ⟨c3, m3, rfl, hh11⟩ := dL_inv hh10
    obtain ⟨x3, rfl, hh12⟩ := dI_inv hh11
    obtain ⟨c4, m4, rfl, hh13⟩ := dL_inv hh12
    obtain ⟨x4, rfl, hh14⟩ := dI_inv hh13
    obtain ⟨c5, m5, rfl, hh15⟩ := dL_inv hh14
    obtain ⟨x5, rfl, hh16⟩ := dI_inv hh15
    obtain ⟨c6, m6, rfl, hh17⟩ := dL_inv hh16
    obtain ⟨x6, rfl, hh18⟩ := dI_inv hh17
    obtain ⟨rfl, hh19⟩ := dN_inv hh18
    obtain ⟨rfl, hh20⟩ := dN_inv hh19
    rw [g32_run, Tr.ev_get (d := default) (by kernel_rfl)]
    exact hh20
/-- pontage/pontagelaw06.VectorNumbers -/
def g8T (x0 : Int) (x1 : Int) (x2 : Int) (x3 : Int) (x4 : Int) (x5 : Int) (x6 : Int) (x7 : Int) (x8 : Int) : Tr (Bool) :=
  let z44 := g27 x0
  let z45 := g28 x0
  let z46 := g29 x0
  let z47 := g30 x0
  let z48 := g31 x1 x2 x3 x4 x5 x6 x7
  let z49 := g32 x1 x2 x3 x4 x5 x6 x7
  let z50 := g33 x8
  let z51 := g34 x8
  let z52 := g16 
  .leaf ((bif (bif (bif (bif (z44 == z45) then ((z46.1 == z47.1) && ((z46.2.1 == z47.2.1) && ((z46.2.2.1 == z47.2.2.1) && ((z46.2.2.2.1 == z47.2.2.2.1) && ((z46.2.2.2.2.1 == z47.2.2.2.2.1) && (z46.2.2.2.2.2 == z47.2.2.2.2.2)))))) else false) then (z48 == z49) else false) then (z50 == z51) else false) then z52 else false))
def g8 (x0 : Int) (x1 : Int) (x2 : Int) (x3 : Int) (x4 : Int) (x5 : Int) (x6 : Int) (x7 : Int) (x8 : Int) : Bool := (g8T x0 x1 x2 x3 x4 x5 x6 x7 x8).get default
def s8 : Ab.Spec := fun args h =>
  dN h <| dL args fun v0 a0 => dC v0 fun c0 => dI .u64 c0 fun x0 => dL a0 fun v1 a1 => dC v1 fun c1 => dI .u16 c1 fun x1 => dL a1 fun v2 a2 => dG v2 fun l2 => dL l2 fun c2 m2 => dI .u8 c2 fun x2 => dL m2 fun c3 m3 => dI .u8 c3 fun x3 => dL m3 fun c4 m4 => dI .u8 c4 fun x4 => dL m4 fun c5 m5 => dI .u8 c5 fun x5 => dL m5 fun c6 m6 => dI .u8 c6 fun x6 => dL m6 fun c7 m7 => dI .u8 c7 fun x7 => dN m7 <| dL a2 fun v3 a3 => dC v3 fun c8 => dI .u16 c8 fun x8 => dN a3 <|
  let r := g8 x0 x1 x2 x3 x4 x5 x6 x7 x8; .val (.c (.bool r), [])
def L8 : SL := [(27, .byVal, s27), (28, .byVal, s28), (29, .byVal, s29), (30, .byVal, s30), (31, .byVal, s31), (32, .byVal, s32), (33, .byVal, s33), (34, .byVal, s34), (16, .byVal, s16)]
def e8 : Env := ⟨ti, fun g => lookS g L8, 100⟩
theorem g8_run (x0 : Int) (x1 : Int) (x2 : Int) (x3 : Int) (x4 : Int) (x5 : Int) (x6 : Int) (x7 : Int) (x8 : Int) : (runR e8 Go.Proofs.Try.f8 [.c (.int .u64 x0), .c (.int .u16 x1), .agg [.int .u8 x2, .int .u8 x3, .int .u8 x4, .int .u8 x5, .int .u8 x6, .int .u8 x7], .c (.int .u16 x8)] []).eval = (g8T x0 x1 x2 x3 x4 x5 x6 x7 x8).ev fun r => ((.c (.bool r) : AV), ([] : List Blk)) := by kernel_rfl
theorem s8_ok : SpecOk Go.Proofs.Try.prog 8 s8 :=
  (runR_ok (e := e8) follows (allTI ti_ok _ _) (callsOk_cons s27_ok (callsOk_cons s28_ok (callsOk_cons s29_ok (callsOk_cons s30_ok (callsOk_cons s31_ok (callsOk_cons s32_ok (callsOk_cons s33_ok (callsOk_cons s34_ok (callsOk_cons s16_ok (callsOk_nil)))))))))) Go.Proofs.Try.func8 Go.Proofs.Try.call8).less fun args hs r h => by
    unfold s8 at h
    obtain ⟨rfl, hh1⟩ := dN_inv h
    obtain ⟨v0, a0, rfl, hh2⟩ := dL_inv hh1
    obtain ⟨c0, rfl, hh3⟩ := dC_inv hh2
    obtain ⟨x0, rfl, hh4⟩ := dI_inv hh3
    obtain ⟨v1, a1, rfl, hh5⟩ := dL_inv hh4
    obtain ⟨c1, rfl, hh6⟩ := dC_inv hh5
    obtain ⟨x1, rfl, hh7⟩ := dI_inv hh6
    obtain ⟨v2, a2, rfl, hh8⟩ := dL_inv hh7
    obtain ⟨l2, rfl, hh9⟩ := dG_inv hh8
    obtain ⟨c2, m2, rfl, hh10⟩ := dL_inv hh9
    obtain ⟨x2, rfl, hh11⟩ := dI_inv hh10
    obtain ⟨c3, m3, rfl, hh12⟩ := dL_inv hh11
    obtain ⟨x3, rfl, hh13⟩ := dI_inv hh12
    obtain ⟨c4, m4, rfl, hh14⟩ := dL_inv hh13
    obtain ⟨x4, rfl, hh15⟩ := dI_inv hh14
    obtain ⟨c5, m5, rfl, hh16⟩ := dL_inv hh15
    obtain ⟨x5, rfl, hh17⟩ := dI_inv hh16
    obtain ⟨c6, m6, rfl, hh18⟩ := dL_inv hh17
    obtain ⟨x6, rfl, hh19⟩ := dI_inv hh18
    obtain ⟨c7, m7, rfl, hh20⟩ := dL_inv hh19
    obtain ⟨x7, rfl, hh21⟩ := dI_inv hh20
    obtain ⟨rfl, hh22⟩ := dN_inv hh21
    obtain ⟨v3, a3, rfl, hh23⟩ := dL_inv hh22
    obtain ⟨c8, rfl, hh24⟩ := dC_inv hh23
    obtain ⟨x8, rfl, hh25⟩ := dI_inv hh24
    obtain ⟨rfl, hh26⟩ := dN_inv hh25
    rw [g8_run, Tr.ev_get (d := default) (by kernel_rfl)]
    exact hh26
/-- pontage/pontagelaw06.VectorBack -/
def g9T (x0 : Int) (x1 : Int) (x2 : Int) (x3 : Int) (x4 : Int) (x5 : Int) (x6 : Int) (x7 : Int) : Tr (Bool) :=
  let z53 := g31 x1 x2 x3 x4 x5 x6 x7
  let z54 := g27 x0
  let z55 := g29 x0
  let z56 := g31 z54 z55.1 z55.2.1 z55.2.2.1 z55.2.2.2.1 z55.2.2.2.2.1 z55.2.2.2.2.2
  let z57 := g27 z53
  let z58 := g29 z53
  let z59 := g16 
  .leaf ((bif (bif (bif (z56 == x0) then (z57 == x1) else false) then ((z58.1 == x2) && ((z58.2.1 == x3) && ((z58.2.2.1 == x4) && ((z58.2.2.2.1 == x5) && ((z58.2.2.2.2.1 == x6) && (z58.2.2.2.2.2 == x7)))))) else false) then z59 else false))
def g9 (x0 : Int) (x1 : Int) (x2 : Int) (x3 : Int) (x4 : Int) (x5 : Int) (x6 : Int) (x7 : Int) : Bool := (g9T x0 x1 x2 x3 x4 x5 x6 x7).get default
def s9 : Ab.Spec := fun args h =>
  dN h <| dL args fun v0 a0 => dC v0 fun c0 => dI .u64 c0 fun x0 => dL a0 fun v1 a1 => dC v1 fun c1 => dI .u16 c1 fun x1 => dL a1 fun v2 a2 => dG v2 fun l2 => dL l2 fun c2 m2 => dI .u8 c2 fun x2 => dL m2 fun c3 m3 => dI .u8 c3 fun x3 => dL m3 fun c4 m4 => dI .u8 c4 fun x4 => dL m4 fun c5 m5 => dI .u8 c5 fun x5 => dL m5 fun c6 m6 => dI .u8 c6 fun x6 => dL m6 fun c7 m7 => dI .u8 c7 fun x7 => dN m7 <| dN a2 <|
  let r := g9 x0 x1 x2 x3 x4 x5 x6 x7; .val (.c (.bool r), [])
def L9 : SL := [(31, .byVal, s31), (27, .byVal, s27), (29, .byVal, s29), (16, .byVal, s16)]
def e9 : Env := ⟨ti, fun g => lookS g L9, 100⟩
theorem g9_run (x0 : Int) (x1 : Int) (x2 : Int) (x3 : Int) (x4 : Int) (x5 : Int) (x6 : Int) (x7 : Int) : (runR e9 Go.Proofs.Try.f9 [.c (.int .u64 x0), .c (.int .u16 x1), .agg [.int .u8 x2, .int .u8 x3, .int .u8 x4, .int .u8 x5, .int .u8 x6, .int .u8 x7]] []).eval = (g9T x0 x1 x2 x3 x4 x5 x6 x7).ev fun r => ((.c (.bool r) : AV), ([] : List Blk)) := by kernel_rfl
theorem s9_ok : SpecOk Go.Proofs.Try.prog 9 s9 :=
  (runR_ok (e := e9) follows (allTI ti_ok _ _) (callsOk_cons s31_ok (callsOk_cons s27_ok (callsOk_cons s29_ok (callsOk_cons s16_ok (callsOk_nil))))) Go.Proofs.Try.func9 Go.Proofs.Try.call9).less fun args hs r h => by
    unfold s9 at h
    obtain ⟨rfl, hh1⟩ := dN_inv h
    obtain ⟨v0, a0, rfl, hh2⟩ := dL_inv hh1
    obtain ⟨c0, rfl, hh3⟩ := dC_inv hh2
    obtain ⟨x0, rfl, hh4⟩ := dI_inv hh3
    obtain ⟨v1, a1, rfl, hh5⟩ := dL_inv hh4
    obtain ⟨c1, rfl, hh6⟩ := dC_inv hh5
    obtain ⟨x1, rfl, hh7⟩ := dI_inv hh6
    obtain ⟨v2, a2, rfl, hh8⟩ := dL_inv hh7
    obtain ⟨l2, rfl, hh9⟩ := dG_inv hh8
    obtain ⟨c2, m2, rfl, hh10⟩ := dL_inv hh9
    obtain ⟨x2, rfl, hh11⟩ := dI_inv hh10
    obtain ⟨c3, m3, rfl, hh12⟩ := dL_inv hh11
    obtain ⟨x3, rfl, hh13⟩ := dI_inv hh12
    obtain ⟨c4, m4, rfl, hh14⟩ := dL_inv hh13
    obtain ⟨x4, rfl, hh15⟩ := dI_inv hh14
    obtain ⟨c5, m5, rfl, hh16⟩ := dL_inv hh15
    obtain ⟨x5, rfl, hh17⟩ := dI_inv hh16
    obtain ⟨c6, m6, rfl, hh18⟩ := dL_inv hh17
    obtain ⟨x6, rfl, hh19⟩ := dI_inv hh18
    obtain ⟨c7, m7, rfl, hh20⟩ := dL_inv hh19
    obtain ⟨x7, rfl, hh21⟩ := dI_inv hh20
    obtain ⟨rfl, hh22⟩ := dN_inv hh21
    obtain ⟨rfl, hh23⟩ := dN_inv hh22
    rw [g9_run, Tr.ev_get (d := default) (by kernel_rfl)]
    exact hh23
end Ab06
