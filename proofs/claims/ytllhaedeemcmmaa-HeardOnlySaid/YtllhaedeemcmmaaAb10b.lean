/- Seat 10: the functions. -/
import Derived.Test.YtllhaedeemcmmaaAb10a
set_option maxRecDepth 100000
set_option maxHeartbeats 4000000
set_option linter.unusedVariables false
set_option linter.unusedSimpArgs false
namespace Ab10
open Go Ab

/-- pontage/heard.Take -/
def g11T (x0 : S0) (x1 : S1) : Tr (S0) :=
  .br (!x0.f2) (
   .leaf (x0)) (
   .br (x1.f0 == 3) (
    .leaf ({ x0 with f14 := true, f15 := true, f48 := x1.f0, f49 := x1.f1, f50 := x1.f2, f51 := x1.f3, f52 := x1.f4, f53 := x1.f5, f54 := x1.f6, f55 := x1.f7, f56 := x1.f8, f57 := x1.f9, f58 := x1.f10, f59 := x1.f11, f60 := x1.f12, f61 := x1.f13, f62 := x1.f14, f63 := x1.f15 })) (
    .br (x1.f0 == 1) (
     .leaf ({ x0 with f14 := true, f16 := true, f48 := x1.f0, f49 := x1.f1, f50 := x1.f2, f51 := x1.f3, f52 := x1.f4, f53 := x1.f5, f54 := x1.f6, f55 := x1.f7, f56 := x1.f8, f57 := x1.f9, f58 := x1.f10, f59 := x1.f11, f60 := x1.f12, f61 := x1.f13, f62 := x1.f14, f63 := x1.f15 })) (
     .br (x1.f0 == 2) (
      .leaf ({ x0 with f14 := true, f16 := true, f48 := x1.f0, f49 := x1.f1, f50 := x1.f2, f51 := x1.f3, f52 := x1.f4, f53 := x1.f5, f54 := x1.f6, f55 := x1.f7, f56 := x1.f8, f57 := x1.f9, f58 := x1.f10, f59 := x1.f11, f60 := x1.f12, f61 := x1.f13, f62 := x1.f14, f63 := x1.f15 })) (
      .leaf (x0)))))
def g11 (x0 : S0) (x1 : S1) : S0 := (g11T x0 x1).get default
def s11 : Ab.Spec := fun args h =>
  dN h <| dL args fun v0 a0 => dG v0 fun l0 => dE 0 l0 fun x0 => dL a0 fun v1 a1 => dG v1 fun l1 => dE 1 l1 fun x1 => dN a1 <|
  let r := g11 x0 x1; .val (.agg (Cod.enc 0 r), [])
noncomputable def L11 : SL := []
noncomputable def e11 : Env := ⟨ti, fun g => lookS g L11, 100⟩
theorem g11_run (x0 : S0) (x1 : S1) : (runR e11 Go.Proofs.Try.f11 [.agg (Cod.enc 0 x0), .agg (Cod.enc 1 x1)] []).eval = (g11T x0 x1).ev fun r => ((.agg (Cod.enc 0 r) : AV), ([] : List Blk)) := by kernel_rfl
theorem s11_ok : SpecOk Go.Proofs.Try.prog 11 s11 :=
  (runR_ok (e := e11) follows (allTI ti_ok _ _) (callsOk_nil) Go.Proofs.Try.func11 Go.Proofs.Try.call11).less fun args hs r h => by
    unfold s11 at h
    obtain ⟨rfl, hh1⟩ := dN_inv h
    obtain ⟨v0, a0, rfl, hh2⟩ := dL_inv hh1
    obtain ⟨l0, rfl, hh3⟩ := dG_inv hh2
    obtain ⟨x0, rfl, hh4⟩ := dE_inv hh3
    obtain ⟨v1, a1, rfl, hh5⟩ := dL_inv hh4
    obtain ⟨l1, rfl, hh6⟩ := dG_inv hh5
    obtain ⟨x1, rfl, hh7⟩ := dE_inv hh6
    obtain ⟨rfl, hh8⟩ := dN_inv hh7
    rw [g11_run, Tr.ev_get (d := default) (by kernel_rfl)]
    exact hh8
/-- pontage/pontageref10.Take -/
def g12T (x0 : S0) (x1 : S1) : Tr (S0) :=
  .br (bif (!x0.f2) then true else (bif (bif (x1.f0 != 3) then (x1.f0 != 1) else false) then (x1.f0 != 2) else false)) (
   .leaf (x0)) (
   .br (x1.f0 == 3) (
    .leaf ({ x0 with f14 := true, f15 := true, f48 := x1.f0, f49 := x1.f1, f50 := x1.f2, f51 := x1.f3, f52 := x1.f4, f53 := x1.f5, f54 := x1.f6, f55 := x1.f7, f56 := x1.f8, f57 := x1.f9, f58 := x1.f10, f59 := x1.f11, f60 := x1.f12, f61 := x1.f13, f62 := x1.f14, f63 := x1.f15 })) (
    .leaf ({ x0 with f14 := true, f16 := true, f48 := x1.f0, f49 := x1.f1, f50 := x1.f2, f51 := x1.f3, f52 := x1.f4, f53 := x1.f5, f54 := x1.f6, f55 := x1.f7, f56 := x1.f8, f57 := x1.f9, f58 := x1.f10, f59 := x1.f11, f60 := x1.f12, f61 := x1.f13, f62 := x1.f14, f63 := x1.f15 })))
def g12 (x0 : S0) (x1 : S1) : S0 := (g12T x0 x1).get default
def s12 : Ab.Spec := fun args h =>
  dN h <| dL args fun v0 a0 => dG v0 fun l0 => dE 0 l0 fun x0 => dL a0 fun v1 a1 => dG v1 fun l1 => dE 1 l1 fun x1 => dN a1 <|
  let r := g12 x0 x1; .val (.agg (Cod.enc 0 r), [])
noncomputable def L12 : SL := []
noncomputable def e12 : Env := ⟨ti, fun g => lookS g L12, 100⟩
theorem g12_run (x0 : S0) (x1 : S1) : (runR e12 Go.Proofs.Try.f12 [.agg (Cod.enc 0 x0), .agg (Cod.enc 1 x1)] []).eval = (g12T x0 x1).ev fun r => ((.agg (Cod.enc 0 r) : AV), ([] : List Blk)) := by kernel_rfl
theorem s12_ok : SpecOk Go.Proofs.Try.prog 12 s12 :=
  (runR_ok (e := e12) follows (allTI ti_ok _ _) (callsOk_nil) Go.Proofs.Try.func12 Go.Proofs.Try.call12).less fun args hs r h => by
    unfold s12 at h
    obtain ⟨rfl, hh1⟩ := dN_inv h
    obtain ⟨v0, a0, rfl, hh2⟩ := dL_inv hh1
    obtain ⟨l0, rfl, hh3⟩ := dG_inv hh2
    obtain ⟨x0, rfl, hh4⟩ := dE_inv hh3
    obtain ⟨v1, a1, rfl, hh5⟩ := dL_inv hh4
    obtain ⟨l1, rfl, hh6⟩ := dG_inv hh5
    obtain ⟨x1, rfl, hh7⟩ := dE_inv hh6
    obtain ⟨rfl, hh8⟩ := dN_inv hh7
    rw [g12_run, Tr.ev_get (d := default) (by kernel_rfl)]
    exact hh8
/-- pontage/heard.designated -/
def g33T (x0 : S1) : Tr (Bool) :=
  .leaf ((bif (x0.f0 == 1) then true else (bif (x0.f0 == 3) then (x0.f7 == 4) else false)))
def g33 (x0 : S1) : Bool := (g33T x0).get default
def s33 : Ab.Spec := fun args h =>
  dN h <| dL args fun v0 a0 => dG v0 fun l0 => dE 1 l0 fun x0 => dN a0 <|
  let r := g33 x0; .val (.c (.bool r), [])
noncomputable def L33 : SL := []
noncomputable def e33 : Env := ⟨ti, fun g => lookS g L33, 100⟩
theorem g33_run (x0 : S1) : (runR e33 Go.Proofs.Try.f33 [.agg (Cod.enc 1 x0)] []).eval = (g33T x0).ev fun r => ((.c (.bool r) : AV), ([] : List Blk)) := by kernel_rfl
theorem s33_ok : SpecOk Go.Proofs.Try.prog 33 s33 :=
  (runR_ok (e := e33) follows (allTI ti_ok _ _) (callsOk_nil) Go.Proofs.Try.func33 Go.Proofs.Try.call33).less fun args hs r h => by
    unfold s33 at h
    obtain ⟨rfl, hh1⟩ := dN_inv h
    obtain ⟨v0, a0, rfl, hh2⟩ := dL_inv hh1
    obtain ⟨l0, rfl, hh3⟩ := dG_inv hh2
    obtain ⟨x0, rfl, hh4⟩ := dE_inv hh3
    obtain ⟨rfl, hh5⟩ := dN_inv hh4
    rw [g33_run, Tr.ev_get (d := default) (by kernel_rfl)]
    exact hh5
/-- pontage/vector.Compare -/
def g35T (x0 : S2) (x1 : S2) : Tr (Int) :=
  .br (decide (x0.f0 < x1.f0)) (
   .leaf ((-1))) (
   .br (decide (x0.f0 > x1.f0)) (
    .leaf (1)) (
    .br (decide ((IntKind.u64.wrap x0.f1) < (IntKind.u64.wrap x1.f1))) (
     .leaf ((-1))) (
     .br (decide ((IntKind.u64.wrap x0.f1) > (IntKind.u64.wrap x1.f1))) (
      .leaf (1)) (
      .br (decide (x0.f2 < x1.f2)) (
       .leaf ((-1))) (
       .br (decide (x0.f2 > x1.f2)) (
        .leaf (1)) (
        .br (decide ((IntKind.u64.wrap x0.f3) < (IntKind.u64.wrap x1.f3))) (
         .leaf ((-1))) (
         .br (decide ((IntKind.u64.wrap x0.f3) > (IntKind.u64.wrap x1.f3))) (
          .leaf (1)) (
          .leaf (0)))))))))
def g35 (x0 : S2) (x1 : S2) : Int := (g35T x0 x1).get default
def s35 : Ab.Spec := fun args h =>
  dN h <| dL args fun v0 a0 => dG v0 fun l0 => dE 2 l0 fun x0 => dL a0 fun v1 a1 => dG v1 fun l1 => dE 2 l1 fun x1 => dN a1 <|
  let r := g35 x0 x1; .val (.c (.int .i64 r), [])
noncomputable def L35 : SL := []
noncomputable def e35 : Env := ⟨ti, fun g => lookS g L35, 100⟩
theorem g35_run (x0 : S2) (x1 : S2) : (runR e35 Go.Proofs.Try.f35 [.agg (Cod.enc 2 x0), .agg (Cod.enc 2 x1)] []).eval = (g35T x0 x1).ev fun r => ((.c (.int .i64 r) : AV), ([] : List Blk)) := by kernel_rfl
theorem s35_ok : SpecOk Go.Proofs.Try.prog 35 s35 :=
  (runR_ok (e := e35) follows (allTI ti_ok _ _) (callsOk_nil) Go.Proofs.Try.func35 Go.Proofs.Try.call35).less fun args hs r h => by
    unfold s35 at h
    obtain ⟨rfl, hh1⟩ := dN_inv h
    obtain ⟨v0, a0, rfl, hh2⟩ := dL_inv hh1
    obtain ⟨l0, rfl, hh3⟩ := dG_inv hh2
    obtain ⟨x0, rfl, hh4⟩ := dE_inv hh3
    obtain ⟨v1, a1, rfl, hh5⟩ := dL_inv hh4
    obtain ⟨l1, rfl, hh6⟩ := dG_inv hh5
    obtain ⟨x1, rfl, hh7⟩ := dE_inv hh6
    obtain ⟨rfl, hh8⟩ := dN_inv hh7
    rw [g35_run, Tr.ev_get (d := default) (by kernel_rfl)]
    exact hh8
/-- pontage/vector.Better -/
def g38T (x0 : S2) (x1 : S2) : Tr (Bool) :=
  let z1 := g35 x0 x1
  .leaf ((decide (z1 < 0)))
def g38 (x0 : S2) (x1 : S2) : Bool := (g38T x0 x1).get default
def s38 : Ab.Spec := fun args h =>
  dN h <| dL args fun v0 a0 => dG v0 fun l0 => dE 2 l0 fun x0 => dL a0 fun v1 a1 => dG v1 fun l1 => dE 2 l1 fun x1 => dN a1 <|
  let r := g38 x0 x1; .val (.c (.bool r), [])
noncomputable def L38 : SL := [(35, .byVal, s35)]
noncomputable def e38 : Env := ⟨ti, fun g => lookS g L38, 100⟩
theorem g38_run (x0 : S2) (x1 : S2) : (runR e38 Go.Proofs.Try.f38 [.agg (Cod.enc 2 x0), .agg (Cod.enc 2 x1)] []).eval = (g38T x0 x1).ev fun r => ((.c (.bool r) : AV), ([] : List Blk)) := by kernel_rfl
theorem s38_ok : SpecOk Go.Proofs.Try.prog 38 s38 :=
  (runR_ok (e := e38) follows (allTI ti_ok _ _) (callsOk_cons s35_ok (callsOk_nil)) Go.Proofs.Try.func38 Go.Proofs.Try.call38).less fun args hs r h => by
    unfold s38 at h
    obtain ⟨rfl, hh1⟩ := dN_inv h
    obtain ⟨v0, a0, rfl, hh2⟩ := dL_inv hh1
    obtain ⟨l0, rfl, hh3⟩ := dG_inv hh2
    obtain ⟨x0, rfl, hh4⟩ := dE_inv hh3
    obtain ⟨v1, a1, rfl, hh5⟩ := dL_inv hh4
    obtain ⟨l1, rfl, hh6⟩ := dG_inv hh5
    obtain ⟨x1, rfl, hh7⟩ := dE_inv hh6
    obtain ⟨rfl, hh8⟩ := dN_inv hh7
    rw [g38_run, Tr.ev_get (d := default) (by kernel_rfl)]
    exact hh8
/-- pontage/vector.Number -/
def g46T (x0 : Int) : Tr (Int) :=
  .leaf ((andI .u16 x0 4095))
def g46 (x0 : Int) : Int := (g46T x0).get default
def s46 : Ab.Spec := fun args h =>
  dN h <| dL args fun v0 a0 => dC v0 fun c0 => dI .u16 c0 fun x0 => dN a0 <|
  let r := g46 x0; .val (.c (.int .u16 r), [])
noncomputable def L46 : SL := []
noncomputable def e46 : Env := ⟨ti, fun g => lookS g L46, 100⟩
theorem g46_run (x0 : Int) : (runR e46 Go.Proofs.Try.f46 [.c (.int .u16 x0)] []).eval = (g46T x0).ev fun r => ((.c (.int .u16 r) : AV), ([] : List Blk)) := by kernel_rfl
theorem s46_ok : SpecOk Go.Proofs.Try.prog 46 s46 :=
  (runR_ok (e := e46) follows (allTI ti_ok _ _) (callsOk_nil) Go.Proofs.Try.func46 Go.Proofs.Try.call46).less fun args hs r h => by
    unfold s46 at h
    obtain ⟨rfl, hh1⟩ := dN_inv h
    obtain ⟨v0, a0, rfl, hh2⟩ := dL_inv hh1
    obtain ⟨c0, rfl, hh3⟩ := dC_inv hh2
    obtain ⟨x0, rfl, hh4⟩ := dI_inv hh3
    obtain ⟨rfl, hh5⟩ := dN_inv hh4
    rw [g46_run, Tr.ev_get (d := default) (by kernel_rfl)]
    exact hh5
/-- pontage/vector.Superior -/
def g34T (x0 : S2) (x1 : S2) : Tr (Bool) :=
  let z2 := g38 x0 x1
  let z3 := g46 x0.f3
  let z4 := g46 x1.f3
  .leaf ((bif z2 then true else (bif ((andI .u64 x0.f2 281474976710655) == (andI .u64 x1.f2 281474976710655)) then (z3 == z4) else false)))
def g34 (x0 : S2) (x1 : S2) : Bool := (g34T x0 x1).get default
def s34 : Ab.Spec := fun args h =>
  dN h <| dL args fun v0 a0 => dG v0 fun l0 => dE 2 l0 fun x0 => dL a0 fun v1 a1 => dG v1 fun l1 => dE 2 l1 fun x1 => dN a1 <|
  let r := g34 x0 x1; .val (.c (.bool r), [])
noncomputable def L34 : SL := [(38, .byVal, s38), (46, .byVal, s46)]
noncomputable def e34 : Env := ⟨ti, fun g => lookS g L34, 100⟩
theorem g34_run (x0 : S2) (x1 : S2) : (runR e34 Go.Proofs.Try.f34 [.agg (Cod.enc 2 x0), .agg (Cod.enc 2 x1)] []).eval = (g34T x0 x1).ev fun r => ((.c (.bool r) : AV), ([] : List Blk)) := by kernel_rfl
theorem s34_ok : SpecOk Go.Proofs.Try.prog 34 s34 :=
  (runR_ok (e := e34) follows (allTI ti_ok _ _) (callsOk_cons s38_ok (callsOk_cons s46_ok (callsOk_nil))) Go.Proofs.Try.func34 Go.Proofs.Try.call34).less fun args hs r h => by
    unfold s34 at h
    obtain ⟨rfl, hh1⟩ := dN_inv h
    obtain ⟨v0, a0, rfl, hh2⟩ := dL_inv hh1
    obtain ⟨l0, rfl, hh3⟩ := dG_inv hh2
    obtain ⟨x0, rfl, hh4⟩ := dE_inv hh3
    obtain ⟨v1, a1, rfl, hh5⟩ := dL_inv hh4
    obtain ⟨l1, rfl, hh6⟩ := dG_inv hh5
    obtain ⟨x1, rfl, hh7⟩ := dE_inv hh6
    obtain ⟨rfl, hh8⟩ := dN_inv hh7
    rw [g34_run, Tr.ev_get (d := default) (by kernel_rfl)]
    exact hh8
/-- pontage/heard.Info -/
def g14T (x0 : S0) : Tr (Int) :=
  let z5 := g33 (S1.mk x0.f48 x0.f49 x0.f50 x0.f51 x0.f52 x0.f53 x0.f54 x0.f55 x0.f56 x0.f57 x0.f58 x0.f59 x0.f60 x0.f61 x0.f62 x0.f63)
  .br z5 (
   .br (bif ((x0.f56 == x0.f36) && ((x0.f57 == x0.f37) && ((x0.f58 == x0.f38) && (x0.f59 == x0.f39)))) then ((x0.f60 == x0.f44) && ((x0.f61 == x0.f45) && ((x0.f62 == x0.f46) && (x0.f63 == x0.f47)))) else false) (
    .leaf (2)) (
    let z6 := g34 (S2.mk x0.f56 x0.f57 x0.f58 x0.f59) (S2.mk x0.f36 x0.f37 x0.f38 x0.f39)
    .br z6 (
     .leaf (1)) (
     .leaf (3)))) (
   .br (x0.f48 != 3) (
    .leaf (0)) (
    .br (x0.f55 == 3) (
     let z7 := g35 (S2.mk x0.f56 x0.f57 x0.f58 x0.f59) (S2.mk x0.f36 x0.f37 x0.f38 x0.f39)
     .br (decide (z7 ≥ 0)) (
      .leaf (4)) (
      .leaf (0))) (
     .br (x0.f55 == 1) (
      let z8 := g35 (S2.mk x0.f56 x0.f57 x0.f58 x0.f59) (S2.mk x0.f36 x0.f37 x0.f38 x0.f39)
      .br (decide (z8 ≥ 0)) (
       .leaf (4)) (
       .leaf (0))) (
      .br (x0.f55 == 2) (
       let z9 := g35 (S2.mk x0.f56 x0.f57 x0.f58 x0.f59) (S2.mk x0.f36 x0.f37 x0.f38 x0.f39)
       .br (decide (z9 ≥ 0)) (
        .leaf (4)) (
        .leaf (0))) (
       .leaf (0))))))
def g14 (x0 : S0) : Int := (g14T x0).get default
def s14 : Ab.Spec := fun args h =>
  dN h <| dL args fun v0 a0 => dG v0 fun l0 => dE 0 l0 fun x0 => dN a0 <|
  let r := g14 x0; .val (.c (.int .i64 r), [])
noncomputable def L14 : SL := [(33, .byVal, s33), (34, .byVal, s34), (35, .byVal, s35)]
noncomputable def e14 : Env := ⟨ti, fun g => lookS g L14, 100⟩
theorem g14_run (x0 : S0) : (runR e14 Go.Proofs.Try.f14 [.agg (Cod.enc 0 x0)] []).eval = (g14T x0).ev fun r => ((.c (.int .i64 r) : AV), ([] : List Blk)) := by kernel_rfl
theorem s14_ok : SpecOk Go.Proofs.Try.prog 14 s14 :=
  (runR_ok (e := e14) follows (allTI ti_ok _ _) (callsOk_cons s33_ok (callsOk_cons s34_ok (callsOk_cons s35_ok (callsOk_nil)))) Go.Proofs.Try.func14 Go.Proofs.Try.call14).less fun args hs r h => by
    unfold s14 at h
    obtain ⟨rfl, hh1⟩ := dN_inv h
    obtain ⟨v0, a0, rfl, hh2⟩ := dL_inv hh1
    obtain ⟨l0, rfl, hh3⟩ := dG_inv hh2
    obtain ⟨x0, rfl, hh4⟩ := dE_inv hh3
    obtain ⟨rfl, hh5⟩ := dN_inv hh4
    rw [g14_run, Tr.ev_get (d := default) (by kernel_rfl)]
    exact hh5
/-- pontage/pontagelaw10.awake -/
def g13T  : Tr (Bool) :=
  let z10 := g11 (S0.mk 0 0 true false false false false false false false false false false false false false false false false false false false false false false false false false false 0 0 0 0 0 0 0 5 0 5 1 0 0 0 0 0 0 0 0 0 false false false false false false 0 0 0 0 0 0 0 0 0 0 0 0 0 0 0 0 0 0 0 0 0 0) (S1.mk 3 false false false false false false 4 4 0 4 1 0 0 0 0)
  let z11 := g14 z10
  let z12 := g14 { z10 with f56 := 6, f57 := 0, f58 := 6, f59 := 1 }
  .leaf ((bif (bif (bif z10.f14 then z10.f15 else false) then (z11 == 1) else false) then (z12 == 3) else false))
def g13  : Bool := (g13T ).get default
def s13 : Ab.Spec := fun args h =>
  dN h <| dN args <|
  let r := g13; .val (.c (.bool r), [])
noncomputable def L13 : SL := [(11, .byVal, s11), (14, .byVal, s14)]
noncomputable def e13 : Env := ⟨ti, fun g => lookS g L13, 100⟩
theorem g13_run  : (runR e13 Go.Proofs.Try.f13 [] []).eval = (g13T ).ev fun r => ((.c (.bool r) : AV), ([] : List Blk)) := by kernel_rfl
theorem s13_ok : SpecOk Go.Proofs.Try.prog 13 s13 :=
  (runR_ok (e := e13) follows (allTI ti_ok _ _) (callsOk_cons s11_ok (callsOk_cons s14_ok (callsOk_nil))) Go.Proofs.Try.func13 Go.Proofs.Try.call13).less fun args hs r h => by
    unfold s13 at h
    obtain ⟨rfl, hh1⟩ := dN_inv h
    obtain ⟨rfl, hh2⟩ := dN_inv hh1
    rw [g13_run, Tr.ev_get (d := default) (by kernel_rfl)]
    exact hh2
/-- pontage/pontagelaw10.HeardTakes -/
def g3T (x0 : S0) (x1 : S1) : Tr (Bool) :=
  let z13 := g11 x0 x1
  let z14 := g12 x0 x1
  let z15 := g13 
  .leaf ((bif ((z13.f0 == z14.f0) && ((z13.f1 == z14.f1) && ((z13.f2 == z14.f2) && ((z13.f3 == z14.f3) && ((z13.f4 == z14.f4) && ((z13.f5 == z14.f5) && ((z13.f6 == z14.f6) && ((z13.f7 == z14.f7) && ((z13.f8 == z14.f8) && ((z13.f9 == z14.f9) && ((z13.f10 == z14.f10) && ((z13.f11 == z14.f11) && ((z13.f12 == z14.f12) && ((z13.f13 == z14.f13) && ((z13.f14 == z14.f14) && ((z13.f15 == z14.f15) && ((z13.f16 == z14.f16) && ((z13.f17 == z14.f17) && ((z13.f18 == z14.f18) && ((z13.f19 == z14.f19) && ((z13.f20 == z14.f20) && ((z13.f21 == z14.f21) && ((z13.f22 == z14.f22) && ((z13.f23 == z14.f23) && ((z13.f24 == z14.f24) && ((z13.f25 == z14.f25) && ((z13.f26 == z14.f26) && ((z13.f27 == z14.f27) && ((z13.f28 == z14.f28) && ((z13.f29 == z14.f29) && ((z13.f30 == z14.f30) && ((z13.f31 == z14.f31) && ((z13.f32 == z14.f32) && ((z13.f33 == z14.f33) && ((z13.f34 == z14.f34) && ((z13.f35 == z14.f35) && ((z13.f36 == z14.f36) && ((z13.f37 == z14.f37) && ((z13.f38 == z14.f38) && ((z13.f39 == z14.f39) && ((z13.f40 == z14.f40) && ((z13.f41 == z14.f41) && ((z13.f42 == z14.f42) && ((z13.f43 == z14.f43) && ((z13.f44 == z14.f44) && ((z13.f45 == z14.f45) && ((z13.f46 == z14.f46) && ((z13.f47 == z14.f47) && ((z13.f48 == z14.f48) && ((z13.f49 == z14.f49) && ((z13.f50 == z14.f50) && ((z13.f51 == z14.f51) && ((z13.f52 == z14.f52) && ((z13.f53 == z14.f53) && ((z13.f54 == z14.f54) && ((z13.f55 == z14.f55) && ((z13.f56 == z14.f56) && ((z13.f57 == z14.f57) && ((z13.f58 == z14.f58) && ((z13.f59 == z14.f59) && ((z13.f60 == z14.f60) && ((z13.f61 == z14.f61) && ((z13.f62 == z14.f62) && ((z13.f63 == z14.f63) && ((z13.f64 == z14.f64) && ((z13.f65 == z14.f65) && ((z13.f66 == z14.f66) && ((z13.f67 == z14.f67) && ((z13.f68 == z14.f68) && ((z13.f69 == z14.f69) && ((z13.f70 == z14.f70) && ((z13.f71 == z14.f71) && ((z13.f72 == z14.f72) && ((z13.f73 == z14.f73) && ((z13.f74 == z14.f74) && ((z13.f75 == z14.f75) && (z13.f76 == z14.f76))))))))))))))))))))))))))))))))))))))))))))))))))))))))))))))))))))))))))))) then z15 else false))
def g3 (x0 : S0) (x1 : S1) : Bool := (g3T x0 x1).get default
def s3 : Ab.Spec := fun args h =>
  dN h <| dL args fun v0 a0 => dG v0 fun l0 => dE 0 l0 fun x0 => dL a0 fun v1 a1 => dG v1 fun l1 => dE 1 l1 fun x1 => dN a1 <|
  let r := g3 x0 x1; .val (.c (.bool r), [])
noncomputable def L3 : SL := [(11, .byVal, s11), (12, .byVal, s12), (13, .byVal, s13)]
noncomputable def e3 : Env := ⟨ti, fun g => lookS g L3, 100⟩
theorem g3_run (x0 : S0) (x1 : S1) : (runR e3 Go.Proofs.Try.f3 [.agg (Cod.enc 0 x0), .agg (Cod.enc 1 x1)] []).eval = (g3T x0 x1).ev fun r => ((.c (.bool r) : AV), ([] : List Blk)) := by kernel_rfl
theorem s3_ok : SpecOk Go.Proofs.Try.prog 3 s3 :=
  (runR_ok (e := e3) follows (allTI ti_ok _ _) (callsOk_cons s11_ok (callsOk_cons s12_ok (callsOk_cons s13_ok (callsOk_nil)))) Go.Proofs.Try.func3 Go.Proofs.Try.call3).less fun args hs r h => by
    unfold s3 at h
    obtain ⟨rfl, hh1⟩ := dN_inv h
    obtain ⟨v0, a0, rfl, hh2⟩ := dL_inv hh1
    obtain ⟨l0, rfl, hh3⟩ := dG_inv hh2
    obtain ⟨x0, rfl, hh4⟩ := dE_inv hh3
    obtain ⟨v1, a1, rfl, hh5⟩ := dL_inv hh4
    obtain ⟨l1, rfl, hh6⟩ := dG_inv hh5
    obtain ⟨x1, rfl, hh7⟩ := dE_inv hh6
    obtain ⟨rfl, hh8⟩ := dN_inv hh7
    rw [g3_run, Tr.ev_get (d := default) (by kernel_rfl)]
    exact hh8
/-- pontage/pontageref10.Designated -/
def g15T (x0 : S1) : Tr (Bool) :=
  .leaf ((bif (x0.f0 == 1) then true else (bif (x0.f0 == 3) then (x0.f7 == 4) else false)))
def g15 (x0 : S1) : Bool := (g15T x0).get default
def s15 : Ab.Spec := fun args h =>
  dN h <| dL args fun v0 a0 => dG v0 fun l0 => dE 1 l0 fun x0 => dN a0 <|
  let r := g15 x0; .val (.c (.bool r), [])
noncomputable def L15 : SL := []
noncomputable def e15 : Env := ⟨ti, fun g => lookS g L15, 100⟩
theorem g15_run (x0 : S1) : (runR e15 Go.Proofs.Try.f15 [.agg (Cod.enc 1 x0)] []).eval = (g15T x0).ev fun r => ((.c (.bool r) : AV), ([] : List Blk)) := by kernel_rfl
theorem s15_ok : SpecOk Go.Proofs.Try.prog 15 s15 :=
  (runR_ok (e := e15) follows (allTI ti_ok _ _) (callsOk_nil) Go.Proofs.Try.func15 Go.Proofs.Try.call15).less fun args hs r h => by
    unfold s15 at h
    obtain ⟨rfl, hh1⟩ := dN_inv h
    obtain ⟨v0, a0, rfl, hh2⟩ := dL_inv hh1
    obtain ⟨l0, rfl, hh3⟩ := dG_inv hh2
    obtain ⟨x0, rfl, hh4⟩ := dE_inv hh3
    obtain ⟨rfl, hh5⟩ := dN_inv hh4
    rw [g15_run, Tr.ev_get (d := default) (by kernel_rfl)]
    exact hh5
/-- pontage/pontagelaw10.HeardOne -/
def g4T (x0 : S0) : Tr (Bool) :=
  let z16 := g14 x0
  let z17 := g15 (S1.mk x0.f48 x0.f49 x0.f50 x0.f51 x0.f52 x0.f53 x0.f54 x0.f55 x0.f56 x0.f57 x0.f58 x0.f59 x0.f60 x0.f61 x0.f62 x0.f63)
  let z18 := g13 
  .leaf ((bif (bif (bif ((bif (bif (z16 == 1) then true else (z16 == 2)) then true else (z16 == 3)) == z17) then (bif (z16 != 2) then true else (bif ((x0.f56 == x0.f36) && ((x0.f57 == x0.f37) && ((x0.f58 == x0.f38) && (x0.f59 == x0.f39)))) then ((x0.f60 == x0.f44) && ((x0.f61 == x0.f45) && ((x0.f62 == x0.f46) && (x0.f63 == x0.f47)))) else false)) else false) then (bif (z16 != 1) then true else (!(bif ((x0.f56 == x0.f36) && ((x0.f57 == x0.f37) && ((x0.f58 == x0.f38) && (x0.f59 == x0.f39)))) then ((x0.f60 == x0.f44) && ((x0.f61 == x0.f45) && ((x0.f62 == x0.f46) && (x0.f63 == x0.f47)))) else false))) else false) then z18 else false))
def g4 (x0 : S0) : Bool := (g4T x0).get default
def s4 : Ab.Spec := fun args h =>
  dN h <| dL args fun v0 a0 => dG v0 fun l0 => dE 0 l0 fun x0 => dN a0 <|
  let r := g4 x0; .val (.c (.bool r), [])
noncomputable def L4 : SL := [(14, .byVal, s14), (15, .byVal, s15), (13, .byVal, s13)]
noncomputable def e4 : Env := ⟨ti, fun g => lookS g L4, 100⟩
theorem g4_run (x0 : S0) : (runR e4 Go.Proofs.Try.f4 [.agg (Cod.enc 0 x0)] []).eval = (g4T x0).ev fun r => ((.c (.bool r) : AV), ([] : List Blk)) := by kernel_rfl
theorem s4_ok : SpecOk Go.Proofs.Try.prog 4 s4 :=
  (runR_ok (e := e4) follows (allTI ti_ok _ _) (callsOk_cons s14_ok (callsOk_cons s15_ok (callsOk_cons s13_ok (callsOk_nil)))) Go.Proofs.Try.func4 Go.Proofs.Try.call4).less fun args hs r h => by
    unfold s4 at h
    obtain ⟨rfl, hh1⟩ := dN_inv h
    obtain ⟨v0, a0, rfl, hh2⟩ := dL_inv hh1
    obtain ⟨l0, rfl, hh3⟩ := dG_inv hh2
    obtain ⟨x0, rfl, hh4⟩ := dE_inv hh3
    obtain ⟨rfl, hh5⟩ := dN_inv hh4
    rw [g4_run, Tr.ev_get (d := default) (by kernel_rfl)]
    exact hh5
/-- pontage/heard.Priority -/
def g17T (x0 : S0) : Tr (S0) :=
  .leaf ({ x0 with f36 := x0.f56, f37 := x0.f57, f38 := x0.f58, f39 := x0.f59 })
def g17 (x0 : S0) : S0 := (g17T x0).get default
def s17 : Ab.Spec := fun args h =>
  dN h <| dL args fun v0 a0 => dG v0 fun l0 => dE 0 l0 fun x0 => dN a0 <|
  let r := g17 x0; .val (.agg (Cod.enc 0 r), [])
noncomputable def L17 : SL := []
noncomputable def e17 : Env := ⟨ti, fun g => lookS g L17, 100⟩
theorem g17_run (x0 : S0) : (runR e17 Go.Proofs.Try.f17 [.agg (Cod.enc 0 x0)] []).eval = (g17T x0).ev fun r => ((.agg (Cod.enc 0 r) : AV), ([] : List Blk)) := by kernel_rfl
theorem s17_ok : SpecOk Go.Proofs.Try.prog 17 s17 :=
  (runR_ok (e := e17) follows (allTI ti_ok _ _) (callsOk_nil) Go.Proofs.Try.func17 Go.Proofs.Try.call17).less fun args hs r h => by
    unfold s17 at h
    obtain ⟨rfl, hh1⟩ := dN_inv h
    obtain ⟨v0, a0, rfl, hh2⟩ := dL_inv hh1
    obtain ⟨l0, rfl, hh3⟩ := dG_inv hh2
    obtain ⟨x0, rfl, hh4⟩ := dE_inv hh3
    obtain ⟨rfl, hh5⟩ := dN_inv hh4
    rw [g17_run, Tr.ev_get (d := default) (by kernel_rfl)]
    exact hh5
/-- pontage/heard.Times -/
def g16T (x0 : S0) : Tr (S0) :=
  .leaf ({ x0 with f44 := x0.f60, f45 := x0.f61, f46 := (mxI x0.f62 1), f47 := x0.f63 })
def g16 (x0 : S0) : S0 := (g16T x0).get default
def s16 : Ab.Spec := fun args h =>
  dN h <| dL args fun v0 a0 => dG v0 fun l0 => dE 0 l0 fun x0 => dN a0 <|
  let r := g16 x0; .val (.agg (Cod.enc 0 r), [])
noncomputable def L16 : SL := []
noncomputable def e16 : Env := ⟨ti, fun g => lookS g L16, 100⟩
theorem g16_run (x0 : S0) : (runR e16 Go.Proofs.Try.f16 [.agg (Cod.enc 0 x0)] []).eval = (g16T x0).ev fun r => ((.agg (Cod.enc 0 r) : AV), ([] : List Blk)) := by kernel_rfl
theorem s16_ok : SpecOk Go.Proofs.Try.prog 16 s16 :=
  (runR_ok (e := e16) follows (allTI ti_ok _ _) (callsOk_nil) Go.Proofs.Try.func16 Go.Proofs.Try.call16).less fun args hs r h => by
    unfold s16 at h
    obtain ⟨rfl, hh1⟩ := dN_inv h
    obtain ⟨v0, a0, rfl, hh2⟩ := dL_inv hh1
    obtain ⟨l0, rfl, hh3⟩ := dG_inv hh2
    obtain ⟨x0, rfl, hh4⟩ := dE_inv hh3
    obtain ⟨rfl, hh5⟩ := dN_inv hh4
    rw [g16_run, Tr.ev_get (d := default) (by kernel_rfl)]
    exact hh5
/-- pontage/pontagelaw10.HeardAgain -/
def g5T (x0 : S0) (x1 : S1) : Tr (Bool) :=
  .br (x1.f14 == 0) (
   let z19 := g11 { x0 with f2 := true } { x1 with f0 := 3, f7 := 4, f14 := 2 }
   let z20 := g17 z19
   let z21 := g16 z20
   let z22 := g14 z21
   let z23 := g13 
   .leaf ((bif (z22 == 2) then z23 else false))) (
   let z24 := g11 { x0 with f2 := true } { x1 with f0 := 3, f7 := 4 }
   let z25 := g17 z24
   let z26 := g16 z25
   let z27 := g14 z26
   let z28 := g13 
   .leaf ((bif (z27 == 2) then z28 else false)))
def g5 (x0 : S0) (x1 : S1) : Bool := (g5T x0 x1).get default
def s5 : Ab.Spec := fun args h =>
  dN h <| dL args fun v0 a0 => dG v0 fun l0 => dE 0 l0 fun x0 => dL a0 fun v1 a1 => dG v1 fun l1 => dE 1 l1 fun x1 => dN a1 <|
  let r := g5 x0 x1; .val (.c (.bool r), [])
noncomputable def L5 : SL := [(11, .byVal, s11), (17, .byVal, s17), (16, .byVal, s16), (14, .byVal, s14), (13, .byVal, s13)]
noncomputable def e5 : Env := ⟨ti, fun g => lookS g L5, 100⟩
theorem g5_run (x0 : S0) (x1 : S1) : (runR e5 Go.Proofs.Try.f5 [.agg (Cod.enc 0 x0), .agg (Cod.enc 1 x1)] []).eval = (g5T x0 x1).ev fun r => ((.c (.bool r) : AV), ([] : List Blk)) := by kernel_rfl
theorem s5_ok : SpecOk Go.Proofs.Try.prog 5 s5 :=
  (runR_ok (e := e5) follows (allTI ti_ok _ _) (callsOk_cons s11_ok (callsOk_cons s17_ok (callsOk_cons s16_ok (callsOk_cons s14_ok (callsOk_cons s13_ok (callsOk_nil)))))) Go.Proofs.Try.func5 Go.Proofs.Try.call5).less fun args hs r h => by
    unfold s5 at h
    obtain ⟨rfl, hh1⟩ := dN_inv h
    obtain ⟨v0, a0, rfl, hh2⟩ := dL_inv hh1
    obtain ⟨l0, rfl, hh3⟩ := dG_inv hh2
    obtain ⟨x0, rfl, hh4⟩ := dE_inv hh3
    obtain ⟨v1, a1, rfl, hh5⟩ := dL_inv hh4
    obtain ⟨l1, rfl, hh6⟩ := dG_inv hh5
    obtain ⟨x1, rfl, hh7⟩ := dE_inv hh6
    obtain ⟨rfl, hh8⟩ := dN_inv hh7
    rw [g5_run, Tr.ev_get (d := default) (by kernel_rfl)]
    exact hh8
/-- pontage/pontageref06.Better -/
def g37T (x0 : S2) (x1 : S2) : Tr (Bool) :=
  .br (x0.f0 != x1.f0) (
   .leaf ((decide (x0.f0 < x1.f0)))) (
   .br (x0.f1 != x1.f1) (
    .leaf ((decide (x0.f1 < x1.f1)))) (
    .br (x0.f2 != x1.f2) (
     .leaf ((decide (x0.f2 < x1.f2)))) (
     .leaf ((decide (x0.f3 < x1.f3))))))
def g37 (x0 : S2) (x1 : S2) : Bool := (g37T x0 x1).get default
def s37 : Ab.Spec := fun args h =>
  dN h <| dL args fun v0 a0 => dG v0 fun l0 => dE 2 l0 fun x0 => dL a0 fun v1 a1 => dG v1 fun l1 => dE 2 l1 fun x1 => dN a1 <|
  let r := g37 x0 x1; .val (.c (.bool r), [])
noncomputable def L37 : SL := []
noncomputable def e37 : Env := ⟨ti, fun g => lookS g L37, 100⟩
theorem g37_run (x0 : S2) (x1 : S2) : (runR e37 Go.Proofs.Try.f37 [.agg (Cod.enc 2 x0), .agg (Cod.enc 2 x1)] []).eval = (g37T x0 x1).ev fun r => ((.c (.bool r) : AV), ([] : List Blk)) := by kernel_rfl
theorem s37_ok : SpecOk Go.Proofs.Try.prog 37 s37 :=
  (runR_ok (e := e37) follows (allTI ti_ok _ _) (callsOk_nil) Go.Proofs.Try.func37 Go.Proofs.Try.call37).less fun args hs r h => by
    unfold s37 at h
    obtain ⟨rfl, hh1⟩ := dN_inv h
    obtain ⟨v0, a0, rfl, hh2⟩ := dL_inv hh1
    obtain ⟨l0, rfl, hh3⟩ := dG_inv hh2
    obtain ⟨x0, rfl, hh4⟩ := dE_inv hh3
    obtain ⟨v1, a1, rfl, hh5⟩ := dL_inv hh4
    obtain ⟨l1, rfl, hh6⟩ := dG_inv hh5
    obtain ⟨x1, rfl, hh7⟩ := dE_inv hh6
    obtain ⟨rfl, hh8⟩ := dN_inv hh7
    rw [g37_run, Tr.ev_get (d := default) (by kernel_rfl)]
    exact hh8
/-- pontage/pontageref06.SameAddress -/
def g47T (x0 : Int) (x1 : Int) : Tr (Bool) :=
  .leaf (((remI x0 281474976710656) == (remI x1 281474976710656)))
def g47 (x0 : Int) (x1 : Int) : Bool := (g47T x0 x1).get default
def s47 : Ab.Spec := fun args h =>
  dN h <| dL args fun v0 a0 => dC v0 fun c0 => dI .u64 c0 fun x0 => dL a0 fun v1 a1 => dC v1 fun c1 => dI .u64 c1 fun x1 => dN a1 <|
  let r := g47 x0 x1; .val (.c (.bool r), [])
noncomputable def L47 : SL := []
noncomputable def e47 : Env := ⟨ti, fun g => lookS g L47, 100⟩
theorem g47_run (x0 : Int) (x1 : Int) : (runR e47 Go.Proofs.Try.f47 [.c (.int .u64 x0), .c (.int .u64 x1)] []).eval = (g47T x0 x1).ev fun r => ((.c (.bool r) : AV), ([] : List Blk)) := by kernel_rfl
theorem s47_ok : SpecOk Go.Proofs.Try.prog 47 s47 :=
  (runR_ok (e := e47) follows (allTI ti_ok _ _) (callsOk_nil) Go.Proofs.Try.func47 Go.Proofs.Try.call47).less fun args hs r h => by
    unfold s47 at h
    obtain ⟨rfl, hh1⟩ := dN_inv h
    obtain ⟨v0, a0, rfl, hh2⟩ := dL_inv hh1
    obtain ⟨c0, rfl, hh3⟩ := dC_inv hh2
    obtain ⟨x0, rfl, hh4⟩ := dI_inv hh3
    obtain ⟨v1, a1, rfl, hh5⟩ := dL_inv hh4
    obtain ⟨c1, rfl, hh6⟩ := dC_inv hh5
    obtain ⟨x1, rfl, hh7⟩ := dI_inv hh6
    obtain ⟨rfl, hh8⟩ := dN_inv hh7
    rw [g47_run, Tr.ev_get (d := default) (by kernel_rfl)]
    exact hh8
/-- pontage/pontageref06.Number -/
def g48T (x0 : Int) : Tr (Int) :=
  .leaf ((remI x0 4096))
def g48 (x0 : Int) : Int := (g48T x0).get default
def s48 : Ab.Spec := fun args h =>
  dN h <| dL args fun v0 a0 => dC v0 fun c0 => dI .u16 c0 fun x0 => dN a0 <|
  let r := g48 x0; .val (.c (.int .u16 r), [])
noncomputable def L48 : SL := []
noncomputable def e48 : Env := ⟨ti, fun g => lookS g L48, 100⟩
theorem g48_run (x0 : Int) : (runR e48 Go.Proofs.Try.f48 [.c (.int .u16 x0)] []).eval = (g48T x0).ev fun r => ((.c (.int .u16 r) : AV), ([] : List Blk)) := by kernel_rfl
theorem s48_ok : SpecOk Go.Proofs.Try.prog 48 s48 :=
  (runR_ok (e := e48) follows (allTI ti_ok _ _) (callsOk_nil) Go.Proofs.Try.func48 Go.Proofs.Try.call48).less fun args hs r h => by
    unfold s48 at h
    obtain ⟨rfl, hh1⟩ := dN_inv h
    obtain ⟨v0, a0, rfl, hh2⟩ := dL_inv hh1
    obtain ⟨c0, rfl, hh3⟩ := dC_inv hh2
    obtain ⟨x0, rfl, hh4⟩ := dI_inv hh3
    obtain ⟨rfl, hh5⟩ := dN_inv hh4
    rw [g48_run, Tr.ev_get (d := default) (by kernel_rfl)]
    exact hh5
/-- pontage/pontageref06.Superior -/
def g36T (x0 : S2) (x1 : S2) : Tr (Bool) :=
  let z29 := g37 x0 x1
  let z30 := g47 x0.f2 x1.f2
  let z31 := g48 x0.f3
  let z32 := g48 x1.f3
  .leaf ((bif z29 then true else (bif z30 then (z31 == z32) else false)))
def g36 (x0 : S2) (x1 : S2) : Bool := (g36T x0 x1).get default
def s36 : Ab.Spec := fun args h =>
  dN h <| dL args fun v0 a0 => dG v0 fun l0 => dE 2 l0 fun x0 => dL a0 fun v1 a1 => dG v1 fun l1 => dE 2 l1 fun x1 => dN a1 <|
  let r := g36 x0 x1; .val (.c (.bool r), [])
noncomputable def L36 : SL := [(37, .byVal, s37), (47, .byVal, s47), (48, .byVal, s48)]
noncomputable def e36 : Env := ⟨ti, fun g => lookS g L36, 100⟩
theorem g36_run (x0 : S2) (x1 : S2) : (runR e36 Go.Proofs.Try.f36 [.agg (Cod.enc 2 x0), .agg (Cod.enc 2 x1)] []).eval = (g36T x0 x1).ev fun r => ((.c (.bool r) : AV), ([] : List Blk)) := by kernel_rfl
theorem s36_ok : SpecOk Go.Proofs.Try.prog 36 s36 :=
  (runR_ok (e := e36) follows (allTI ti_ok _ _) (callsOk_cons s37_ok (callsOk_cons s47_ok (callsOk_cons s48_ok (callsOk_nil)))) Go.Proofs.Try.func36 Go.Proofs.Try.call36).less fun args hs r h => by
    unfold s36 at h
    obtain ⟨rfl, hh1⟩ := dN_inv h
    obtain ⟨v0, a0, rfl, hh2⟩ := dL_inv hh1
    obtain ⟨l0, rfl, hh3⟩ := dG_inv hh2
    obtain ⟨x0, rfl, hh4⟩ := dE_inv hh3
    obtain ⟨v1, a1, rfl, hh5⟩ := dL_inv hh4
    obtain ⟨l1, rfl, hh6⟩ := dG_inv hh5
    obtain ⟨x1, rfl, hh7⟩ := dE_inv hh6
    obtain ⟨rfl, hh8⟩ := dN_inv hh7
    rw [g36_run, Tr.ev_get (d := default) (by kernel_rfl)]
    exact hh8
/-- pontage/pontageref10.Info -/
def g18T (x0 : S0) : Tr (Int) :=
  let z33 := g15 (S1.mk x0.f48 x0.f49 x0.f50 x0.f51 x0.f52 x0.f53 x0.f54 x0.f55 x0.f56 x0.f57 x0.f58 x0.f59 x0.f60 x0.f61 x0.f62 x0.f63)
  .br z33 (
   .br (bif ((x0.f56 == x0.f36) && ((x0.f57 == x0.f37) && ((x0.f58 == x0.f38) && (x0.f59 == x0.f39)))) then ((x0.f60 == x0.f44) && ((x0.f61 == x0.f45) && ((x0.f62 == x0.f46) && (x0.f63 == x0.f47)))) else false) (
    .leaf (2)) (
    let z34 := g36 (S2.mk x0.f56 x0.f57 x0.f58 x0.f59) (S2.mk x0.f36 x0.f37 x0.f38 x0.f39)
    .br z34 (
     .leaf (1)) (
     .leaf (3)))) (
   let z35 := g37 (S2.mk x0.f56 x0.f57 x0.f58 x0.f59) (S2.mk x0.f36 x0.f37 x0.f38 x0.f39)
   .br (bif (bif (x0.f48 == 3) then (bif (bif (x0.f55 == 3) then true else (x0.f55 == 1)) then true else (x0.f55 == 2)) else false) then (!z35) else false) (
    .leaf (4)) (
    .leaf (0)))
def g18 (x0 : S0) : Int := (g18T x0).get default
def s18 : Ab.Spec := fun args h =>
  dN h <| dL args fun v0 a0 => dG v0 fun l0 => dE 0 l0 fun x0 => dN a0 <|
  let r := g18 x0; .val (.c (.int .i64 r), [])
noncomputable def L18 : SL := [(15, .byVal, s15), (36, .byVal, s36), (37, .byVal, s37)]
noncomputable def e18 : Env := ⟨ti, fun g => lookS g L18, 100⟩
theorem g18_run (x0 : S0) : (runR e18 Go.Proofs.Try.f18 [.agg (Cod.enc 0 x0)] []).eval = (g18T x0).ev fun r => ((.c (.int .i64 r) : AV), ([] : List Blk)) := by kernel_rfl
theorem s18_ok : SpecOk Go.Proofs.Try.prog 18 s18 :=
  (runR_ok (e := e18) follows (allTI ti_ok _ _) (callsOk_cons s15_ok (callsOk_cons s36_ok (callsOk_cons s37_ok (callsOk_nil)))) Go.Proofs.Try.func18 Go.Proofs.Try.call18).less fun args hs r h => by
    unfold s18 at h
    obtain ⟨rfl, hh1⟩ := dN_inv h
    obtain ⟨v0, a0, rfl, hh2⟩ := dL_inv hh1
    obtain ⟨l0, rfl, hh3⟩ := dG_inv hh2
    obtain ⟨x0, rfl, hh4⟩ := dE_inv hh3
    obtain ⟨rfl, hh5⟩ := dN_inv hh4
    rw [g18_run, Tr.ev_get (d := default) (by kernel_rfl)]
    exact hh5
/-- pontage/heard.BetterOrSame -/
def g19T (x0 : S0) (x1 : Int) : Tr (Bool) :=
  .br (x0.f29 != x1) (
   .leaf (false)) (
   .br (x1 == 3) (
    let z36 := g38 (S2.mk x0.f36 x0.f37 x0.f38 x0.f39) (S2.mk x0.f56 x0.f57 x0.f58 x0.f59)
    .leaf ((!z36))) (
    .br (x1 == 2) (
     let z37 := g38 (S2.mk x0.f36 x0.f37 x0.f38 x0.f39) (S2.mk x0.f32 x0.f33 x0.f34 x0.f35)
     .leaf ((!z37))) (
     .leaf (false))))
def g19 (x0 : S0) (x1 : Int) : Bool := (g19T x0 x1).get default
def s19 : Ab.Spec := fun args h =>
  dN h <| dL args fun v0 a0 => dG v0 fun l0 => dE 0 l0 fun x0 => dL a0 fun v1 a1 => dC v1 fun c0 => dI .i64 c0 fun x1 => dN a1 <|
  let r := g19 x0 x1; .val (.c (.bool r), [])
noncomputable def L19 : SL := [(38, .byVal, s38)]
noncomputable def e19 : Env := ⟨ti, fun g => lookS g L19, 100⟩
theorem g19_run (x0 : S0) (x1 : Int) : (runR e19 Go.Proofs.Try.f19 [.agg (Cod.enc 0 x0), .c (.int .i64 x1)] []).eval = (g19T x0 x1).ev fun r => ((.c (.bool r) : AV), ([] : List Blk)) := by kernel_rfl
theorem s19_ok : SpecOk Go.Proofs.Try.prog 19 s19 :=
  (runR_ok (e := e19) follows (allTI ti_ok _ _) (callsOk_cons s38_ok (callsOk_nil)) Go.Proofs.Try.func19 Go.Proofs.Try.call19).less fun args hs r h => by
    unfold s19 at h
    obtain ⟨rfl, hh1⟩ := dN_inv h
    obtain ⟨v0, a0, rfl, hh2⟩ := dL_inv hh1
    obtain ⟨l0, rfl, hh3⟩ := dG_inv hh2
    obtain ⟨x0, rfl, hh4⟩ := dE_inv hh3
    obtain ⟨v1, a1, rfl, hh5⟩ := dL_inv hh4
    obtain ⟨c0, rfl, hh6⟩ := dC_inv hh5
    obtain ⟨x1, rfl, hh7⟩ := dI_inv hh6
    obtain ⟨rfl, hh8⟩ := dN_inv hh7
    rw [g19_run, Tr.ev_get (d := default) (by kernel_rfl)]
    exact hh8
/-- pontage/pontageref10.BetterOrSame -/
def g20T (x0 : S0) (x1 : Int) : Tr (Bool) :=
  .br (x1 == 3) (
   let z38 := g37 (S2.mk x0.f36 x0.f37 x0.f38 x0.f39) (S2.mk x0.f56 x0.f57 x0.f58 x0.f59)
   .leaf ((bif (x0.f29 == 3) then (!z38) else false))) (
   .br (x1 == 2) (
    let z39 := g37 (S2.mk x0.f36 x0.f37 x0.f38 x0.f39) (S2.mk x0.f32 x0.f33 x0.f34 x0.f35)
    .leaf ((bif (x0.f29 == 2) then (!z39) else false))) (
    .leaf (false)))
def g20 (x0 : S0) (x1 : Int) : Bool := (g20T x0 x1).get default
def s20 : Ab.Spec := fun args h =>
  dN h <| dL args fun v0 a0 => dG v0 fun l0 => dE 0 l0 fun x0 => dL a0 fun v1 a1 => dC v1 fun c0 => dI .i64 c0 fun x1 => dN a1 <|
  let r := g20 x0 x1; .val (.c (.bool r), [])
noncomputable def L20 : SL := [(37, .byVal, s37)]
noncomputable def e20 : Env := ⟨ti, fun g => lookS g L20, 100⟩
theorem g20_run (x0 : S0) (x1 : Int) : (runR e20 Go.Proofs.Try.f20 [.agg (Cod.enc 0 x0), .c (.int .i64 x1)] []).eval = (g20T x0 x1).ev fun r => ((.c (.bool r) : AV), ([] : List Blk)) := by kernel_rfl
theorem s20_ok : SpecOk Go.Proofs.Try.prog 20 s20 :=
  (runR_ok (e := e20) follows (allTI ti_ok _ _) (callsOk_cons s37_ok (callsOk_nil)) Go.Proofs.Try.func20 Go.Proofs.Try.call20).less fun args hs r h => by
    unfold s20 at h
    obtain ⟨rfl, hh1⟩ := dN_inv h
    obtain ⟨v0, a0, rfl, hh2⟩ := dL_inv hh1
    obtain ⟨l0, rfl, hh3⟩ := dG_inv hh2
    obtain ⟨x0, rfl, hh4⟩ := dE_inv hh3
    obtain ⟨v1, a1, rfl, hh5⟩ := dL_inv hh4
    obtain ⟨c0, rfl, hh6⟩ := dC_inv hh5
    obtain ⟨x1, rfl, hh7⟩ := dI_inv hh6
    obtain ⟨rfl, hh8⟩ := dN_inv hh7
    rw [g20_run, Tr.ev_get (d := default) (by kernel_rfl)]
    exact hh8
/-- pontage/pontagelaw10.HeardInfos -/
def g6T (x0 : S0) (x1 : Int) : Tr (Bool) :=
  let z40 := g14 x0
  let z41 := g18 x0
  let z42 := g19 x0 x1
  let z43 := g20 x0 x1
  let z44 := g13 
  .leaf ((bif (bif (z40 == z41) then (z42 == z43) else false) then z44 else false))
def g6 (x0 : S0) (x1 : Int) : Bool := (g6T x0 x1).get default
def s6 : Ab.Spec := fun args h =>
  dN h <| dL args fun v0 a0 => dG v0 fun l0 => dE 0 l0 fun x0 => dL a0 fun v1 a1 => dC v1 fun c0 => dI .i64 c0 fun x1 => dN a1 <|
  let r := g6 x0 x1; .val (.c (.bool r), [])
noncomputable def L6 : SL := [(14, .byVal, s14), (18, .byVal, s18), (19, .byVal, s19), (20, .byVal, s20), (13, .byVal, s13)]
noncomputable def e6 : Env := ⟨ti, fun g => lookS g L6, 100⟩
theorem g6_run (x0 : S0) (x1 : Int) : (runR e6 Go.Proofs.Try.f6 [.agg (Cod.enc 0 x0), .c (.int .i64 x1)] []).eval = (g6T x0 x1).ev fun r => ((.c (.bool r) : AV), ([] : List Blk)) := by kernel_rfl
theorem s6_ok : SpecOk Go.Proofs.Try.prog 6 s6 :=
  (runR_ok (e := e6) follows (allTI ti_ok _ _) (callsOk_cons s14_ok (callsOk_cons s18_ok (callsOk_cons s19_ok (callsOk_cons s20_ok (callsOk_cons s13_ok (callsOk_nil)))))) Go.Proofs.Try.func6 Go.Proofs.Try.call6).less fun args hs r h => by
    unfold s6 at h
    obtain ⟨rfl, hh1⟩ := dN_inv h
    obtain ⟨v0, a0, rfl, hh2⟩ := dL_inv hh1
    obtain ⟨l0, rfl, hh3⟩ := dG_inv hh2
    obtain ⟨x0, rfl, hh4⟩ := dE_inv hh3
    obtain ⟨v1, a1, rfl, hh5⟩ := dL_inv hh4
    obtain ⟨c0, rfl, hh6⟩ := dC_inv hh5
    obtain ⟨x1, rfl, hh7⟩ := dI_inv hh6
    obtain ⟨rfl, hh8⟩ := dN_inv hh7
    rw [g6_run, Tr.ev_get (d := default) (by kernel_rfl)]
    exact hh8
/-- pontage/heard.While -/
def g21T (x0 : S0) : Tr (S0) :=
  .br (decide (x0.f44 < x0.f45)) (
   .leaf ({ x0 with f69 := (IntKind.u8.wrap (mnI 255 (IntKind.i64.wrap (3 * (IntKind.i64.wrap x0.f46))))) })) (
   .leaf ({ x0 with f69 := 0 }))
def g21 (x0 : S0) : S0 := (g21T x0).get default
def s21 : Ab.Spec := fun args h =>
  dN h <| dL args fun v0 a0 => dG v0 fun l0 => dE 0 l0 fun x0 => dN a0 <|
  let r := g21 x0; .val (.agg (Cod.enc 0 r), [])
noncomputable def L21 : SL := []
noncomputable def e21 : Env := ⟨ti, fun g => lookS g L21, 100⟩
theorem g21_run (x0 : S0) : (runR e21 Go.Proofs.Try.f21 [.agg (Cod.enc 0 x0)] []).eval = (g21T x0).ev fun r => ((.agg (Cod.enc 0 r) : AV), ([] : List Blk)) := by kernel_rfl
theorem s21_ok : SpecOk Go.Proofs.Try.prog 21 s21 :=
  (runR_ok (e := e21) follows (allTI ti_ok _ _) (callsOk_nil) Go.Proofs.Try.func21 Go.Proofs.Try.call21).less fun args hs r h => by
    unfold s21 at h
    obtain ⟨rfl, hh1⟩ := dN_inv h
    obtain ⟨v0, a0, rfl, hh2⟩ := dL_inv hh1
    obtain ⟨l0, rfl, hh3⟩ := dG_inv hh2
    obtain ⟨x0, rfl, hh4⟩ := dE_inv hh3
    obtain ⟨rfl, hh5⟩ := dN_inv hh4
    rw [g21_run, Tr.ev_get (d := default) (by kernel_rfl)]
    exact hh5
/-- pontage/pontagelaw10.HeardAges -/
def g7T (x0 : S0) : Tr (Bool) :=
  let z45 := g16 x0
  let z46 := g21 z45
  let z47 := g13 
  .leaf ((bif ((z46.f69 != 0) == (decide ((IntKind.i64.wrap x0.f60) < (IntKind.i64.wrap x0.f61)))) then z47 else false))
def g7 (x0 : S0) : Bool := (g7T x0).get default
def s7 : Ab.Spec := fun args h =>
  dN h <| dL args fun v0 a0 => dG v0 fun l0 => dE 0 l0 fun x0 => dN a0 <|
  let r := g7 x0; .val (.c (.bool r), [])
noncomputable def L7 : SL := [(16, .byVal, s16), (21, .byVal, s21), (13, .byVal, s13)]
noncomputable def e7 : Env := ⟨ti, fun g => lookS g L7, 100⟩
theorem g7_run (x0 : S0) : (runR e7 Go.Proofs.Try.f7 [.agg (Cod.enc 0 x0)] []).eval = (g7T x0).ev fun r => ((.c (.bool r) : AV), ([] : List Blk)) := by kernel_rfl
theorem s7_ok : SpecOk Go.Proofs.Try.prog 7 s7 :=
  (runR_ok (e := e7) follows (allTI ti_ok _ _) (callsOk_cons s16_ok (callsOk_cons s21_ok (callsOk_cons s13_ok (callsOk_nil)))) Go.Proofs.Try.func7 Go.Proofs.Try.call7).less fun args hs r h => by
    unfold s7 at h
    obtain ⟨rfl, hh1⟩ := dN_inv h
    obtain ⟨v0, a0, rfl, hh2⟩ := dL_inv hh1
    obtain ⟨l0, rfl, hh3⟩ := dG_inv hh2
    obtain ⟨x0, rfl, hh4⟩ := dE_inv hh3
    obtain ⟨rfl, hh5⟩ := dN_inv hh4
    rw [g7_run, Tr.ev_get (d := default) (by kernel_rfl)]
    exact hh5
/-- pontage/heard.Proposal$1 -/
noncomputable def L40 : SL := []
noncomputable def e40 : Env := ⟨ti, fun g => lookS g L40, 100⟩
noncomputable def s40 : Ab.Spec := runR e40 Go.Proofs.Try.f40
theorem s40_ok : SpecOk Go.Proofs.Try.prog 40 s40 := runR_ok (e := e40) follows (allTI ti_ok _ _) (callsOk_nil) Go.Proofs.Try.func40 Go.Proofs.Try.call40
/-- pontage/heard.Agreement$1 -/
noncomputable def L41 : SL := []
noncomputable def e41 : Env := ⟨ti, fun g => lookS g L41, 100⟩
noncomputable def s41 : Ab.Spec := runR e41 Go.Proofs.Try.f41
theorem s41_ok : SpecOk Go.Proofs.Try.prog 41 s41 := runR_ok (e := e41) follows (allTI ti_ok _ _) (callsOk_nil) Go.Proofs.Try.func41 Go.Proofs.Try.call41
/-- pontage/heard.Dispute$1 -/
noncomputable def L42 : SL := []
noncomputable def e42 : Env := ⟨ti, fun g => lookS g L42, 100⟩
noncomputable def s42 : Ab.Spec := runR e42 Go.Proofs.Try.f42
theorem s42_ok : SpecOk Go.Proofs.Try.prog 42 s42 := runR_ok (e := e42) follows (allTI ti_ok _ _) (callsOk_nil) Go.Proofs.Try.func42 Go.Proofs.Try.call42
/-- pontage/heard.Flags$1 -/
noncomputable def L43 : SL := []
noncomputable def e43 : Env := ⟨ti, fun g => lookS g L43, 100⟩
noncomputable def s43 : Ab.Spec := runR e43 Go.Proofs.Try.f43
theorem s43_ok : SpecOk Go.Proofs.Try.prog 43 s43 := runR_ok (e := e43) follows (allTI ti_ok _ _) (callsOk_nil) Go.Proofs.Try.func43 Go.Proofs.Try.call43
/-- pontage/heard.Flags$2 -/
noncomputable def L44 : SL := []
noncomputable def e44 : Env := ⟨ti, fun g => lookS g L44, 100⟩
noncomputable def s44 : Ab.Spec := runR e44 Go.Proofs.Try.f44
theorem s44_ok : SpecOk Go.Proofs.Try.prog 44 s44 := runR_ok (e := e44) follows (allTI ti_ok _ _) (callsOk_nil) Go.Proofs.Try.func44 Go.Proofs.Try.call44
/-- pontage/heard.Flags$3 -/
noncomputable def L45 : SL := []
noncomputable def e45 : Env := ⟨ti, fun g => lookS g L45, 100⟩
noncomputable def s45 : Ab.Spec := runR e45 Go.Proofs.Try.f45
theorem s45_ok : SpecOk Go.Proofs.Try.prog 45 s45 := runR_ok (e := e45) follows (allTI ti_ok _ _) (callsOk_nil) Go.Proofs.Try.func45 Go.Proofs.Try.call45
/-- pontage/heard.by -/
noncomputable def L39 : SL := [(40, .byHeap, s40), (41, .byHeap, s41), (42, .byHeap, s42), (43, .byHeap, s43), (44, .byHeap, s44), (45, .byHeap, s45)]
noncomputable def e39 : Env := ⟨ti, fun g => lookS g L39, 100⟩
noncomputable def s39 : Ab.Spec := runR e39 Go.Proofs.Try.f39
theorem s39_ok : SpecOk Go.Proofs.Try.prog 39 s39 := runR_ok (e := e39) follows (allTI ti_ok _ _) (callsOk_cons s40_ok (callsOk_cons s41_ok (callsOk_cons s42_ok (callsOk_cons s43_ok (callsOk_cons s44_ok (callsOk_cons s45_ok (callsOk_nil))))))) Go.Proofs.Try.func39 Go.Proofs.Try.call39
/-- pontage/heard.Proposal -/
def g22T (x0 : S0) : Tr (S0) :=
  .br (bif (bif (x0.f48 == 3) then (x0.f55 == 4) else false) then x0.f51 else false) (
   .leaf ({ x0 with f12 := true })) (
   .leaf (x0))
def g22 (x0 : S0) : S0 := (g22T x0).get default
def s22 : Ab.Spec := fun args h =>
  dN h <| dL args fun v0 a0 => dG v0 fun l0 => dE 0 l0 fun x0 => dN a0 <|
  let r := g22 x0; .val (.agg (Cod.enc 0 r), [])
noncomputable def L22 : SL := [(39, .byHeap, s39)]
noncomputable def e22 : Env := ⟨ti, fun g => lookS g L22, 100⟩
theorem g22_run (x0 : S0) : (runR e22 Go.Proofs.Try.f22 [.agg (Cod.enc 0 x0)] []).eval = (g22T x0).ev fun r => ((.agg (Cod.enc 0 r) : AV), ([] : List Blk)) := by kernel_rfl
theorem s22_ok : SpecOk Go.Proofs.Try.prog 22 s22 :=
  (runR_ok (e := e22) follows (allTI ti_ok _ _) (callsOk_cons s39_ok (callsOk_nil)) Go.Proofs.Try.func22 Go.Proofs.Try.call22).less fun args hs r h => by
    unfold s22 at h
    obtain ⟨rfl, hh1⟩ := dN_inv h
    obtain ⟨v0, a0, rfl, hh2⟩ := dL_inv hh1
    obtain ⟨l0, rfl, hh3⟩ := dG_inv hh2
    obtain ⟨x0, rfl, hh4⟩ := dE_inv hh3
    obtain ⟨rfl, hh5⟩ := dN_inv hh4
    rw [g22_run, Tr.ev_get (d := default) (by kernel_rfl)]
    exact hh5
/-- pontage/pontageref10.Proposal -/
def g23T (x0 : S0) : Tr (S0) :=
  .br (bif (bif (x0.f48 == 3) then (x0.f55 == 4) else false) then x0.f51 else false) (
   .leaf ({ x0 with f12 := true })) (
   .leaf (x0))
def g23 (x0 : S0) : S0 := (g23T x0).get default
def s23 : Ab.Spec := fun args h =>
  dN h <| dL args fun v0 a0 => dG v0 fun l0 => dE 0 l0 fun x0 => dN a0 <|
  let r := g23 x0; .val (.agg (Cod.enc 0 r), [])
noncomputable def L23 : SL := []
noncomputable def e23 : Env := ⟨ti, fun g => lookS g L23, 100⟩
theorem g23_run (x0 : S0) : (runR e23 Go.Proofs.Try.f23 [.agg (Cod.enc 0 x0)] []).eval = (g23T x0).ev fun r => ((.agg (Cod.enc 0 r) : AV), ([] : List Blk)) := by kernel_rfl
theorem s23_ok : SpecOk Go.Proofs.Try.prog 23 s23 :=
  (runR_ok (e := e23) follows (allTI ti_ok _ _) (callsOk_nil) Go.Proofs.Try.func23 Go.Proofs.Try.call23).less fun args hs r h => by
    unfold s23 at h
    obtain ⟨rfl, hh1⟩ := dN_inv h
    obtain ⟨v0, a0, rfl, hh2⟩ := dL_inv hh1
    obtain ⟨l0, rfl, hh3⟩ := dG_inv hh2
    obtain ⟨x0, rfl, hh4⟩ := dE_inv hh3
    obtain ⟨rfl, hh5⟩ := dN_inv hh4
    rw [g23_run, Tr.ev_get (d := default) (by kernel_rfl)]
    exact hh5
/-- pontage/heard.Agreement -/
def g24T (x0 : S0) : Tr (S0) :=
  .br (bif (x0.f48 == 3) then x0.f54 else false) (
   .leaf ({ x0 with f4 := (bif (x0.f48 == 3) then x0.f54 else false), f13 := false })) (
   .leaf ({ x0 with f4 := (bif (x0.f48 == 3) then x0.f54 else false) }))
def g24 (x0 : S0) : S0 := (g24T x0).get default
def s24 : Ab.Spec := fun args h =>
  dN h <| dL args fun v0 a0 => dG v0 fun l0 => dE 0 l0 fun x0 => dN a0 <|
  let r := g24 x0; .val (.agg (Cod.enc 0 r), [])
noncomputable def L24 : SL := [(39, .byHeap, s39)]
noncomputable def e24 : Env := ⟨ti, fun g => lookS g L24, 100⟩
theorem g24_run (x0 : S0) : (runR e24 Go.Proofs.Try.f24 [.agg (Cod.enc 0 x0)] []).eval = (g24T x0).ev fun r => ((.agg (Cod.enc 0 r) : AV), ([] : List Blk)) := by kernel_rfl
theorem s24_ok : SpecOk Go.Proofs.Try.prog 24 s24 :=
  (runR_ok (e := e24) follows (allTI ti_ok _ _) (callsOk_cons s39_ok (callsOk_nil)) Go.Proofs.Try.func24 Go.Proofs.Try.call24).less fun args hs r h => by
    unfold s24 at h
    obtain ⟨rfl, hh1⟩ := dN_inv h
    obtain ⟨v0, a0, rfl, hh2⟩ := dL_inv hh1
    obtain ⟨l0, rfl, hh3⟩ := dG_inv hh2
    obtain ⟨x0, rfl, hh4⟩ := dE_inv hh3
    obtain ⟨rfl, hh5⟩ := dN_inv hh4
    rw [g24_run, Tr.ev_get (d := default) (by kernel_rfl)]
    exact hh5
/-- pontage/pontageref10.Agreement -/
def g25T (x0 : S0) : Tr (S0) :=
  .br (bif (x0.f48 == 3) then x0.f54 else false) (
   .leaf ({ x0 with f4 := (bif (x0.f48 == 3) then x0.f54 else false), f13 := false })) (
   .leaf ({ x0 with f4 := (bif (x0.f48 == 3) then x0.f54 else false) }))
def g25 (x0 : S0) : S0 := (g25T x0).get default
def s25 : Ab.Spec := fun args h =>
  dN h <| dL args fun v0 a0 => dG v0 fun l0 => dE 0 l0 fun x0 => dN a0 <|
  let r := g25 x0; .val (.agg (Cod.enc 0 r), [])
noncomputable def L25 : SL := []
noncomputable def e25 : Env := ⟨ti, fun g => lookS g L25, 100⟩
theorem g25_run (x0 : S0) : (runR e25 Go.Proofs.Try.f25 [.agg (Cod.enc 0 x0)] []).eval = (g25T x0).ev fun r => ((.agg (Cod.enc 0 r) : AV), ([] : List Blk)) := by kernel_rfl
theorem s25_ok : SpecOk Go.Proofs.Try.prog 25 s25 :=
  (runR_ok (e := e25) follows (allTI ti_ok _ _) (callsOk_nil) Go.Proofs.Try.func25 Go.Proofs.Try.call25).less fun args hs r h => by
    unfold s25 at h
    obtain ⟨rfl, hh1⟩ := dN_inv h
    obtain ⟨v0, a0, rfl, hh2⟩ := dL_inv hh1
    obtain ⟨l0, rfl, hh3⟩ := dG_inv hh2
    obtain ⟨x0, rfl, hh4⟩ := dE_inv hh3
    obtain ⟨rfl, hh5⟩ := dN_inv hh4
    rw [g25_run, Tr.ev_get (d := default) (by kernel_rfl)]
    exact hh5
/-- pontage/heard.Dispute -/
def g26T (x0 : S0) : Tr (S0) :=
  .br (bif (x0.f48 == 3) then x0.f52 else false) (
   .leaf ({ x0 with f4 := false, f5 := true })) (
   .leaf (x0))
def g26 (x0 : S0) : S0 := (g26T x0).get default
def s26 : Ab.Spec := fun args h =>
  dN h <| dL args fun v0 a0 => dG v0 fun l0 => dE 0 l0 fun x0 => dN a0 <|
  let r := g26 x0; .val (.agg (Cod.enc 0 r), [])
noncomputable def L26 : SL := [(39, .byHeap, s39)]
noncomputable def e26 : Env := ⟨ti, fun g => lookS g L26, 100⟩
theorem g26_run (x0 : S0) : (runR e26 Go.Proofs.Try.f26 [.agg (Cod.enc 0 x0)] []).eval = (g26T x0).ev fun r => ((.agg (Cod.enc 0 r) : AV), ([] : List Blk)) := by kernel_rfl
theorem s26_ok : SpecOk Go.Proofs.Try.prog 26 s26 :=
  (runR_ok (e := e26) follows (allTI ti_ok _ _) (callsOk_cons s39_ok (callsOk_nil)) Go.Proofs.Try.func26 Go.Proofs.Try.call26).less fun args hs r h => by
    unfold s26 at h
    obtain ⟨rfl, hh1⟩ := dN_inv h
    obtain ⟨v0, a0, rfl, hh2⟩ := dL_inv hh1
    obtain ⟨l0, rfl, hh3⟩ := dG_inv hh2
    obtain ⟨x0, rfl, hh4⟩ := dE_inv hh3
    obtain ⟨rfl, hh5⟩ := dN_inv hh4
    rw [g26_run, Tr.ev_get (d := default) (by kernel_rfl)]
    exact hh5
/-- pontage/pontageref10.Dispute -/
def g27T (x0 : S0) : Tr (S0) :=
  .br (bif (x0.f48 == 3) then x0.f52 else false) (
   .leaf ({ x0 with f4 := false, f5 := true })) (
   .leaf (x0))
def g27 (x0 : S0) : S0 := (g27T x0).get default
def s27 : Ab.Spec := fun args h =>
  dN h <| dL args fun v0 a0 => dG v0 fun l0 => dE 0 l0 fun x0 => dN a0 <|
  let r := g27 x0; .val (.agg (Cod.enc 0 r), [])
noncomputable def L27 : SL := []
noncomputable def e27 : Env := ⟨ti, fun g => lookS g L27, 100⟩
theorem g27_run (x0 : S0) : (runR e27 Go.Proofs.Try.f27 [.agg (Cod.enc 0 x0)] []).eval = (g27T x0).ev fun r => ((.agg (Cod.enc 0 r) : AV), ([] : List Blk)) := by kernel_rfl
theorem s27_ok : SpecOk Go.Proofs.Try.prog 27 s27 :=
  (runR_ok (e := e27) follows (allTI ti_ok _ _) (callsOk_nil) Go.Proofs.Try.func27 Go.Proofs.Try.call27).less fun args hs r h => by
    unfold s27 at h
    obtain ⟨rfl, hh1⟩ := dN_inv h
    obtain ⟨v0, a0, rfl, hh2⟩ := dL_inv hh1
    obtain ⟨l0, rfl, hh3⟩ := dG_inv hh2
    obtain ⟨x0, rfl, hh4⟩ := dE_inv hh3
    obtain ⟨rfl, hh5⟩ := dN_inv hh4
    rw [g27_run, Tr.ev_get (d := default) (by kernel_rfl)]
    exact hh5
/-- pontage/pontagelaw10.HeardAgrees -/
def g8T (x0 : S0) : Tr (Bool) :=
  let z48 := g22 x0
  let z49 := g23 x0
  let z50 := g24 x0
  let z51 := g25 x0
  let z52 := g26 x0
  let z53 := g27 x0
  let z54 := g13 
  .leaf ((bif (bif (bif ((z48.f0 == z49.f0) && ((z48.f1 == z49.f1) && ((z48.f2 == z49.f2) && ((z48.f3 == z49.f3) && ((z48.f4 == z49.f4) && ((z48.f5 == z49.f5) && ((z48.f6 == z49.f6) && ((z48.f7 == z49.f7) && ((z48.f8 == z49.f8) && ((z48.f9 == z49.f9) && ((z48.f10 == z49.f10) && ((z48.f11 == z49.f11) && ((z48.f12 == z49.f12) && ((z48.f13 == z49.f13) && ((z48.f14 == z49.f14) && ((z48.f15 == z49.f15) && ((z48.f16 == z49.f16) && ((z48.f17 == z49.f17) && ((z48.f18 == z49.f18) && ((z48.f19 == z49.f19) && ((z48.f20 == z49.f20) && ((z48.f21 == z49.f21) && ((z48.f22 == z49.f22) && ((z48.f23 == z49.f23) && ((z48.f24 == z49.f24) && ((z48.f25 == z49.f25) && ((z48.f26 == z49.f26) && ((z48.f27 == z49.f27) && ((z48.f28 == z49.f28) && ((z48.f29 == z49.f29) && ((z48.f30 == z49.f30) && ((z48.f31 == z49.f31) && ((z48.f32 == z49.f32) && ((z48.f33 == z49.f33) && ((z48.f34 == z49.f34) && ((z48.f35 == z49.f35) && ((z48.f36 == z49.f36) && ((z48.f37 == z49.f37) && ((z48.f38 == z49.f38) && ((z48.f39 == z49.f39) && ((z48.f40 == z49.f40) && ((z48.f41 == z49.f41) && ((z48.f42 == z49.f42) && ((z48.f43 == z49.f43) && ((z48.f44 == z49.f44) && ((z48.f45 == z49.f45) && ((z48.f46 == z49.f46) && ((z48.f47 == z49.f47) && ((z48.f48 == z49.f48) && ((z48.f49 == z49.f49) && ((z48.f50 == z49.f50) && ((z48.f51 == z49.f51) && ((z48.f52 == z49.f52) && ((z48.f53 == z49.f53) && ((z48.f54 == z49.f54) && ((z48.f55 == z49.f55) && ((z48.f56 == z49.f56) && ((z48.f57 == z49.f57) && ((z48.f58 == z49.f58) && ((z48.f59 == z49.f59) && ((z48.f60 == z49.f60) && ((z48.f61 == z49.f61) && ((z48.f62 == z49.f62) && ((z48.f63 == z49.f63) && ((z48.f64 == z49.f64) && ((z48.f65 == z49.f65) && ((z48.f66 == z49.f66) && ((z48.f67 == z49.f67) && ((z48.f68 == z49.f68) && ((z48.f69 == z49.f69) && ((z48.f70 == z49.f70) && ((z48.f71 == z49.f71) && ((z48.f72 == z49.f72) && ((z48.f73 == z49.f73) && ((z48.f74 == z49.f74) && ((z48.f75 == z49.f75) && (z48.f76 == z49.f76))))))))))))))))))))))))))))))))))))))))))))))))))))))))))))))))))))))))))))) then ((z50.f0 == z51.f0) && ((z50.f1 == z51.f1) && ((z50.f2 == z51.f2) && ((z50.f3 == z51.f3) && ((z50.f4 == z51.f4) && ((z50.f5 == z51.f5) && ((z50.f6 == z51.f6) && ((z50.f7 == z51.f7) && ((z50.f8 == z51.f8) && ((z50.f9 == z51.f9) && ((z50.f10 == z51.f10) && ((z50.f11 == z51.f11) && ((z50.f12 == z51.f12) && ((z50.f13 == z51.f13) && ((z50.f14 == z51.f14) && ((z50.f15 == z51.f15) && ((z50.f16 == z51.f16) && ((z50.f17 == z51.f17) && ((z50.f18 == z51.f18) && ((z50.f19 == z51.f19) && ((z50.f20 == z51.f20) && ((z50.f21 == z51.f21) && ((z50.f22 == z51.f22) && ((z50.f23 == z51.f23) && ((z50.f24 == z51.f24) && ((z50.f25 == z51.f25) && ((z50.f26 == z51.f26) && ((z50.f27 == z51.f27) && ((z50.f28 == z51.f28) && ((z50.f29 == z51.f29) && ((z50.f30 == z51.f30) && ((z50.f31 == z51.f31) && ((z50.f32 == z51.f32) && ((z50.f33 == z51.f33) && ((z50.f34 == z51.f34) && ((z50.f35 == z51.f35) && ((z50.f36 == z51.f36) && ((z50.f37 == z51.f37) && ((z50.f38 == z51.f38) && ((z50.f39 == z51.f39) && ((z50.f40 == z51.f40) && ((z50.f41 == z51.f41) && ((z50.f42 == z51.f42) && ((z50.f43 == z51.f43) && ((z50.f44 == z51.f44) && ((z50.f45 == z51.f45) && ((z50.f46 == z51.f46) && ((z50.f47 == z51.f47) && ((z50.f48 == z51.f48) && ((z50.f49 == z51.f49) && ((z50.f50 == z51.f50) && ((z50.f51 == z51.f51) && ((z50.f52 == z51.f52) && ((z50.f53 == z51.f53) && ((z50.f54 == z51.f54) && ((z50.f55 == z51.f55) && ((z50.f56 == z51.f56) && ((z50.f57 == z51.f57) && ((z50.f58 == z51.f58) && ((z50.f59 == z51.f59) && ((z50.f60 == z51.f60) && ((z50.f61 == z51.f61) && ((z50.f62 == z51.f62) && ((z50.f63 == z51.f63) && ((z50.f64 == z51.f64) && ((z50.f65 == z51.f65) && ((z50.f66 == z51.f66) && ((z50.f67 == z51.f67) && ((z50.f68 == z51.f68) && ((z50.f69 == z51.f69) && ((z50.f70 == z51.f70) && ((z50.f71 == z51.f71) && ((z50.f72 == z51.f72) && ((z50.f73 == z51.f73) && ((z50.f74 == z51.f74) && ((z50.f75 == z51.f75) && (z50.f76 == z51.f76))))))))))))))))))))))))))))))))))))))))))))))))))))))))))))))))))))))))))))) else false) then ((z52.f0 == z53.f0) && ((z52.f1 == z53.f1) && ((z52.f2 == z53.f2) && ((z52.f3 == z53.f3) && ((z52.f4 == z53.f4) && ((z52.f5 == z53.f5) && ((z52.f6 == z53.f6) && ((z52.f7 == z53.f7) && ((z52.f8 == z53.f8) && ((z52.f9 == z53.f9) && ((z52.f10 == z53.f10) && ((z52.f11 == z53.f11) && ((z52.f12 == z53.f12) && ((z52.f13 == z53.f13) && ((z52.f14 == z53.f14) && ((z52.f15 == z53.f15) && ((z52.f16 == z53.f16) && ((z52.f17 == z53.f17) && ((z52.f18 == z53.f18) && ((z52.f19 == z53.f19) && ((z52.f20 == z53.f20) && ((z52.f21 == z53.f21) && ((z52.f22 == z53.f22) && ((z52.f23 == z53.f23) && ((z52.f24 == z53.f24) && ((z52.f25 == z53.f25) && ((z52.f26 == z53.f26) && ((z52.f27 == z53.f27) && ((z52.f28 == z53.f28) && ((z52.f29 == z53.f29) && ((z52.f30 == z53.f30) && ((z52.f31 == z53.f31) && ((z52.f32 == z53.f32) && ((z52.f33 == z53.f33) && ((z52.f34 == z53.f34) && ((z52.f35 == z53.f35) && ((z52.f36 == z53.f36) && ((z52.f37 == z53.f37) && ((z52.f38 == z53.f38) && ((z52.f39 == z53.f39) && ((z52.f40 == z53.f40) && ((z52.f41 == z53.f41) && ((z52.f42 == z53.f42) && ((z52.f43 == z53.f43) && ((z52.f44 == z53.f44) && ((z52.f45 == z53.f45) && ((z52.f46 == z53.f46) && ((z52.f47 == z53.f47) && ((z52.f48 == z53.f48) && ((z52.f49 == z53.f49) && ((z52.f50 == z53.f50) && ((z52.f51 == z53.f51) && ((z52.f52 == z53.f52) && ((z52.f53 == z53.f53) && ((z52.f54 == z53.f54) && ((z52.f55 == z53.f55) && ((z52.f56 == z53.f56) && ((z52.f57 == z53.f57) && ((z52.f58 == z53.f58) && ((z52.f59 == z53.f59) && ((z52.f60 == z53.f60) && ((z52.f61 == z53.f61) && ((z52.f62 == z53.f62) && ((z52.f63 == z53.f63) && ((z52.f64 == z53.f64) && ((z52.f65 == z53.f65) && ((z52.f66 == z53.f66) && ((z52.f67 == z53.f67) && ((z52.f68 == z53.f68) && ((z52.f69 == z53.f69) && ((z52.f70 == z53.f70) && ((z52.f71 == z53.f71) && ((z52.f72 == z53.f72) && ((z52.f73 == z53.f73) && ((z52.f74 == z53.f74) && ((z52.f75 == z53.f75) && (z52.f76 == z53.f76))))))))))))))))))))))))))))))))))))))))))))))))))))))))))))))))))))))))))))) else false) then z54 else false))
def g8 (x0 : S0) : Bool := (g8T x0).get default
def s8 : Ab.Spec := fun args h =>
  dN h <| dL args fun v0 a0 => dG v0 fun l0 => dE 0 l0 fun x0 => dN a0 <|
  let r := g8 x0; .val (.c (.bool r), [])
noncomputable def L8 : SL := [(22, .byVal, s22), (23, .byVal, s23), (24, .byVal, s24), (25, .byVal, s25), (26, .byVal, s26), (27, .byVal, s27), (13, .byVal, s13)]
noncomputable def e8 : Env := ⟨ti, fun g => lookS g L8, 100⟩
theorem g8_run (x0 : S0) : (runR e8 Go.Proofs.Try.f8 [.agg (Cod.enc 0 x0)] []).eval = (g8T x0).ev fun r => ((.c (.bool r) : AV), ([] : List Blk)) := by kernel_rfl
theorem s8_ok : SpecOk Go.Proofs.Try.prog 8 s8 :=
  (runR_ok (e := e8) follows (allTI ti_ok _ _) (callsOk_cons s22_ok (callsOk_cons s23_ok (callsOk_cons s24_ok (callsOk_cons s25_ok (callsOk_cons s26_ok (callsOk_cons s27_ok (callsOk_cons s13_ok (callsOk_nil)))))))) Go.Proofs.Try.func8 Go.Proofs.Try.call8).less fun args hs r h => by
    unfold s8 at h
    obtain ⟨rfl, hh1⟩ := dN_inv h
    obtain ⟨v0, a0, rfl, hh2⟩ := dL_inv hh1
    obtain ⟨l0, rfl, hh3⟩ := dG_inv hh2
    obtain ⟨x0, rfl, hh4⟩ := dE_inv hh3
    obtain ⟨rfl, hh5⟩ := dN_inv hh4
    rw [g8_run, Tr.ev_get (d := default) (by kernel_rfl)]
    exact hh5
/-- pontage/heard.Flags -/
def g28T (x0 : S0) : Tr (S0) :=
  .br (bif x0.f49 then (bif (x0.f48 == 3) then true else (x0.f48 == 1)) else false) (
   .br (bif x0.f50 then (x0.f48 == 1) else false) (
    .br (x0.f48 == 2) (
     .leaf ({ x0 with f17 := true, f18 := true, f19 := true })) (
     .leaf ({ x0 with f17 := true, f18 := true }))) (
    .br (x0.f48 == 2) (
     .leaf ({ x0 with f17 := true, f19 := true })) (
     .leaf ({ x0 with f17 := true })))) (
   .br (bif x0.f50 then (x0.f48 == 1) else false) (
    .br (x0.f48 == 2) (
     .leaf ({ x0 with f18 := true, f19 := true })) (
     .leaf ({ x0 with f18 := true }))) (
    .br (x0.f48 == 2) (
     .leaf ({ x0 with f19 := true })) (
     .leaf (x0))))
def g28 (x0 : S0) : S0 := (g28T x0).get default
def s28 : Ab.Spec := fun args h =>
  dN h <| dL args fun v0 a0 => dG v0 fun l0 => dE 0 l0 fun x0 => dN a0 <|
  let r := g28 x0; .val (.agg (Cod.enc 0 r), [])
noncomputable def L28 : SL := [(39, .byHeap, s39)]
noncomputable def e28 : Env := ⟨ti, fun g => lookS g L28, 100⟩
theorem g28_run (x0 : S0) : (runR e28 Go.Proofs.Try.f28 [.agg (Cod.enc 0 x0)] []).eval = (g28T x0).ev fun r => ((.agg (Cod.enc 0 r) : AV), ([] : List Blk)) := by kernel_rfl
theorem s28_ok : SpecOk Go.Proofs.Try.prog 28 s28 :=
  (runR_ok (e := e28) follows (allTI ti_ok _ _) (callsOk_cons s39_ok (callsOk_nil)) Go.Proofs.Try.func28 Go.Proofs.Try.call28).less fun args hs r h => by
    unfold s28 at h
    obtain ⟨rfl, hh1⟩ := dN_inv h
    obtain ⟨v0, a0, rfl, hh2⟩ := dL_inv hh1
    obtain ⟨l0, rfl, hh3⟩ := dG_inv hh2
    obtain ⟨x0, rfl, hh4⟩ := dE_inv hh3
    obtain ⟨rfl, hh5⟩ := dN_inv hh4
    rw [g28_run, Tr.ev_get (d := default) (by kernel_rfl)]
    exact hh5
/-- pontage/pontageref10.Flags -/
def g29T (x0 : S0) : Tr (S0) :=
  .br (bif x0.f49 then (bif (x0.f48 == 3) then true else (x0.f48 == 1)) else false) (
   .br (bif x0.f50 then (x0.f48 == 1) else false) (
    .br (x0.f48 == 2) (
     .leaf ({ x0 with f17 := true, f18 := true, f19 := true })) (
     .leaf ({ x0 with f17 := true, f18 := true }))) (
    .br (x0.f48 == 2) (
     .leaf ({ x0 with f17 := true, f19 := true })) (
     .leaf ({ x0 with f17 := true })))) (
   .br (bif x0.f50 then (x0.f48 == 1) else false) (
    .br (x0.f48 == 2) (
     .leaf ({ x0 with f18 := true, f19 := true })) (
     .leaf ({ x0 with f18 := true }))) (
    .br (x0.f48 == 2) (
     .leaf ({ x0 with f19 := true })) (
     .leaf (x0))))
def g29 (x0 : S0) : S0 := (g29T x0).get default
def s29 : Ab.Spec := fun args h =>
  dN h <| dL args fun v0 a0 => dG v0 fun l0 => dE 0 l0 fun x0 => dN a0 <|
  let r := g29 x0; .val (.agg (Cod.enc 0 r), [])
noncomputable def L29 : SL := []
noncomputable def e29 : Env := ⟨ti, fun g => lookS g L29, 100⟩
theorem g29_run (x0 : S0) : (runR e29 Go.Proofs.Try.f29 [.agg (Cod.enc 0 x0)] []).eval = (g29T x0).ev fun r => ((.agg (Cod.enc 0 r) : AV), ([] : List Blk)) := by kernel_rfl
theorem s29_ok : SpecOk Go.Proofs.Try.prog 29 s29 :=
  (runR_ok (e := e29) follows (allTI ti_ok _ _) (callsOk_nil) Go.Proofs.Try.func29 Go.Proofs.Try.call29).less fun args hs r h => by
    unfold s29 at h
    obtain ⟨rfl, hh1⟩ := dN_inv h
    obtain ⟨v0, a0, rfl, hh2⟩ := dL_inv hh1
    obtain ⟨l0, rfl, hh3⟩ := dG_inv hh2
    obtain ⟨x0, rfl, hh4⟩ := dE_inv hh3
    obtain ⟨rfl, hh5⟩ := dN_inv hh4
    rw [g29_run, Tr.ev_get (d := default) (by kernel_rfl)]
    exact hh5
/-- pontage/pontageref10.Priority -/
def g30T (x0 : S0) : Tr (S0) :=
  .leaf ({ x0 with f36 := x0.f56, f37 := x0.f57, f38 := x0.f58, f39 := x0.f59 })
def g30 (x0 : S0) : S0 := (g30T x0).get default
def s30 : Ab.Spec := fun args h =>
  dN h <| dL args fun v0 a0 => dG v0 fun l0 => dE 0 l0 fun x0 => dN a0 <|
  let r := g30 x0; .val (.agg (Cod.enc 0 r), [])
noncomputable def L30 : SL := []
noncomputable def e30 : Env := ⟨ti, fun g => lookS g L30, 100⟩
theorem g30_run (x0 : S0) : (runR e30 Go.Proofs.Try.f30 [.agg (Cod.enc 0 x0)] []).eval = (g30T x0).ev fun r => ((.agg (Cod.enc 0 r) : AV), ([] : List Blk)) := by kernel_rfl
theorem s30_ok : SpecOk Go.Proofs.Try.prog 30 s30 :=
  (runR_ok (e := e30) follows (allTI ti_ok _ _) (callsOk_nil) Go.Proofs.Try.func30 Go.Proofs.Try.call30).less fun args hs r h => by
    unfold s30 at h
    obtain ⟨rfl, hh1⟩ := dN_inv h
    obtain ⟨v0, a0, rfl, hh2⟩ := dL_inv hh1
    obtain ⟨l0, rfl, hh3⟩ := dG_inv hh2
    obtain ⟨x0, rfl, hh4⟩ := dE_inv hh3
    obtain ⟨rfl, hh5⟩ := dN_inv hh4
    rw [g30_run, Tr.ev_get (d := default) (by kernel_rfl)]
    exact hh5
/-- pontage/pontageref10.Times -/
def g31T (x0 : S0) : Tr (S0) :=
  .br (x0.f62 == 0) (
   .leaf ({ x0 with f44 := x0.f60, f45 := x0.f61, f46 := 1, f47 := x0.f63 })) (
   .leaf ({ x0 with f44 := x0.f60, f45 := x0.f61, f46 := x0.f62, f47 := x0.f63 }))
def g31 (x0 : S0) : S0 := (g31T x0).get default
def s31 : Ab.Spec := fun args h =>
  dN h <| dL args fun v0 a0 => dG v0 fun l0 => dE 0 l0 fun x0 => dN a0 <|
  let r := g31 x0; .val (.agg (Cod.enc 0 r), [])
noncomputable def L31 : SL := []
noncomputable def e31 : Env := ⟨ti, fun g => lookS g L31, 100⟩
theorem g31_run (x0 : S0) : (runR e31 Go.Proofs.Try.f31 [.agg (Cod.enc 0 x0)] []).eval = (g31T x0).ev fun r => ((.agg (Cod.enc 0 r) : AV), ([] : List Blk)) := by kernel_rfl
theorem s31_ok : SpecOk Go.Proofs.Try.prog 31 s31 :=
  (runR_ok (e := e31) follows (allTI ti_ok _ _) (callsOk_nil) Go.Proofs.Try.func31 Go.Proofs.Try.call31).less fun args hs r h => by
    unfold s31 at h
    obtain ⟨rfl, hh1⟩ := dN_inv h
    obtain ⟨v0, a0, rfl, hh2⟩ := dL_inv hh1
    obtain ⟨l0, rfl, hh3⟩ := dG_inv hh2
    obtain ⟨x0, rfl, hh4⟩ := dE_inv hh3
    obtain ⟨rfl, hh5⟩ := dN_inv hh4
    rw [g31_run, Tr.ev_get (d := default) (by kernel_rfl)]
    exact hh5
/-- pontage/pontageref10.While -/
def g32T (x0 : S0) : Tr (S0) :=
  .br (decide ((IntKind.i64.wrap ((IntKind.i64.wrap x0.f44) + 1)) ≤ (IntKind.i64.wrap x0.f45))) (
   .br (decide ((IntKind.i64.wrap (3 * (IntKind.i64.wrap x0.f46))) > 255)) (
    .leaf ({ x0 with f69 := 255 })) (
    .leaf ({ x0 with f69 := (IntKind.u8.wrap (IntKind.i64.wrap (3 * (IntKind.i64.wrap x0.f46)))) }))) (
   .leaf ({ x0 with f69 := 0 }))
def g32 (x0 : S0) : S0 := (g32T x0).get default
def s32 : Ab.Spec := fun args h =>
  dN h <| dL args fun v0 a0 => dG v0 fun l0 => dE 0 l0 fun x0 => dN a0 <|
  let r := g32 x0; .val (.agg (Cod.enc 0 r), [])
noncomputable def L32 : SL := []
noncomputable def e32 : Env := ⟨ti, fun g => lookS g L32, 100⟩
theorem g32_run (x0 : S0) : (runR e32 Go.Proofs.Try.f32 [.agg (Cod.enc 0 x0)] []).eval = (g32T x0).ev fun r => ((.agg (Cod.enc 0 r) : AV), ([] : List Blk)) := by kernel_rfl
theorem s32_ok : SpecOk Go.Proofs.Try.prog 32 s32 :=
  (runR_ok (e := e32) follows (allTI ti_ok _ _) (callsOk_nil) Go.Proofs.Try.func32 Go.Proofs.Try.call32).less fun args hs r h => by
    unfold s32 at h
    obtain ⟨rfl, hh1⟩ := dN_inv h
    obtain ⟨v0, a0, rfl, hh2⟩ := dL_inv hh1
    obtain ⟨l0, rfl, hh3⟩ := dG_inv hh2
    obtain ⟨x0, rfl, hh4⟩ := dE_inv hh3
    obtain ⟨rfl, hh5⟩ := dN_inv hh4
    rw [g32_run, Tr.ev_get (d := default) (by kernel_rfl)]
    exact hh5
/-- pontage/pontagelaw10.HeardRecords -/
def g9T (x0 : S0) : Tr (Bool) :=
  let z55 := g28 x0
  let z56 := g29 x0
  let z57 := g17 x0
  let z58 := g30 x0
  let z59 := g16 x0
  let z60 := g31 x0
  let z61 := g21 x0
  let z62 := g32 x0
  let z63 := g13 
  .leaf ((bif (bif (bif (bif ((z55.f0 == z56.f0) && ((z55.f1 == z56.f1) && ((z55.f2 == z56.f2) && ((z55.f3 == z56.f3) && ((z55.f4 == z56.f4) && ((z55.f5 == z56.f5) && ((z55.f6 == z56.f6) && ((z55.f7 == z56.f7) && ((z55.f8 == z56.f8) && ((z55.f9 == z56.f9) && ((z55.f10 == z56.f10) && ((z55.f11 == z56.f11) && ((z55.f12 == z56.f12) && ((z55.f13 == z56.f13) && ((z55.f14 == z56.f14) && ((z55.f15 == z56.f15) && ((z55.f16 == z56.f16) && ((z55.f17 == z56.f17) && ((z55.f18 == z56.f18) && ((z55.f19 == z56.f19) && ((z55.f20 == z56.f20) && ((z55.f21 == z56.f21) && ((z55.f22 == z56.f22) && ((z55.f23 == z56.f23) && ((z55.f24 == z56.f24) && ((z55.f25 == z56.f25) && ((z55.f26 == z56.f26) && ((z55.f27 == z56.f27) && ((z55.f28 == z56.f28) && ((z55.f29 == z56.f29) && ((z55.f30 == z56.f30) && ((z55.f31 == z56.f31) && ((z55.f32 == z56.f32) && ((z55.f33 == z56.f33) && ((z55.f34 == z56.f34) && ((z55.f35 == z56.f35) && ((z55.f36 == z56.f36) && ((z55.f37 == z56.f37) && ((z55.f38 == z56.f38) && ((z55.f39 == z56.f39) && ((z55.f40 == z56.f40) && ((z55.f41 == z56.f41) && ((z55.f42 == z56.f42) && ((z55.f43 == z56.f43) && ((z55.f44 == z56.f44) && ((z55.f45 == z56.f45) && ((z55.f46 == z56.f46) && ((z55.f47 == z56.f47) && ((z55.f48 == z56.f48) && ((z55.f49 == z56.f49) && ((z55.f50 == z56.f50) && ((z55.f51 == z56.f51) && ((z55.f52 == z56.f52) && ((z55.f53 == z56.f53) && ((z55.f54 == z56.f54) && ((z55.f55 == z56.f55) && ((z55.f56 == z56.f56) && ((z55.f57 == z56.f57) && ((z55.f58 == z56.f58) && ((z55.f59 == z56.f59) && ((z55.f60 == z56.f60) && ((z55.f61 == z56.f61) && ((z55.f62 == z56.f62) && ((z55.f63 == z56.f63) && ((z55.f64 == z56.f64) && ((z55.f65 == z56.f65) && ((z55.f66 == z56.f66) && ((z55.f67 == z56.f67) && ((z55.f68 == z56.f68) && ((z55.f69 == z56.f69) && ((z55.f70 == z56.f70) && ((z55.f71 == z56.f71) && ((z55.f72 == z56.f72) && ((z55.f73 == z56.f73) && ((z55.f74 == z56.f74) && ((z55.f75 == z56.f75) && (z55.f76 == z56.f76))))))))))))))))))))))))))))))))))))))))))))))))))))))))))))))))))))))))))))) then ((z57.f0 == z58.f0) && ((z57.f1 == z58.f1) && ((z57.f2 == z58.f2) && ((z57.f3 == z58.f3) && ((z57.f4 == z58.f4) && ((z57.f5 == z58.f5) && ((z57.f6 == z58.f6) && ((z57.f7 == z58.f7) && ((z57.f8 == z58.f8) && ((z57.f9 == z58.f9) && ((z57.f10 == z58.f10) && ((z57.f11 == z58.f11) && ((z57.f12 == z58.f12) && ((z57.f13 == z58.f13) && ((z57.f14 == z58.f14) && ((z57.f15 == z58.f15) && ((z57.f16 == z58.f16) && ((z57.f17 == z58.f17) && ((z57.f18 == z58.f18) && ((z57.f19 == z58.f19) && ((z57.f20 == z58.f20) && ((z57.f21 == z58.f21) && ((z57.f22 == z58.f22) && ((z57.f23 == z58.f23) && ((z57.f24 == z58.f24) && ((z57.f25 == z58.f25) && ((z57.f26 == z58.f26) && ((z57.f27 == z58.f27) && ((z57.f28 == z58.f28) && ((z57.f29 == z58.f29) && ((z57.f30 == z58.f30) && ((z57.f31 == z58.f31) && ((z57.f32 == z58.f32) && ((z57.f33 == z58.f33) && ((z57.f34 == z58.f34) && ((z57.f35 == z58.f35) && ((z57.f36 == z58.f36) && ((z57.f37 == z58.f37) && ((z57.f38 == z58.f38) && ((z57.f39 == z58.f39) && ((z57.f40 == z58.f40) && ((z57.f41 == z58.f41) && ((z57.f42 == z58.f42) && ((z57.f43 == z58.f43) && ((z57.f44 == z58.f44) && ((z57.f45 == z58.f45) && ((z57.f46 == z58.f46) && ((z57.f47 == z58.f47) && ((z57.f48 == z58.f48) && ((z57.f49 == z58.f49) && ((z57.f50 == z58.f50) && ((z57.f51 == z58.f51) && ((z57.f52 == z58.f52) && ((z57.f53 == z58.f53) && ((z57.f54 == z58.f54) && ((z57.f55 == z58.f55) && ((z57.f56 == z58.f56) && ((z57.f57 == z58.f57) && ((z57.f58 == z58.f58) && ((z57.f59 == z58.f59) && ((z57.f60 == z58.f60) && ((z57.f61 == z58.f61) && ((z57.f62 == z58.f62) && ((z57.f63 == z58.f63) && ((z57.f64 == z58.f64) && ((z57.f65 == z58.f65) && ((z57.f66 == z58.f66) && ((z57.f67 == z58.f67) && ((z57.f68 == z58.f68) && ((z57.f69 == z58.f69) && ((z57.f70 == z58.f70) && ((z57.f71 == z58.f71) && ((z57.f72 == z58.f72) && ((z57.f73 == z58.f73) && ((z57.f74 == z58.f74) && ((z57.f75 == z58.f75) && (z57.f76 == z58.f76))))))))))))))))))))))))))))))))))))))))))))))))))))))))))))))))))))))))))))) else false) then ((z59.f0 == z60.f0) && ((z59.f1 == z60.f1) && ((z59.f2 == z60.f2) && ((z59.f3 == z60.f3) && ((z59.f4 == z60.f4) && ((z59.f5 == z60.f5) && ((z59.f6 == z60.f6) && ((z59.f7 == z60.f7) && ((z59.f8 == z60.f8) && ((z59.f9 == z60.f9) && ((z59.f10 == z60.f10) && ((z59.f11 == z60.f11) && ((z59.f12 == z60.f12) && ((z59.f13 == z60.f13) && ((z59.f14 == z60.f14) && ((z59.f15 == z60.f15) && ((z59.f16 == z60.f16) && ((z59.f17 == z60.f17) && ((z59.f18 == z60.f18) && ((z59.f19 == z60.f19) && ((z59.f20 == z60.f20) && ((z59.f21 == z60.f21) && ((z59.f22 == z60.f22) && ((z59.f23 == z60.f23) && ((z59.f24 == z60.f24) && ((z59.f25 == z60.f25) && ((z59.f26 == z60.f26) && ((z59.f27 == z60.f27) && ((z59.f28 == z60.f28) && ((z59.f29 == z60.f29) && ((z59.f30 == z60.f30) && ((z59.f31 == z60.f31) && ((z59.f32 == z60.f32) && ((z59.f33 == z60.f33) && ((z59.f34 == z60.f34) && ((z59.f35 == z60.f35) && ((z59.f36 == z60.f36) && ((z59.f37 == z60.f37) && ((z59.f38 == z60.f38) && ((z59.f39 == z60.f39) && ((z59.f40 == z60.f40) && ((z59.f41 == z60.f41) && ((z59.f42 == z60.f42) && ((z59.f43 == z60.f43) && ((z59.f44 == z60.f44) && ((z59.f45 == z60.f45) && ((z59.f46 == z60.f46) && ((z59.f47 == z60.f47) && ((z59.f48 == z60.f48) && ((z59.f49 == z60.f49) && ((z59.f50 == z60.f50) && ((z59.f51 == z60.f51) && ((z59.f52 == z60.f52) && ((z59.f53 == z60.f53) && ((z59.f54 == z60.f54) && ((z59.f55 == z60.f55) && ((z59.f56 == z60.f56) && ((z59.f57 == z60.f57) && ((z59.f58 == z60.f58) && ((z59.f59 == z60.f59) && ((z59.f60 == z60.f60) && ((z59.f61 == z60.f61) && ((z59.f62 == z60.f62) && ((z59.f63 == z60.f63) && ((z59.f64 == z60.f64) && ((z59.f65 == z60.f65) && ((z59.f66 == z60.f66) && ((z59.f67 == z60.f67) && ((z59.f68 == z60.f68) && ((z59.f69 == z60.f69) && ((z59.f70 == z60.f70) && ((z59.f71 == z60.f71) && ((z59.f72 == z60.f72) && ((z59.f73 == z60.f73) && ((z59.f74 == z60.f74) && ((z59.f75 == z60.f75) && (z59.f76 == z60.f76))))))))))))))))))))))))))))))))))))))))))))))))))))))))))))))))))))))))))))) else false) then ((z61.f0 == z62.f0) && ((z61.f1 == z62.f1) && ((z61.f2 == z62.f2) && ((z61.f3 == z62.f3) && ((z61.f4 == z62.f4) && ((z61.f5 == z62.f5) && ((z61.f6 == z62.f6) && ((z61.f7 == z62.f7) && ((z61.f8 == z62.f8) && ((z61.f9 == z62.f9) && ((z61.f10 == z62.f10) && ((z61.f11 == z62.f11) && ((z61.f12 == z62.f12) && ((z61.f13 == z62.f13) && ((z61.f14 == z62.f14) && ((z61.f15 == z62.f15) && ((z61.f16 == z62.f16) && ((z61.f17 == z62.f17) && ((z61.f18 == z62.f18) && ((z61.f19 == z62.f19) && ((z61.f20 == z62.f20) && ((z61.f21 == z62.f21) && ((z61.f22 == z62.f22) && ((z61.f23 == z62.f23) && ((z61.f24 == z62.f24) && ((z61.f25 == z62.f25) && ((z61.f26 == z62.f26) && ((z61.f27 == z62.f27) && ((z61.f28 == z62.f28) && ((z61.f29 == z62.f29) && ((z61.f30 == z62.f30) && ((z61.f31 == z62.f31) && ((z61.f32 == z62.f32) && ((z61.f33 == z62.f33) && ((z61.f34 == z62.f34) && ((z61.f35 == z62.f35) && ((z61.f36 == z62.f36) && ((z61.f37 == z62.f37) && ((z61.f38 == z62.f38) && ((z61.f39 == z62.f39) && ((z61.f40 == z62.f40) && ((z61.f41 == z62.f41) && ((z61.f42 == z62.f42) && ((z61.f43 == z62.f43) && ((z61.f44 == z62.f44) && ((z61.f45 == z62.f45) && ((z61.f46 == z62.f46) && ((z61.f47 == z62.f47) && ((z61.f48 == z62.f48) && ((z61.f49 == z62.f49) && ((z61.f50 == z62.f50) && ((z61.f51 == z62.f51) && ((z61.f52 == z62.f52) && ((z61.f53 == z62.f53) && ((z61.f54 == z62.f54) && ((z61.f55 == z62.f55) && ((z61.f56 == z62.f56) && ((z61.f57 == z62.f57) && ((z61.f58 == z62.f58) && ((z61.f59 == z62.f59) && ((z61.f60 == z62.f60) && ((z61.f61 == z62.f61) && ((z61.f62 == z62.f62) && ((z61.f63 == z62.f63) && ((z61.f64 == z62.f64) && ((z61.f65 == z62.f65) && ((z61.f66 == z62.f66) && ((z61.f67 == z62.f67) && ((z61.f68 == z62.f68) && ((z61.f69 == z62.f69) && ((z61.f70 == z62.f70) && ((z61.f71 == z62.f71) && ((z61.f72 == z62.f72) && ((z61.f73 == z62.f73) && ((z61.f74 == z62.f74) && ((z61.f75 == z62.f75) && (z61.f76 == z62.f76))))))))))))))))))))))))))))))))))))))))))))))))))))))))))))))))))))))))))))) else false) then z63 else false))
def g9 (x0 : S0) : Bool := (g9T x0).get default
def s9 : Ab.Spec := fun args h =>
  dN h <| dL args fun v0 a0 => dG v0 fun l0 => dE 0 l0 fun x0 => dN a0 <|
  let r := g9 x0; .val (.c (.bool r), [])
noncomputable def L9 : SL := [(28, .byVal, s28), (29, .byVal, s29), (17, .byVal, s17), (30, .byVal, s30), (16, .byVal, s16), (31, .byVal, s31), (21, .byVal, s21), (32, .byVal, s32), (13, .byVal, s13)]
noncomputable def e9 : Env := ⟨ti, fun g => lookS g L9, 100⟩
theorem g9_run (x0 : S0) : (runR e9 Go.Proofs.Try.f9 [.agg (Cod.enc 0 x0)] []).eval = (g9T x0).ev fun r => ((.c (.bool r) : AV), ([] : List Blk)) := by kernel_rfl
theorem s9_ok : SpecOk Go.Proofs.Try.prog 9 s9 :=
  (runR_ok (e := e9) follows (allTI ti_ok _ _) (callsOk_cons s28_ok (callsOk_cons s29_ok (callsOk_cons s17_ok (callsOk_cons s30_ok (callsOk_cons s16_ok (callsOk_cons s31_ok (callsOk_cons s21_ok (callsOk_cons s32_ok (callsOk_cons s13_ok (callsOk_nil)))))))))) Go.Proofs.Try.func9 Go.Proofs.Try.call9).less fun args hs r h => by
    unfold s9 at h
    obtain ⟨rfl, hh1⟩ := dN_inv h
    obtain ⟨v0, a0, rfl, hh2⟩ := dL_inv hh1
    obtain ⟨l0, rfl, hh3⟩ := dG_inv hh2
    obtain ⟨x0, rfl, hh4⟩ := dE_inv hh3
    obtain ⟨rfl, hh5⟩ := dN_inv hh4
    rw [g9_run, Tr.ev_get (d := default) (by kernel_rfl)]
    exact hh5
/-- pontage/pontagelaw10.HeardOnly -/
def g10T (x0 : S0) (x1 : S1) : Tr (Bool) :=
  let z64 := g11 x0 x1
  let z65 := g17 x0
  let z66 := g16 z65
  let z67 := g21 z66
  let z68 := g22 x0
  let z69 := g24 z68
  let z70 := g26 z69
  let z71 := g28 x0
  let z72 := g13 
  .leaf ((bif (bif (bif (bif ((z64.f0 == x0.f0) && ((z64.f1 == x0.f1) && ((z64.f2 == x0.f2) && ((z64.f3 == x0.f3) && ((z64.f4 == x0.f4) && ((z64.f5 == x0.f5) && ((z64.f6 == x0.f6) && ((z64.f7 == x0.f7) && ((z64.f8 == x0.f8) && ((z64.f9 == x0.f9) && ((z64.f10 == x0.f10) && ((z64.f11 == x0.f11) && ((z64.f12 == x0.f12) && ((z64.f13 == x0.f13) && ((x0.f14 == x0.f14) && ((x0.f15 == x0.f15) && ((x0.f16 == x0.f16) && ((z64.f17 == x0.f17) && ((z64.f18 == x0.f18) && ((z64.f19 == x0.f19) && ((z64.f20 == x0.f20) && ((z64.f21 == x0.f21) && ((z64.f22 == x0.f22) && ((z64.f23 == x0.f23) && ((z64.f24 == x0.f24) && ((z64.f25 == x0.f25) && ((z64.f26 == x0.f26) && ((z64.f27 == x0.f27) && ((z64.f28 == x0.f28) && ((z64.f29 == x0.f29) && ((z64.f30 == x0.f30) && ((z64.f31 == x0.f31) && ((z64.f32 == x0.f32) && ((z64.f33 == x0.f33) && ((z64.f34 == x0.f34) && ((z64.f35 == x0.f35) && ((z64.f36 == x0.f36) && ((z64.f37 == x0.f37) && ((z64.f38 == x0.f38) && ((z64.f39 == x0.f39) && ((z64.f40 == x0.f40) && ((z64.f41 == x0.f41) && ((z64.f42 == x0.f42) && ((z64.f43 == x0.f43) && ((z64.f44 == x0.f44) && ((z64.f45 == x0.f45) && ((z64.f46 == x0.f46) && ((z64.f47 == x0.f47) && ((x0.f48 == x0.f48) && ((x0.f49 == x0.f49) && ((x0.f50 == x0.f50) && ((x0.f51 == x0.f51) && ((x0.f52 == x0.f52) && ((x0.f53 == x0.f53) && ((x0.f54 == x0.f54) && ((x0.f55 == x0.f55) && ((x0.f56 == x0.f56) && ((x0.f57 == x0.f57) && ((x0.f58 == x0.f58) && ((x0.f59 == x0.f59) && ((x0.f60 == x0.f60) && ((x0.f61 == x0.f61) && ((x0.f62 == x0.f62) && ((x0.f63 == x0.f63) && ((z64.f64 == x0.f64) && ((z64.f65 == x0.f65) && ((z64.f66 == x0.f66) && ((z64.f67 == x0.f67) && ((z64.f68 == x0.f68) && ((z64.f69 == x0.f69) && ((z64.f70 == x0.f70) && ((z64.f71 == x0.f71) && ((z64.f72 == x0.f72) && ((z64.f73 == x0.f73) && ((z64.f74 == x0.f74) && ((z64.f75 == x0.f75) && (z64.f76 == x0.f76))))))))))))))))))))))))))))))))))))))))))))))))))))))))))))))))))))))))))))) then ((z67.f0 == x0.f0) && ((z67.f1 == x0.f1) && ((z67.f2 == x0.f2) && ((z67.f3 == x0.f3) && ((z67.f4 == x0.f4) && ((z67.f5 == x0.f5) && ((z67.f6 == x0.f6) && ((z67.f7 == x0.f7) && ((z67.f8 == x0.f8) && ((z67.f9 == x0.f9) && ((z67.f10 == x0.f10) && ((z67.f11 == x0.f11) && ((z67.f12 == x0.f12) && ((z67.f13 == x0.f13) && ((z67.f14 == x0.f14) && ((z67.f15 == x0.f15) && ((z67.f16 == x0.f16) && ((z67.f17 == x0.f17) && ((z67.f18 == x0.f18) && ((z67.f19 == x0.f19) && ((z67.f20 == x0.f20) && ((z67.f21 == x0.f21) && ((z67.f22 == x0.f22) && ((z67.f23 == x0.f23) && ((z67.f24 == x0.f24) && ((z67.f25 == x0.f25) && ((z67.f26 == x0.f26) && ((z67.f27 == x0.f27) && ((z67.f28 == x0.f28) && ((z67.f29 == x0.f29) && ((z67.f30 == x0.f30) && ((z67.f31 == x0.f31) && ((z67.f32 == x0.f32) && ((z67.f33 == x0.f33) && ((z67.f34 == x0.f34) && ((z67.f35 == x0.f35) && ((x0.f36 == x0.f36) && ((x0.f37 == x0.f37) && ((x0.f38 == x0.f38) && ((x0.f39 == x0.f39) && ((z67.f40 == x0.f40) && ((z67.f41 == x0.f41) && ((z67.f42 == x0.f42) && ((z67.f43 == x0.f43) && ((x0.f44 == x0.f44) && ((x0.f45 == x0.f45) && ((x0.f46 == x0.f46) && ((x0.f47 == x0.f47) && ((z67.f48 == x0.f48) && ((z67.f49 == x0.f49) && ((z67.f50 == x0.f50) && ((z67.f51 == x0.f51) && ((z67.f52 == x0.f52) && ((z67.f53 == x0.f53) && ((z67.f54 == x0.f54) && ((z67.f55 == x0.f55) && ((z67.f56 == x0.f56) && ((z67.f57 == x0.f57) && ((z67.f58 == x0.f58) && ((z67.f59 == x0.f59) && ((z67.f60 == x0.f60) && ((z67.f61 == x0.f61) && ((z67.f62 == x0.f62) && ((z67.f63 == x0.f63) && ((z67.f64 == x0.f64) && ((z67.f65 == x0.f65) && ((z67.f66 == x0.f66) && ((z67.f67 == x0.f67) && ((z67.f68 == x0.f68) && ((x0.f69 == x0.f69) && ((z67.f70 == x0.f70) && ((z67.f71 == x0.f71) && ((z67.f72 == x0.f72) && ((z67.f73 == x0.f73) && ((z67.f74 == x0.f74) && ((z67.f75 == x0.f75) && (z67.f76 == x0.f76))))))))))))))))))))))))))))))))))))))))))))))))))))))))))))))))))))))))))))) else false) then ((z70.f0 == x0.f0) && ((z70.f1 == x0.f1) && ((z70.f2 == x0.f2) && ((z70.f3 == x0.f3) && ((x0.f4 == x0.f4) && ((x0.f5 == x0.f5) && ((z70.f6 == x0.f6) && ((z70.f7 == x0.f7) && ((z70.f8 == x0.f8) && ((z70.f9 == x0.f9) && ((z70.f10 == x0.f10) && ((z70.f11 == x0.f11) && ((x0.f12 == x0.f12) && ((x0.f13 == x0.f13) && ((z70.f14 == x0.f14) && ((z70.f15 == x0.f15) && ((z70.f16 == x0.f16) && ((z70.f17 == x0.f17) && ((z70.f18 == x0.f18) && ((z70.f19 == x0.f19) && ((z70.f20 == x0.f20) && ((z70.f21 == x0.f21) && ((z70.f22 == x0.f22) && ((z70.f23 == x0.f23) && ((z70.f24 == x0.f24) && ((z70.f25 == x0.f25) && ((z70.f26 == x0.f26) && ((z70.f27 == x0.f27) && ((z70.f28 == x0.f28) && ((z70.f29 == x0.f29) && ((z70.f30 == x0.f30) && ((z70.f31 == x0.f31) && ((z70.f32 == x0.f32) && ((z70.f33 == x0.f33) && ((z70.f34 == x0.f34) && ((z70.f35 == x0.f35) && ((z70.f36 == x0.f36) && ((z70.f37 == x0.f37) && ((z70.f38 == x0.f38) && ((z70.f39 == x0.f39) && ((z70.f40 == x0.f40) && ((z70.f41 == x0.f41) && ((z70.f42 == x0.f42) && ((z70.f43 == x0.f43) && ((z70.f44 == x0.f44) && ((z70.f45 == x0.f45) && ((z70.f46 == x0.f46) && ((z70.f47 == x0.f47) && ((z70.f48 == x0.f48) && ((z70.f49 == x0.f49) && ((z70.f50 == x0.f50) && ((z70.f51 == x0.f51) && ((z70.f52 == x0.f52) && ((z70.f53 == x0.f53) && ((z70.f54 == x0.f54) && ((z70.f55 == x0.f55) && ((z70.f56 == x0.f56) && ((z70.f57 == x0.f57) && ((z70.f58 == x0.f58) && ((z70.f59 == x0.f59) && ((z70.f60 == x0.f60) && ((z70.f61 == x0.f61) && ((z70.f62 == x0.f62) && ((z70.f63 == x0.f63) && ((z70.f64 == x0.f64) && ((z70.f65 == x0.f65) && ((z70.f66 == x0.f66) && ((z70.f67 == x0.f67) && ((z70.f68 == x0.f68) && ((z70.f69 == x0.f69) && ((z70.f70 == x0.f70) && ((z70.f71 == x0.f71) && ((z70.f72 == x0.f72) && ((z70.f73 == x0.f73) && ((z70.f74 == x0.f74) && ((z70.f75 == x0.f75) && (z70.f76 == x0.f76))))))))))))))))))))))))))))))))))))))))))))))))))))))))))))))))))))))))))))) else false) then ((z71.f0 == x0.f0) && ((z71.f1 == x0.f1) && ((z71.f2 == x0.f2) && ((z71.f3 == x0.f3) && ((z71.f4 == x0.f4) && ((z71.f5 == x0.f5) && ((z71.f6 == x0.f6) && ((z71.f7 == x0.f7) && ((z71.f8 == x0.f8) && ((z71.f9 == x0.f9) && ((z71.f10 == x0.f10) && ((z71.f11 == x0.f11) && ((z71.f12 == x0.f12) && ((z71.f13 == x0.f13) && ((z71.f14 == x0.f14) && ((z71.f15 == x0.f15) && ((z71.f16 == x0.f16) && ((x0.f17 == x0.f17) && ((x0.f18 == x0.f18) && ((x0.f19 == x0.f19) && ((z71.f20 == x0.f20) && ((z71.f21 == x0.f21) && ((z71.f22 == x0.f22) && ((z71.f23 == x0.f23) && ((z71.f24 == x0.f24) && ((z71.f25 == x0.f25) && ((z71.f26 == x0.f26) && ((z71.f27 == x0.f27) && ((z71.f28 == x0.f28) && ((z71.f29 == x0.f29) && ((z71.f30 == x0.f30) && ((z71.f31 == x0.f31) && ((z71.f32 == x0.f32) && ((z71.f33 == x0.f33) && ((z71.f34 == x0.f34) && ((z71.f35 == x0.f35) && ((z71.f36 == x0.f36) && ((z71.f37 == x0.f37) && ((z71.f38 == x0.f38) && ((z71.f39 == x0.f39) && ((z71.f40 == x0.f40) && ((z71.f41 == x0.f41) && ((z71.f42 == x0.f42) && ((z71.f43 == x0.f43) && ((z71.f44 == x0.f44) && ((z71.f45 == x0.f45) && ((z71.f46 == x0.f46) && ((z71.f47 == x0.f47) && ((z71.f48 == x0.f48) && ((z71.f49 == x0.f49) && ((z71.f50 == x0.f50) && ((z71.f51 == x0.f51) && ((z71.f52 == x0.f52) && ((z71.f53 == x0.f53) && ((z71.f54 == x0.f54) && ((z71.f55 == x0.f55) && ((z71.f56 == x0.f56) && ((z71.f57 == x0.f57) && ((z71.f58 == x0.f58) && ((z71.f59 == x0.f59) && ((z71.f60 == x0.f60) && ((z71.f61 == x0.f61) && ((z71.f62 == x0.f62) && ((z71.f63 == x0.f63) && ((z71.f64 == x0.f64) && ((z71.f65 == x0.f65) && ((z71.f66 == x0.f66) && ((z71.f67 == x0.f67) && ((z71.f68 == x0.f68) && ((z71.f69 == x0.f69) && ((z71.f70 == x0.f70) && ((z71.f71 == x0.f71) && ((z71.f72 == x0.f72) && ((z71.f73 == x0.f73) && ((z71.f74 == x0.f74) && ((z71.f75 == x0.f75) && (z71.f76 == x0.f76))))))))))))))))))))))))))))))))))))))))))))))))))))))))))))))))))))))))))))) else false) then z72 else false))
def g10 (x0 : S0) (x1 : S1) : Bool := (g10T x0 x1).get default
def s10 : Ab.Spec := fun args h =>
  dN h <| dL args fun v0 a0 => dG v0 fun l0 => dE 0 l0 fun x0 => dL a0 fun v1 a1 => dG v1 fun l1 => dE 1 l1 fun x1 => dN a1 <|
  let r := g10 x0 x1; .val (.c (.bool r), [])
noncomputable def L10 : SL := [(11, .byVal, s11), (17, .byVal, s17), (16, .byVal, s16), (21, .byVal, s21), (22, .byVal, s22), (24, .byVal, s24), (26, .byVal, s26), (28, .byVal, s28), (13, .byVal, s13)]
noncomputable def e10 : Env := ⟨ti, fun g => lookS g L10, 100⟩
theorem g10_run (x0 : S0) (x1 : S1) : (runR e10 Go.Proofs.Try.f10 [.agg (Cod.enc 0 x0), .agg (Cod.enc 1 x1)] []).eval = (g10T x0 x1).ev fun r => ((.c (.bool r) : AV), ([] : List Blk)) := by kernel_rfl
theorem s10_ok : SpecOk Go.Proofs.Try.prog 10 s10 :=
  (runR_ok (e := e10) follows (allTI ti_ok _ _) (callsOk_cons s11_ok (callsOk_cons s17_ok (callsOk_cons s16_ok (callsOk_cons s21_ok (callsOk_cons s22_ok (callsOk_cons s24_ok (callsOk_cons s26_ok (callsOk_cons s28_ok (callsOk_cons s13_ok (callsOk_nil)))))))))) Go.Proofs.Try.func10 Go.Proofs.Try.call10).less fun args hs r h => by
    unfold s10 at h
    obtain ⟨rfl, hh1⟩ := dN_inv h
    obtain ⟨v0, a0, rfl, hh2⟩ := dL_inv hh1
    obtain ⟨l0, rfl, hh3⟩ := dG_inv hh2
    obtain ⟨x0, rfl, hh4⟩ := dE_inv hh3
    obtain ⟨v1, a1, rfl, hh5⟩ := dL_inv hh4
    obtain ⟨l1, rfl, hh6⟩ := dG_inv hh5
    obtain ⟨x1, rfl, hh7⟩ := dE_inv hh6
    obtain ⟨rfl, hh8⟩ := dN_inv hh7
    rw [g10_run, Tr.ev_get (d := default) (by kernel_rfl)]
    exact hh8
end Ab10
