/- Seat 12: the functions. -/
import Derived.Test.YtmpfabbaoendeaaAb12a
set_option maxRecDepth 100000
set_option maxHeartbeats 4000000
set_option linter.unusedVariables false
set_option linter.unusedSimpArgs false
namespace Ab12
open Go Ab
/-- pontage/pontagelaw12.Few -/
noncomputable def L10 : SL := []
noncomputable def e10 : Env := ⟨ti, fun g => lookS g L10, 1000000, [], []⟩
def g10T (x0 : S5) : Tr (S5) :=
  .br (decide ((x0.f16.length : Int) > 12)) (
   .br (decide (0 ≤ 12) && decide (12 ≤ (x0.f16.length : Int))) (
    .leaf ({ x0 with f16 := (List.take (Int.toNat 12) x0.f16) })) (
    .fail)) (
   .leaf (x0))
def g10 (x0 : S5) : Option (S5) := (g10T x0).get?
noncomputable def T10 : TL := []
noncomputable def q10 : Ab.Spec := frzR [[none, none, none, none, none, none, none, none, none, none, none, none, none, none, none, none, some 0]] (runQ0 e10 (lookT T10) Go.Proofs.Try.f10)
theorem q10_ok : SpecOk Go.Proofs.Try.prog 10 q10 := (runQ0_ok (runR_ok (e := e10) follows (allTI ti_ok _ _ _ _) (callsOk_nil) Go.Proofs.Try.func10 Go.Proofs.Try.call10) (fun c hc => by
  have hb : c = Go.Proofs.Try.f10.body.getD .skip := by rw [hc]; rfl
  subst hb
  exact tab_nil)).froze [[none, none, none, none, none, none, none, none, none, none, none, none, none, none, none, none, some 0]]
theorem g10_run (x0 : S5) : (q10 [.agg (Cod.enc 5 x0)] []).eval = (g10T x0).ev fun r => ((.agg (Cod.enc 5 r) : AV), ([] : List Blk)) := by kernel_rfl
noncomputable def s10_0 : Ab.Spec := fun args h =>
  dN h <| dL args fun v0 a0 => dG v0 fun l0 => dE 5 l0 fun x0 => dN a0 <|
  .opt (g10 x0) fun r => .val (.agg (Cod.enc 5 r), [])
theorem s10_0_ok : SpecOk Go.Proofs.Try.prog 10 s10_0 :=
  q10_ok.less fun args hs r h => by
    unfold s10_0 at h
    obtain ⟨rfl, hh1⟩ := dN_inv h
    obtain ⟨v0, a0, rfl, hh2⟩ := dL_inv hh1
    obtain ⟨l0, rfl, hh3⟩ := dG_inv hh2
    obtain ⟨x0, rfl, hh4⟩ := dE_inv hh3
    obtain ⟨rfl, hh5⟩ := dN_inv hh4
    rw [g10_run, Tr.ev_get?]
    change (Res.opt (g10 x0) _).eval = some r at hh5
    rw [eval_opt] at hh5
    obtain ⟨z, hz, hh6⟩ := Option.bind_eq_some_iff.mp hh5
    unfold g10 at hz
    rw [hz]; exact hh6
noncomputable def s10 : Ab.Spec := fun args h => s10_0 (coeA [[none, none, none, none, none, none, none, none, none, none, none, none, none, none, none, none, some 0]] args) h
theorem s10_ok : SpecOk Go.Proofs.Try.prog 10 s10 := s10_0_ok.pre [[none, none, none, none, none, none, none, none, none, none, none, none, none, none, none, none, some 0]]
/-- pontage/vector.Own -/
noncomputable def L22 : SL := []
noncomputable def e22 : Env := ⟨ti, fun g => lookS g L22, 1000000, [], []⟩
def g22T (x0 : Int) : Tr (S4) :=
  .leaf ((S4.mk x0 0 x0 0))
def g22 (x0 : Int) : S4 := (g22T x0).get default
noncomputable def T22 : TL := []
noncomputable def q22 : Ab.Spec := runQ0 e22 (lookT T22) Go.Proofs.Try.f22
theorem q22_ok : SpecOk Go.Proofs.Try.prog 22 q22 := (runQ0_ok (runR_ok (e := e22) follows (allTI ti_ok _ _ _ _) (callsOk_nil) Go.Proofs.Try.func22 Go.Proofs.Try.call22) (fun c hc => by
  have hb : c = Go.Proofs.Try.f22.body.getD .skip := by rw [hc]; rfl
  subst hb
  exact tab_nil))
theorem g22_run (x0 : Int) : (q22 [.c (.int .u64 x0)] []).eval = (g22T x0).ev fun r => ((.agg (Cod.enc 4 r) : AV), ([] : List Blk)) := by kernel_rfl
noncomputable def s22 : Ab.Spec := fun args h =>
  dN h <| dL args fun v0 a0 => dC v0 fun c0 => dI .u64 c0 fun x0 => dN a0 <|
  let r := g22 x0; .val (.agg (Cod.enc 4 r), [])
theorem s22_ok : SpecOk Go.Proofs.Try.prog 22 s22 :=
  q22_ok.less fun args hs r h => by
    unfold s22 at h
    obtain ⟨rfl, hh1⟩ := dN_inv h
    obtain ⟨v0, a0, rfl, hh2⟩ := dL_inv hh1
    obtain ⟨c0, rfl, hh3⟩ := dC_inv hh2
    obtain ⟨x0, rfl, hh4⟩ := dI_inv hh3
    obtain ⟨rfl, hh5⟩ := dN_inv hh4
    rw [g22_run, Tr.ev_get (d := default) (by kernel_rfl)]
    exact hh5
/-- pontage/vector.Address -/
noncomputable def L35 : SL := []
noncomputable def e35 : Env := ⟨ti, fun g => lookS g L35, 1000000, [.drop 1], []⟩
def g35T (x0 : Int) : Tr (S7) :=
  .leaf ((S7.mk (IntKind.u8.wrap (shrI .u64 x0 40)) (IntKind.u8.wrap (shrI .u64 x0 32)) (IntKind.u8.wrap (shrI .u64 x0 24)) (IntKind.u8.wrap (shrI .u64 x0 16)) (IntKind.u8.wrap (shrI .u64 x0 8)) (IntKind.u8.wrap (shrI .u64 x0 0))))
def g35 (x0 : Int) : S7 := (g35T x0).get default
noncomputable def T35 : TL := []
noncomputable def q35 : Ab.Spec := runQ0 e35 (lookT T35) Go.Proofs.Try.f35
theorem q35_ok : SpecOk Go.Proofs.Try.prog 35 q35 := (runQ0_ok (runR_ok (e := e35) follows (allTI ti_ok _ _ _ _) (callsOk_nil) Go.Proofs.Try.func35 Go.Proofs.Try.call35) (fun c hc => by
  have hb : c = Go.Proofs.Try.f35.body.getD .skip := by rw [hc]; rfl
  subst hb
  exact tab_nil))
theorem g35_run (x0 : Int) : (q35 [.c (.int .u64 x0)] []).eval = (g35T x0).ev fun r => ((.agg (Cod.enc 7 r) : AV), ([] : List Blk)) := by kernel_rfl
noncomputable def s35 : Ab.Spec := fun args h =>
  dN h <| dL args fun v0 a0 => dC v0 fun c0 => dI .u64 c0 fun x0 => dN a0 <|
  let r := g35 x0; .val (.agg (Cod.enc 7 r), [])
theorem s35_ok : SpecOk Go.Proofs.Try.prog 35 s35 :=
  q35_ok.less fun args hs r h => by
    unfold s35 at h
    obtain ⟨rfl, hh1⟩ := dN_inv h
    obtain ⟨v0, a0, rfl, hh2⟩ := dL_inv hh1
    obtain ⟨c0, rfl, hh3⟩ := dC_inv hh2
    obtain ⟨x0, rfl, hh4⟩ := dI_inv hh3
    obtain ⟨rfl, hh5⟩ := dN_inv hh4
    rw [g35_run, Tr.ev_get (d := default) (by kernel_rfl)]
    exact hh5
/-- pontage/roles.own -/
noncomputable def L23 : SL := [(35, .byVal, s35)]
noncomputable def e23 : Env := ⟨ti, fun g => lookS g L23, 1000000, [], []⟩
def g23T (x0 : S5) (x1 : Int) : Tr (Bool) :=
  let z1 := g35 x1
  let z2 := g35 x0.f0
  .leaf ((eqS7 z1 z2))
def g23 (x0 : S5) (x1 : Int) : Bool := (g23T x0 x1).get default
noncomputable def T23 : TL := []
noncomputable def q23 : Ab.Spec := runQ0 e23 (lookT T23) Go.Proofs.Try.f23
theorem q23_ok : SpecOk Go.Proofs.Try.prog 23 q23 := (runQ0_ok (runR_ok (e := e23) follows (allTI ti_ok _ _ _ _) (callsOk_cons s35_ok (callsOk_nil)) Go.Proofs.Try.func23 Go.Proofs.Try.call23) (fun c hc => by
  have hb : c = Go.Proofs.Try.f23.body.getD .skip := by rw [hc]; rfl
  subst hb
  exact tab_nil))
theorem g23_run (x0 : S5) (x1 : Int) : (q23 [.agg (Cod.enc 5 x0), .c (.int .u64 x1)] []).eval = (g23T x0 x1).ev fun r => ((.c (.bool r) : AV), ([] : List Blk)) := by kernel_rfl
noncomputable def s23_0 : Ab.Spec := fun args h =>
  dN h <| dL args fun v0 a0 => dG v0 fun l0 => dE 5 l0 fun x0 => dL a0 fun v1 a1 => dC v1 fun c0 => dI .u64 c0 fun x1 => dN a1 <|
  let r := g23 x0 x1; .val (.c (.bool r), [])
theorem s23_0_ok : SpecOk Go.Proofs.Try.prog 23 s23_0 :=
  q23_ok.less fun args hs r h => by
    unfold s23_0 at h
    obtain ⟨rfl, hh1⟩ := dN_inv h
    obtain ⟨v0, a0, rfl, hh2⟩ := dL_inv hh1
    obtain ⟨l0, rfl, hh3⟩ := dG_inv hh2
    obtain ⟨x0, rfl, hh4⟩ := dE_inv hh3
    obtain ⟨v1, a1, rfl, hh5⟩ := dL_inv hh4
    obtain ⟨c0, rfl, hh6⟩ := dC_inv hh5
    obtain ⟨x1, rfl, hh7⟩ := dI_inv hh6
    obtain ⟨rfl, hh8⟩ := dN_inv hh7
    rw [g23_run, Tr.ev_get (d := default) (by kernel_rfl)]
    exact hh8
noncomputable def s23 : Ab.Spec := fun args h => s23_0 (coeA [[none, none, none, none, none, none, none, none, none, none, none, none, none, none, none, none, some 0], []] args) h
theorem s23_ok : SpecOk Go.Proofs.Try.prog 23 s23 := s23_0_ok.pre [[none, none, none, none, none, none, none, none, none, none, none, none, none, none, none, none, some 0], []]
/-- pontage/vector.Add -/
noncomputable def L24 : SL := []
noncomputable def e24 : Env := ⟨ti, fun g => lookS g L24, 1000000, [], []⟩
def g24T (x0 : S4) (x1 : Int) : Tr (S4) :=
  .leaf ({ x0 with f1 := (IntKind.u32.wrap (x0.f1 + x1)) })
def g24 (x0 : S4) (x1 : Int) : S4 := (g24T x0 x1).get default
noncomputable def T24 : TL := []
noncomputable def q24 : Ab.Spec := runQ0 e24 (lookT T24) Go.Proofs.Try.f24
theorem q24_ok : SpecOk Go.Proofs.Try.prog 24 q24 := (runQ0_ok (runR_ok (e := e24) follows (allTI ti_ok _ _ _ _) (callsOk_nil) Go.Proofs.Try.func24 Go.Proofs.Try.call24) (fun c hc => by
  have hb : c = Go.Proofs.Try.f24.body.getD .skip := by rw [hc]; rfl
  subst hb
  exact tab_nil))
theorem g24_run (x0 : S4) (x1 : Int) : (q24 [.agg (Cod.enc 4 x0), .c (.int .u32 x1)] []).eval = (g24T x0 x1).ev fun r => ((.agg (Cod.enc 4 r) : AV), ([] : List Blk)) := by kernel_rfl
noncomputable def s24 : Ab.Spec := fun args h =>
  dN h <| dL args fun v0 a0 => dG v0 fun l0 => dE 4 l0 fun x0 => dL a0 fun v1 a1 => dC v1 fun c0 => dI .u32 c0 fun x1 => dN a1 <|
  let r := g24 x0 x1; .val (.agg (Cod.enc 4 r), [])
theorem s24_ok : SpecOk Go.Proofs.Try.prog 24 s24 :=
  q24_ok.less fun args hs r h => by
    unfold s24 at h
    obtain ⟨rfl, hh1⟩ := dN_inv h
    obtain ⟨v0, a0, rfl, hh2⟩ := dL_inv hh1
    obtain ⟨l0, rfl, hh3⟩ := dG_inv hh2
    obtain ⟨x0, rfl, hh4⟩ := dE_inv hh3
    obtain ⟨v1, a1, rfl, hh5⟩ := dL_inv hh4
    obtain ⟨c0, rfl, hh6⟩ := dC_inv hh5
    obtain ⟨x1, rfl, hh7⟩ := dI_inv hh6
    obtain ⟨rfl, hh8⟩ := dN_inv hh7
    rw [g24_run, Tr.ev_get (d := default) (by kernel_rfl)]
    exact hh8
/-- pontage/vector.Compare -/
noncomputable def L25 : SL := []
noncomputable def e25 : Env := ⟨ti, fun g => lookS g L25, 1000000, [.drop 0, .drop 1, .drop 2, .drop 3, .drop 6, .drop 8, .drop 9, .drop 10, .drop 11, .drop 12, .drop 13, .drop 14, .drop 15, .drop 16, .drop 17, .drop 18, .drop 19, .drop 20, .drop 21, .drop 22, .drop 23, .drop 24, .drop 25, .drop 26, .drop 27, .drop 28, .drop 29, .drop 30, .drop 31], []⟩
def g25T (x0 : S4) (x1 : S4) : Tr (Int) :=
  .br (decide (x0.f0 < x1.f0)) (
   .leaf ((-1))) (
   .br (decide (x0.f0 > x1.f0)) (
    .leaf (1)) (
    .br (decide ((IntKind.u64.wrap x0.f1) < (IntKind.u64.wrap x1.f1))) (
     .leaf ((-1))) (
     .br (decide ((IntKind.u64.wrap x0.f1) > (IntKind.u64.wrap x1.f1))) (
      .leaf (1)) (
      .br (decide (x0.f2 < x1.f2)) (
       .leaf ((-1))) (
       .br (decide (x0.f2 > x1.f2)) (
        .leaf (1)) (
        .br (decide ((IntKind.u64.wrap x0.f3) < (IntKind.u64.wrap x1.f3))) (
         .leaf ((-1))) (
         .br (decide ((IntKind.u64.wrap x0.f3) > (IntKind.u64.wrap x1.f3))) (
          .leaf (1)) (
          .leaf (0)))))))))
def g25 (x0 : S4) (x1 : S4) : Int := (g25T x0 x1).get default
noncomputable def T25 : TL := []
noncomputable def q25 : Ab.Spec := runQ0 e25 (lookT T25) Go.Proofs.Try.f25
theorem q25_ok : SpecOk Go.Proofs.Try.prog 25 q25 := (runQ0_ok (runR_ok (e := e25) follows (allTI ti_ok _ _ _ _) (callsOk_nil) Go.Proofs.Try.func25 Go.Proofs.Try.call25) (fun c hc => by
  have hb : c = Go.Proofs.Try.f25.body.getD .skip := by rw [hc]; rfl
  subst hb
  exact tab_nil))
theorem g25_run (x0 : S4) (x1 : S4) : (q25 [.agg (Cod.enc 4 x0), .agg (Cod.enc 4 x1)] []).eval = (g25T x0 x1).ev fun r => ((.c (.int .i64 r) : AV), ([] : List Blk)) := by kernel_rfl
noncomputable def s25 : Ab.Spec := fun args h =>
  dN h <| dL args fun v0 a0 => dG v0 fun l0 => dE 4 l0 fun x0 => dL a0 fun v1 a1 => dG v1 fun l1 => dE 4 l1 fun x1 => dN a1 <|
  let r := g25 x0 x1; .val (.c (.int .i64 r), [])
theorem s25_ok : SpecOk Go.Proofs.Try.prog 25 s25 :=
  q25_ok.less fun args hs r h => by
    unfold s25 at h
    obtain ⟨rfl, hh1⟩ := dN_inv h
    obtain ⟨v0, a0, rfl, hh2⟩ := dL_inv hh1
    obtain ⟨l0, rfl, hh3⟩ := dG_inv hh2
    obtain ⟨x0, rfl, hh4⟩ := dE_inv hh3
    obtain ⟨v1, a1, rfl, hh5⟩ := dL_inv hh4
    obtain ⟨l1, rfl, hh6⟩ := dG_inv hh5
    obtain ⟨x1, rfl, hh7⟩ := dE_inv hh6
    obtain ⟨rfl, hh8⟩ := dN_inv hh7
    rw [g25_run, Tr.ev_get (d := default) (by kernel_rfl)]
    exact hh8
/-- pontage/roles.RootOf -/
noncomputable def L11 : SL := [(22, .byVal, s22), (23, .byVal, s23), (24, .byVal, s24), (25, .byVal, s25)]
noncomputable def e11 : Env := ⟨ti, fun g => lookS g L11, 1000000, [.drop 0, .drop 9, .drop 10, .drop 11, .drop 12], []⟩
structure W11_0 where
  a0 : Int
  a1 : Int
  a2 : List S0
  a3 : Int
  a4 : Int
  a5 : Int
  a6 : Int
  a7 : Int
  a8 : Int
  a9 : Int
  a10 : Int
  a11 : Bool
  a12 : Int
  a13 : Int
  a14 : Int
  a15 : Int
  a16 : Int
  a17 : Int
  a18 : Int
  a19 : Int
  a20 : Int
  a21 : List S0
  a22 : S4
  a23 : S4
def hd11_0 (v : W11_0) : St := ⟨[.top, .c (.ptr 0 0), .c (.ptr 1 0), .c (.int .i64 v.a0), .c (.ptr 2 0), .c (.int .i64 v.a1), .top, .top, .top, .top, .top, .top, .top, .c (.rs 0 v.a2), .c (.int .i64 v.a3), .c (.int .i64 v.a4), .top, .top, .top, .top, .top, .top, .top, .top, .top, .top, .top, .top, .top, .top, .top, .top, .top, .top, .top, .top, .top, .top, .top, .top, .top, .top, .top, .top, .top, .top, .top, .top, .top, .top, .top, .top, .top, .top, .top, .top, .top, .top, .top, .top], [.cells [.int .u64 v.a5, .int .u8 v.a6, .int .u8 v.a7, .int .u8 v.a8, .int .u8 v.a9, .int .u8 v.a10, .bool v.a11, .int .u16 v.a12, .int .u64 v.a13, .int .u32 v.a14, .int .u64 v.a15, .int .u16 v.a16, .int .u8 v.a17, .int .u8 v.a18, .int .u8 v.a19, .int .u8 v.a20, .rs 0 v.a21], .cells [.int .u64 v.a22.f0, .int .u32 v.a22.f1, .int .u64 v.a22.f2, .int .u16 v.a22.f3], .cells [.int .u64 v.a23.f0, .int .u32 v.a23.f1, .int .u64 v.a23.f2, .int .u16 v.a23.f3]]⟩
def gR11_0 (v : W11_0) : Tr (W11_0 ⊕ (Bool × W11_0)) :=
  .br (decide (v.a4 < v.a3)) (
   .br (decide (0 ≤ v.a4)) (
    .opt (v.a2[Int.toNat v.a4]?) fun y4 =>
     let z5 := g23 (S5.mk v.a5 v.a6 v.a7 v.a8 v.a9 v.a10 v.a11 v.a12 v.a13 v.a14 v.a15 v.a16 v.a17 v.a18 v.a19 v.a20 v.a21) y4.f38
     .br (bif (y4.f29 != 3) then true else z5) (
      .leaf (.inl ({ v with a4 := (IntKind.i64.wrap (v.a4 + 1)) }))) (
      let z6 := g24 (S4.mk y4.f36 y4.f37 y4.f38 y4.f39) y4.f1
      let z7 := g25 z6 v.a23
      .br (z7 == 1) (
       .leaf (.inl ({ v with a4 := (IntKind.i64.wrap (v.a4 + 1)) }))) (
       .br (z7 == 0) (
        .br (!(decide (v.a1 < 0))) (
         .br (decide (0 ≤ v.a1)) (
          .opt (v.a21[Int.toNat v.a1]?) fun y9 =>
           .br (decide (y4.f0 ≥ y9.f0)) (
            .leaf (.inl ({ v with a4 := (IntKind.i64.wrap (v.a4 + 1)) }))) (
            .leaf (.inl ({ v with a1 := v.a4, a4 := (IntKind.i64.wrap (v.a4 + 1)), a23 := z6 })))) (
          .fail)) (
         .leaf (.inl ({ v with a4 := (IntKind.i64.wrap (v.a4 + 1)) })))) (
        .leaf (.inl ({ v with a1 := v.a4, a4 := (IntKind.i64.wrap (v.a4 + 1)), a23 := z6 })))))) (
    .fail)) (
   .leaf (.inr (false, v)))
noncomputable def lb11_0 : Code := match findB 0 (Go.Proofs.Try.f11.body.getD .skip) with | [.loop b] => b | _ => .skip
def pa11_0 : List PA := [.any, .c (.ptr 0 0), .c (.ptr 1 0), .c (.int .i64), .c (.ptr 2 0), .c (.int .i64), .top, .top, .top, .any, .any, .any, .any, .c (.rs 0), .c (.int .i64), .c (.int .i64), .top, .top, .top, .top, .top, .top, .top, .top, .top, .top, .top, .top, .top, .top, .top, .top, .top, .top, .top, .top, .top, .top, .top, .top, .top, .top, .top, .top, .top, .top, .top, .top, .top, .top, .top, .top, .top, .top, .top, .top, .top, .top, .top, .top]
def pb11_0 : List PB := [.cells [.int .u64, .int .u8, .int .u8, .int .u8, .int .u8, .int .u8, .bool, .int .u16, .int .u64, .int .u32, .int .u64, .int .u16, .int .u8, .int .u8, .int .u8, .int .u8, .rs 0], .cells [.int .u64, .int .u32, .int .u64, .int .u16], .cells [.int .u64, .int .u32, .int .u64, .int .u16]]
def ini11_0 (s : St) : W11_0 := ⟨iC (aC (s.tmps.getD 3 .top)), iC (aC (s.tmps.getD 5 .top)), rC 0 (aC (s.tmps.getD 13 .top)), iC (aC (s.tmps.getD 14 .top)), iC (aC (s.tmps.getD 15 .top)), iC ((bL (s.heap.getD 0 .dead)).getD 0 .top), iC ((bL (s.heap.getD 0 .dead)).getD 1 .top), iC ((bL (s.heap.getD 0 .dead)).getD 2 .top), iC ((bL (s.heap.getD 0 .dead)).getD 3 .top), iC ((bL (s.heap.getD 0 .dead)).getD 4 .top), iC ((bL (s.heap.getD 0 .dead)).getD 5 .top), bC ((bL (s.heap.getD 0 .dead)).getD 6 .top), iC ((bL (s.heap.getD 0 .dead)).getD 7 .top), iC ((bL (s.heap.getD 0 .dead)).getD 8 .top), iC ((bL (s.heap.getD 0 .dead)).getD 9 .top), iC ((bL (s.heap.getD 0 .dead)).getD 10 .top), iC ((bL (s.heap.getD 0 .dead)).getD 11 .top), iC ((bL (s.heap.getD 0 .dead)).getD 12 .top), iC ((bL (s.heap.getD 0 .dead)).getD 13 .top), iC ((bL (s.heap.getD 0 .dead)).getD 14 .top), iC ((bL (s.heap.getD 0 .dead)).getD 15 .top), rC 0 ((bL (s.heap.getD 0 .dead)).getD 16 .top), rd4 (bL (s.heap.getD 1 .dead)), rd4 (bL (s.heap.getD 2 .dead))⟩
noncomputable def F11_0 : St → Res (Ex × St) := loopF pa11_0 pb11_0 1000000 hd11_0 gR11_0 ini11_0 false
theorem F11_0_ok (s : St) (r : Ex × St) (h : (F11_0 s).eval = some r) : (codeR e11 0 (.block 0 (.loop lb11_0)) s).eval = some r :=
  blk_ok (e := e11) (T := lookT []) (fun s v => by kernel_rfl) (fun s => by kernel_rfl) (tab_nil) s r h
def g11T (x0 : S5) : Tr (S4 × Int) :=
  let z3 := g22 x0.f0
  .opt (iter gR11_0 1000000 (W11_0.mk (0) ((-1)) (x0.f16) ((x0.f16.length : Int)) (0) (x0.f0) (x0.f1) (x0.f2) (x0.f3) (x0.f4) (x0.f5) (x0.f6) (x0.f7) (x0.f8) (x0.f9) (x0.f10) (x0.f11) (x0.f12) (x0.f13) (x0.f14) (x0.f15) (x0.f16) ((S4.mk 0 0 0 0)) (z3))) fun r10 =>
   .br r10.1 (
    .fail) (
    .leaf (r10.2.a23, r10.2.a1))
def g11 (x0 : S5) : Option (S4 × Int) := (g11T x0).get?
noncomputable def T11 : TL := [(0, F11_0)]
noncomputable def q11 : Ab.Spec := runQ0 e11 (lookT T11) Go.Proofs.Try.f11
theorem q11_ok : SpecOk Go.Proofs.Try.prog 11 q11 := (runQ0_ok (runR_ok (e := e11) follows (allTI ti_ok _ _ _ _) (callsOk_cons s22_ok (callsOk_cons s23_ok (callsOk_cons s24_ok (callsOk_cons s25_ok (callsOk_nil))))) Go.Proofs.Try.func11 Go.Proofs.Try.call11) (fun c hc => by
  have hb : c = Go.Proofs.Try.f11.body.getD .skip := by rw [hc]; rfl
  subst hb
  exact tab_cons (by kernel_rfl) F11_0_ok (tab_nil)))
theorem g11_run (x0 : S5) : (q11 [.agg (Cod.enc 5 x0)] []).eval = (g11T x0).ev fun r => ((.tup [some (true, Cod.enc 4 r.1), some (false, [.int .i64 r.2])] : AV), ([] : List Blk)) := by kernel_rfl
noncomputable def s11_0 : Ab.Spec := fun args h =>
  dN h <| dL args fun v0 a0 => dG v0 fun l0 => dE 5 l0 fun x0 => dN a0 <|
  .opt (g11 x0) fun r => .val (.tup [some (true, Cod.enc 4 r.1), some (false, [.int .i64 r.2])], [])
theorem s11_0_ok : SpecOk Go.Proofs.Try.prog 11 s11_0 :=
  q11_ok.less fun args hs r h => by
    unfold s11_0 at h
    obtain ⟨rfl, hh1⟩ := dN_inv h
    obtain ⟨v0, a0, rfl, hh2⟩ := dL_inv hh1
    obtain ⟨l0, rfl, hh3⟩ := dG_inv hh2
    obtain ⟨x0, rfl, hh4⟩ := dE_inv hh3
    obtain ⟨rfl, hh5⟩ := dN_inv hh4
    rw [g11_run, Tr.ev_get?]
    change (Res.opt (g11 x0) _).eval = some r at hh5
    rw [eval_opt] at hh5
    obtain ⟨z, hz, hh6⟩ := Option.bind_eq_some_iff.mp hh5
    unfold g11 at hz
    rw [hz]; exact hh6
noncomputable def s11 : Ab.Spec := fun args h => s11_0 (coeA [[none, none, none, none, none, none, none, none, none, none, none, none, none, none, none, none, some 0]] args) h
theorem s11_ok : SpecOk Go.Proofs.Try.prog 11 s11 := s11_0_ok.pre [[none, none, none, none, none, none, none, none, none, none, none, none, none, none, none, none, some 0]]
/-- pontage/pontageref06.Own -/
noncomputable def L17 : SL := []
noncomputable def e17 : Env := ⟨ti, fun g => lookS g L17, 1000000, [], []⟩
def g17T (x0 : Int) : Tr (S4) :=
  .leaf ((S4.mk x0 0 x0 0))
def g17 (x0 : Int) : S4 := (g17T x0).get default
noncomputable def T17 : TL := []
noncomputable def q17 : Ab.Spec := runQ0 e17 (lookT T17) Go.Proofs.Try.f17
theorem q17_ok : SpecOk Go.Proofs.Try.prog 17 q17 := (runQ0_ok (runR_ok (e := e17) follows (allTI ti_ok _ _ _ _) (callsOk_nil) Go.Proofs.Try.func17 Go.Proofs.Try.call17) (fun c hc => by
  have hb : c = Go.Proofs.Try.f17.body.getD .skip := by rw [hc]; rfl
  subst hb
  exact tab_nil))
theorem g17_run (x0 : Int) : (q17 [.c (.int .u64 x0)] []).eval = (g17T x0).ev fun r => ((.agg (Cod.enc 4 r) : AV), ([] : List Blk)) := by kernel_rfl
noncomputable def s17 : Ab.Spec := fun args h =>
  dN h <| dL args fun v0 a0 => dC v0 fun c0 => dI .u64 c0 fun x0 => dN a0 <|
  let r := g17 x0; .val (.agg (Cod.enc 4 r), [])
theorem s17_ok : SpecOk Go.Proofs.Try.prog 17 s17 :=
  q17_ok.less fun args hs r h => by
    unfold s17 at h
    obtain ⟨rfl, hh1⟩ := dN_inv h
    obtain ⟨v0, a0, rfl, hh2⟩ := dL_inv hh1
    obtain ⟨c0, rfl, hh3⟩ := dC_inv hh2
    obtain ⟨x0, rfl, hh4⟩ := dI_inv hh3
    obtain ⟨rfl, hh5⟩ := dN_inv hh4
    rw [g17_run, Tr.ev_get (d := default) (by kernel_rfl)]
    exact hh5
/-- pontage/pontageref06.SameAddress -/
noncomputable def L31 : SL := []
noncomputable def e31 : Env := ⟨ti, fun g => lookS g L31, 1000000, [], []⟩
def g31T (x0 : Int) (x1 : Int) : Tr (Bool) :=
  .leaf (((remI x0 281474976710656) == (remI x1 281474976710656)))
def g31 (x0 : Int) (x1 : Int) : Bool := (g31T x0 x1).get default
noncomputable def T31 : TL := []
noncomputable def q31 : Ab.Spec := runQ0 e31 (lookT T31) Go.Proofs.Try.f31
theorem q31_ok : SpecOk Go.Proofs.Try.prog 31 q31 := (runQ0_ok (runR_ok (e := e31) follows (allTI ti_ok _ _ _ _) (callsOk_nil) Go.Proofs.Try.func31 Go.Proofs.Try.call31) (fun c hc => by
  have hb : c = Go.Proofs.Try.f31.body.getD .skip := by rw [hc]; rfl
  subst hb
  exact tab_nil))
theorem g31_run (x0 : Int) (x1 : Int) : (q31 [.c (.int .u64 x0), .c (.int .u64 x1)] []).eval = (g31T x0 x1).ev fun r => ((.c (.bool r) : AV), ([] : List Blk)) := by kernel_rfl
noncomputable def s31 : Ab.Spec := fun args h =>
  dN h <| dL args fun v0 a0 => dC v0 fun c0 => dI .u64 c0 fun x0 => dL a0 fun v1 a1 => dC v1 fun c1 => dI .u64 c1 fun x1 => dN a1 <|
  let r := g31 x0 x1; .val (.c (.bool r), [])
theorem s31_ok : SpecOk Go.Proofs.Try.prog 31 s31 :=
  q31_ok.less fun args hs r h => by
    unfold s31 at h
    obtain ⟨rfl, hh1⟩ := dN_inv h
    obtain ⟨v0, a0, rfl, hh2⟩ := dL_inv hh1
    obtain ⟨c0, rfl, hh3⟩ := dC_inv hh2
    obtain ⟨x0, rfl, hh4⟩ := dI_inv hh3
    obtain ⟨v1, a1, rfl, hh5⟩ := dL_inv hh4
    obtain ⟨c1, rfl, hh6⟩ := dC_inv hh5
    obtain ⟨x1, rfl, hh7⟩ := dI_inv hh6
    obtain ⟨rfl, hh8⟩ := dN_inv hh7
    rw [g31_run, Tr.ev_get (d := default) (by kernel_rfl)]
    exact hh8
/-- pontage/pontageref06.Add -/
noncomputable def L32 : SL := []
noncomputable def e32 : Env := ⟨ti, fun g => lookS g L32, 1000000, [], []⟩
def g32T (x0 : S4) (x1 : Int) : Tr (S4) :=
  .leaf ({ x0 with f1 := (IntKind.u32.wrap (x0.f1 + x1)) })
def g32 (x0 : S4) (x1 : Int) : S4 := (g32T x0 x1).get default
noncomputable def T32 : TL := []
noncomputable def q32 : Ab.Spec := runQ0 e32 (lookT T32) Go.Proofs.Try.f32
theorem q32_ok : SpecOk Go.Proofs.Try.prog 32 q32 := (runQ0_ok (runR_ok (e := e32) follows (allTI ti_ok _ _ _ _) (callsOk_nil) Go.Proofs.Try.func32 Go.Proofs.Try.call32) (fun c hc => by
  have hb : c = Go.Proofs.Try.f32.body.getD .skip := by rw [hc]; rfl
  subst hb
  exact tab_nil))
theorem g32_run (x0 : S4) (x1 : Int) : (q32 [.agg (Cod.enc 4 x0), .c (.int .u32 x1)] []).eval = (g32T x0 x1).ev fun r => ((.agg (Cod.enc 4 r) : AV), ([] : List Blk)) := by kernel_rfl
noncomputable def s32 : Ab.Spec := fun args h =>
  dN h <| dL args fun v0 a0 => dG v0 fun l0 => dE 4 l0 fun x0 => dL a0 fun v1 a1 => dC v1 fun c0 => dI .u32 c0 fun x1 => dN a1 <|
  let r := g32 x0 x1; .val (.agg (Cod.enc 4 r), [])
theorem s32_ok : SpecOk Go.Proofs.Try.prog 32 s32 :=
  q32_ok.less fun args hs r h => by
    unfold s32 at h
    obtain ⟨rfl, hh1⟩ := dN_inv h
    obtain ⟨v0, a0, rfl, hh2⟩ := dL_inv hh1
    obtain ⟨l0, rfl, hh3⟩ := dG_inv hh2
    obtain ⟨x0, rfl, hh4⟩ := dE_inv hh3
    obtain ⟨v1, a1, rfl, hh5⟩ := dL_inv hh4
    obtain ⟨c0, rfl, hh6⟩ := dC_inv hh5
    obtain ⟨x1, rfl, hh7⟩ := dI_inv hh6
    obtain ⟨rfl, hh8⟩ := dN_inv hh7
    rw [g32_run, Tr.ev_get (d := default) (by kernel_rfl)]
    exact hh8
/-- pontage/pontageref12.Candidate -/
noncomputable def L19 : SL := [(31, .byVal, s31), (32, .byVal, s32)]
noncomputable def e19 : Env := ⟨ti, fun g => lookS g L19, 1000000, [], []⟩
def g19T (x0 : S5) (x1 : Int) : Tr (S4 × Bool) :=
  .br (decide (0 ≤ x1)) (
   .opt (x0.f16[Int.toNat x1]?) fun y11 =>
    let z12 := g31 y11.f38 x0.f0
    .br (bif (y11.f29 != 3) then true else z12) (
     .leaf ((S4.mk 0 0 0 0), false)) (
     let z13 := g32 (S4.mk y11.f36 y11.f37 y11.f38 y11.f39) y11.f1
     .leaf (z13, true))) (
   .fail)
def g19 (x0 : S5) (x1 : Int) : Option (S4 × Bool) := (g19T x0 x1).get?
noncomputable def T19 : TL := []
noncomputable def q19 : Ab.Spec := runQ0 e19 (lookT T19) Go.Proofs.Try.f19
theorem q19_ok : SpecOk Go.Proofs.Try.prog 19 q19 := (runQ0_ok (runR_ok (e := e19) follows (allTI ti_ok _ _ _ _) (callsOk_cons s31_ok (callsOk_cons s32_ok (callsOk_nil))) Go.Proofs.Try.func19 Go.Proofs.Try.call19) (fun c hc => by
  have hb : c = Go.Proofs.Try.f19.body.getD .skip := by rw [hc]; rfl
  subst hb
  exact tab_nil))
theorem g19_run (x0 : S5) (x1 : Int) : (q19 [.agg (Cod.enc 5 x0), .c (.int .i64 x1)] []).eval = (g19T x0 x1).ev fun r => ((.tup [some (true, Cod.enc 4 r.1), some (false, [.bool r.2])] : AV), ([] : List Blk)) := by kernel_rfl
noncomputable def s19_0 : Ab.Spec := fun args h =>
  dN h <| dL args fun v0 a0 => dG v0 fun l0 => dE 5 l0 fun x0 => dL a0 fun v1 a1 => dC v1 fun c0 => dI .i64 c0 fun x1 => dN a1 <|
  .opt (g19 x0 x1) fun r => .val (.tup [some (true, Cod.enc 4 r.1), some (false, [.bool r.2])], [])
theorem s19_0_ok : SpecOk Go.Proofs.Try.prog 19 s19_0 :=
  q19_ok.less fun args hs r h => by
    unfold s19_0 at h
    obtain ⟨rfl, hh1⟩ := dN_inv h
    obtain ⟨v0, a0, rfl, hh2⟩ := dL_inv hh1
    obtain ⟨l0, rfl, hh3⟩ := dG_inv hh2
    obtain ⟨x0, rfl, hh4⟩ := dE_inv hh3
    obtain ⟨v1, a1, rfl, hh5⟩ := dL_inv hh4
    obtain ⟨c0, rfl, hh6⟩ := dC_inv hh5
    obtain ⟨x1, rfl, hh7⟩ := dI_inv hh6
    obtain ⟨rfl, hh8⟩ := dN_inv hh7
    rw [g19_run, Tr.ev_get?]
    change (Res.opt (g19 x0 x1) _).eval = some r at hh8
    rw [eval_opt] at hh8
    obtain ⟨z, hz, hh9⟩ := Option.bind_eq_some_iff.mp hh8
    unfold g19 at hz
    rw [hz]; exact hh9
noncomputable def s19 : Ab.Spec := fun args h => s19_0 (coeA [[none, none, none, none, none, none, none, none, none, none, none, none, none, none, none, none, some 0], []] args) h
theorem s19_ok : SpecOk Go.Proofs.Try.prog 19 s19 := s19_0_ok.pre [[none, none, none, none, none, none, none, none, none, none, none, none, none, none, none, none, some 0], []]
/-- pontage/pontageref06.Better -/
noncomputable def L18 : SL := []
noncomputable def e18 : Env := ⟨ti, fun g => lookS g L18, 1000000, [], []⟩
def g18T (x0 : S4) (x1 : S4) : Tr (Bool) :=
  .br (x0.f0 != x1.f0) (
   .leaf ((decide (x0.f0 < x1.f0)))) (
   .br (x0.f1 != x1.f1) (
    .leaf ((decide (x0.f1 < x1.f1)))) (
    .br (x0.f2 != x1.f2) (
     .leaf ((decide (x0.f2 < x1.f2)))) (
     .leaf ((decide (x0.f3 < x1.f3))))))
def g18 (x0 : S4) (x1 : S4) : Bool := (g18T x0 x1).get default
noncomputable def T18 : TL := []
noncomputable def q18 : Ab.Spec := runQ0 e18 (lookT T18) Go.Proofs.Try.f18
theorem q18_ok : SpecOk Go.Proofs.Try.prog 18 q18 := (runQ0_ok (runR_ok (e := e18) follows (allTI ti_ok _ _ _ _) (callsOk_nil) Go.Proofs.Try.func18 Go.Proofs.Try.call18) (fun c hc => by
  have hb : c = Go.Proofs.Try.f18.body.getD .skip := by rw [hc]; rfl
  subst hb
  exact tab_nil))
theorem g18_run (x0 : S4) (x1 : S4) : (q18 [.agg (Cod.enc 4 x0), .agg (Cod.enc 4 x1)] []).eval = (g18T x0 x1).ev fun r => ((.c (.bool r) : AV), ([] : List Blk)) := by kernel_rfl
noncomputable def s18 : Ab.Spec := fun args h =>
  dN h <| dL args fun v0 a0 => dG v0 fun l0 => dE 4 l0 fun x0 => dL a0 fun v1 a1 => dG v1 fun l1 => dE 4 l1 fun x1 => dN a1 <|
  let r := g18 x0 x1; .val (.c (.bool r), [])
theorem s18_ok : SpecOk Go.Proofs.Try.prog 18 s18 :=
  q18_ok.less fun args hs r h => by
    unfold s18 at h
    obtain ⟨rfl, hh1⟩ := dN_inv h
    obtain ⟨v0, a0, rfl, hh2⟩ := dL_inv hh1
    obtain ⟨l0, rfl, hh3⟩ := dG_inv hh2
    obtain ⟨x0, rfl, hh4⟩ := dE_inv hh3
    obtain ⟨v1, a1, rfl, hh5⟩ := dL_inv hh4
    obtain ⟨l1, rfl, hh6⟩ := dG_inv hh5
    obtain ⟨x1, rfl, hh7⟩ := dE_inv hh6
    obtain ⟨rfl, hh8⟩ := dN_inv hh7
    rw [g18_run, Tr.ev_get (d := default) (by kernel_rfl)]
    exact hh8
/-- pontage/pontageref12.RootOf -/
noncomputable def L12 : SL := [(17, .byVal, s17), (19, .byVal, s19), (18, .byVal, s18)]
noncomputable def e12 : Env := ⟨ti, fun g => lookS g L12, 1000000, [.drop 0, .drop 9, .drop 10, .drop 11], []⟩
structure W12_0 where
  a0 : Int
  a1 : Int
  a2 : Int
  a3 : Int
  a4 : Int
  a5 : Int
  a6 : Int
  a7 : Int
  a8 : Int
  a9 : Bool
  a10 : Int
  a11 : Int
  a12 : Int
  a13 : Int
  a14 : Int
  a15 : Int
  a16 : Int
  a17 : Int
  a18 : Int
  a19 : List S0
  a20 : S4
  a21 : S4
def hd12_0 (v : W12_0) : St := ⟨[.top, .c (.ptr 0 0), .c (.ptr 1 0), .c (.int .i64 v.a0), .c (.ptr 2 0), .c (.int .i64 v.a1), .c (.int .i64 v.a2), .top, .top, .top, .top, .top, .top, .top, .top, .top, .top, .top, .top, .top, .top, .top, .top, .top, .top, .top, .top, .top, .top, .top, .top, .top, .top, .top, .top, .top, .top, .top, .top, .top, .top, .top, .top, .top, .top, .top, .top, .top, .top, .top, .top, .top, .top, .top, .top, .top, .top, .top], [.cells [.int .u64 v.a3, .int .u8 v.a4, .int .u8 v.a5, .int .u8 v.a6, .int .u8 v.a7, .int .u8 v.a8, .bool v.a9, .int .u16 v.a10, .int .u64 v.a11, .int .u32 v.a12, .int .u64 v.a13, .int .u16 v.a14, .int .u8 v.a15, .int .u8 v.a16, .int .u8 v.a17, .int .u8 v.a18, .rs 0 v.a19], .cells [.int .u64 v.a20.f0, .int .u32 v.a20.f1, .int .u64 v.a20.f2, .int .u16 v.a20.f3], .cells [.int .u64 v.a21.f0, .int .u32 v.a21.f1, .int .u64 v.a21.f2, .int .u16 v.a21.f3]]⟩
def gR12_0 (v : W12_0) : Tr (W12_0 ⊕ (Bool × W12_0)) :=
  .br (decide (v.a2 < (v.a19.length : Int))) (
   .opt (g19 (S5.mk v.a3 v.a4 v.a5 v.a6 v.a7 v.a8 v.a9 v.a10 v.a11 v.a12 v.a13 v.a14 v.a15 v.a16 v.a17 v.a18 v.a19) v.a2) fun z15 =>
    .br (!z15.2) (
     .leaf (.inl ({ v with a2 := (IntKind.i64.wrap (v.a2 + 1)) }))) (
     let z16 := g18 z15.1 v.a21
     .br (bif (bif (!z16) then true else false) then (bif (eqS4 z15.1 v.a21) then (decide (v.a1 ≥ 0)) else false) else false) (
      .br (decide (0 ≤ v.a2)) (
       .opt (v.a19[Int.toNat v.a2]?) fun y18 =>
        .br (decide (0 ≤ v.a1)) (
         .opt (v.a19[Int.toNat v.a1]?) fun y19 =>
          .br (bif z16 then true else (decide (y18.f0 < y19.f0))) (
           .leaf (.inl ({ v with a1 := v.a2, a2 := (IntKind.i64.wrap (v.a2 + 1)), a21 := z15.1 }))) (
           .leaf (.inl ({ v with a2 := (IntKind.i64.wrap (v.a2 + 1)) })))) (
         .fail)) (
       .fail)) (
      .br (bif (bif (!z16) then true else false) then (bif (eqS4 z15.1 v.a21) then (decide (v.a1 ≥ 0)) else false) else false) (
       .fail) (
       .br (bif (bif (!z16) then true else false) then (bif (eqS4 z15.1 v.a21) then (decide (v.a1 ≥ 0)) else false) else false) (
        .fail) (
        .br (bif (bif (!z16) then true else false) then (bif (eqS4 z15.1 v.a21) then (decide (v.a1 ≥ 0)) else false) else false) (
         .br (decide (0 ≤ v.a1)) (
          .opt (v.a19[Int.toNat v.a1]?) fun y21 =>
           .fail) (
          .fail)) (
         .br (bif (bif (!z16) then true else false) then (bif (eqS4 z15.1 v.a21) then (decide (v.a1 ≥ 0)) else false) else false) (
          .fail) (
          .br (bif (bif (!z16) then true else false) then (bif (eqS4 z15.1 v.a21) then (decide (v.a1 ≥ 0)) else false) else false) (
           .fail) (
           .br (bif (bif (!z16) then true else false) then (bif (eqS4 z15.1 v.a21) then (decide (v.a1 ≥ 0)) else false) else false) (
            .fail) (
            .br (!z16) (
             .br (bif (eqS4 z15.1 v.a21) then (decide (v.a1 ≥ 0)) else false) (
              .fail) (
              .leaf (.inl ({ v with a2 := (IntKind.i64.wrap (v.a2 + 1)) })))) (
             .leaf (.inl ({ v with a1 := v.a2, a2 := (IntKind.i64.wrap (v.a2 + 1)), a21 := z15.1 })))))))))))) (
   .leaf (.inr (false, v)))
noncomputable def lb12_0 : Code := match findB 0 (Go.Proofs.Try.f12.body.getD .skip) with | [.loop b] => b | _ => .skip
def pa12_0 : List PA := [.any, .c (.ptr 0 0), .c (.ptr 1 0), .c (.int .i64), .c (.ptr 2 0), .c (.int .i64), .c (.int .i64), .top, .top, .any, .any, .any, .top, .top, .top, .top, .top, .top, .top, .top, .top, .top, .top, .top, .top, .top, .top, .top, .top, .top, .top, .top, .top, .top, .top, .top, .top, .top, .top, .top, .top, .top, .top, .top, .top, .top, .top, .top, .top, .top, .top, .top, .top, .top, .top, .top, .top, .top]
def pb12_0 : List PB := [.cells [.int .u64, .int .u8, .int .u8, .int .u8, .int .u8, .int .u8, .bool, .int .u16, .int .u64, .int .u32, .int .u64, .int .u16, .int .u8, .int .u8, .int .u8, .int .u8, .rs 0], .cells [.int .u64, .int .u32, .int .u64, .int .u16], .cells [.int .u64, .int .u32, .int .u64, .int .u16]]
def ini12_0 (s : St) : W12_0 := ⟨iC (aC (s.tmps.getD 3 .top)), iC (aC (s.tmps.getD 5 .top)), iC (aC (s.tmps.getD 6 .top)), iC ((bL (s.heap.getD 0 .dead)).getD 0 .top), iC ((bL (s.heap.getD 0 .dead)).getD 1 .top), iC ((bL (s.heap.getD 0 .dead)).getD 2 .top), iC ((bL (s.heap.getD 0 .dead)).getD 3 .top), iC ((bL (s.heap.getD 0 .dead)).getD 4 .top), iC ((bL (s.heap.getD 0 .dead)).getD 5 .top), bC ((bL (s.heap.getD 0 .dead)).getD 6 .top), iC ((bL (s.heap.getD 0 .dead)).getD 7 .top), iC ((bL (s.heap.getD 0 .dead)).getD 8 .top), iC ((bL (s.heap.getD 0 .dead)).getD 9 .top), iC ((bL (s.heap.getD 0 .dead)).getD 10 .top), iC ((bL (s.heap.getD 0 .dead)).getD 11 .top), iC ((bL (s.heap.getD 0 .dead)).getD 12 .top), iC ((bL (s.heap.getD 0 .dead)).getD 13 .top), iC ((bL (s.heap.getD 0 .dead)).getD 14 .top), iC ((bL (s.heap.getD 0 .dead)).getD 15 .top), rC 0 ((bL (s.heap.getD 0 .dead)).getD 16 .top), rd4 (bL (s.heap.getD 1 .dead)), rd4 (bL (s.heap.getD 2 .dead))⟩
noncomputable def F12_0 : St → Res (Ex × St) := loopF pa12_0 pb12_0 1000000 hd12_0 gR12_0 ini12_0 false
theorem F12_0_ok (s : St) (r : Ex × St) (h : (F12_0 s).eval = some r) : (codeR e12 0 (.block 0 (.loop lb12_0)) s).eval = some r :=
  blk_ok (e := e12) (T := lookT []) (fun s v => by kernel_rfl) (fun s => by kernel_rfl) (tab_nil) s r h
def g12T (x0 : S5) : Tr (S4 × Int) :=
  let z14 := g17 x0.f0
  .opt (iter gR12_0 1000000 (W12_0.mk (0) ((-1)) (0) (x0.f0) (x0.f1) (x0.f2) (x0.f3) (x0.f4) (x0.f5) (x0.f6) (x0.f7) (x0.f8) (x0.f9) (x0.f10) (x0.f11) (x0.f12) (x0.f13) (x0.f14) (x0.f15) (x0.f16) ((S4.mk 0 0 0 0)) (z14))) fun r22 =>
   .br r22.1 (
    .fail) (
    .leaf (r22.2.a21, r22.2.a1))
def g12 (x0 : S5) : Option (S4 × Int) := (g12T x0).get?
noncomputable def T12 : TL := [(0, F12_0)]
noncomputable def q12 : Ab.Spec := runQ0 e12 (lookT T12) Go.Proofs.Try.f12
theorem q12_ok : SpecOk Go.Proofs.Try.prog 12 q12 := (runQ0_ok (runR_ok (e := e12) follows (allTI ti_ok _ _ _ _) (callsOk_cons s17_ok (callsOk_cons s19_ok (callsOk_cons s18_ok (callsOk_nil)))) Go.Proofs.Try.func12 Go.Proofs.Try.call12) (fun c hc => by
  have hb : c = Go.Proofs.Try.f12.body.getD .skip := by rw [hc]; rfl
  subst hb
  exact tab_cons (by kernel_rfl) F12_0_ok (tab_nil)))
theorem g12_run (x0 : S5) : (q12 [.agg (Cod.enc 5 x0)] []).eval = (g12T x0).ev fun r => ((.tup [some (true, Cod.enc 4 r.1), some (false, [.int .i64 r.2])] : AV), ([] : List Blk)) := by kernel_rfl
noncomputable def s12_0 : Ab.Spec := fun args h =>
  dN h <| dL args fun v0 a0 => dG v0 fun l0 => dE 5 l0 fun x0 => dN a0 <|
  .opt (g12 x0) fun r => .val (.tup [some (true, Cod.enc 4 r.1), some (false, [.int .i64 r.2])], [])
theorem s12_0_ok : SpecOk Go.Proofs.Try.prog 12 s12_0 :=
  q12_ok.less fun args hs r h => by
    unfold s12_0 at h
    obtain ⟨rfl, hh1⟩ := dN_inv h
    obtain ⟨v0, a0, rfl, hh2⟩ := dL_inv hh1
    obtain ⟨l0, rfl, hh3⟩ := dG_inv hh2
    obtain ⟨x0, rfl, hh4⟩ := dE_inv hh3
    obtain ⟨rfl, hh5⟩ := dN_inv hh4
    rw [g12_run, Tr.ev_get?]
    change (Res.opt (g12 x0) _).eval = some r at hh5
    rw [eval_opt] at hh5
    obtain ⟨z, hz, hh6⟩ := Option.bind_eq_some_iff.mp hh5
    unfold g12 at hz
    rw [hz]; exact hh6
noncomputable def s12 : Ab.Spec := fun args h => s12_0 (coeA [[none, none, none, none, none, none, none, none, none, none, none, none, none, none, none, none, some 0]] args) h
theorem s12_ok : SpecOk Go.Proofs.Try.prog 12 s12 := s12_0_ok.pre [[none, none, none, none, none, none, none, none, none, none, none, none, none, none, none, none, some 0]]
/-- slices.Clone[[]pontage/api.Port,pontage/api.Port] -/
noncomputable def L26 : SL := []
noncomputable def e26 : Env := ⟨ti, fun g => lookS g L26, 1000000, [], []⟩
theorem s26_a : (runR e26 Go.Proofs.Try.f26 [.c (.rn true 0 [])] []).eval = some (.c .nils, []) := by kernel_rfl
theorem s26_b (L : List S0) : (runR e26 Go.Proofs.Try.f26 [.c (.rn false 0 L)] []).eval = bif L.isEmpty then some (.c .ez, []) else bif cloneB 0 248 L then some (.c (.slw 0), [.row 0 L]) else none := by
  cases L with
  | nil => kernel_rfl
  | cons x L => kernel_rfl
noncomputable def s26 : Ab.Spec := fun args h => cloneS 0 248 (coeA [[some 0]] args) h
theorem s26_ok : SpecOk Go.Proofs.Try.prog 26 s26 := (clone_ok (e := e26) (c := 0) (bytes := 248) (runR_ok (e := e26) follows (allTI ti_ok _ _ _ _) (callsOk_nil) Go.Proofs.Try.func26 Go.Proofs.Try.call26) s26_a s26_b).pre [[some 0]]
/-- pontage/vector.Older -/
noncomputable def L27 : SL := []
noncomputable def e27 : Env := ⟨ti, fun g => lookS g L27, 1000000, [], []⟩
def g27T (x0 : S3) : Tr (S3) :=
  .br (decide (x0.f0 < 255)) (
   .leaf ({ x0 with f0 := (IntKind.u8.wrap (x0.f0 + 1)) })) (
   .leaf (x0))
def g27 (x0 : S3) : S3 := (g27T x0).get default
noncomputable def T27 : TL := []
noncomputable def q27 : Ab.Spec := runQ0 e27 (lookT T27) Go.Proofs.Try.f27
theorem q27_ok : SpecOk Go.Proofs.Try.prog 27 q27 := (runQ0_ok (runR_ok (e := e27) follows (allTI ti_ok _ _ _ _) (callsOk_nil) Go.Proofs.Try.func27 Go.Proofs.Try.call27) (fun c hc => by
  have hb : c = Go.Proofs.Try.f27.body.getD .skip := by rw [hc]; rfl
  subst hb
  exact tab_nil))
theorem g27_run (x0 : S3) : (q27 [.agg (Cod.enc 3 x0)] []).eval = (g27T x0).ev fun r => ((.agg (Cod.enc 3 r) : AV), ([] : List Blk)) := by kernel_rfl
noncomputable def s27 : Ab.Spec := fun args h =>
  dN h <| dL args fun v0 a0 => dG v0 fun l0 => dE 3 l0 fun x0 => dN a0 <|
  let r := g27 x0; .val (.agg (Cod.enc 3 r), [])
theorem s27_ok : SpecOk Go.Proofs.Try.prog 27 s27 :=
  q27_ok.less fun args hs r h => by
    unfold s27 at h
    obtain ⟨rfl, hh1⟩ := dN_inv h
    obtain ⟨v0, a0, rfl, hh2⟩ := dL_inv hh1
    obtain ⟨l0, rfl, hh3⟩ := dG_inv hh2
    obtain ⟨x0, rfl, hh4⟩ := dE_inv hh3
    obtain ⟨rfl, hh5⟩ := dN_inv hh4
    rw [g27_run, Tr.ev_get (d := default) (by kernel_rfl)]
    exact hh5
/-- pontage/vector.Better -/
noncomputable def L36 : SL := [(25, .byVal, s25)]
noncomputable def e36 : Env := ⟨ti, fun g => lookS g L36, 1000000, [], []⟩
def g36T (x0 : S4) (x1 : S4) : Tr (Bool) :=
  let z23 := g25 x0 x1
  .leaf ((decide (z23 < 0)))
def g36 (x0 : S4) (x1 : S4) : Bool := (g36T x0 x1).get default
noncomputable def T36 : TL := []
noncomputable def q36 : Ab.Spec := runQ0 e36 (lookT T36) Go.Proofs.Try.f36
theorem q36_ok : SpecOk Go.Proofs.Try.prog 36 q36 := (runQ0_ok (runR_ok (e := e36) follows (allTI ti_ok _ _ _ _) (callsOk_cons s25_ok (callsOk_nil)) Go.Proofs.Try.func36 Go.Proofs.Try.call36) (fun c hc => by
  have hb : c = Go.Proofs.Try.f36.body.getD .skip := by rw [hc]; rfl
  subst hb
  exact tab_nil))
theorem g36_run (x0 : S4) (x1 : S4) : (q36 [.agg (Cod.enc 4 x0), .agg (Cod.enc 4 x1)] []).eval = (g36T x0 x1).ev fun r => ((.c (.bool r) : AV), ([] : List Blk)) := by kernel_rfl
noncomputable def s36 : Ab.Spec := fun args h =>
  dN h <| dL args fun v0 a0 => dG v0 fun l0 => dE 4 l0 fun x0 => dL a0 fun v1 a1 => dG v1 fun l1 => dE 4 l1 fun x1 => dN a1 <|
  let r := g36 x0 x1; .val (.c (.bool r), [])
theorem s36_ok : SpecOk Go.Proofs.Try.prog 36 s36 :=
  q36_ok.less fun args hs r h => by
    unfold s36 at h
    obtain ⟨rfl, hh1⟩ := dN_inv h
    obtain ⟨v0, a0, rfl, hh2⟩ := dL_inv hh1
    obtain ⟨l0, rfl, hh3⟩ := dG_inv hh2
    obtain ⟨x0, rfl, hh4⟩ := dE_inv hh3
    obtain ⟨v1, a1, rfl, hh5⟩ := dL_inv hh4
    obtain ⟨l1, rfl, hh6⟩ := dG_inv hh5
    obtain ⟨x1, rfl, hh7⟩ := dE_inv hh6
    obtain ⟨rfl, hh8⟩ := dN_inv hh7
    rw [g36_run, Tr.ev_get (d := default) (by kernel_rfl)]
    exact hh8
/-- pontage/roles.wanted -/
noncomputable def L28 : SL := [(36, .byVal, s36), (23, .byVal, s23)]
noncomputable def e28 : Env := ⟨ti, fun g => lookS g L28, 1000000, [], []⟩
def g28T (x0 : S5) (x1 : S0) (x2 : Bool) : Tr (S0) :=
  .br (x1.f29 == 1) (
   .leaf ({ x1 with f28 := true, f31 := 4 })) (
   .br (x1.f29 == 2) (
    .leaf ({ x1 with f28 := (bif (bif x1.f28 then true else (!(eqS4 (S4.mk x1.f36 x1.f37 x1.f38 x1.f39) (S4.mk x1.f32 x1.f33 x1.f34 x1.f35)))) then true else (!(eqS3 (S3.mk x1.f44 x1.f45 x1.f46 x1.f47) (S3.mk x1.f40 x1.f41 x1.f42 x1.f43)))), f31 := 4 })) (
    .br (x1.f29 == 3) (
     .br x2 (
      .leaf ({ x1 with f28 := false, f31 := 3 })) (
      let z24 := g36 (S4.mk x1.f32 x1.f33 x1.f34 x1.f35) (S4.mk x1.f36 x1.f37 x1.f38 x1.f39)
      .br z24 (
       .leaf ({ x1 with f28 := true, f31 := 4 })) (
       let z25 := g23 x0 x1.f38
       .br z25 (
        .leaf ({ x1 with f28 := false, f31 := 2 })) (
        .leaf ({ x1 with f28 := false, f31 := 1 }))))) (
     .leaf ({ x1 with f31 := 0 }))))
def g28 (x0 : S5) (x1 : S0) (x2 : Bool) : S0 := (g28T x0 x1 x2).get default
noncomputable def T28 : TL := []
noncomputable def q28 : Ab.Spec := runQ0 e28 (lookT T28) Go.Proofs.Try.f28
theorem q28_ok : SpecOk Go.Proofs.Try.prog 28 q28 := (runQ0_ok (runR_ok (e := e28) follows (allTI ti_ok _ _ _ _) (callsOk_cons s36_ok (callsOk_cons s23_ok (callsOk_nil))) Go.Proofs.Try.func28 Go.Proofs.Try.call28) (fun c hc => by
  have hb : c = Go.Proofs.Try.f28.body.getD .skip := by rw [hc]; rfl
  subst hb
  exact tab_nil))
theorem g28_run (x0 : S5) (x1 : S0) (x2 : Bool) : (q28 [.agg (Cod.enc 5 x0), .agg (Cod.enc 0 x1), .c (.bool x2)] []).eval = (g28T x0 x1 x2).ev fun r => ((.agg (Cod.enc 0 r) : AV), ([] : List Blk)) := by kernel_rfl
noncomputable def s28_0 : Ab.Spec := fun args h =>
  dN h <| dL args fun v0 a0 => dG v0 fun l0 => dE 5 l0 fun x0 => dL a0 fun v1 a1 => dG v1 fun l1 => dE 0 l1 fun x1 => dL a1 fun v2 a2 => dC v2 fun c0 => dB c0 fun x2 => dN a2 <|
  let r := g28 x0 x1 x2; .val (.agg (Cod.enc 0 r), [])
theorem s28_0_ok : SpecOk Go.Proofs.Try.prog 28 s28_0 :=
  q28_ok.less fun args hs r h => by
    unfold s28_0 at h
    obtain ⟨rfl, hh1⟩ := dN_inv h
    obtain ⟨v0, a0, rfl, hh2⟩ := dL_inv hh1
    obtain ⟨l0, rfl, hh3⟩ := dG_inv hh2
    obtain ⟨x0, rfl, hh4⟩ := dE_inv hh3
    obtain ⟨v1, a1, rfl, hh5⟩ := dL_inv hh4
    obtain ⟨l1, rfl, hh6⟩ := dG_inv hh5
    obtain ⟨x1, rfl, hh7⟩ := dE_inv hh6
    obtain ⟨v2, a2, rfl, hh8⟩ := dL_inv hh7
    obtain ⟨c0, rfl, hh9⟩ := dC_inv hh8
    obtain ⟨x2, rfl, hh10⟩ := dB_inv hh9
    obtain ⟨rfl, hh11⟩ := dN_inv hh10
    rw [g28_run, Tr.ev_get (d := default) (by kernel_rfl)]
    exact hh11
noncomputable def s28 : Ab.Spec := fun args h => s28_0 (coeA [[none, none, none, none, none, none, none, none, none, none, none, none, none, none, none, none, some 0], [], []] args) h
theorem s28_ok : SpecOk Go.Proofs.Try.prog 28 s28 := s28_0_ok.pre [[none, none, none, none, none, none, none, none, none, none, none, none, none, none, none, none, some 0], [], []]
/-- pontage/roles.Select -/
noncomputable def L15 : SL := [(26, .byNew, s26), (11, .byVal, s11), (27, .byVal, s27), (28, .byVal, s28)]
noncomputable def e15 : Env := ⟨ti, fun g => lookS g L15, 1000000, [.drop 0, .drop 7, .drop 8, .drop 9, .drop 10, .drop 11, .drop 12, .drop 13, .drop 14, .drop 15, .drop 16, .drop 17, .drop 18, .drop 19, .drop 20, .drop 21, .drop 22, .drop 23, .drop 24, .drop 25, .drop 26, .drop 27, .drop 28, .drop 29, .drop 30, .drop 31, .drop 32, .drop 33, .drop 34, .drop 35, .drop 36, .drop 37, .drop 38, .drop 39], []⟩
structure W15_0 where
  a0 : Int
  a1 : Int
  a2 : Int
  a3 : Int
  a4 : Int
  a5 : Int
  a6 : Int
  a7 : Int
  a8 : Int
  a9 : Bool
  a10 : Int
  a11 : Int
  a12 : Int
  a13 : Int
  a14 : Int
  a15 : Int
  a16 : Int
  a17 : Int
  a18 : Int
  a19 : Int
  a20 : Int
  a21 : Int
  a22 : Int
  a23 : Int
  a24 : Int
  a25 : Bool
  a26 : Int
  a27 : Int
  a28 : Int
  a29 : Int
  a30 : Int
  a31 : Int
  a32 : Int
  a33 : Int
  a34 : Int
  a35 : S4
  a36 : List S0
def hd15_0 (v : W15_0) : St := ⟨[.top, .c (.ptr 0 0), .c (.ptr 1 0), .c (.ptr 2 0), .c (.int .i64 v.a0), .top, .top, .top, .top, .top, .top, .top, .top, .top, .top, .top, .top, .top, .top, .top, .top, .top, .top, .top, .top, .top, .top, .top, .top, .top, .top, .top, .top, .top, .top, .top, .top, .top, .top, .top, .c (.slw 3), .c (.int .i64 v.a1), .c (.int .i64 v.a2), .top, .top, .top, .top, .top, .top, .top, .top, .top, .top, .top, .top, .top, .top, .top, .top, .top, .top, .top, .top, .top, .top, .top, .top, .top, .top, .top, .top, .top, .top, .top, .top, .top, .top, .top, .top], [.cells [.int .u64 v.a3, .int .u8 v.a4, .int .u8 v.a5, .int .u8 v.a6, .int .u8 v.a7, .int .u8 v.a8, .bool v.a9, .int .u16 v.a10, .int .u64 v.a11, .int .u32 v.a12, .int .u64 v.a13, .int .u16 v.a14, .int .u8 v.a15, .int .u8 v.a16, .int .u8 v.a17, .int .u8 v.a18, .slw 3], .cells [.int .u64 v.a19, .int .u8 v.a20, .int .u8 v.a21, .int .u8 v.a22, .int .u8 v.a23, .int .u8 v.a24, .bool v.a25, .int .u16 v.a26, .int .u64 v.a27, .int .u32 v.a28, .int .u64 v.a29, .int .u16 v.a30, .int .u8 v.a31, .int .u8 v.a32, .int .u8 v.a33, .int .u8 v.a34, .nils], .cells [.int .u64 v.a35.f0, .int .u32 v.a35.f1, .int .u64 v.a35.f2, .int .u16 v.a35.f3], .row 0 v.a36]⟩
def gR15_0 (v : W15_0) : Tr (W15_0 ⊕ (Bool × W15_0)) :=
  .br (decide (v.a2 < v.a1)) (
   .br (decide (0 ≤ v.a2) && decide (v.a2 < (v.a36.length : Int))) (
    .opt (v.a36[(Int.toNat v.a2)]?) fun y31 =>
     let z32 := g28 (S5.mk v.a3 v.a4 v.a5 v.a6 v.a7 v.a8 v.a9 v.a10 v.a11 v.a12 v.a13 v.a14 v.a15 v.a16 v.a17 v.a18 v.a36) { y31 with f21 := false, f22 := true, f32 := v.a35.f0, f33 := v.a35.f1, f34 := v.a3, f35 := y31.f0, f40 := v.a15, f41 := v.a16, f42 := v.a6, f43 := v.a18 } (v.a2 == v.a0)
     .br (decide (0 ≤ v.a2) && decide (v.a2 < (v.a36.length : Int))) (
      .opt (v.a36[(Int.toNat v.a2)]?) fun y33 =>
       .leaf (.inl ({ v with a2 := (IntKind.i64.wrap (v.a2 + 1)), a36 := (List.set v.a36 (Int.toNat v.a2) z32) }))) (
      .fail)) (
    .fail)) (
   .leaf (.inr (false, v)))
noncomputable def lb15_0 : Code := match findB 0 (Go.Proofs.Try.f15.body.getD .skip) with | [.loop b] => b | _ => .skip
def pa15_0 : List PA := [.any, .c (.ptr 0 0), .c (.ptr 1 0), .c (.ptr 3 0), .c (.int .i64), .top, .top, .any, .any, .any, .any, .any, .any, .any, .any, .any, .any, .any, .any, .any, .any, .any, .any, .any, .any, .any, .any, .any, .any, .any, .any, .any, .any, .any, .any, .any, .any, .any, .any, .any, .c (.slw 2), .c (.int .i64), .c (.int .i64), .top, .top, .top, .top, .top, .top, .top, .top, .top, .top, .top, .top, .top, .top, .top, .top, .top, .top, .top, .top, .top, .top, .top, .top, .top, .top, .top, .top, .top, .top, .top, .top, .top, .top, .top, .top]
def pb15_0 : List PB := [.cells [.int .u64, .int .u8, .int .u8, .int .u8, .int .u8, .int .u8, .bool, .int .u16, .int .u64, .int .u32, .int .u64, .int .u16, .int .u8, .int .u8, .int .u8, .int .u8, .slw 2], .cells [.int .u64, .int .u8, .int .u8, .int .u8, .int .u8, .int .u8, .bool, .int .u16, .int .u64, .int .u32, .int .u64, .int .u16, .int .u8, .int .u8, .int .u8, .int .u8, .nils], .row 0, .cells [.int .u64, .int .u32, .int .u64, .int .u16]]
def ini15_0 (s : St) : W15_0 := ⟨iC (aC (s.tmps.getD 4 .top)), iC (aC (s.tmps.getD 41 .top)), iC (aC (s.tmps.getD 42 .top)), iC ((bL (s.heap.getD 0 .dead)).getD 0 .top), iC ((bL (s.heap.getD 0 .dead)).getD 1 .top), iC ((bL (s.heap.getD 0 .dead)).getD 2 .top), iC ((bL (s.heap.getD 0 .dead)).getD 3 .top), iC ((bL (s.heap.getD 0 .dead)).getD 4 .top), iC ((bL (s.heap.getD 0 .dead)).getD 5 .top), bC ((bL (s.heap.getD 0 .dead)).getD 6 .top), iC ((bL (s.heap.getD 0 .dead)).getD 7 .top), iC ((bL (s.heap.getD 0 .dead)).getD 8 .top), iC ((bL (s.heap.getD 0 .dead)).getD 9 .top), iC ((bL (s.heap.getD 0 .dead)).getD 10 .top), iC ((bL (s.heap.getD 0 .dead)).getD 11 .top), iC ((bL (s.heap.getD 0 .dead)).getD 12 .top), iC ((bL (s.heap.getD 0 .dead)).getD 13 .top), iC ((bL (s.heap.getD 0 .dead)).getD 14 .top), iC ((bL (s.heap.getD 0 .dead)).getD 15 .top), iC ((bL (s.heap.getD 1 .dead)).getD 0 .top), iC ((bL (s.heap.getD 1 .dead)).getD 1 .top), iC ((bL (s.heap.getD 1 .dead)).getD 2 .top), iC ((bL (s.heap.getD 1 .dead)).getD 3 .top), iC ((bL (s.heap.getD 1 .dead)).getD 4 .top), iC ((bL (s.heap.getD 1 .dead)).getD 5 .top), bC ((bL (s.heap.getD 1 .dead)).getD 6 .top), iC ((bL (s.heap.getD 1 .dead)).getD 7 .top), iC ((bL (s.heap.getD 1 .dead)).getD 8 .top), iC ((bL (s.heap.getD 1 .dead)).getD 9 .top), iC ((bL (s.heap.getD 1 .dead)).getD 10 .top), iC ((bL (s.heap.getD 1 .dead)).getD 11 .top), iC ((bL (s.heap.getD 1 .dead)).getD 12 .top), iC ((bL (s.heap.getD 1 .dead)).getD 13 .top), iC ((bL (s.heap.getD 1 .dead)).getD 14 .top), iC ((bL (s.heap.getD 1 .dead)).getD 15 .top), rd4 (bL (s.heap.getD 3 .dead)), bR 0 (s.heap.getD 2 .dead)⟩
noncomputable def F15_0 : St → Res (Ex × St) := loopF pa15_0 pb15_0 1000000 hd15_0 gR15_0 ini15_0 false
theorem F15_0_ok (s : St) (r : Ex × St) (h : (F15_0 s).eval = some r) : (codeR e15 0 (.block 0 (.loop lb15_0)) s).eval = some r :=
  blk_ok (e := e15) (T := lookT []) (fun s v => by kernel_rfl) (fun s => by kernel_rfl) (tab_nil) s r h
def g15T (x0 : S5) : Tr (S5) :=
  .br (x0.f16.isEmpty || cloneB 0 248 x0.f16) (
   .opt (g11 x0) fun z27 =>
    .br (decide (z27.2 ≥ 0)) (
     .br (decide (0 ≤ z27.2) && decide (z27.2 < (x0.f16.length : Int))) (
      .opt (x0.f16[(Int.toNat z27.2)]?) fun y28 =>
       .br (decide (0 ≤ z27.2) && decide (z27.2 < (x0.f16.length : Int))) (
        .opt (x0.f16[(Int.toNat z27.2)]?) fun y29 =>
         let z30 := g27 (S3.mk y29.f44 y29.f45 y29.f46 y29.f47)
         .opt (iter gR15_0 1000000 (W15_0.mk (z27.2) ((x0.f16.length : Int)) (0) (x0.f0) (x0.f1) (x0.f2) (x0.f3) (x0.f4) (x0.f5) (x0.f6) (y28.f0) (z27.1.f0) (z27.1.f1) (z27.1.f2) (z27.1.f3) (z30.f0) (z30.f1) (z30.f2) (z30.f3) (0) (0) (0) (0) (0) (0) (false) (0) (0) (0) (0) (0) (0) (0) (0) (0) (z27.1) (x0.f16))) fun r34 =>
          .br r34.1 (
           .fail) (
           .leaf ((S5.mk r34.2.a3 r34.2.a4 r34.2.a5 r34.2.a6 r34.2.a7 r34.2.a8 r34.2.a9 r34.2.a10 r34.2.a11 r34.2.a12 r34.2.a13 r34.2.a14 r34.2.a15 r34.2.a16 r34.2.a17 r34.2.a18 r34.2.a36)))) (
        .fail)) (
      .fail)) (
     .opt (iter gR15_0 1000000 (W15_0.mk (z27.2) ((x0.f16.length : Int)) (0) (x0.f0) (x0.f1) (x0.f2) (x0.f3) (x0.f4) (x0.f5) (x0.f6) (0) (z27.1.f0) (z27.1.f1) (z27.1.f2) (z27.1.f3) (x0.f1) (x0.f2) (x0.f3) (x0.f4) (0) (0) (0) (0) (0) (0) (false) (0) (0) (0) (0) (0) (0) (0) (0) (0) (z27.1) (x0.f16))) fun r35 =>
      .br r35.1 (
       .fail) (
       .leaf ((S5.mk r35.2.a3 r35.2.a4 r35.2.a5 r35.2.a6 r35.2.a7 r35.2.a8 r35.2.a9 r35.2.a10 r35.2.a11 r35.2.a12 r35.2.a13 r35.2.a14 r35.2.a15 r35.2.a16 r35.2.a17 r35.2.a18 r35.2.a36))))) (
   .fail)
def g15 (x0 : S5) : Option (S5) := (g15T x0).get?
noncomputable def T15 : TL := [(0, F15_0)]
noncomputable def q15 : Ab.Spec := frzR [[none, none, none, none, none, none, none, none, none, none, none, none, none, none, none, none, some 0]] (runQ0 e15 (lookT T15) Go.Proofs.Try.f15)
theorem q15_ok : SpecOk Go.Proofs.Try.prog 15 q15 := (runQ0_ok (runR_ok (e := e15) follows (allTI ti_ok _ _ _ _) (callsOk_cons s26_ok (callsOk_cons s11_ok (callsOk_cons s27_ok (callsOk_cons s28_ok (callsOk_nil))))) Go.Proofs.Try.func15 Go.Proofs.Try.call15) (fun c hc => by
  have hb : c = Go.Proofs.Try.f15.body.getD .skip := by rw [hc]; rfl
  subst hb
  exact tab_cons (by kernel_rfl) F15_0_ok (tab_nil))).froze [[none, none, none, none, none, none, none, none, none, none, none, none, none, none, none, none, some 0]]
theorem g15_run (x0 : S5) : (q15 [.agg (Cod.enc 5 x0)] []).eval = (g15T x0).ev fun r => ((.agg (Cod.enc 5 r) : AV), ([] : List Blk)) := by kernel_rfl
noncomputable def s15_0 : Ab.Spec := fun args h =>
  dN h <| dL args fun v0 a0 => dG v0 fun l0 => dE 5 l0 fun x0 => dN a0 <|
  .opt (g15 x0) fun r => .val (.agg (Cod.enc 5 r), [])
theorem s15_0_ok : SpecOk Go.Proofs.Try.prog 15 s15_0 :=
  q15_ok.less fun args hs r h => by
    unfold s15_0 at h
    obtain ⟨rfl, hh1⟩ := dN_inv h
    obtain ⟨v0, a0, rfl, hh2⟩ := dL_inv hh1
    obtain ⟨l0, rfl, hh3⟩ := dG_inv hh2
    obtain ⟨x0, rfl, hh4⟩ := dE_inv hh3
    obtain ⟨rfl, hh5⟩ := dN_inv hh4
    rw [g15_run, Tr.ev_get?]
    change (Res.opt (g15 x0) _).eval = some r at hh5
    rw [eval_opt] at hh5
    obtain ⟨z, hz, hh6⟩ := Option.bind_eq_some_iff.mp hh5
    unfold g15 at hz
    rw [hz]; exact hh6
noncomputable def s15 : Ab.Spec := fun args h => s15_0 (coeA [[none, none, none, none, none, none, none, none, none, none, none, none, none, none, none, none, some 0]] args) h
theorem s15_ok : SpecOk Go.Proofs.Try.prog 15 s15 := s15_0_ok.pre [[none, none, none, none, none, none, none, none, none, none, none, none, none, none, none, none, some 0]]
/-- pontage/pontagelaw12.awake -/
noncomputable def L13 : SL := [(15, .byNew, s15)]
noncomputable def e13 : Env := ⟨ti, fun g => lookS g L13, 1000000, [], []⟩
def g13T  : Tr (Bool) :=
  .opt (g15 (S5.mk 5 0 0 0 0 0 false 0 0 0 0 0 0 0 0 0 [(S0.mk 32769 10 false false false false false false false false false false false false false false false false false false false false false false false false false false false 3 0 0 0 0 0 0 3 0 3 32769 0 0 0 0 0 0 0 0 0 false false false false false false 0 0 0 0 0 0 0 0 0 0 0 0 0 0 0 0 0 0 0 0 0 0)])) fun z36 =>
   .br (bif (bif (eqS4 (S4.mk z36.f8 z36.f9 z36.f10 z36.f11) (S4.mk 3 10 3 32769)) then (z36.f7 == 32769) else false) then ((z36.f16.length : Int) == 1) else false) (
    .opt (z36.f16[0]?) fun y38 =>
     .br (y38.f31 == 3) (
      .opt (z36.f16[0]?) fun y40 =>
       .leaf (y40.f22)) (
      .leaf (false))) (
    .leaf (false))
def g13  : Option (Bool) := (g13T ).get?
noncomputable def T13 : TL := []
noncomputable def q13 : Ab.Spec := runQ0 e13 (lookT T13) Go.Proofs.Try.f13
theorem q13_ok : SpecOk Go.Proofs.Try.prog 13 q13 := (runQ0_ok (runR_ok (e := e13) follows (allTI ti_ok _ _ _ _) (callsOk_cons s15_ok (callsOk_nil)) Go.Proofs.Try.func13 Go.Proofs.Try.call13) (fun c hc => by
  have hb : c = Go.Proofs.Try.f13.body.getD .skip := by rw [hc]; rfl
  subst hb
  exact tab_nil))
theorem g13_run  : (q13 [] []).eval = (g13T ).ev fun r => ((.c (.bool r) : AV), ([] : List Blk)) := by kernel_rfl
noncomputable def s13 : Ab.Spec := fun args h =>
  dN h <| dN args <|
  .opt (g13) fun r => .val (.c (.bool r), [])
theorem s13_ok : SpecOk Go.Proofs.Try.prog 13 s13 :=
  q13_ok.less fun args hs r h => by
    unfold s13 at h
    obtain ⟨rfl, hh1⟩ := dN_inv h
    obtain ⟨rfl, hh2⟩ := dN_inv hh1
    rw [g13_run, Tr.ev_get?]
    change (Res.opt (g13) _).eval = some r at hh2
    rw [eval_opt] at hh2
    obtain ⟨z, hz, hh3⟩ := Option.bind_eq_some_iff.mp hh2
    unfold g13 at hz
    rw [hz]; exact hh3
/-- pontage/pontagelaw12.RolesRoots -/
noncomputable def L3 : SL := [(10, .byNew, s10), (11, .byVal, s11), (12, .byVal, s12), (13, .byVal, s13)]
noncomputable def e3 : Env := ⟨ti, fun g => lookS g L3, 1000000, [], []⟩
def g3T (x0 : S5) : Tr (Bool) :=
  .opt (g10 x0) fun z42 =>
   .opt (g11 z42) fun z43 =>
    .opt (g12 z42) fun z44 =>
     .br (bif (eqS4 z43.1 z44.1) then (z43.2 == z44.2) else false) (
      .opt (g13 ) fun z46 =>
       .leaf (z46)) (
      .leaf (false))
def g3 (x0 : S5) : Option (Bool) := (g3T x0).get?
noncomputable def T3 : TL := []
noncomputable def q3 : Ab.Spec := runQ0 e3 (lookT T3) Go.Proofs.Try.f3
theorem q3_ok : SpecOk Go.Proofs.Try.prog 3 q3 := (runQ0_ok (runR_ok (e := e3) follows (allTI ti_ok _ _ _ _) (callsOk_cons s10_ok (callsOk_cons s11_ok (callsOk_cons s12_ok (callsOk_cons s13_ok (callsOk_nil))))) Go.Proofs.Try.func3 Go.Proofs.Try.call3) (fun c hc => by
  have hb : c = Go.Proofs.Try.f3.body.getD .skip := by rw [hc]; rfl
  subst hb
  exact tab_nil))
theorem g3_run (x0 : S5) : (q3 [.agg (Cod.enc 5 x0)] []).eval = (g3T x0).ev fun r => ((.c (.bool r) : AV), ([] : List Blk)) := by kernel_rfl
noncomputable def s3_0 : Ab.Spec := fun args h =>
  dN h <| dL args fun v0 a0 => dG v0 fun l0 => dE 5 l0 fun x0 => dN a0 <|
  .opt (g3 x0) fun r => .val (.c (.bool r), [])
theorem s3_0_ok : SpecOk Go.Proofs.Try.prog 3 s3_0 :=
  q3_ok.less fun args hs r h => by
    unfold s3_0 at h
    obtain ⟨rfl, hh1⟩ := dN_inv h
    obtain ⟨v0, a0, rfl, hh2⟩ := dL_inv hh1
    obtain ⟨l0, rfl, hh3⟩ := dG_inv hh2
    obtain ⟨x0, rfl, hh4⟩ := dE_inv hh3
    obtain ⟨rfl, hh5⟩ := dN_inv hh4
    rw [g3_run, Tr.ev_get?]
    change (Res.opt (g3 x0) _).eval = some r at hh5
    rw [eval_opt] at hh5
    obtain ⟨z, hz, hh6⟩ := Option.bind_eq_some_iff.mp hh5
    unfold g3 at hz
    rw [hz]; exact hh6
noncomputable def s3 : Ab.Spec := fun args h => s3_0 (coeA [[none, none, none, none, none, none, none, none, none, none, none, none, none, none, none, none, some 0]] args) h
theorem s3_ok : SpecOk Go.Proofs.Try.prog 3 s3 := s3_0_ok.pre [[none, none, none, none, none, none, none, none, none, none, none, none, none, none, none, none, some 0]]
/-- pontage/pontageref06.Older -/
noncomputable def L29 : SL := []
noncomputable def e29 : Env := ⟨ti, fun g => lookS g L29, 1000000, [], []⟩
def g29T (x0 : S3) : Tr (S3) :=
  .br (decide (x0.f0 < 255)) (
   .leaf ({ x0 with f0 := (IntKind.u8.wrap (x0.f0 + 1)) })) (
   .leaf (x0))
def g29 (x0 : S3) : S3 := (g29T x0).get default
noncomputable def T29 : TL := []
noncomputable def q29 : Ab.Spec := runQ0 e29 (lookT T29) Go.Proofs.Try.f29
theorem q29_ok : SpecOk Go.Proofs.Try.prog 29 q29 := (runQ0_ok (runR_ok (e := e29) follows (allTI ti_ok _ _ _ _) (callsOk_nil) Go.Proofs.Try.func29 Go.Proofs.Try.call29) (fun c hc => by
  have hb : c = Go.Proofs.Try.f29.body.getD .skip := by rw [hc]; rfl
  subst hb
  exact tab_nil))
theorem g29_run (x0 : S3) : (q29 [.agg (Cod.enc 3 x0)] []).eval = (g29T x0).ev fun r => ((.agg (Cod.enc 3 r) : AV), ([] : List Blk)) := by kernel_rfl
noncomputable def s29 : Ab.Spec := fun args h =>
  dN h <| dL args fun v0 a0 => dG v0 fun l0 => dE 3 l0 fun x0 => dN a0 <|
  let r := g29 x0; .val (.agg (Cod.enc 3 r), [])
theorem s29_ok : SpecOk Go.Proofs.Try.prog 29 s29 :=
  q29_ok.less fun args hs r h => by
    unfold s29 at h
    obtain ⟨rfl, hh1⟩ := dN_inv h
    obtain ⟨v0, a0, rfl, hh2⟩ := dL_inv hh1
    obtain ⟨l0, rfl, hh3⟩ := dG_inv hh2
    obtain ⟨x0, rfl, hh4⟩ := dE_inv hh3
    obtain ⟨rfl, hh5⟩ := dN_inv hh4
    rw [g29_run, Tr.ev_get (d := default) (by kernel_rfl)]
    exact hh5
/-- pontage/pontageref12.wanted -/
noncomputable def L30 : SL := [(18, .byVal, s18), (31, .byVal, s31)]
noncomputable def e30 : Env := ⟨ti, fun g => lookS g L30, 1000000, [], []⟩
def g30T (x0 : S5) (x1 : S0) (x2 : Bool) : Tr (S0) :=
  .br (x1.f29 == 1) (
   .leaf ({ x1 with f28 := true, f31 := 4 })) (
   .br (x1.f29 == 2) (
    .br (bif (!(eqS4 (S4.mk x1.f36 x1.f37 x1.f38 x1.f39) (S4.mk x1.f32 x1.f33 x1.f34 x1.f35))) then true else (!(eqS3 (S3.mk x1.f44 x1.f45 x1.f46 x1.f47) (S3.mk x1.f40 x1.f41 x1.f42 x1.f43)))) (
     .leaf ({ x1 with f28 := true, f31 := 4 })) (
     .leaf ({ x1 with f31 := 4 }))) (
    .br (x1.f29 == 3) (
     let z47 := g18 (S4.mk x1.f32 x1.f33 x1.f34 x1.f35) (S4.mk x1.f36 x1.f37 x1.f38 x1.f39)
     .br x2 (
      .leaf ({ x1 with f28 := (bif (!x2) then z47 else false), f31 := 3 })) (
      .br (bif (!x2) then z47 else false) (
       .leaf ({ x1 with f28 := (bif (!x2) then z47 else false), f31 := 4 })) (
       let z48 := g31 x1.f38 x0.f0
       .br z48 (
        .leaf ({ x1 with f28 := (bif (!x2) then z47 else false), f31 := 2 })) (
        .leaf ({ x1 with f28 := (bif (!x2) then z47 else false), f31 := 1 }))))) (
     .leaf ({ x1 with f31 := 0 }))))
def g30 (x0 : S5) (x1 : S0) (x2 : Bool) : S0 := (g30T x0 x1 x2).get default
noncomputable def T30 : TL := []
noncomputable def q30 : Ab.Spec := runQ0 e30 (lookT T30) Go.Proofs.Try.f30
theorem q30_ok : SpecOk Go.Proofs.Try.prog 30 q30 := (runQ0_ok (runR_ok (e := e30) follows (allTI ti_ok _ _ _ _) (callsOk_cons s18_ok (callsOk_cons s31_ok (callsOk_nil))) Go.Proofs.Try.func30 Go.Proofs.Try.call30) (fun c hc => by
  have hb : c = Go.Proofs.Try.f30.body.getD .skip := by rw [hc]; rfl
  subst hb
  exact tab_nil))
theorem g30_run (x0 : S5) (x1 : S0) (x2 : Bool) : (q30 [.agg (Cod.enc 5 x0), .agg (Cod.enc 0 x1), .c (.bool x2)] []).eval = (g30T x0 x1 x2).ev fun r => ((.agg (Cod.enc 0 r) : AV), ([] : List Blk)) := by kernel_rfl
noncomputable def s30_0 : Ab.Spec := fun args h =>
  dN h <| dL args fun v0 a0 => dG v0 fun l0 => dE 5 l0 fun x0 => dL a0 fun v1 a1 => dG v1 fun l1 => dE 0 l1 fun x1 => dL a1 fun v2 a2 => dC v2 fun c0 => dB c0 fun x2 => dN a2 <|
  let r := g30 x0 x1 x2; .val (.agg (Cod.enc 0 r), [])
theorem s30_0_ok : SpecOk Go.Proofs.Try.prog 30 s30_0 :=
  q30_ok.less fun args hs r h => by
    unfold s30_0 at h
    obtain ⟨rfl, hh1⟩ := dN_inv h
    obtain ⟨v0, a0, rfl, hh2⟩ := dL_inv hh1
    obtain ⟨l0, rfl, hh3⟩ := dG_inv hh2
    obtain ⟨x0, rfl, hh4⟩ := dE_inv hh3
    obtain ⟨v1, a1, rfl, hh5⟩ := dL_inv hh4
    obtain ⟨l1, rfl, hh6⟩ := dG_inv hh5
    obtain ⟨x1, rfl, hh7⟩ := dE_inv hh6
    obtain ⟨v2, a2, rfl, hh8⟩ := dL_inv hh7
    obtain ⟨c0, rfl, hh9⟩ := dC_inv hh8
    obtain ⟨x2, rfl, hh10⟩ := dB_inv hh9
    obtain ⟨rfl, hh11⟩ := dN_inv hh10
    rw [g30_run, Tr.ev_get (d := default) (by kernel_rfl)]
    exact hh11
noncomputable def s30 : Ab.Spec := fun args h => s30_0 (coeA [[none, none, none, none, none, none, none, none, none, none, none, none, none, none, none, none, some 0], [], []] args) h
theorem s30_ok : SpecOk Go.Proofs.Try.prog 30 s30 := s30_0_ok.pre [[none, none, none, none, none, none, none, none, none, none, none, none, none, none, none, none, some 0], [], []]
/-- pontage/pontageref12.Select -/
noncomputable def L16 : SL := [(12, .byVal, s12), (29, .byVal, s29), (30, .byVal, s30)]
noncomputable def e16 : Env := ⟨ti, fun g => lookS g L16, 1000000, [.drop 0, .drop 8, .drop 9, .drop 10, .drop 11, .drop 12, .drop 13, .drop 14, .drop 15, .drop 16, .drop 17, .drop 18, .drop 19, .drop 20, .drop 21, .drop 22, .drop 23, .drop 24, .drop 25, .drop 26, .drop 27, .drop 28, .drop 29, .drop 30, .drop 31, .drop 32, .drop 33, .drop 34, .drop 35, .tmp 5 0], []⟩
structure W16_0 where
  a0 : Int
  a1 : Int
  a2 : Int
  a3 : Int
  a4 : Int
  a5 : Int
  a6 : Int
  a7 : Int
  a8 : Bool
  a9 : Int
  a10 : Int
  a11 : Int
  a12 : Int
  a13 : Int
  a14 : Int
  a15 : Int
  a16 : Int
  a17 : Int
  a18 : List S0
  a19 : Int
  a20 : Int
  a21 : Int
  a22 : Int
  a23 : Int
  a24 : Int
  a25 : Bool
  a26 : Int
  a27 : Int
  a28 : Int
  a29 : Int
  a30 : Int
  a31 : Int
  a32 : Int
  a33 : Int
  a34 : Int
  a35 : S4
  a36 : List S0
def hd16_0 (v : W16_0) : St := ⟨[.top, .c (.ptr 0 0), .c (.ptr 1 0), .c (.ptr 2 0), .c (.int .i64 v.a0), .c (.slw 3), .c (.int .i64 v.a1), .top, .top, .top, .top, .top, .top, .top, .top, .top, .top, .top, .top, .top, .top, .top, .top, .top, .top, .top, .top, .top, .top, .top, .top, .top, .top, .top, .top, .top, .top, .top, .top, .top, .top, .top, .top, .top, .top, .top, .top, .top, .top, .top, .top, .top, .top, .top, .top, .top, .top, .top, .top, .top, .top, .top, .top, .top, .top, .top, .top, .top, .top, .top, .top, .top, .top, .top, .top, .top, .top, .top, .top, .top, .top], [.cells [.int .u64 v.a2, .int .u8 v.a3, .int .u8 v.a4, .int .u8 v.a5, .int .u8 v.a6, .int .u8 v.a7, .bool v.a8, .int .u16 v.a9, .int .u64 v.a10, .int .u32 v.a11, .int .u64 v.a12, .int .u16 v.a13, .int .u8 v.a14, .int .u8 v.a15, .int .u8 v.a16, .int .u8 v.a17, .rs 0 v.a18], .cells [.int .u64 v.a19, .int .u8 v.a20, .int .u8 v.a21, .int .u8 v.a22, .int .u8 v.a23, .int .u8 v.a24, .bool v.a25, .int .u16 v.a26, .int .u64 v.a27, .int .u32 v.a28, .int .u64 v.a29, .int .u16 v.a30, .int .u8 v.a31, .int .u8 v.a32, .int .u8 v.a33, .int .u8 v.a34, .nils], .cells [.int .u64 v.a35.f0, .int .u32 v.a35.f1, .int .u64 v.a35.f2, .int .u16 v.a35.f3], .row 0 v.a36]⟩
def gR16_0 (v : W16_0) : Tr (W16_0 ⊕ (Bool × W16_0)) :=
  .br (decide (v.a1 < (v.a18.length : Int))) (
   .br (decide (0 ≤ v.a1)) (
    .opt (v.a18[Int.toNat v.a1]?) fun y59 =>
     let z60 := g30 (S5.mk v.a2 v.a3 v.a4 v.a5 v.a6 v.a7 v.a8 v.a9 v.a10 v.a11 v.a12 v.a13 v.a14 v.a15 v.a16 v.a17 v.a18) { y59 with f21 := false, f32 := v.a35.f0, f33 := v.a35.f1, f34 := v.a2, f35 := y59.f0, f40 := v.a14, f41 := v.a15, f42 := v.a5, f43 := v.a17 } (v.a1 == v.a0)
     .br (Nat.ble (v.a36.length + 1) 140737488355328 && Nat.ble ((v.a36.length + 1) * 248) 140737488355328) (
      .leaf (.inl ({ v with a1 := (IntKind.i64.wrap (v.a1 + 1)), a36 := (v.a36 ++ [{ z60 with f22 := true }]) }))) (
      .fail)) (
    .fail)) (
   .leaf (.inr (false, v)))
noncomputable def lb16_0 : Code := match findB 0 (Go.Proofs.Try.f16.body.getD .skip) with | [.loop b] => b | _ => .skip
def pa16_0 : List PA := [.any, .c (.ptr 0 0), .c (.ptr 1 0), .c (.ptr 2 0), .c (.int .i64), .c (.nils), .c (.int .i64), .top, .any, .any, .any, .any, .any, .any, .any, .any, .any, .any, .any, .any, .any, .any, .any, .any, .any, .any, .any, .any, .any, .any, .any, .any, .any, .any, .any, .any, .top, .top, .top, .top, .top, .top, .top, .top, .top, .top, .top, .top, .top, .top, .top, .top, .top, .top, .top, .top, .top, .top, .top, .top, .top, .top, .top, .top, .top, .top, .top, .top, .top, .top, .top, .top, .top, .top, .top, .top, .top, .top, .top, .top, .top]
def pb16_0 : List PB := [.cells [.int .u64, .int .u8, .int .u8, .int .u8, .int .u8, .int .u8, .bool, .int .u16, .int .u64, .int .u32, .int .u64, .int .u16, .int .u8, .int .u8, .int .u8, .int .u8, .rs 0], .cells [.int .u64, .int .u8, .int .u8, .int .u8, .int .u8, .int .u8, .bool, .int .u16, .int .u64, .int .u32, .int .u64, .int .u16, .int .u8, .int .u8, .int .u8, .int .u8, .nils], .cells [.int .u64, .int .u32, .int .u64, .int .u16]]
def ini16_0 (s : St) : W16_0 := ⟨iC (aC (s.tmps.getD 4 .top)), iC (aC (s.tmps.getD 6 .top)), iC ((bL (s.heap.getD 0 .dead)).getD 0 .top), iC ((bL (s.heap.getD 0 .dead)).getD 1 .top), iC ((bL (s.heap.getD 0 .dead)).getD 2 .top), iC ((bL (s.heap.getD 0 .dead)).getD 3 .top), iC ((bL (s.heap.getD 0 .dead)).getD 4 .top), iC ((bL (s.heap.getD 0 .dead)).getD 5 .top), bC ((bL (s.heap.getD 0 .dead)).getD 6 .top), iC ((bL (s.heap.getD 0 .dead)).getD 7 .top), iC ((bL (s.heap.getD 0 .dead)).getD 8 .top), iC ((bL (s.heap.getD 0 .dead)).getD 9 .top), iC ((bL (s.heap.getD 0 .dead)).getD 10 .top), iC ((bL (s.heap.getD 0 .dead)).getD 11 .top), iC ((bL (s.heap.getD 0 .dead)).getD 12 .top), iC ((bL (s.heap.getD 0 .dead)).getD 13 .top), iC ((bL (s.heap.getD 0 .dead)).getD 14 .top), iC ((bL (s.heap.getD 0 .dead)).getD 15 .top), rC 0 ((bL (s.heap.getD 0 .dead)).getD 16 .top), iC ((bL (s.heap.getD 1 .dead)).getD 0 .top), iC ((bL (s.heap.getD 1 .dead)).getD 1 .top), iC ((bL (s.heap.getD 1 .dead)).getD 2 .top), iC ((bL (s.heap.getD 1 .dead)).getD 3 .top), iC ((bL (s.heap.getD 1 .dead)).getD 4 .top), iC ((bL (s.heap.getD 1 .dead)).getD 5 .top), bC ((bL (s.heap.getD 1 .dead)).getD 6 .top), iC ((bL (s.heap.getD 1 .dead)).getD 7 .top), iC ((bL (s.heap.getD 1 .dead)).getD 8 .top), iC ((bL (s.heap.getD 1 .dead)).getD 9 .top), iC ((bL (s.heap.getD 1 .dead)).getD 10 .top), iC ((bL (s.heap.getD 1 .dead)).getD 11 .top), iC ((bL (s.heap.getD 1 .dead)).getD 12 .top), iC ((bL (s.heap.getD 1 .dead)).getD 13 .top), iC ((bL (s.heap.getD 1 .dead)).getD 14 .top), iC ((bL (s.heap.getD 1 .dead)).getD 15 .top), rd4 (bL (s.heap.getD 2 .dead)), []⟩
noncomputable def F16_0 : St → Res (Ex × St) := loopF pa16_0 pb16_0 1000000 hd16_0 gR16_0 ini16_0 false
theorem F16_0_ok (s : St) (r : Ex × St) (h : (F16_0 s).eval = some r) : (codeR e16 0 (.block 0 (.loop lb16_0)) s).eval = some r :=
  blk_ok (e := e16) (T := lookT []) (fun s v => by kernel_rfl) (fun s => by kernel_rfl) (tab_nil) s r h
def g16T (x0 : S5) : Tr (S5) :=
  .opt (g12 x0) fun z55 =>
   .br (decide (z55.2 ≥ 0)) (
    .br (decide (0 ≤ z55.2)) (
     .opt (x0.f16[Int.toNat z55.2]?) fun y56 =>
      .br (decide (0 ≤ z55.2)) (
       .opt (x0.f16[Int.toNat z55.2]?) fun y57 =>
        let z58 := g29 (S3.mk y57.f44 y57.f45 y57.f46 y57.f47)
        .opt (iter gR16_0 1000000 (W16_0.mk (z55.2) (0) (x0.f0) (x0.f1) (x0.f2) (x0.f3) (x0.f4) (x0.f5) (x0.f6) (y56.f0) (z55.1.f0) (z55.1.f1) (z55.1.f2) (z55.1.f3) (z58.f0) (z58.f1) (z58.f2) (z58.f3) (x0.f16) (0) (0) (0) (0) (0) (0) (false) (0) (0) (0) (0) (0) (0) (0) (0) (0) (z55.1) ([]))) fun r61 =>
         .br r61.1 (
          .fail) (
          .leaf ((S5.mk r61.2.a2 r61.2.a3 r61.2.a4 r61.2.a5 r61.2.a6 r61.2.a7 r61.2.a8 r61.2.a9 r61.2.a10 r61.2.a11 r61.2.a12 r61.2.a13 r61.2.a14 r61.2.a15 r61.2.a16 r61.2.a17 r61.2.a36)))) (
       .fail)) (
     .fail)) (
    .opt (iter gR16_0 1000000 (W16_0.mk (z55.2) (0) (x0.f0) (x0.f1) (x0.f2) (x0.f3) (x0.f4) (x0.f5) (x0.f6) (0) (z55.1.f0) (z55.1.f1) (z55.1.f2) (z55.1.f3) (x0.f1) (x0.f2) (x0.f3) (x0.f4) (x0.f16) (0) (0) (0) (0) (0) (0) (false) (0) (0) (0) (0) (0) (0) (0) (0) (0) (z55.1) ([]))) fun r62 =>
     .br r62.1 (
      .fail) (
      .leaf ((S5.mk r62.2.a2 r62.2.a3 r62.2.a4 r62.2.a5 r62.2.a6 r62.2.a7 r62.2.a8 r62.2.a9 r62.2.a10 r62.2.a11 r62.2.a12 r62.2.a13 r62.2.a14 r62.2.a15 r62.2.a16 r62.2.a17 r62.2.a36))))
def g16 (x0 : S5) : Option (S5) := (g16T x0).get?
noncomputable def T16 : TL := [(0, F16_0)]
noncomputable def q16 : Ab.Spec := frzR [[none, none, none, none, none, none, none, none, none, none, none, none, none, none, none, none, some 0]] (runQ0 e16 (lookT T16) Go.Proofs.Try.f16)
theorem q16_ok : SpecOk Go.Proofs.Try.prog 16 q16 := (runQ0_ok (runR_ok (e := e16) follows (allTI ti_ok _ _ _ _) (callsOk_cons s12_ok (callsOk_cons s29_ok (callsOk_cons s30_ok (callsOk_nil)))) Go.Proofs.Try.func16 Go.Proofs.Try.call16) (fun c hc => by
  have hb : c = Go.Proofs.Try.f16.body.getD .skip := by rw [hc]; rfl
  subst hb
  exact tab_cons (by kernel_rfl) F16_0_ok (tab_nil))).froze [[none, none, none, none, none, none, none, none, none, none, none, none, none, none, none, none, some 0]]
theorem g16_run (x0 : S5) : (q16 [.agg (Cod.enc 5 x0)] []).eval = (g16T x0).ev fun r => ((.agg (Cod.enc 5 r) : AV), ([] : List Blk)) := by kernel_rfl
noncomputable def s16_0 : Ab.Spec := fun args h =>
  dN h <| dL args fun v0 a0 => dG v0 fun l0 => dE 5 l0 fun x0 => dN a0 <|
  .opt (g16 x0) fun r => .val (.agg (Cod.enc 5 r), [])
theorem s16_0_ok : SpecOk Go.Proofs.Try.prog 16 s16_0 :=
  q16_ok.less fun args hs r h => by
    unfold s16_0 at h
    obtain ⟨rfl, hh1⟩ := dN_inv h
    obtain ⟨v0, a0, rfl, hh2⟩ := dL_inv hh1
    obtain ⟨l0, rfl, hh3⟩ := dG_inv hh2
    obtain ⟨x0, rfl, hh4⟩ := dE_inv hh3
    obtain ⟨rfl, hh5⟩ := dN_inv hh4
    rw [g16_run, Tr.ev_get?]
    change (Res.opt (g16 x0) _).eval = some r at hh5
    rw [eval_opt] at hh5
    obtain ⟨z, hz, hh6⟩ := Option.bind_eq_some_iff.mp hh5
    unfold g16 at hz
    rw [hz]; exact hh6
noncomputable def s16 : Ab.Spec := fun args h => s16_0 (coeA [[none, none, none, none, none, none, none, none, none, none, none, none, none, none, none, none, some 0]] args) h
theorem s16_ok : SpecOk Go.Proofs.Try.prog 16 s16 := s16_0_ok.pre [[none, none, none, none, none, none, none, none, none, none, none, none, none, none, none, none, some 0]]
/-- pontage/pontageref12.Same -/
noncomputable def L14 : SL := []
noncomputable def e14 : Env := ⟨ti, fun g => lookS g L14, 1000000, [.drop 0, .drop 1, .drop 6, .drop 7, .drop 8, .drop 9, .drop 10, .drop 11, .drop 12, .drop 13, .drop 14, .drop 15, .drop 16, .drop 17, .drop 18, .drop 19, .drop 20, .drop 21, .drop 22, .drop 23, .drop 24, .drop 25, .drop 26, .drop 27, .drop 28, .drop 29, .drop 30, .drop 31, .drop 32, .drop 33, .drop 34, .drop 35, .drop 36, .drop 37, .drop 38, .drop 39, .drop 40, .drop 41, .drop 42, .drop 43, .drop 44, .drop 45, .drop 46, .drop 47, .drop 48, .drop 49, .drop 50, .drop 51, .drop 52, .drop 53, .drop 54, .drop 55, .drop 56, .drop 57, .drop 58, .drop 59, .drop 60, .drop 61], []⟩
structure W14_0 where
  a0 : Bool
  a1 : Int
  a2 : Int
  a3 : Int
  a4 : Int
  a5 : Int
  a6 : Int
  a7 : Int
  a8 : Bool
  a9 : Int
  a10 : Int
  a11 : Int
  a12 : Int
  a13 : Int
  a14 : Int
  a15 : Int
  a16 : Int
  a17 : Int
  a18 : List S0
  a19 : Int
  a20 : Int
  a21 : Int
  a22 : Int
  a23 : Int
  a24 : Int
  a25 : Bool
  a26 : Int
  a27 : Int
  a28 : Int
  a29 : Int
  a30 : Int
  a31 : Int
  a32 : Int
  a33 : Int
  a34 : Int
  a35 : List S0
def hd14_0 (v : W14_0) : St := ⟨[.top, .top, .c (.ptr 0 0), .c (.ptr 1 0), .c (.bool v.a0), .c (.int .i64 v.a1), .top, .top, .top, .top, .top, .top, .top, .top, .top, .top, .top, .top, .top, .top, .top, .top, .top, .top, .top, .top, .top, .top, .top, .top, .top, .top, .top, .top, .top, .top, .top, .top, .top, .top, .top, .top, .top, .top, .top, .top, .top, .top, .top, .top, .top, .top, .top, .top, .top, .top, .top, .top, .top, .top, .top, .top, .top, .top, .top, .top, .top, .top, .top, .top, .top, .top, .top, .top, .top, .top, .top, .top, .top, .top], [.cells [.int .u64 v.a2, .int .u8 v.a3, .int .u8 v.a4, .int .u8 v.a5, .int .u8 v.a6, .int .u8 v.a7, .bool v.a8, .int .u16 v.a9, .int .u64 v.a10, .int .u32 v.a11, .int .u64 v.a12, .int .u16 v.a13, .int .u8 v.a14, .int .u8 v.a15, .int .u8 v.a16, .int .u8 v.a17, .rs 0 v.a18], .cells [.int .u64 v.a19, .int .u8 v.a20, .int .u8 v.a21, .int .u8 v.a22, .int .u8 v.a23, .int .u8 v.a24, .bool v.a25, .int .u16 v.a26, .int .u64 v.a27, .int .u32 v.a28, .int .u64 v.a29, .int .u16 v.a30, .int .u8 v.a31, .int .u8 v.a32, .int .u8 v.a33, .int .u8 v.a34, .rs 0 v.a35]]⟩
def gR14_0 (v : W14_0) : Tr (W14_0 ⊕ (Bool × W14_0)) :=
  .br (decide (v.a1 < (v.a18.length : Int))) (
   .br (decide (0 ≤ v.a1)) (
    .opt (v.a18[Int.toNat v.a1]?) fun y63 =>
     .br (decide (0 ≤ v.a1)) (
      .opt (v.a35[Int.toNat v.a1]?) fun y64 =>
       .br (!(eqS0 y63 y64)) (
        .leaf (.inr (true, { v with a0 := false }))) (
        .leaf (.inl ({ v with a1 := (IntKind.i64.wrap (v.a1 + 1)) })))) (
      .fail)) (
    .fail)) (
   .leaf (.inr (false, v)))
noncomputable def lb14_0 : Code := match findB 0 (Go.Proofs.Try.f14.body.getD .skip) with | [.loop b] => b | _ => .skip
def pa14_0 : List PA := [.any, .any, .c (.ptr 0 0), .c (.ptr 1 0), .c (.bool), .c (.int .i64), .any, .any, .any, .any, .any, .any, .any, .any, .any, .any, .any, .any, .any, .any, .any, .any, .any, .any, .any, .any, .any, .any, .any, .any, .any, .any, .any, .any, .any, .any, .any, .any, .any, .any, .any, .any, .any, .any, .any, .any, .any, .any, .any, .any, .any, .any, .any, .any, .any, .any, .any, .any, .any, .any, .any, .any, .top, .top, .top, .top, .top, .top, .top, .top, .top, .top, .top, .top, .top, .top, .top, .top, .top, .top]
def pb14_0 : List PB := [.cells [.int .u64, .int .u8, .int .u8, .int .u8, .int .u8, .int .u8, .bool, .int .u16, .int .u64, .int .u32, .int .u64, .int .u16, .int .u8, .int .u8, .int .u8, .int .u8, .rs 0], .cells [.int .u64, .int .u8, .int .u8, .int .u8, .int .u8, .int .u8, .bool, .int .u16, .int .u64, .int .u32, .int .u64, .int .u16, .int .u8, .int .u8, .int .u8, .int .u8, .rs 0]]
def ini14_0 (s : St) : W14_0 := ⟨bC (aC (s.tmps.getD 4 .top)), iC (aC (s.tmps.getD 5 .top)), iC ((bL (s.heap.getD 0 .dead)).getD 0 .top), iC ((bL (s.heap.getD 0 .dead)).getD 1 .top), iC ((bL (s.heap.getD 0 .dead)).getD 2 .top), iC ((bL (s.heap.getD 0 .dead)).getD 3 .top), iC ((bL (s.heap.getD 0 .dead)).getD 4 .top), iC ((bL (s.heap.getD 0 .dead)).getD 5 .top), bC ((bL (s.heap.getD 0 .dead)).getD 6 .top), iC ((bL (s.heap.getD 0 .dead)).getD 7 .top), iC ((bL (s.heap.getD 0 .dead)).getD 8 .top), iC ((bL (s.heap.getD 0 .dead)).getD 9 .top), iC ((bL (s.heap.getD 0 .dead)).getD 10 .top), iC ((bL (s.heap.getD 0 .dead)).getD 11 .top), iC ((bL (s.heap.getD 0 .dead)).getD 12 .top), iC ((bL (s.heap.getD 0 .dead)).getD 13 .top), iC ((bL (s.heap.getD 0 .dead)).getD 14 .top), iC ((bL (s.heap.getD 0 .dead)).getD 15 .top), rC 0 ((bL (s.heap.getD 0 .dead)).getD 16 .top), iC ((bL (s.heap.getD 1 .dead)).getD 0 .top), iC ((bL (s.heap.getD 1 .dead)).getD 1 .top), iC ((bL (s.heap.getD 1 .dead)).getD 2 .top), iC ((bL (s.heap.getD 1 .dead)).getD 3 .top), iC ((bL (s.heap.getD 1 .dead)).getD 4 .top), iC ((bL (s.heap.getD 1 .dead)).getD 5 .top), bC ((bL (s.heap.getD 1 .dead)).getD 6 .top), iC ((bL (s.heap.getD 1 .dead)).getD 7 .top), iC ((bL (s.heap.getD 1 .dead)).getD 8 .top), iC ((bL (s.heap.getD 1 .dead)).getD 9 .top), iC ((bL (s.heap.getD 1 .dead)).getD 10 .top), iC ((bL (s.heap.getD 1 .dead)).getD 11 .top), iC ((bL (s.heap.getD 1 .dead)).getD 12 .top), iC ((bL (s.heap.getD 1 .dead)).getD 13 .top), iC ((bL (s.heap.getD 1 .dead)).getD 14 .top), iC ((bL (s.heap.getD 1 .dead)).getD 15 .top), rC 0 ((bL (s.heap.getD 1 .dead)).getD 16 .top)⟩
noncomputable def F14_0 : St → Res (Ex × St) := loopF pa14_0 pb14_0 1000000 hd14_0 gR14_0 ini14_0 true
theorem F14_0_ok (s : St) (r : Ex × St) (h : (F14_0 s).eval = some r) : (codeR e14 0 (.block 0 (.loop lb14_0)) s).eval = some r :=
  blk_ok (e := e14) (T := lookT []) (fun s v => by kernel_rfl) (fun s => by kernel_rfl) (tab_nil) s r h
def g14T (x0 : S5) (x1 : S5) : Tr (Bool) :=
  .br (bif (bif (bif (bif (bif (bif (bif (x0.f0 != x1.f0) then true else (!(eqS3 (S3.mk x0.f1 x0.f2 x0.f3 x0.f4) (S3.mk x1.f1 x1.f2 x1.f3 x1.f4)))) then true else (x0.f5 != x1.f5)) then true else (!(x0.f6 == x1.f6))) then true else (x0.f7 != x1.f7)) then true else (!(eqS4 (S4.mk x0.f8 x0.f9 x0.f10 x0.f11) (S4.mk x1.f8 x1.f9 x1.f10 x1.f11)))) then true else (!(eqS3 (S3.mk x0.f12 x0.f13 x0.f14 x0.f15) (S3.mk x1.f12 x1.f13 x1.f14 x1.f15)))) then true else ((x0.f16.length : Int) != (x1.f16.length : Int))) (
   .leaf (false)) (
   .opt (iter gR14_0 1000000 (W14_0.mk (false) (0) (x0.f0) (x0.f1) (x0.f2) (x0.f3) (x0.f4) (x0.f5) (x0.f6) (x0.f7) (x0.f8) (x0.f9) (x0.f10) (x0.f11) (x0.f12) (x0.f13) (x0.f14) (x0.f15) (x0.f16) (x1.f0) (x1.f1) (x1.f2) (x1.f3) (x1.f4) (x1.f5) (x1.f6) (x1.f7) (x1.f8) (x1.f9) (x1.f10) (x1.f11) (x1.f12) (x1.f13) (x1.f14) (x1.f15) (x1.f16))) fun r65 =>
    .br r65.1 (
     .leaf (r65.2.a0)) (
     .leaf (true)))
def g14 (x0 : S5) (x1 : S5) : Option (Bool) := (g14T x0 x1).get?
noncomputable def T14 : TL := [(0, F14_0)]
noncomputable def q14 : Ab.Spec := runQ0 e14 (lookT T14) Go.Proofs.Try.f14
theorem q14_ok : SpecOk Go.Proofs.Try.prog 14 q14 := (runQ0_ok (runR_ok (e := e14) follows (allTI ti_ok _ _ _ _) (callsOk_nil) Go.Proofs.Try.func14 Go.Proofs.Try.call14) (fun c hc => by
  have hb : c = Go.Proofs.Try.f14.body.getD .skip := by rw [hc]; rfl
  subst hb
  exact tab_cons (by kernel_rfl) F14_0_ok (tab_nil)))
theorem g14_run (x0 : S5) (x1 : S5) : (q14 [.agg (Cod.enc 5 x0), .agg (Cod.enc 5 x1)] []).eval = (g14T x0 x1).ev fun r => ((.c (.bool r) : AV), ([] : List Blk)) := by kernel_rfl
noncomputable def s14_0 : Ab.Spec := fun args h =>
  dN h <| dL args fun v0 a0 => dG v0 fun l0 => dE 5 l0 fun x0 => dL a0 fun v1 a1 => dG v1 fun l1 => dE 5 l1 fun x1 => dN a1 <|
  .opt (g14 x0 x1) fun r => .val (.c (.bool r), [])
theorem s14_0_ok : SpecOk Go.Proofs.Try.prog 14 s14_0 :=
  q14_ok.less fun args hs r h => by
    unfold s14_0 at h
    obtain ⟨rfl, hh1⟩ := dN_inv h
    obtain ⟨v0, a0, rfl, hh2⟩ := dL_inv hh1
    obtain ⟨l0, rfl, hh3⟩ := dG_inv hh2
    obtain ⟨x0, rfl, hh4⟩ := dE_inv hh3
    obtain ⟨v1, a1, rfl, hh5⟩ := dL_inv hh4
    obtain ⟨l1, rfl, hh6⟩ := dG_inv hh5
    obtain ⟨x1, rfl, hh7⟩ := dE_inv hh6
    obtain ⟨rfl, hh8⟩ := dN_inv hh7
    rw [g14_run, Tr.ev_get?]
    change (Res.opt (g14 x0 x1) _).eval = some r at hh8
    rw [eval_opt] at hh8
    obtain ⟨z, hz, hh9⟩ := Option.bind_eq_some_iff.mp hh8
    unfold g14 at hz
    rw [hz]; exact hh9
noncomputable def s14 : Ab.Spec := fun args h => s14_0 (coeA [[none, none, none, none, none, none, none, none, none, none, none, none, none, none, none, none, some 0], [none, none, none, none, none, none, none, none, none, none, none, none, none, none, none, none, some 0]] args) h
theorem s14_ok : SpecOk Go.Proofs.Try.prog 14 s14 := s14_0_ok.pre [[none, none, none, none, none, none, none, none, none, none, none, none, none, none, none, none, some 0], [none, none, none, none, none, none, none, none, none, none, none, none, none, none, none, none, some 0]]
/-- pontage/pontagelaw12.RolesSelects -/
noncomputable def L4 : SL := [(10, .byNew, s10), (15, .byNew, s15), (16, .byNew, s16), (14, .byVal, s14), (13, .byVal, s13)]
noncomputable def e4 : Env := ⟨ti, fun g => lookS g L4, 1000000, [], []⟩
def g4T (x0 : S5) : Tr (Bool) :=
  .opt (g10 x0) fun z66 =>
   .opt (g15 z66) fun z67 =>
    .opt (g16 z66) fun z68 =>
     .opt (g14 z67 z68) fun z69 =>
      .br z69 (
       .opt (g13 ) fun z71 =>
        .leaf (z71)) (
       .leaf (false))
def g4 (x0 : S5) : Option (Bool) := (g4T x0).get?
noncomputable def T4 : TL := []
noncomputable def q4 : Ab.Spec := runQ0 e4 (lookT T4) Go.Proofs.Try.f4
theorem q4_ok : SpecOk Go.Proofs.Try.prog 4 q4 := (runQ0_ok (runR_ok (e := e4) follows (allTI ti_ok _ _ _ _) (callsOk_cons s10_ok (callsOk_cons s15_ok (callsOk_cons s16_ok (callsOk_cons s14_ok (callsOk_cons s13_ok (callsOk_nil)))))) Go.Proofs.Try.func4 Go.Proofs.Try.call4) (fun c hc => by
  have hb : c = Go.Proofs.Try.f4.body.getD .skip := by rw [hc]; rfl
  subst hb
  exact tab_nil))
theorem g4_run (x0 : S5) : (q4 [.agg (Cod.enc 5 x0)] []).eval = (g4T x0).ev fun r => ((.c (.bool r) : AV), ([] : List Blk)) := by kernel_rfl
noncomputable def s4_0 : Ab.Spec := fun args h =>
  dN h <| dL args fun v0 a0 => dG v0 fun l0 => dE 5 l0 fun x0 => dN a0 <|
  .opt (g4 x0) fun r => .val (.c (.bool r), [])
theorem s4_0_ok : SpecOk Go.Proofs.Try.prog 4 s4_0 :=
  q4_ok.less fun args hs r h => by
    unfold s4_0 at h
    obtain ⟨rfl, hh1⟩ := dN_inv h
    obtain ⟨v0, a0, rfl, hh2⟩ := dL_inv hh1
    obtain ⟨l0, rfl, hh3⟩ := dG_inv hh2
    obtain ⟨x0, rfl, hh4⟩ := dE_inv hh3
    obtain ⟨rfl, hh5⟩ := dN_inv hh4
    rw [g4_run, Tr.ev_get?]
    change (Res.opt (g4 x0) _).eval = some r at hh5
    rw [eval_opt] at hh5
    obtain ⟨z, hz, hh6⟩ := Option.bind_eq_some_iff.mp hh5
    unfold g4 at hz
    rw [hz]; exact hh6
noncomputable def s4 : Ab.Spec := fun args h => s4_0 (coeA [[none, none, none, none, none, none, none, none, none, none, none, none, none, none, none, none, some 0]] args) h
theorem s4_ok : SpecOk Go.Proofs.Try.prog 4 s4 := s4_0_ok.pre [[none, none, none, none, none, none, none, none, none, none, none, none, none, none, none, none, some 0]]
/-- pontage/pontagelaw12.RolesOne -/
noncomputable def L5 : SL := [(10, .byNew, s10), (15, .byNew, s15), (17, .byVal, s17), (13, .byVal, s13)]
noncomputable def e5 : Env := ⟨ti, fun g => lookS g L5, 1000000, [.drop 0, .drop 6, .drop 7, .drop 8, .drop 9], []⟩
structure W5_0 where
  a0 : Bool
  a1 : Int
  a2 : Int
  a3 : Int
  a4 : Int
  a5 : Int
  a6 : Int
  a7 : Int
  a8 : Int
  a9 : Bool
  a10 : Int
  a11 : Int
  a12 : Int
  a13 : Int
  a14 : Int
  a15 : Int
  a16 : Int
  a17 : Int
  a18 : Int
  a19 : List S0
  a20 : Int
  a21 : Int
  a22 : Int
  a23 : Int
  a24 : Int
  a25 : Int
  a26 : Bool
  a27 : Int
  a28 : Int
  a29 : Int
  a30 : Int
  a31 : Int
  a32 : Int
  a33 : Int
  a34 : Int
  a35 : Int
  a36 : List S0
def hd5_0 (v : W5_0) : St := ⟨[.top, .c (.ptr 0 0), .c (.bool v.a0), .c (.ptr 1 0), .c (.int .i64 v.a1), .c (.int .i64 v.a2), .top, .top, .top, .top, .top, .top, .top, .top, .top, .top, .top, .top, .top, .top, .top, .top, .top, .top, .top, .top, .top, .top, .top, .top, .top, .top, .top, .top, .top, .top, .top, .top, .top, .top, .top, .top, .top, .top, .top, .top, .top, .top, .top], [.cells [.int .u64 v.a3, .int .u8 v.a4, .int .u8 v.a5, .int .u8 v.a6, .int .u8 v.a7, .int .u8 v.a8, .bool v.a9, .int .u16 v.a10, .int .u64 v.a11, .int .u32 v.a12, .int .u64 v.a13, .int .u16 v.a14, .int .u8 v.a15, .int .u8 v.a16, .int .u8 v.a17, .int .u8 v.a18, .rs 0 v.a19], .cells [.int .u64 v.a20, .int .u8 v.a21, .int .u8 v.a22, .int .u8 v.a23, .int .u8 v.a24, .int .u8 v.a25, .bool v.a26, .int .u16 v.a27, .int .u64 v.a28, .int .u32 v.a29, .int .u64 v.a30, .int .u16 v.a31, .int .u8 v.a32, .int .u8 v.a33, .int .u8 v.a34, .int .u8 v.a35, .rs 0 v.a36]]⟩
def gR5_0 (v : W5_0) : Tr (W5_0 ⊕ (Bool × W5_0)) :=
  .br (decide (v.a2 < (v.a36.length : Int))) (
   .br (decide (0 ≤ v.a2)) (
    .opt (v.a36[Int.toNat v.a2]?) fun y74 =>
     .br (y74.f31 == 3) (
      .br (decide (0 ≤ v.a2)) (
       .opt (v.a36[Int.toNat v.a2]?) fun y75 =>
        .br (y75.f0 != v.a27) (
         .leaf (.inr (true, { v with a0 := false, a1 := (IntKind.i64.wrap (v.a1 + 1)) }))) (
         .leaf (.inl ({ v with a1 := (IntKind.i64.wrap (v.a1 + 1)), a2 := (IntKind.i64.wrap (v.a2 + 1)) })))) (
       .fail)) (
      .leaf (.inl ({ v with a2 := (IntKind.i64.wrap (v.a2 + 1)) })))) (
    .fail)) (
   .leaf (.inr (false, v)))
noncomputable def lb5_0 : Code := match findB 0 (Go.Proofs.Try.f5.body.getD .skip) with | [.loop b] => b | _ => .skip
def pa5_0 : List PA := [.any, .c (.ptr 0 0), .c (.bool), .c (.ptr 1 0), .c (.int .i64), .c (.int .i64), .any, .any, .any, .any, .top, .top, .top, .top, .top, .top, .top, .top, .top, .top, .top, .top, .top, .top, .top, .top, .top, .top, .top, .top, .top, .top, .top, .top, .top, .top, .top, .top, .top, .top, .top, .top, .top, .top, .top, .top, .top, .top, .top]
def pb5_0 : List PB := [.cells [.int .u64, .int .u8, .int .u8, .int .u8, .int .u8, .int .u8, .bool, .int .u16, .int .u64, .int .u32, .int .u64, .int .u16, .int .u8, .int .u8, .int .u8, .int .u8, .rs 0], .cells [.int .u64, .int .u8, .int .u8, .int .u8, .int .u8, .int .u8, .bool, .int .u16, .int .u64, .int .u32, .int .u64, .int .u16, .int .u8, .int .u8, .int .u8, .int .u8, .rs 0]]
def ini5_0 (s : St) : W5_0 := ⟨bC (aC (s.tmps.getD 2 .top)), iC (aC (s.tmps.getD 4 .top)), iC (aC (s.tmps.getD 5 .top)), iC ((bL (s.heap.getD 0 .dead)).getD 0 .top), iC ((bL (s.heap.getD 0 .dead)).getD 1 .top), iC ((bL (s.heap.getD 0 .dead)).getD 2 .top), iC ((bL (s.heap.getD 0 .dead)).getD 3 .top), iC ((bL (s.heap.getD 0 .dead)).getD 4 .top), iC ((bL (s.heap.getD 0 .dead)).getD 5 .top), bC ((bL (s.heap.getD 0 .dead)).getD 6 .top), iC ((bL (s.heap.getD 0 .dead)).getD 7 .top), iC ((bL (s.heap.getD 0 .dead)).getD 8 .top), iC ((bL (s.heap.getD 0 .dead)).getD 9 .top), iC ((bL (s.heap.getD 0 .dead)).getD 10 .top), iC ((bL (s.heap.getD 0 .dead)).getD 11 .top), iC ((bL (s.heap.getD 0 .dead)).getD 12 .top), iC ((bL (s.heap.getD 0 .dead)).getD 13 .top), iC ((bL (s.heap.getD 0 .dead)).getD 14 .top), iC ((bL (s.heap.getD 0 .dead)).getD 15 .top), rC 0 ((bL (s.heap.getD 0 .dead)).getD 16 .top), iC ((bL (s.heap.getD 1 .dead)).getD 0 .top), iC ((bL (s.heap.getD 1 .dead)).getD 1 .top), iC ((bL (s.heap.getD 1 .dead)).getD 2 .top), iC ((bL (s.heap.getD 1 .dead)).getD 3 .top), iC ((bL (s.heap.getD 1 .dead)).getD 4 .top), iC ((bL (s.heap.getD 1 .dead)).getD 5 .top), bC ((bL (s.heap.getD 1 .dead)).getD 6 .top), iC ((bL (s.heap.getD 1 .dead)).getD 7 .top), iC ((bL (s.heap.getD 1 .dead)).getD 8 .top), iC ((bL (s.heap.getD 1 .dead)).getD 9 .top), iC ((bL (s.heap.getD 1 .dead)).getD 10 .top), iC ((bL (s.heap.getD 1 .dead)).getD 11 .top), iC ((bL (s.heap.getD 1 .dead)).getD 12 .top), iC ((bL (s.heap.getD 1 .dead)).getD 13 .top), iC ((bL (s.heap.getD 1 .dead)).getD 14 .top), iC ((bL (s.heap.getD 1 .dead)).getD 15 .top), rC 0 ((bL (s.heap.getD 1 .dead)).getD 16 .top)⟩
noncomputable def F5_0 : St → Res (Ex × St) := loopF pa5_0 pb5_0 1000000 hd5_0 gR5_0 ini5_0 true
theorem F5_0_ok (s : St) (r : Ex × St) (h : (F5_0 s).eval = some r) : (codeR e5 0 (.block 0 (.loop lb5_0)) s).eval = some r :=
  blk_ok (e := e5) (T := lookT []) (fun s v => by kernel_rfl) (fun s => by kernel_rfl) (tab_nil) s r h
def g5T (x0 : S5) : Tr (Bool) :=
  .opt (g10 x0) fun z72 =>
   .opt (g15 z72) fun z73 =>
    .opt (iter gR5_0 1000000 (W5_0.mk (false) (0) (0) (z72.f0) (z72.f1) (z72.f2) (z72.f3) (z72.f4) (z72.f5) (z72.f6) (z72.f7) (z72.f8) (z72.f9) (z72.f10) (z72.f11) (z72.f12) (z72.f13) (z72.f14) (z72.f15) (z72.f16) (z73.f0) (z73.f1) (z73.f2) (z73.f3) (z73.f4) (z73.f5) (z73.f6) (z73.f7) (z73.f8) (z73.f9) (z73.f10) (z73.f11) (z73.f12) (z73.f13) (z73.f14) (z73.f15) (z73.f16))) fun r76 =>
     .br r76.1 (
      .leaf (r76.2.a0)) (
      let z77 := g17 r76.2.a3
      .br (bif (!((r76.2.a1 == 0) == (eqS4 (S4.mk r76.2.a28 r76.2.a29 r76.2.a30 r76.2.a31) z77))) then true else (decide (r76.2.a1 > 1))) (
       .leaf (false)) (
       .opt (g13 ) fun z78 =>
        .leaf (z78)))
def g5 (x0 : S5) : Option (Bool) := (g5T x0).get?
noncomputable def T5 : TL := [(0, F5_0)]
noncomputable def q5 : Ab.Spec := runQ0 e5 (lookT T5) Go.Proofs.Try.f5
theorem q5_ok : SpecOk Go.Proofs.Try.prog 5 q5 := (runQ0_ok (runR_ok (e := e5) follows (allTI ti_ok _ _ _ _) (callsOk_cons s10_ok (callsOk_cons s15_ok (callsOk_cons s17_ok (callsOk_cons s13_ok (callsOk_nil))))) Go.Proofs.Try.func5 Go.Proofs.Try.call5) (fun c hc => by
  have hb : c = Go.Proofs.Try.f5.body.getD .skip := by rw [hc]; rfl
  subst hb
  exact tab_cons (by kernel_rfl) F5_0_ok (tab_nil)))
theorem g5_run (x0 : S5) : (q5 [.agg (Cod.enc 5 x0)] []).eval = (g5T x0).ev fun r => ((.c (.bool r) : AV), ([] : List Blk)) := by kernel_rfl
noncomputable def s5_0 : Ab.Spec := fun args h =>
  dN h <| dL args fun v0 a0 => dG v0 fun l0 => dE 5 l0 fun x0 => dN a0 <|
  .opt (g5 x0) fun r => .val (.c (.bool r), [])
theorem s5_0_ok : SpecOk Go.Proofs.Try.prog 5 s5_0 :=
  q5_ok.less fun args hs r h => by
    unfold s5_0 at h
    obtain ⟨rfl, hh1⟩ := dN_inv h
    obtain ⟨v0, a0, rfl, hh2⟩ := dL_inv hh1
    obtain ⟨l0, rfl, hh3⟩ := dG_inv hh2
    obtain ⟨x0, rfl, hh4⟩ := dE_inv hh3
    obtain ⟨rfl, hh5⟩ := dN_inv hh4
    rw [g5_run, Tr.ev_get?]
    change (Res.opt (g5 x0) _).eval = some r at hh5
    rw [eval_opt] at hh5
    obtain ⟨z, hz, hh6⟩ := Option.bind_eq_some_iff.mp hh5
    unfold g5 at hz
    rw [hz]; exact hh6
noncomputable def s5 : Ab.Spec := fun args h => s5_0 (coeA [[none, none, none, none, none, none, none, none, none, none, none, none, none, none, none, none, some 0]] args) h
theorem s5_ok : SpecOk Go.Proofs.Try.prog 5 s5 := s5_0_ok.pre [[none, none, none, none, none, none, none, none, none, none, none, none, none, none, none, none, some 0]]
/-- pontage/pontagelaw12.RolesBest -/
noncomputable def L6 : SL := [(10, .byNew, s10), (15, .byNew, s15), (17, .byVal, s17), (18, .byVal, s18), (19, .byVal, s19), (13, .byVal, s13)]
noncomputable def e6 : Env := ⟨ti, fun g => lookS g L6, 1000000, [.drop 0, .drop 8, .drop 9, .drop 10, .drop 11, .drop 12, .drop 13, .drop 14, .drop 15, .drop 16, .drop 17, .drop 18, .drop 19, .drop 20, .drop 21, .drop 22, .drop 23, .drop 24, .drop 25, .drop 26, .drop 27, .drop 28, .drop 29, .drop 30, .drop 31, .drop 32], []⟩
structure W6_0 where
  a0 : Bool
  a1 : Bool
  a2 : Int
  a3 : Int
  a4 : Int
  a5 : Int
  a6 : Int
  a7 : Int
  a8 : Int
  a9 : Bool
  a10 : Int
  a11 : Int
  a12 : Int
  a13 : Int
  a14 : Int
  a15 : Int
  a16 : Int
  a17 : Int
  a18 : Int
  a19 : List S0
  a20 : Int
  a21 : Int
  a22 : Int
  a23 : Int
  a24 : Int
  a25 : Int
  a26 : Bool
  a27 : Int
  a28 : Int
  a29 : Int
  a30 : Int
  a31 : Int
  a32 : Int
  a33 : Int
  a34 : Int
  a35 : Int
  a36 : List S0
def hd6_0 (v : W6_0) : St := ⟨[.top, .c (.ptr 0 0), .c (.bool v.a0), .c (.ptr 1 0), .c (.bool v.a1), .c (.int .i64 v.a2), .top, .top, .top, .top, .top, .top, .top, .top, .top, .top, .top, .top, .top, .top, .top, .top, .top, .top, .top, .top, .top, .top, .top, .top, .top, .top, .top, .top, .top, .top, .top, .top, .top, .top, .top, .top, .top, .top, .top, .top, .top, .top, .top, .top, .top, .top, .top, .top, .top, .top, .top, .top, .top, .top, .top, .top, .top], [.cells [.int .u64 v.a3, .int .u8 v.a4, .int .u8 v.a5, .int .u8 v.a6, .int .u8 v.a7, .int .u8 v.a8, .bool v.a9, .int .u16 v.a10, .int .u64 v.a11, .int .u32 v.a12, .int .u64 v.a13, .int .u16 v.a14, .int .u8 v.a15, .int .u8 v.a16, .int .u8 v.a17, .int .u8 v.a18, .rs 0 v.a19], .cells [.int .u64 v.a20, .int .u8 v.a21, .int .u8 v.a22, .int .u8 v.a23, .int .u8 v.a24, .int .u8 v.a25, .bool v.a26, .int .u16 v.a27, .int .u64 v.a28, .int .u32 v.a29, .int .u64 v.a30, .int .u16 v.a31, .int .u8 v.a32, .int .u8 v.a33, .int .u8 v.a34, .int .u8 v.a35, .rs 0 v.a36]]⟩
def gR6_0 (v : W6_0) : Tr (W6_0 ⊕ (Bool × W6_0)) :=
  .br (decide (v.a2 < (v.a19.length : Int))) (
   .opt (g19 (S5.mk v.a3 v.a4 v.a5 v.a6 v.a7 v.a8 v.a9 v.a10 v.a11 v.a12 v.a13 v.a14 v.a15 v.a16 v.a17 v.a18 v.a19) v.a2) fun z84 =>
    .br (!z84.2) (
     .leaf (.inl ({ v with a2 := (IntKind.i64.wrap (v.a2 + 1)) }))) (
     let z85 := g18 z84.1 (S4.mk v.a28 v.a29 v.a30 v.a31)
     .br z85 (
      .leaf (.inr (true, { v with a0 := false }))) (
      .leaf (.inl ({ v with a1 := (bif v.a1 then true else (eqS4 z84.1 (S4.mk v.a28 v.a29 v.a30 v.a31))), a2 := (IntKind.i64.wrap (v.a2 + 1)) }))))) (
   .leaf (.inr (false, v)))
noncomputable def lb6_0 : Code := match findB 0 (Go.Proofs.Try.f6.body.getD .skip) with | [.loop b] => b | _ => .skip
def pa6_0 : List PA := [.any, .c (.ptr 0 0), .c (.bool), .c (.ptr 1 0), .c (.bool), .c (.int .i64), .top, .top, .any, .any, .any, .any, .any, .any, .any, .any, .any, .any, .any, .any, .any, .any, .any, .any, .any, .any, .any, .any, .any, .any, .any, .any, .any, .top, .top, .top, .top, .top, .top, .top, .top, .top, .top, .top, .top, .top, .top, .top, .top, .top, .top, .top, .top, .top, .top, .top, .top, .top, .top, .top, .top, .top, .top]
def pb6_0 : List PB := [.cells [.int .u64, .int .u8, .int .u8, .int .u8, .int .u8, .int .u8, .bool, .int .u16, .int .u64, .int .u32, .int .u64, .int .u16, .int .u8, .int .u8, .int .u8, .int .u8, .rs 0], .cells [.int .u64, .int .u8, .int .u8, .int .u8, .int .u8, .int .u8, .bool, .int .u16, .int .u64, .int .u32, .int .u64, .int .u16, .int .u8, .int .u8, .int .u8, .int .u8, .rs 0]]
def ini6_0 (s : St) : W6_0 := ⟨bC (aC (s.tmps.getD 2 .top)), bC (aC (s.tmps.getD 4 .top)), iC (aC (s.tmps.getD 5 .top)), iC ((bL (s.heap.getD 0 .dead)).getD 0 .top), iC ((bL (s.heap.getD 0 .dead)).getD 1 .top), iC ((bL (s.heap.getD 0 .dead)).getD 2 .top), iC ((bL (s.heap.getD 0 .dead)).getD 3 .top), iC ((bL (s.heap.getD 0 .dead)).getD 4 .top), iC ((bL (s.heap.getD 0 .dead)).getD 5 .top), bC ((bL (s.heap.getD 0 .dead)).getD 6 .top), iC ((bL (s.heap.getD 0 .dead)).getD 7 .top), iC ((bL (s.heap.getD 0 .dead)).getD 8 .top), iC ((bL (s.heap.getD 0 .dead)).getD 9 .top), iC ((bL (s.heap.getD 0 .dead)).getD 10 .top), iC ((bL (s.heap.getD 0 .dead)).getD 11 .top), iC ((bL (s.heap.getD 0 .dead)).getD 12 .top), iC ((bL (s.heap.getD 0 .dead)).getD 13 .top), iC ((bL (s.heap.getD 0 .dead)).getD 14 .top), iC ((bL (s.heap.getD 0 .dead)).getD 15 .top), rC 0 ((bL (s.heap.getD 0 .dead)).getD 16 .top), iC ((bL (s.heap.getD 1 .dead)).getD 0 .top), iC ((bL (s.heap.getD 1 .dead)).getD 1 .top), iC ((bL (s.heap.getD 1 .dead)).getD 2 .top), iC ((bL (s.heap.getD 1 .dead)).getD 3 .top), iC ((bL (s.heap.getD 1 .dead)).getD 4 .top), iC ((bL (s.heap.getD 1 .dead)).getD 5 .top), bC ((bL (s.heap.getD 1 .dead)).getD 6 .top), iC ((bL (s.heap.getD 1 .dead)).getD 7 .top), iC ((bL (s.heap.getD 1 .dead)).getD 8 .top), iC ((bL (s.heap.getD 1 .dead)).getD 9 .top), iC ((bL (s.heap.getD 1 .dead)).getD 10 .top), iC ((bL (s.heap.getD 1 .dead)).getD 11 .top), iC ((bL (s.heap.getD 1 .dead)).getD 12 .top), iC ((bL (s.heap.getD 1 .dead)).getD 13 .top), iC ((bL (s.heap.getD 1 .dead)).getD 14 .top), iC ((bL (s.heap.getD 1 .dead)).getD 15 .top), rC 0 ((bL (s.heap.getD 1 .dead)).getD 16 .top)⟩
noncomputable def F6_0 : St → Res (Ex × St) := loopF pa6_0 pb6_0 1000000 hd6_0 gR6_0 ini6_0 true
theorem F6_0_ok (s : St) (r : Ex × St) (h : (F6_0 s).eval = some r) : (codeR e6 0 (.block 0 (.loop lb6_0)) s).eval = some r :=
  blk_ok (e := e6) (T := lookT []) (fun s v => by kernel_rfl) (fun s => by kernel_rfl) (tab_nil) s r h
def g6T (x0 : S5) : Tr (Bool) :=
  .opt (g10 x0) fun z79 =>
   .opt (g15 z79) fun z80 =>
    let z81 := g17 z79.f0
    let z82 := g18 z81 (S4.mk z80.f8 z80.f9 z80.f10 z80.f11)
    .br (bif z82 then true else ((z80.f16.length : Int) != (z79.f16.length : Int))) (
     .leaf (false)) (
     let z83 := g17 z79.f0
     .opt (iter gR6_0 1000000 (W6_0.mk (false) ((eqS4 (S4.mk z80.f8 z80.f9 z80.f10 z80.f11) z83)) (0) (z79.f0) (z79.f1) (z79.f2) (z79.f3) (z79.f4) (z79.f5) (z79.f6) (z79.f7) (z79.f8) (z79.f9) (z79.f10) (z79.f11) (z79.f12) (z79.f13) (z79.f14) (z79.f15) (z79.f16) (z80.f0) (z80.f1) (z80.f2) (z80.f3) (z80.f4) (z80.f5) (z80.f6) (z80.f7) (z80.f8) (z80.f9) (z80.f10) (z80.f11) (z80.f12) (z80.f13) (z80.f14) (z80.f15) (z80.f16))) fun r86 =>
      .br r86.1 (
       .leaf (r86.2.a0)) (
       .br r86.2.a1 (
        .opt (g13 ) fun z88 =>
         .leaf (z88)) (
        .leaf (false))))
def g6 (x0 : S5) : Option (Bool) := (g6T x0).get?
noncomputable def T6 : TL := [(0, F6_0)]
noncomputable def q6 : Ab.Spec := runQ0 e6 (lookT T6) Go.Proofs.Try.f6
theorem q6_ok : SpecOk Go.Proofs.Try.prog 6 q6 := (runQ0_ok (runR_ok (e := e6) follows (allTI ti_ok _ _ _ _) (callsOk_cons s10_ok (callsOk_cons s15_ok (callsOk_cons s17_ok (callsOk_cons s18_ok (callsOk_cons s19_ok (callsOk_cons s13_ok (callsOk_nil))))))) Go.Proofs.Try.func6 Go.Proofs.Try.call6) (fun c hc => by
  have hb : c = Go.Proofs.Try.f6.body.getD .skip := by rw [hc]; rfl
  subst hb
  exact tab_cons (by kernel_rfl) F6_0_ok (tab_nil)))
theorem g6_run (x0 : S5) : (q6 [.agg (Cod.enc 5 x0)] []).eval = (g6T x0).ev fun r => ((.c (.bool r) : AV), ([] : List Blk)) := by kernel_rfl
noncomputable def s6_0 : Ab.Spec := fun args h =>
  dN h <| dL args fun v0 a0 => dG v0 fun l0 => dE 5 l0 fun x0 => dN a0 <|
  .opt (g6 x0) fun r => .val (.c (.bool r), [])
theorem s6_0_ok : SpecOk Go.Proofs.Try.prog 6 s6_0 :=
  q6_ok.less fun args hs r h => by
    unfold s6_0 at h
    obtain ⟨rfl, hh1⟩ := dN_inv h
    obtain ⟨v0, a0, rfl, hh2⟩ := dL_inv hh1
    obtain ⟨l0, rfl, hh3⟩ := dG_inv hh2
    obtain ⟨x0, rfl, hh4⟩ := dE_inv hh3
    obtain ⟨rfl, hh5⟩ := dN_inv hh4
    rw [g6_run, Tr.ev_get?]
    change (Res.opt (g6 x0) _).eval = some r at hh5
    rw [eval_opt] at hh5
    obtain ⟨z, hz, hh6⟩ := Option.bind_eq_some_iff.mp hh5
    unfold g6 at hz
    rw [hz]; exact hh6
noncomputable def s6 : Ab.Spec := fun args h => s6_0 (coeA [[none, none, none, none, none, none, none, none, none, none, none, none, none, none, none, none, some 0]] args) h
theorem s6_ok : SpecOk Go.Proofs.Try.prog 6 s6 := s6_0_ok.pre [[none, none, none, none, none, none, none, none, none, none, none, none, none, none, none, none, some 0]]
/-- pontage/pontagelaw12.RolesFits -/
noncomputable def L7 : SL := [(10, .byNew, s10), (15, .byNew, s15), (18, .byVal, s18), (13, .byVal, s13)]
noncomputable def e7 : Env := ⟨ti, fun g => lookS g L7, 1000000, [.drop 0, .drop 1, .drop 7, .drop 8, .drop 9], []⟩
structure W7_0 where
  a0 : Bool
  a1 : Int
  a2 : Int
  a3 : Int
  a4 : Int
  a5 : Int
  a6 : Int
  a7 : Int
  a8 : Bool
  a9 : Int
  a10 : Int
  a11 : Int
  a12 : Int
  a13 : Int
  a14 : Int
  a15 : Int
  a16 : Int
  a17 : Int
  a18 : List S0
def hd7_0 (v : W7_0) : St := ⟨[.top, .top, .c (.bool v.a0), .c (.ptr 0 0), .c (.int .i64 v.a1), .top, .top, .top, .top, .top, .top, .top, .top, .top, .top, .top, .top, .top, .top, .top, .top, .top, .top, .top, .top, .top, .top, .top, .top, .top, .top, .top, .top, .top, .top, .top, .top, .top, .top, .top, .top, .top, .top, .top, .top, .top, .top, .top, .top, .top, .top, .top, .top, .top, .top, .top, .top, .top, .top, .top, .top, .top, .top, .top, .top, .top, .top, .top, .top, .top, .top, .top, .top, .top, .top, .top, .top, .top, .top, .top, .top, .top, .top, .top, .top, .top, .top, .top, .top, .top, .top, .top, .top, .top, .top, .top, .top], [.cells [.int .u64 v.a2, .int .u8 v.a3, .int .u8 v.a4, .int .u8 v.a5, .int .u8 v.a6, .int .u8 v.a7, .bool v.a8, .int .u16 v.a9, .int .u64 v.a10, .int .u32 v.a11, .int .u64 v.a12, .int .u16 v.a13, .int .u8 v.a14, .int .u8 v.a15, .int .u8 v.a16, .int .u8 v.a17, .rs 0 v.a18]]⟩
def gR7_0 (v : W7_0) : Tr (W7_0 ⊕ (Bool × W7_0)) :=
  .br (decide (v.a1 < (v.a18.length : Int))) (
   .br (decide (0 ≤ v.a1)) (
    .opt (v.a18[Int.toNat v.a1]?) fun y91 =>
     .br (bif (bif (bif (bif (y91.f29 == 2) then true else (y91.f29 == 1)) then (y91.f31 != 4) else false) then true else y91.f21) then true else (!y91.f22)) (
      .leaf (.inr (true, { v with a0 := false }))) (
      let z92 := g18 (S4.mk y91.f32 y91.f33 y91.f34 y91.f35) (S4.mk y91.f36 y91.f37 y91.f38 y91.f39)
      .br (bif (bif (y91.f29 == 3) then (y91.f31 != 3) else false) then (!((y91.f31 == 4) == z92)) else false) (
       .leaf (.inr (true, { v with a0 := false }))) (
       .br (bif (bif (bif (y91.f34 != v.a2) then true else (y91.f32 != v.a10)) then true else (y91.f33 != v.a11)) then true else (y91.f35 != y91.f0)) (
        .leaf (.inr (true, { v with a0 := false }))) (
        .leaf (.inl ({ v with a1 := (IntKind.i64.wrap (v.a1 + 1)) })))))) (
    .fail)) (
   .leaf (.inr (false, v)))
noncomputable def lb7_0 : Code := match findB 0 (Go.Proofs.Try.f7.body.getD .skip) with | [.loop b] => b | _ => .skip
def pa7_0 : List PA := [.any, .any, .c (.bool), .c (.ptr 1 0), .c (.int .i64), .top, .top, .any, .any, .any, .top, .top, .top, .top, .top, .top, .top, .top, .top, .top, .top, .top, .top, .top, .top, .top, .top, .top, .top, .top, .top, .top, .top, .top, .top, .top, .top, .top, .top, .top, .top, .top, .top, .top, .top, .top, .top, .top, .top, .top, .top, .top, .top, .top, .top, .top, .top, .top, .top, .top, .top, .top, .top, .top, .top, .top, .top, .top, .top, .top, .top, .top, .top, .top, .top, .top, .top, .top, .top, .top, .top, .top, .top, .top, .top, .top, .top, .top, .top, .top, .top, .top, .top, .top, .top, .top, .top]
def pb7_0 : List PB := [.cells [.int .u64, .int .u8, .int .u8, .int .u8, .int .u8, .int .u8, .bool, .int .u16, .int .u64, .int .u32, .int .u64, .int .u16, .int .u8, .int .u8, .int .u8, .int .u8, .rs 0], .cells [.int .u64, .int .u8, .int .u8, .int .u8, .int .u8, .int .u8, .bool, .int .u16, .int .u64, .int .u32, .int .u64, .int .u16, .int .u8, .int .u8, .int .u8, .int .u8, .rs 0]]
def ini7_0 (s : St) : W7_0 := ⟨bC (aC (s.tmps.getD 2 .top)), iC (aC (s.tmps.getD 4 .top)), iC ((bL (s.heap.getD 1 .dead)).getD 0 .top), iC ((bL (s.heap.getD 1 .dead)).getD 1 .top), iC ((bL (s.heap.getD 1 .dead)).getD 2 .top), iC ((bL (s.heap.getD 1 .dead)).getD 3 .top), iC ((bL (s.heap.getD 1 .dead)).getD 4 .top), iC ((bL (s.heap.getD 1 .dead)).getD 5 .top), bC ((bL (s.heap.getD 1 .dead)).getD 6 .top), iC ((bL (s.heap.getD 1 .dead)).getD 7 .top), iC ((bL (s.heap.getD 1 .dead)).getD 8 .top), iC ((bL (s.heap.getD 1 .dead)).getD 9 .top), iC ((bL (s.heap.getD 1 .dead)).getD 10 .top), iC ((bL (s.heap.getD 1 .dead)).getD 11 .top), iC ((bL (s.heap.getD 1 .dead)).getD 12 .top), iC ((bL (s.heap.getD 1 .dead)).getD 13 .top), iC ((bL (s.heap.getD 1 .dead)).getD 14 .top), iC ((bL (s.heap.getD 1 .dead)).getD 15 .top), rC 0 ((bL (s.heap.getD 1 .dead)).getD 16 .top)⟩
noncomputable def F7_0 : St → Res (Ex × St) := loopF pa7_0 pb7_0 1000000 hd7_0 gR7_0 ini7_0 true
theorem F7_0_ok (s : St) (r : Ex × St) (h : (F7_0 s).eval = some r) : (codeR e7 0 (.block 0 (.loop lb7_0)) s).eval = some r :=
  blk_ok (e := e7) (T := lookT []) (fun s v => by kernel_rfl) (fun s => by kernel_rfl) (tab_nil) s r h
def g7T (x0 : S5) : Tr (Bool) :=
  .opt (g10 x0) fun z89 =>
   .opt (g15 z89) fun z90 =>
    .opt (iter gR7_0 1000000 (W7_0.mk (false) (0) (z90.f0) (z90.f1) (z90.f2) (z90.f3) (z90.f4) (z90.f5) (z90.f6) (z90.f7) (z90.f8) (z90.f9) (z90.f10) (z90.f11) (z90.f12) (z90.f13) (z90.f14) (z90.f15) (z90.f16))) fun r93 =>
     .br r93.1 (
      .leaf (r93.2.a0)) (
      .opt (g13 ) fun z94 =>
       .leaf (z94))
def g7 (x0 : S5) : Option (Bool) := (g7T x0).get?
noncomputable def T7 : TL := [(0, F7_0)]
noncomputable def q7 : Ab.Spec := runQ0 e7 (lookT T7) Go.Proofs.Try.f7
theorem q7_ok : SpecOk Go.Proofs.Try.prog 7 q7 := (runQ0_ok (runR_ok (e := e7) follows (allTI ti_ok _ _ _ _) (callsOk_cons s10_ok (callsOk_cons s15_ok (callsOk_cons s18_ok (callsOk_cons s13_ok (callsOk_nil))))) Go.Proofs.Try.func7 Go.Proofs.Try.call7) (fun c hc => by
  have hb : c = Go.Proofs.Try.f7.body.getD .skip := by rw [hc]; rfl
  subst hb
  exact tab_cons (by kernel_rfl) F7_0_ok (tab_nil)))
theorem g7_run (x0 : S5) : (q7 [.agg (Cod.enc 5 x0)] []).eval = (g7T x0).ev fun r => ((.c (.bool r) : AV), ([] : List Blk)) := by kernel_rfl
noncomputable def s7_0 : Ab.Spec := fun args h =>
  dN h <| dL args fun v0 a0 => dG v0 fun l0 => dE 5 l0 fun x0 => dN a0 <|
  .opt (g7 x0) fun r => .val (.c (.bool r), [])
theorem s7_0_ok : SpecOk Go.Proofs.Try.prog 7 s7_0 :=
  q7_ok.less fun args hs r h => by
    unfold s7_0 at h
    obtain ⟨rfl, hh1⟩ := dN_inv h
    obtain ⟨v0, a0, rfl, hh2⟩ := dL_inv hh1
    obtain ⟨l0, rfl, hh3⟩ := dG_inv hh2
    obtain ⟨x0, rfl, hh4⟩ := dE_inv hh3
    obtain ⟨rfl, hh5⟩ := dN_inv hh4
    rw [g7_run, Tr.ev_get?]
    change (Res.opt (g7 x0) _).eval = some r at hh5
    rw [eval_opt] at hh5
    obtain ⟨z, hz, hh6⟩ := Option.bind_eq_some_iff.mp hh5
    unfold g7 at hz
    rw [hz]; exact hh6
noncomputable def s7 : Ab.Spec := fun args h => s7_0 (coeA [[none, none, none, none, none, none, none, none, none, none, none, none, none, none, none, none, some 0]] args) h
theorem s7_ok : SpecOk Go.Proofs.Try.prog 7 s7 := s7_0_ok.pre [[none, none, none, none, none, none, none, none, none, none, none, none, none, none, none, none, some 0]]
/-- pontage/roles.Step$1 -/
noncomputable def L34 : SL := []
noncomputable def e34 : Env := ⟨ti, fun g => lookS g L34, 1000000, [], []⟩
def g34T (x0 : S0) : Tr (Bool) :=
  .leaf (x0.f21)
def g34 (x0 : S0) : Bool := (g34T x0).get default
noncomputable def T34 : TL := []
noncomputable def q34 : Ab.Spec := runQ0 e34 (lookT T34) Go.Proofs.Try.f34
theorem q34_ok : SpecOk Go.Proofs.Try.prog 34 q34 := (runQ0_ok (runR_ok (e := e34) follows (allTI ti_ok _ _ _ _) (callsOk_nil) Go.Proofs.Try.func34 Go.Proofs.Try.call34) (fun c hc => by
  have hb : c = Go.Proofs.Try.f34.body.getD .skip := by rw [hc]; rfl
  subst hb
  exact tab_nil))
theorem g34_run (x0 : S0) : (q34 [.agg (Cod.enc 0 x0)] []).eval = (g34T x0).ev fun r => ((.c (.bool r) : AV), ([] : List Blk)) := by kernel_rfl
noncomputable def s34 : Ab.Spec := fun args h =>
  dN h <| dL args fun v0 a0 => dG v0 fun l0 => dE 0 l0 fun x0 => dN a0 <|
  let r := g34 x0; .val (.c (.bool r), [])
theorem s34_ok : SpecOk Go.Proofs.Try.prog 34 s34 :=
  q34_ok.less fun args hs r h => by
    unfold s34 at h
    obtain ⟨rfl, hh1⟩ := dN_inv h
    obtain ⟨v0, a0, rfl, hh2⟩ := dL_inv hh1
    obtain ⟨l0, rfl, hh3⟩ := dG_inv hh2
    obtain ⟨x0, rfl, hh4⟩ := dE_inv hh3
    obtain ⟨rfl, hh5⟩ := dN_inv hh4
    rw [g34_run, Tr.ev_get (d := default) (by kernel_rfl)]
    exact hh5
/-- slices.IndexFunc[[]pontage/api.Port,pontage/api.Port] -/
noncomputable def L37 : SL := [(34, .byVal, s34)]
noncomputable def e37 : Env := ⟨ti, fun g => lookS g L37, 1000000, [.drop 2, .drop 3, .drop 6], []⟩
structure W37_0 where
  a0 : List S0
  a1 : Int
  a2 : Int
  a3 : Int
def hd37_0 (v : W37_0) : St := ⟨[.c (.rs 0 v.a0), .c (.fn 34 [] []), .top, .top, .c (.int .i64 v.a1), .top, .top, .c (.int .i64 v.a2), .c (.int .i64 v.a3), .top, .top, .top, .top, .top, .top, .top, .top, .top, .top], []⟩
def gR37_0 (v : W37_0) : Tr (W37_0 ⊕ (Bool × W37_0)) :=
  .br (decide (v.a3 < v.a2)) (
   .br (decide (0 ≤ v.a3)) (
    .opt (v.a0[Int.toNat v.a3]?) fun y95 =>
     let z96 := g34 y95
     .br z96 (
      .leaf (.inr (true, { v with a1 := v.a3 }))) (
      .leaf (.inl ({ v with a3 := (IntKind.i64.wrap (v.a3 + 1)) })))) (
    .fail)) (
   .leaf (.inr (false, v)))
noncomputable def lb37_0 : Code := match findB 0 (Go.Proofs.Try.f37.body.getD .skip) with | [.loop b] => b | _ => .skip
def pa37_0 : List PA := [.c (.rs 0), .c (.fn 34), .any, .any, .c (.int .i64), .top, .any, .c (.int .i64), .c (.int .i64), .top, .top, .top, .top, .top, .top, .top, .top, .top, .top]
def pb37_0 : List PB := []
def ini37_0 (s : St) : W37_0 := ⟨rC 0 (aC (s.tmps.getD 0 .top)), iC (aC (s.tmps.getD 4 .top)), iC (aC (s.tmps.getD 7 .top)), iC (aC (s.tmps.getD 8 .top))⟩
noncomputable def F37_0 : St → Res (Ex × St) := loopF pa37_0 pb37_0 1000000 hd37_0 gR37_0 ini37_0 true
theorem F37_0_ok (s : St) (r : Ex × St) (h : (F37_0 s).eval = some r) : (codeR e37 0 (.block 0 (.loop lb37_0)) s).eval = some r :=
  blk_ok (e := e37) (T := lookT []) (fun s v => by kernel_rfl) (fun s => by kernel_rfl) (tab_nil) s r h
def g37T (x0 : List S0) : Tr (Int) :=
  .opt (iter gR37_0 1000000 (W37_0.mk (x0) (0) ((x0.length : Int)) (0))) fun r97 =>
   .br r97.1 (
    .leaf (r97.2.a1)) (
    .leaf ((-1)))
def g37 (x0 : List S0) : Option (Int) := (g37T x0).get?
noncomputable def T37 : TL := [(0, F37_0)]
noncomputable def q37 : Ab.Spec := runQ0 e37 (lookT T37) Go.Proofs.Try.f37
theorem q37_ok : SpecOk Go.Proofs.Try.prog 37 q37 := (runQ0_ok (runR_ok (e := e37) follows (allTI ti_ok _ _ _ _) (callsOk_cons s34_ok (callsOk_nil)) Go.Proofs.Try.func37 Go.Proofs.Try.call37) (fun c hc => by
  have hb : c = Go.Proofs.Try.f37.body.getD .skip := by rw [hc]; rfl
  subst hb
  exact tab_cons (by kernel_rfl) F37_0_ok (tab_nil)))
theorem g37_run (x0 : List S0) : (q37 [.c (.rs 0 x0), .c (.fn 34 [] [])] []).eval = (g37T x0).ev fun r => ((.c (.int .i64 r) : AV), ([] : List Blk)) := by kernel_rfl
noncomputable def s37_0 : Ab.Spec := fun args h =>
  dN h <| dL args fun v0 a0 => dC v0 fun c0 => dR0 0 c0 fun x0 => dL a0 fun v1 a1 => dFn 34 v1 <| dN a1 <|
  .opt (g37 x0) fun r => .val (.c (.int .i64 r), [])
theorem s37_0_ok : SpecOk Go.Proofs.Try.prog 37 s37_0 :=
  q37_ok.less fun args hs r h => by
    unfold s37_0 at h
    obtain ⟨rfl, hh1⟩ := dN_inv h
    obtain ⟨v0, a0, rfl, hh2⟩ := dL_inv hh1
    obtain ⟨c0, rfl, hh3⟩ := dC_inv hh2
    obtain ⟨x0, rfl, hh4⟩ := dR0_inv hh3
    obtain ⟨v1, a1, rfl, hh5⟩ := dL_inv hh4
    obtain ⟨rfl, hh6⟩ := dFn_inv hh5
    obtain ⟨rfl, hh7⟩ := dN_inv hh6
    rw [g37_run, Tr.ev_get?]
    change (Res.opt (g37 x0) _).eval = some r at hh7
    rw [eval_opt] at hh7
    obtain ⟨z, hz, hh8⟩ := Option.bind_eq_some_iff.mp hh7
    unfold g37 at hz
    rw [hz]; exact hh8
noncomputable def s37 : Ab.Spec := fun args h => s37_0 (coeA [[some 0], []] args) h
theorem s37_ok : SpecOk Go.Proofs.Try.prog 37 s37 := s37_0_ok.pre [[some 0], []]
/-- slices.ContainsFunc[[]pontage/api.Port,pontage/api.Port] -/
noncomputable def L33 : SL := [(37, .byVal, s37), (34, .byVal, s34)]
noncomputable def e33 : Env := ⟨ti, fun g => lookS g L33, 1000000, [], []⟩
def g33T (x0 : List S0) : Tr (Bool) :=
  .opt (g37 x0) fun z98 =>
   .leaf ((decide (z98 ≥ 0)))
def g33 (x0 : List S0) : Option (Bool) := (g33T x0).get?
noncomputable def T33 : TL := []
noncomputable def q33 : Ab.Spec := runQ0 e33 (lookT T33) Go.Proofs.Try.f33
theorem q33_ok : SpecOk Go.Proofs.Try.prog 33 q33 := (runQ0_ok (runR_ok (e := e33) follows (allTI ti_ok _ _ _ _) (callsOk_cons s37_ok (callsOk_cons s34_ok (callsOk_nil))) Go.Proofs.Try.func33 Go.Proofs.Try.call33) (fun c hc => by
  have hb : c = Go.Proofs.Try.f33.body.getD .skip := by rw [hc]; rfl
  subst hb
  exact tab_nil))
theorem g33_run (x0 : List S0) : (q33 [.c (.rs 0 x0), .c (.fn 34 [] [])] []).eval = (g33T x0).ev fun r => ((.c (.bool r) : AV), ([] : List Blk)) := by kernel_rfl
noncomputable def s33_0 : Ab.Spec := fun args h =>
  dN h <| dL args fun v0 a0 => dC v0 fun c0 => dR0 0 c0 fun x0 => dL a0 fun v1 a1 => dFn 34 v1 <| dN a1 <|
  .opt (g33 x0) fun r => .val (.c (.bool r), [])
theorem s33_0_ok : SpecOk Go.Proofs.Try.prog 33 s33_0 :=
  q33_ok.less fun args hs r h => by
    unfold s33_0 at h
    obtain ⟨rfl, hh1⟩ := dN_inv h
    obtain ⟨v0, a0, rfl, hh2⟩ := dL_inv hh1
    obtain ⟨c0, rfl, hh3⟩ := dC_inv hh2
    obtain ⟨x0, rfl, hh4⟩ := dR0_inv hh3
    obtain ⟨v1, a1, rfl, hh5⟩ := dL_inv hh4
    obtain ⟨rfl, hh6⟩ := dFn_inv hh5
    obtain ⟨rfl, hh7⟩ := dN_inv hh6
    rw [g33_run, Tr.ev_get?]
    change (Res.opt (g33 x0) _).eval = some r at hh7
    rw [eval_opt] at hh7
    obtain ⟨z, hz, hh8⟩ := Option.bind_eq_some_iff.mp hh7
    unfold g33 at hz
    rw [hz]; exact hh8
noncomputable def s33 : Ab.Spec := fun args h => s33_0 (coeA [[some 0], []] args) h
theorem s33_ok : SpecOk Go.Proofs.Try.prog 33 s33 := s33_0_ok.pre [[some 0], []]
/-- pontage/roles.Step -/
noncomputable def L20 : SL := [(26, .byNew, s26), (15, .byNew, s15), (33, .byVal, s33), (34, .byVal, s34)]
noncomputable def e20 : Env := ⟨ti, fun g => lookS g L20, 1000000, [.drop 0, .drop 5, .drop 6, .drop 7, .drop 8, .drop 9, .drop 10, .drop 11, .drop 12, .drop 13, .drop 14], []⟩
structure W20_0 where
  a0 : Bool
  a1 : Int
  a2 : Int
  a3 : Int
  a4 : Int
  a5 : Int
  a6 : Int
  a7 : Int
  a8 : Int
  a9 : Bool
  a10 : Int
  a11 : Int
  a12 : Int
  a13 : Int
  a14 : Int
  a15 : Int
  a16 : Int
  a17 : Int
  a18 : Int
  a19 : Int
  a20 : Int
  a21 : Int
  a22 : Int
  a23 : Int
  a24 : Int
  a25 : Bool
  a26 : Int
  a27 : Int
  a28 : Int
  a29 : Int
  a30 : Int
  a31 : Int
  a32 : Int
  a33 : Int
  a34 : Int
  a35 : List S0
def hd20_0 (v : W20_0) : St := ⟨[.top, .c (.ptr 0 0), .c (.ptr 1 0), .c (.bool v.a0), .top, .top, .top, .top, .top, .top, .top, .top, .top, .top, .top, .c (.int .i64 v.a1), .c (.int .i64 v.a2), .top, .top, .top, .top, .top, .top, .top, .top, .top, .top, .top, .top, .top, .top, .top, .top], [.cells [.int .u64 v.a3, .int .u8 v.a4, .int .u8 v.a5, .int .u8 v.a6, .int .u8 v.a7, .int .u8 v.a8, .bool v.a9, .int .u16 v.a10, .int .u64 v.a11, .int .u32 v.a12, .int .u64 v.a13, .int .u16 v.a14, .int .u8 v.a15, .int .u8 v.a16, .int .u8 v.a17, .int .u8 v.a18, .slw 2], .cells [.int .u64 v.a19, .int .u8 v.a20, .int .u8 v.a21, .int .u8 v.a22, .int .u8 v.a23, .int .u8 v.a24, .bool v.a25, .int .u16 v.a26, .int .u64 v.a27, .int .u32 v.a28, .int .u64 v.a29, .int .u16 v.a30, .int .u8 v.a31, .int .u8 v.a32, .int .u8 v.a33, .int .u8 v.a34, .nils], .row 0 v.a35]⟩
def gR20_0 (v : W20_0) : Tr (W20_0 ⊕ (Bool × W20_0)) :=
  .br (decide (v.a2 < v.a1)) (
   .br (decide (0 ≤ v.a2) && decide (v.a2 < (v.a35.length : Int))) (
    .opt (v.a35[(Int.toNat v.a2)]?) fun y100 =>
     .leaf (.inl ({ v with a2 := (IntKind.i64.wrap (v.a2 + 1)), a35 := (List.set v.a35 (Int.toNat v.a2) { y100 with f31 := 0 }) }))) (
    .fail)) (
   .leaf (.inr (false, v)))
noncomputable def lb20_0 : Code := match findB 0 (Go.Proofs.Try.f20.body.getD .skip) with | [.loop b] => b | _ => .skip
def pa20_0 : List PA := [.any, .c (.ptr 0 0), .c (.ptr 1 0), .c (.bool), .top, .any, .any, .any, .any, .any, .any, .any, .any, .any, .any, .c (.int .i64), .c (.int .i64), .top, .top, .top, .top, .top, .top, .top, .top, .top, .top, .top, .top, .top, .top, .top, .top]
def pb20_0 : List PB := [.cells [.int .u64, .int .u8, .int .u8, .int .u8, .int .u8, .int .u8, .bool, .int .u16, .int .u64, .int .u32, .int .u64, .int .u16, .int .u8, .int .u8, .int .u8, .int .u8, .slw 2], .cells [.int .u64, .int .u8, .int .u8, .int .u8, .int .u8, .int .u8, .bool, .int .u16, .int .u64, .int .u32, .int .u64, .int .u16, .int .u8, .int .u8, .int .u8, .int .u8, .nils], .row 0]
def ini20_0 (s : St) : W20_0 := ⟨bC (aC (s.tmps.getD 3 .top)), iC (aC (s.tmps.getD 15 .top)), iC (aC (s.tmps.getD 16 .top)), iC ((bL (s.heap.getD 0 .dead)).getD 0 .top), iC ((bL (s.heap.getD 0 .dead)).getD 1 .top), iC ((bL (s.heap.getD 0 .dead)).getD 2 .top), iC ((bL (s.heap.getD 0 .dead)).getD 3 .top), iC ((bL (s.heap.getD 0 .dead)).getD 4 .top), iC ((bL (s.heap.getD 0 .dead)).getD 5 .top), bC ((bL (s.heap.getD 0 .dead)).getD 6 .top), iC ((bL (s.heap.getD 0 .dead)).getD 7 .top), iC ((bL (s.heap.getD 0 .dead)).getD 8 .top), iC ((bL (s.heap.getD 0 .dead)).getD 9 .top), iC ((bL (s.heap.getD 0 .dead)).getD 10 .top), iC ((bL (s.heap.getD 0 .dead)).getD 11 .top), iC ((bL (s.heap.getD 0 .dead)).getD 12 .top), iC ((bL (s.heap.getD 0 .dead)).getD 13 .top), iC ((bL (s.heap.getD 0 .dead)).getD 14 .top), iC ((bL (s.heap.getD 0 .dead)).getD 15 .top), iC ((bL (s.heap.getD 1 .dead)).getD 0 .top), iC ((bL (s.heap.getD 1 .dead)).getD 1 .top), iC ((bL (s.heap.getD 1 .dead)).getD 2 .top), iC ((bL (s.heap.getD 1 .dead)).getD 3 .top), iC ((bL (s.heap.getD 1 .dead)).getD 4 .top), iC ((bL (s.heap.getD 1 .dead)).getD 5 .top), bC ((bL (s.heap.getD 1 .dead)).getD 6 .top), iC ((bL (s.heap.getD 1 .dead)).getD 7 .top), iC ((bL (s.heap.getD 1 .dead)).getD 8 .top), iC ((bL (s.heap.getD 1 .dead)).getD 9 .top), iC ((bL (s.heap.getD 1 .dead)).getD 10 .top), iC ((bL (s.heap.getD 1 .dead)).getD 11 .top), iC ((bL (s.heap.getD 1 .dead)).getD 12 .top), iC ((bL (s.heap.getD 1 .dead)).getD 13 .top), iC ((bL (s.heap.getD 1 .dead)).getD 14 .top), iC ((bL (s.heap.getD 1 .dead)).getD 15 .top), bR 0 (s.heap.getD 2 .dead)⟩
noncomputable def F20_0 : St → Res (Ex × St) := loopF pa20_0 pb20_0 1000000 hd20_0 gR20_0 ini20_0 false
theorem F20_0_ok (s : St) (r : Ex × St) (h : (F20_0 s).eval = some r) : (codeR e20 0 (.block 0 (.loop lb20_0)) s).eval = some r :=
  blk_ok (e := e20) (T := lookT []) (fun s v => by kernel_rfl) (fun s => by kernel_rfl) (tab_nil) s r h
def g20T (x0 : S5) : Tr (S5 × Bool) :=
  .br (!x0.f6) (
   .br (x0.f16.isEmpty || cloneB 0 248 x0.f16) (
    .opt (iter gR20_0 1000000 (W20_0.mk (false) ((x0.f16.length : Int)) (0) (x0.f0) (x0.f1) (x0.f2) (x0.f3) (x0.f4) (x0.f5) (true) (x0.f7) (x0.f8) (x0.f9) (x0.f10) (x0.f11) (x0.f12) (x0.f13) (x0.f14) (x0.f15) (0) (0) (0) (0) (0) (0) (false) (0) (0) (0) (0) (0) (0) (0) (0) (0) (x0.f16))) fun r101 =>
     .br r101.1 (
      .fail) (
      .opt (g15 (S5.mk r101.2.a3 r101.2.a4 r101.2.a5 r101.2.a6 r101.2.a7 r101.2.a8 r101.2.a9 r101.2.a10 r101.2.a11 r101.2.a12 r101.2.a13 r101.2.a14 r101.2.a15 r101.2.a16 r101.2.a17 r101.2.a18 r101.2.a35)) fun z102 =>
       .leaf (z102, true))) (
    .fail)) (
   .opt (g33 x0.f16) fun z103 =>
    .br z103 (
     .opt (g15 x0) fun z104 =>
      .leaf (z104, true)) (
     .leaf (x0, false)))
def g20 (x0 : S5) : Option (S5 × Bool) := (g20T x0).get?
noncomputable def T20 : TL := [(0, F20_0)]
noncomputable def q20 : Ab.Spec := frzR [[none, none, none, none, none, none, none, none, none, none, none, none, none, none, none, none, some 0], []] (runQ0 e20 (lookT T20) Go.Proofs.Try.f20)
theorem q20_ok : SpecOk Go.Proofs.Try.prog 20 q20 := (runQ0_ok (runR_ok (e := e20) follows (allTI ti_ok _ _ _ _) (callsOk_cons s26_ok (callsOk_cons s15_ok (callsOk_cons s33_ok (callsOk_cons s34_ok (callsOk_nil))))) Go.Proofs.Try.func20 Go.Proofs.Try.call20) (fun c hc => by
  have hb : c = Go.Proofs.Try.f20.body.getD .skip := by rw [hc]; rfl
  subst hb
  exact tab_cons (by kernel_rfl) F20_0_ok (tab_nil))).froze [[none, none, none, none, none, none, none, none, none, none, none, none, none, none, none, none, some 0], []]
theorem g20_run (x0 : S5) : (q20 [.agg (Cod.enc 5 x0)] []).eval = (g20T x0).ev fun r => ((.tup [some (true, Cod.enc 5 r.1), some (false, [.bool r.2])] : AV), ([] : List Blk)) := by kernel_rfl
noncomputable def s20_0 : Ab.Spec := fun args h =>
  dN h <| dL args fun v0 a0 => dG v0 fun l0 => dE 5 l0 fun x0 => dN a0 <|
  .opt (g20 x0) fun r => .val (.tup [some (true, Cod.enc 5 r.1), some (false, [.bool r.2])], [])
theorem s20_0_ok : SpecOk Go.Proofs.Try.prog 20 s20_0 :=
  q20_ok.less fun args hs r h => by
    unfold s20_0 at h
    obtain ⟨rfl, hh1⟩ := dN_inv h
    obtain ⟨v0, a0, rfl, hh2⟩ := dL_inv hh1
    obtain ⟨l0, rfl, hh3⟩ := dG_inv hh2
    obtain ⟨x0, rfl, hh4⟩ := dE_inv hh3
    obtain ⟨rfl, hh5⟩ := dN_inv hh4
    rw [g20_run, Tr.ev_get?]
    change (Res.opt (g20 x0) _).eval = some r at hh5
    rw [eval_opt] at hh5
    obtain ⟨z, hz, hh6⟩ := Option.bind_eq_some_iff.mp hh5
    unfold g20 at hz
    rw [hz]; exact hh6
noncomputable def s20 : Ab.Spec := fun args h => s20_0 (coeA [[none, none, none, none, none, none, none, none, none, none, none, none, none, none, none, none, some 0]] args) h
theorem s20_ok : SpecOk Go.Proofs.Try.prog 20 s20 := s20_0_ok.pre [[none, none, none, none, none, none, none, none, none, none, none, none, none, none, none, none, some 0]]
/-- pontage/pontageref12.Step -/
noncomputable def L21 : SL := [(16, .byNew, s16)]
noncomputable def e21 : Env := ⟨ti, fun g => lookS g L21, 1000000, [.drop 0, .drop 8, .drop 9, .drop 10, .drop 11, .tmp 4 0, .rsb 1 16 0], []⟩
structure W21_0 where
  a0 : Bool
  a1 : Int
  a2 : Int
  a3 : Int
  a4 : Int
  a5 : Int
  a6 : Int
  a7 : Int
  a8 : Bool
  a9 : Int
  a10 : Int
  a11 : Int
  a12 : Int
  a13 : Int
  a14 : Int
  a15 : Int
  a16 : Int
  a17 : Int
  a18 : List S0
  a19 : Int
  a20 : Int
  a21 : Int
  a22 : Int
  a23 : Int
  a24 : Int
  a25 : Bool
  a26 : Int
  a27 : Int
  a28 : Int
  a29 : Int
  a30 : Int
  a31 : Int
  a32 : Int
  a33 : Int
  a34 : Int
  a35 : List S0
  a36 : List S0
def hd21_0 (v : W21_0) : St := ⟨[.top, .c (.ptr 0 0), .c (.ptr 1 0), .c (.bool v.a0), .c (.slw 2), .c (.int .i64 v.a1), .top, .top, .top, .top, .top, .top, .top, .top, .top, .top, .top, .top, .top, .top, .top, .top, .top, .top, .top, .top, .top, .top, .top, .top, .top, .top, .top, .top, .top, .top, .top, .top, .top, .top, .top, .top, .top, .top, .top, .top, .top, .top, .top], [.cells [.int .u64 v.a2, .int .u8 v.a3, .int .u8 v.a4, .int .u8 v.a5, .int .u8 v.a6, .int .u8 v.a7, .bool v.a8, .int .u16 v.a9, .int .u64 v.a10, .int .u32 v.a11, .int .u64 v.a12, .int .u16 v.a13, .int .u8 v.a14, .int .u8 v.a15, .int .u8 v.a16, .int .u8 v.a17, .rs 0 v.a18], .cells [.int .u64 v.a19, .int .u8 v.a20, .int .u8 v.a21, .int .u8 v.a22, .int .u8 v.a23, .int .u8 v.a24, .bool v.a25, .int .u16 v.a26, .int .u64 v.a27, .int .u32 v.a28, .int .u64 v.a29, .int .u16 v.a30, .int .u8 v.a31, .int .u8 v.a32, .int .u8 v.a33, .int .u8 v.a34, .rs 0 v.a35], .row 0 v.a36]⟩
def gR21_0 (v : W21_0) : Tr (W21_0 ⊕ (Bool × W21_0)) :=
  .br (decide (v.a1 < (v.a18.length : Int))) (
   .br (decide (0 ≤ v.a1)) (
    .opt (v.a18[Int.toNat v.a1]?) fun y111 =>
     .br (Nat.ble (v.a36.length + 1) 140737488355328 && Nat.ble ((v.a36.length + 1) * 248) 140737488355328) (
      .leaf (.inl ({ v with a1 := (IntKind.i64.wrap (v.a1 + 1)), a36 := (v.a36 ++ [{ y111 with f31 := 0 }]) }))) (
      .fail)) (
    .fail)) (
   .leaf (.inr (false, v)))
noncomputable def lb21_0 : Code := match findB 0 (Go.Proofs.Try.f21.body.getD .skip) with | [.loop b] => b | _ => .skip
def pa21_0 : List PA := [.any, .c (.ptr 0 0), .c (.ptr 1 0), .c (.bool), .c (.nils), .c (.int .i64), .top, .top, .any, .any, .any, .any, .top, .top, .top, .top, .top, .top, .top, .top, .top, .top, .top, .top, .top, .top, .top, .top, .top, .top, .top, .top, .top, .top, .top, .top, .top, .top, .top, .top, .top, .top, .top, .top, .top, .top, .top, .top, .top]
def pb21_0 : List PB := [.cells [.int .u64, .int .u8, .int .u8, .int .u8, .int .u8, .int .u8, .bool, .int .u16, .int .u64, .int .u32, .int .u64, .int .u16, .int .u8, .int .u8, .int .u8, .int .u8, .rs 0], .cells [.int .u64, .int .u8, .int .u8, .int .u8, .int .u8, .int .u8, .bool, .int .u16, .int .u64, .int .u32, .int .u64, .int .u16, .int .u8, .int .u8, .int .u8, .int .u8, .nils]]
def ini21_0 (s : St) : W21_0 := ⟨bC (aC (s.tmps.getD 3 .top)), iC (aC (s.tmps.getD 5 .top)), iC ((bL (s.heap.getD 0 .dead)).getD 0 .top), iC ((bL (s.heap.getD 0 .dead)).getD 1 .top), iC ((bL (s.heap.getD 0 .dead)).getD 2 .top), iC ((bL (s.heap.getD 0 .dead)).getD 3 .top), iC ((bL (s.heap.getD 0 .dead)).getD 4 .top), iC ((bL (s.heap.getD 0 .dead)).getD 5 .top), bC ((bL (s.heap.getD 0 .dead)).getD 6 .top), iC ((bL (s.heap.getD 0 .dead)).getD 7 .top), iC ((bL (s.heap.getD 0 .dead)).getD 8 .top), iC ((bL (s.heap.getD 0 .dead)).getD 9 .top), iC ((bL (s.heap.getD 0 .dead)).getD 10 .top), iC ((bL (s.heap.getD 0 .dead)).getD 11 .top), iC ((bL (s.heap.getD 0 .dead)).getD 12 .top), iC ((bL (s.heap.getD 0 .dead)).getD 13 .top), iC ((bL (s.heap.getD 0 .dead)).getD 14 .top), iC ((bL (s.heap.getD 0 .dead)).getD 15 .top), rC 0 ((bL (s.heap.getD 0 .dead)).getD 16 .top), iC ((bL (s.heap.getD 1 .dead)).getD 0 .top), iC ((bL (s.heap.getD 1 .dead)).getD 1 .top), iC ((bL (s.heap.getD 1 .dead)).getD 2 .top), iC ((bL (s.heap.getD 1 .dead)).getD 3 .top), iC ((bL (s.heap.getD 1 .dead)).getD 4 .top), iC ((bL (s.heap.getD 1 .dead)).getD 5 .top), bC ((bL (s.heap.getD 1 .dead)).getD 6 .top), iC ((bL (s.heap.getD 1 .dead)).getD 7 .top), iC ((bL (s.heap.getD 1 .dead)).getD 8 .top), iC ((bL (s.heap.getD 1 .dead)).getD 9 .top), iC ((bL (s.heap.getD 1 .dead)).getD 10 .top), iC ((bL (s.heap.getD 1 .dead)).getD 11 .top), iC ((bL (s.heap.getD 1 .dead)).getD 12 .top), iC ((bL (s.heap.getD 1 .dead)).getD 13 .top), iC ((bL (s.heap.getD 1 .dead)).getD 14 .top), iC ((bL (s.heap.getD 1 .dead)).getD 15 .top), [], []⟩
noncomputable def F21_0 : St → Res (Ex × St) := loopF pa21_0 pb21_0 1000000 hd21_0 gR21_0 ini21_0 false
theorem F21_0_ok (s : St) (r : Ex × St) (h : (F21_0 s).eval = some r) : (codeR e21 0 (.block 0 (.loop lb21_0)) s).eval = some r :=
  blk_ok (e := e21) (T := lookT []) (fun s v => by kernel_rfl) (fun s => by kernel_rfl) (tab_nil) s r h
structure W21_2 where
  a0 : Bool
  a1 : Int
  a2 : Int
  a3 : Int
  a4 : Int
  a5 : Int
  a6 : Int
  a7 : Int
  a8 : Bool
  a9 : Int
  a10 : Int
  a11 : Int
  a12 : Int
  a13 : Int
  a14 : Int
  a15 : Int
  a16 : Int
  a17 : Int
  a18 : List S0
  a19 : Int
  a20 : Int
  a21 : Int
  a22 : Int
  a23 : Int
  a24 : Int
  a25 : Bool
  a26 : Int
  a27 : Int
  a28 : Int
  a29 : Int
  a30 : Int
  a31 : Int
  a32 : Int
  a33 : Int
  a34 : Int
  a35 : List S0
def hd21_2 (v : W21_2) : St := ⟨[.top, .c (.ptr 0 0), .c (.ptr 1 0), .c (.bool v.a0), .top, .top, .top, .c (.int .i64 v.a1), .top, .top, .top, .top, .top, .top, .top, .top, .top, .top, .top, .top, .top, .top, .top, .top, .top, .top, .top, .top, .top, .top, .top, .top, .top, .top, .top, .top, .top, .top, .top, .top, .top, .top, .top, .top, .top, .top, .top, .top, .top], [.cells [.int .u64 v.a2, .int .u8 v.a3, .int .u8 v.a4, .int .u8 v.a5, .int .u8 v.a6, .int .u8 v.a7, .bool v.a8, .int .u16 v.a9, .int .u64 v.a10, .int .u32 v.a11, .int .u64 v.a12, .int .u16 v.a13, .int .u8 v.a14, .int .u8 v.a15, .int .u8 v.a16, .int .u8 v.a17, .rs 0 v.a18], .cells [.int .u64 v.a19, .int .u8 v.a20, .int .u8 v.a21, .int .u8 v.a22, .int .u8 v.a23, .int .u8 v.a24, .bool v.a25, .int .u16 v.a26, .int .u64 v.a27, .int .u32 v.a28, .int .u64 v.a29, .int .u16 v.a30, .int .u8 v.a31, .int .u8 v.a32, .int .u8 v.a33, .int .u8 v.a34, .rs 0 v.a35]]⟩
def gR21_2 (v : W21_2) : Tr (W21_2 ⊕ (Bool × W21_2)) :=
  .br (decide (v.a1 < (v.a18.length : Int))) (
   .br (decide (0 ≤ v.a1)) (
    .opt (v.a18[Int.toNat v.a1]?) fun y114 =>
     .br y114.f21 (
      .opt (g16 (S5.mk v.a2 v.a3 v.a4 v.a5 v.a6 v.a7 v.a8 v.a9 v.a10 v.a11 v.a12 v.a13 v.a14 v.a15 v.a16 v.a17 v.a18)) fun z115 =>
       .leaf (.inr (true, { v with a0 := true, a19 := z115.f0, a20 := z115.f1, a21 := z115.f2, a22 := z115.f3, a23 := z115.f4, a24 := z115.f5, a25 := z115.f6, a26 := z115.f7, a27 := z115.f8, a28 := z115.f9, a29 := z115.f10, a30 := z115.f11, a31 := z115.f12, a32 := z115.f13, a33 := z115.f14, a34 := z115.f15, a35 := z115.f16 }))) (
      .leaf (.inl ({ v with a1 := (IntKind.i64.wrap (v.a1 + 1)) })))) (
    .fail)) (
   .leaf (.inr (false, v)))
noncomputable def lb21_2 : Code := match findB 2 (Go.Proofs.Try.f21.body.getD .skip) with | [.loop b] => b | _ => .skip
def pa21_2 : List PA := [.any, .c (.ptr 0 0), .c (.ptr 1 0), .c (.bool), .top, .top, .top, .c (.int .i64), .any, .any, .any, .any, .top, .top, .top, .top, .top, .top, .top, .top, .top, .top, .top, .top, .top, .top, .top, .top, .top, .top, .top, .top, .top, .top, .top, .top, .top, .top, .top, .top, .top, .top, .top, .top, .top, .top, .top, .top, .top]
def pb21_2 : List PB := [.cells [.int .u64, .int .u8, .int .u8, .int .u8, .int .u8, .int .u8, .bool, .int .u16, .int .u64, .int .u32, .int .u64, .int .u16, .int .u8, .int .u8, .int .u8, .int .u8, .rs 0], .cells [.int .u64, .int .u8, .int .u8, .int .u8, .int .u8, .int .u8, .bool, .int .u16, .int .u64, .int .u32, .int .u64, .int .u16, .int .u8, .int .u8, .int .u8, .int .u8, .nils]]
def ini21_2 (s : St) : W21_2 := ⟨bC (aC (s.tmps.getD 3 .top)), iC (aC (s.tmps.getD 7 .top)), iC ((bL (s.heap.getD 0 .dead)).getD 0 .top), iC ((bL (s.heap.getD 0 .dead)).getD 1 .top), iC ((bL (s.heap.getD 0 .dead)).getD 2 .top), iC ((bL (s.heap.getD 0 .dead)).getD 3 .top), iC ((bL (s.heap.getD 0 .dead)).getD 4 .top), iC ((bL (s.heap.getD 0 .dead)).getD 5 .top), bC ((bL (s.heap.getD 0 .dead)).getD 6 .top), iC ((bL (s.heap.getD 0 .dead)).getD 7 .top), iC ((bL (s.heap.getD 0 .dead)).getD 8 .top), iC ((bL (s.heap.getD 0 .dead)).getD 9 .top), iC ((bL (s.heap.getD 0 .dead)).getD 10 .top), iC ((bL (s.heap.getD 0 .dead)).getD 11 .top), iC ((bL (s.heap.getD 0 .dead)).getD 12 .top), iC ((bL (s.heap.getD 0 .dead)).getD 13 .top), iC ((bL (s.heap.getD 0 .dead)).getD 14 .top), iC ((bL (s.heap.getD 0 .dead)).getD 15 .top), rC 0 ((bL (s.heap.getD 0 .dead)).getD 16 .top), iC ((bL (s.heap.getD 1 .dead)).getD 0 .top), iC ((bL (s.heap.getD 1 .dead)).getD 1 .top), iC ((bL (s.heap.getD 1 .dead)).getD 2 .top), iC ((bL (s.heap.getD 1 .dead)).getD 3 .top), iC ((bL (s.heap.getD 1 .dead)).getD 4 .top), iC ((bL (s.heap.getD 1 .dead)).getD 5 .top), bC ((bL (s.heap.getD 1 .dead)).getD 6 .top), iC ((bL (s.heap.getD 1 .dead)).getD 7 .top), iC ((bL (s.heap.getD 1 .dead)).getD 8 .top), iC ((bL (s.heap.getD 1 .dead)).getD 9 .top), iC ((bL (s.heap.getD 1 .dead)).getD 10 .top), iC ((bL (s.heap.getD 1 .dead)).getD 11 .top), iC ((bL (s.heap.getD 1 .dead)).getD 12 .top), iC ((bL (s.heap.getD 1 .dead)).getD 13 .top), iC ((bL (s.heap.getD 1 .dead)).getD 14 .top), iC ((bL (s.heap.getD 1 .dead)).getD 15 .top), []⟩
noncomputable def F21_2 : St → Res (Ex × St) := loopF pa21_2 pb21_2 1000000 hd21_2 gR21_2 ini21_2 true
theorem F21_2_ok (s : St) (r : Ex × St) (h : (F21_2 s).eval = some r) : (codeR e21 0 (.block 2 (.loop lb21_2)) s).eval = some r :=
  blk_ok (e := e21) (T := lookT []) (fun s v => by kernel_rfl) (fun s => by kernel_rfl) (tab_nil) s r h
def g21T (x0 : S5) : Tr (S5 × Bool) :=
  .br (!x0.f6) (
   .opt (iter gR21_0 1000000 (W21_0.mk (false) (0) (x0.f0) (x0.f1) (x0.f2) (x0.f3) (x0.f4) (x0.f5) (true) (x0.f7) (x0.f8) (x0.f9) (x0.f10) (x0.f11) (x0.f12) (x0.f13) (x0.f14) (x0.f15) (x0.f16) (0) (0) (0) (0) (0) (0) (false) (0) (0) (0) (0) (0) (0) (0) (0) (0) ([]) ([]))) fun r112 =>
    .br r112.1 (
     .fail) (
     .opt (g16 (S5.mk r112.2.a2 r112.2.a3 r112.2.a4 r112.2.a5 r112.2.a6 r112.2.a7 r112.2.a8 r112.2.a9 r112.2.a10 r112.2.a11 r112.2.a12 r112.2.a13 r112.2.a14 r112.2.a15 r112.2.a16 r112.2.a17 r112.2.a36)) fun z113 =>
      .leaf (z113, true))) (
   .opt (iter gR21_2 1000000 (W21_2.mk (false) (0) (x0.f0) (x0.f1) (x0.f2) (x0.f3) (x0.f4) (x0.f5) (x0.f6) (x0.f7) (x0.f8) (x0.f9) (x0.f10) (x0.f11) (x0.f12) (x0.f13) (x0.f14) (x0.f15) (x0.f16) (0) (0) (0) (0) (0) (0) (false) (0) (0) (0) (0) (0) (0) (0) (0) (0) ([]))) fun r116 =>
    .br r116.1 (
     .leaf ((S5.mk r116.2.a19 r116.2.a20 r116.2.a21 r116.2.a22 r116.2.a23 r116.2.a24 r116.2.a25 r116.2.a26 r116.2.a27 r116.2.a28 r116.2.a29 r116.2.a30 r116.2.a31 r116.2.a32 r116.2.a33 r116.2.a34 r116.2.a35), r116.2.a0)) (
     .leaf ((S5.mk r116.2.a2 r116.2.a3 r116.2.a4 r116.2.a5 r116.2.a6 r116.2.a7 r116.2.a8 r116.2.a9 r116.2.a10 r116.2.a11 r116.2.a12 r116.2.a13 r116.2.a14 r116.2.a15 r116.2.a16 r116.2.a17 r116.2.a18), false)))
def g21 (x0 : S5) : Option (S5 × Bool) := (g21T x0).get?
noncomputable def T21 : TL := [(0, F21_0), (2, F21_2)]
noncomputable def q21 : Ab.Spec := frzR [[none, none, none, none, none, none, none, none, none, none, none, none, none, none, none, none, some 0], []] (runQ0 e21 (lookT T21) Go.Proofs.Try.f21)
theorem q21_ok : SpecOk Go.Proofs.Try.prog 21 q21 := (runQ0_ok (runR_ok (e := e21) follows (allTI ti_ok _ _ _ _) (callsOk_cons s16_ok (callsOk_nil)) Go.Proofs.Try.func21 Go.Proofs.Try.call21) (fun c hc => by
  have hb : c = Go.Proofs.Try.f21.body.getD .skip := by rw [hc]; rfl
  subst hb
  exact tab_cons (by kernel_rfl) F21_0_ok (tab_cons (by kernel_rfl) F21_2_ok (tab_nil)))).froze [[none, none, none, none, none, none, none, none, none, none, none, none, none, none, none, none, some 0], []]
theorem g21_run (x0 : S5) : (q21 [.agg (Cod.enc 5 x0)] []).eval = (g21T x0).ev fun r => ((.tup [some (true, Cod.enc 5 r.1), some (false, [.bool r.2])] : AV), ([] : List Blk)) := by kernel_rfl
noncomputable def s21_0 : Ab.Spec := fun args h =>
  dN h <| dL args fun v0 a0 => dG v0 fun l0 => dE 5 l0 fun x0 => dN a0 <|
  .opt (g21 x0) fun r => .val (.tup [some (true, Cod.enc 5 r.1), some (false, [.bool r.2])], [])
theorem s21_0_ok : SpecOk Go.Proofs.Try.prog 21 s21_0 :=
  q21_ok.less fun args hs r h => by
    unfold s21_0 at h
    obtain ⟨rfl, hh1⟩ := dN_inv h
    obtain ⟨v0, a0, rfl, hh2⟩ := dL_inv hh1
    obtain ⟨l0, rfl, hh3⟩ := dG_inv hh2
    obtain ⟨x0, rfl, hh4⟩ := dE_inv hh3
    obtain ⟨rfl, hh5⟩ := dN_inv hh4
    rw [g21_run, Tr.ev_get?]
    change (Res.opt (g21 x0) _).eval = some r at hh5
    rw [eval_opt] at hh5
    obtain ⟨z, hz, hh6⟩ := Option.bind_eq_some_iff.mp hh5
    unfold g21 at hz
    rw [hz]; exact hh6
noncomputable def s21 : Ab.Spec := fun args h => s21_0 (coeA [[none, none, none, none, none, none, none, none, none, none, none, none, none, none, none, none, some 0]] args) h
theorem s21_ok : SpecOk Go.Proofs.Try.prog 21 s21 := s21_0_ok.pre [[none, none, none, none, none, none, none, none, none, none, none, none, none, none, none, none, some 0]]
/-- pontage/pontagelaw12.RolesSteps -/
noncomputable def L8 : SL := [(10, .byNew, s10), (20, .byNew, s20), (21, .byNew, s21), (14, .byVal, s14), (13, .byVal, s13)]
noncomputable def e8 : Env := ⟨ti, fun g => lookS g L8, 1000000, [], [14]⟩
def g8T (x0 : S5) : Tr (Bool) :=
  .opt (g10 x0) fun z117 =>
   .br (z117.f16.isEmpty) (
    .opt (g20 z117) fun z118 =>
     .opt (g21 { z117 with f16 := [] }) fun z119 =>
      .opt (g14 z118.1 z119.1) fun z120 =>
       .br (bif z120 then (z118.2 == z119.2) else false) (
        .opt (g14 z117 { z117 with f16 := [] }) fun z122 =>
         .br z122 (
          .opt (g13 ) fun z124 =>
           .leaf (z124)) (
          .leaf (false))) (
        .leaf (false))) (
    .br (Nat.ble (0 + z117.f16.length) 140737488355328 && Nat.ble ((0 + z117.f16.length) * 248) 140737488355328) (
     .opt (g20 z117) fun z126 =>
      .opt (g21 z117) fun z127 =>
       .opt (g14 z126.1 z127.1) fun z128 =>
        .br (bif z128 then (z126.2 == z127.2) else false) (
         .opt (g14 z117 z117) fun z130 =>
          .br z130 (
           .opt (g13 ) fun z132 =>
            .leaf (z132)) (
           .leaf (false))) (
         .leaf (false))) (
     .fail))
def g8 (x0 : S5) : Option (Bool) := (g8T x0).get?
noncomputable def T8 : TL := []
noncomputable def q8 : Ab.Spec := runQ0 e8 (lookT T8) Go.Proofs.Try.f8
theorem q8_ok : SpecOk Go.Proofs.Try.prog 8 q8 := (runQ0_ok (runR_ok (e := e8) follows (allTI ti_ok _ _ _ _) (callsOk_cons s10_ok (callsOk_cons s20_ok (callsOk_cons s21_ok (callsOk_cons s14_ok (callsOk_cons s13_ok (callsOk_nil)))))) Go.Proofs.Try.func8 Go.Proofs.Try.call8) (fun c hc => by
  have hb : c = Go.Proofs.Try.f8.body.getD .skip := by rw [hc]; rfl
  subst hb
  exact tab_nil))
theorem g8_run (x0 : S5) : (q8 [.agg (Cod.enc 5 x0)] []).eval = (g8T x0).ev fun r => ((.c (.bool r) : AV), ([] : List Blk)) := by kernel_rfl
noncomputable def s8_0 : Ab.Spec := fun args h =>
  dN h <| dL args fun v0 a0 => dG v0 fun l0 => dE 5 l0 fun x0 => dN a0 <|
  .opt (g8 x0) fun r => .val (.c (.bool r), [])
theorem s8_0_ok : SpecOk Go.Proofs.Try.prog 8 s8_0 :=
  q8_ok.less fun args hs r h => by
    unfold s8_0 at h
    obtain ⟨rfl, hh1⟩ := dN_inv h
    obtain ⟨v0, a0, rfl, hh2⟩ := dL_inv hh1
    obtain ⟨l0, rfl, hh3⟩ := dG_inv hh2
    obtain ⟨x0, rfl, hh4⟩ := dE_inv hh3
    obtain ⟨rfl, hh5⟩ := dN_inv hh4
    rw [g8_run, Tr.ev_get?]
    change (Res.opt (g8 x0) _).eval = some r at hh5
    rw [eval_opt] at hh5
    obtain ⟨z, hz, hh6⟩ := Option.bind_eq_some_iff.mp hh5
    unfold g8 at hz
    rw [hz]; exact hh6
noncomputable def s8 : Ab.Spec := fun args h => s8_0 (coeA [[none, none, none, none, none, none, none, none, none, none, none, none, none, none, none, none, some 0]] args) h
theorem s8_ok : SpecOk Go.Proofs.Try.prog 8 s8 := s8_0_ok.pre [[none, none, none, none, none, none, none, none, none, none, none, none, none, none, none, none, some 0]]
/-- pontage/pontagelaw12.RolesAgain -/
noncomputable def L9 : SL := [(10, .byNew, s10), (15, .byNew, s15), (20, .byNew, s20), (14, .byVal, s14), (13, .byVal, s13)]
noncomputable def e9 : Env := ⟨ti, fun g => lookS g L9, 1000000, [], []⟩
def g9T (x0 : S5) : Tr (Bool) :=
  .opt (g10 x0) fun z134 =>
   .opt (g15 z134) fun z135 =>
    .opt (g20 z135) fun z136 =>
     .opt (g15 z135) fun z137 =>
      .opt (g14 z137 z135) fun z138 =>
       .br (bif (bif (bif z138 then (!(z136.2 == z135.f6)) else false) then true else false) then (!z136.2) else false) (
        .opt (g14 z136.1 z135) fun z140 =>
         .br (bif (bif z138 then (!(z136.2 == z135.f6)) else false) then z140 else false) (
          .opt (g13 ) fun z142 =>
           .leaf (z142)) (
          .leaf (false))) (
        .br (bif z138 then (!(z136.2 == z135.f6)) else false) (
         .br z136.2 (
          .opt (g13 ) fun z144 =>
           .leaf (z144)) (
          .fail)) (
         .leaf (false)))
def g9 (x0 : S5) : Option (Bool) := (g9T x0).get?
noncomputable def T9 : TL := []
noncomputable def q9 : Ab.Spec := runQ0 e9 (lookT T9) Go.Proofs.Try.f9
theorem q9_ok : SpecOk Go.Proofs.Try.prog 9 q9 := (runQ0_ok (runR_ok (e := e9) follows (allTI ti_ok _ _ _ _) (callsOk_cons s10_ok (callsOk_cons s15_ok (callsOk_cons s20_ok (callsOk_cons s14_ok (callsOk_cons s13_ok (callsOk_nil)))))) Go.Proofs.Try.func9 Go.Proofs.Try.call9) (fun c hc => by
  have hb : c = Go.Proofs.Try.f9.body.getD .skip := by rw [hc]; rfl
  subst hb
  exact tab_nil))
theorem g9_run (x0 : S5) : (q9 [.agg (Cod.enc 5 x0)] []).eval = (g9T x0).ev fun r => ((.c (.bool r) : AV), ([] : List Blk)) := by kernel_rfl
noncomputable def s9_0 : Ab.Spec := fun args h =>
  dN h <| dL args fun v0 a0 => dG v0 fun l0 => dE 5 l0 fun x0 => dN a0 <|
  .opt (g9 x0) fun r => .val (.c (.bool r), [])
theorem s9_0_ok : SpecOk Go.Proofs.Try.prog 9 s9_0 :=
  q9_ok.less fun args hs r h => by
    unfold s9_0 at h
    obtain ⟨rfl, hh1⟩ := dN_inv h
    obtain ⟨v0, a0, rfl, hh2⟩ := dL_inv hh1
    obtain ⟨l0, rfl, hh3⟩ := dG_inv hh2
    obtain ⟨x0, rfl, hh4⟩ := dE_inv hh3
    obtain ⟨rfl, hh5⟩ := dN_inv hh4
    rw [g9_run, Tr.ev_get?]
    change (Res.opt (g9 x0) _).eval = some r at hh5
    rw [eval_opt] at hh5
    obtain ⟨z, hz, hh6⟩ := Option.bind_eq_some_iff.mp hh5
    unfold g9 at hz
    rw [hz]; exact hh6
noncomputable def s9 : Ab.Spec := fun args h => s9_0 (coeA [[none, none, none, none, none, none, none, none, none, none, none, none, none, none, none, none, some 0]] args) h
theorem s9_ok : SpecOk Go.Proofs.Try.prog 9 s9 := s9_0_ok.pre [[none, none, none, none, none, none, none, none, none, none, none, none, none, none, none, none, some 0]]
end Ab12
