/- Seat 09: the functions. -/
import Derived.Test.YtcfdoigiopdnmaaAb09a
set_option maxRecDepth 100000
set_option maxHeartbeats 4000000
set_option linter.unusedVariables false
set_option linter.unusedSimpArgs false
namespace Ab09
open Go Ab
/-- pontage/vector.Address -/
noncomputable def L30 : SL := []
noncomputable def e30 : Env := ⟨ti, fun g => lookS g L30, 1000000, [.drop 1], []⟩
def g30T (x0 : Int) : Tr (S9) :=
  .leaf ((S9.mk (IntKind.u8.wrap (shrI .u64 x0 40)) (IntKind.u8.wrap (shrI .u64 x0 32)) (IntKind.u8.wrap (shrI .u64 x0 24)) (IntKind.u8.wrap (shrI .u64 x0 16)) (IntKind.u8.wrap (shrI .u64 x0 8)) (IntKind.u8.wrap (shrI .u64 x0 0))))
def g30 (x0 : Int) : S9 := (g30T x0).get default
noncomputable def T30 : TL := []
noncomputable def q30 : Ab.Spec := runQ0 e30 (lookT T30) Go.Proofs.Try.f30
theorem q30_ok : SpecOk Go.Proofs.Try.prog 30 q30 := (runQ0_ok (runR_ok (e := e30) follows (allTI ti_ok _ _ _ _) (callsOk_nil) Go.Proofs.Try.func30 Go.Proofs.Try.call30) (fun c hc => by
  have hb : c = Go.Proofs.Try.f30.body.getD .skip := by rw [hc]; rfl
  subst hb
  exact tab_nil))
theorem g30_run (x0 : Int) : (q30 [.c (.int .u64 x0)] []).eval = (g30T x0).ev fun r => ((.agg (Cod.enc 9 r) : AV), ([] : List Blk)) := by kernel_rfl
noncomputable def s30 : Ab.Spec := fun args h =>
  dN h <| dL args fun v0 a0 => dC v0 fun c0 => dI .u64 c0 fun x0 => dN a0 <|
  let r := g30 x0; .val (.agg (Cod.enc 9 r), [])
theorem s30_ok : SpecOk Go.Proofs.Try.prog 30 s30 :=
  q30_ok.less fun args hs r h => by
    unfold s30 at h
    obtain ⟨rfl, hh1⟩ := dN_inv h
    obtain ⟨v0, a0, rfl, hh2⟩ := dL_inv hh1
    obtain ⟨c0, rfl, hh3⟩ := dC_inv hh2
    obtain ⟨x0, rfl, hh4⟩ := dI_inv hh3
    obtain ⟨rfl, hh5⟩ := dN_inv hh4
    rw [g30_run, Tr.ev_get (d := default) (by kernel_rfl)]
    exact hh5
/-- pontage/vector.within -/
noncomputable def L42 : SL := []
noncomputable def e42 : Env := ⟨ti, fun g => lookS g L42, 1000000, [], []⟩
def g42T (x0 : Int) (x1 : Int) (x2 : Int) : Tr (Bool) :=
  .leaf ((bif (decide (x0 ≥ x1)) then (decide (x0 ≤ x2)) else false))
def g42 (x0 : Int) (x1 : Int) (x2 : Int) : Bool := (g42T x0 x1 x2).get default
noncomputable def T42 : TL := []
noncomputable def q42 : Ab.Spec := runQ0 e42 (lookT T42) Go.Proofs.Try.f42
theorem q42_ok : SpecOk Go.Proofs.Try.prog 42 q42 := (runQ0_ok (runR_ok (e := e42) follows (allTI ti_ok _ _ _ _) (callsOk_nil) Go.Proofs.Try.func42 Go.Proofs.Try.call42) (fun c hc => by
  have hb : c = Go.Proofs.Try.f42.body.getD .skip := by rw [hc]; rfl
  subst hb
  exact tab_nil))
theorem g42_run (x0 : Int) (x1 : Int) (x2 : Int) : (q42 [.c (.int .u8 x0), .c (.int .u8 x1), .c (.int .u8 x2)] []).eval = (g42T x0 x1 x2).ev fun r => ((.c (.bool r) : AV), ([] : List Blk)) := by kernel_rfl
noncomputable def s42 : Ab.Spec := fun args h =>
  dN h <| dL args fun v0 a0 => dC v0 fun c0 => dI .u8 c0 fun x0 => dL a0 fun v1 a1 => dC v1 fun c1 => dI .u8 c1 fun x1 => dL a1 fun v2 a2 => dC v2 fun c2 => dI .u8 c2 fun x2 => dN a2 <|
  let r := g42 x0 x1 x2; .val (.c (.bool r), [])
theorem s42_ok : SpecOk Go.Proofs.Try.prog 42 s42 :=
  q42_ok.less fun args hs r h => by
    unfold s42 at h
    obtain ⟨rfl, hh1⟩ := dN_inv h
    obtain ⟨v0, a0, rfl, hh2⟩ := dL_inv hh1
    obtain ⟨c0, rfl, hh3⟩ := dC_inv hh2
    obtain ⟨x0, rfl, hh4⟩ := dI_inv hh3
    obtain ⟨v1, a1, rfl, hh5⟩ := dL_inv hh4
    obtain ⟨c1, rfl, hh6⟩ := dC_inv hh5
    obtain ⟨x1, rfl, hh7⟩ := dI_inv hh6
    obtain ⟨v2, a2, rfl, hh8⟩ := dL_inv hh7
    obtain ⟨c2, rfl, hh9⟩ := dC_inv hh8
    obtain ⟨x2, rfl, hh10⟩ := dI_inv hh9
    obtain ⟨rfl, hh11⟩ := dN_inv hh10
    rw [g42_run, Tr.ev_get (d := default) (by kernel_rfl)]
    exact hh11
/-- pontage/vector.CheckT -/
noncomputable def L31 : SL := [(42, .byVal, s42)]
noncomputable def e31 : Env := ⟨ti, fun g => lookS g L31, 1000000, [], []⟩
def g31T (x0 : S4) : Tr (Int) :=
  let z1 := g42 x0.f1 6 40
  let z2 := g42 x0.f2 1 2
  let z3 := g42 x0.f3 4 30
  .br (bif (bif (bif (bif (!z1) then true else (!z2)) then true else (!z3)) then true else (decide ((IntKind.u8.wrap (2 * (IntKind.u8.wrap (x0.f3 - 1)))) < x0.f1))) then true else (decide (x0.f1 < (IntKind.u8.wrap (2 * (IntKind.u8.wrap (x0.f2 + 1))))))) (
   .leaf (60)) (
   .leaf (0))
def g31 (x0 : S4) : Int := (g31T x0).get default
noncomputable def T31 : TL := []
noncomputable def q31 : Ab.Spec := runQ0 e31 (lookT T31) Go.Proofs.Try.f31
theorem q31_ok : SpecOk Go.Proofs.Try.prog 31 q31 := (runQ0_ok (runR_ok (e := e31) follows (allTI ti_ok _ _ _ _) (callsOk_cons s42_ok (callsOk_nil)) Go.Proofs.Try.func31 Go.Proofs.Try.call31) (fun c hc => by
  have hb : c = Go.Proofs.Try.f31.body.getD .skip := by rw [hc]; rfl
  subst hb
  exact tab_nil))
theorem g31_run (x0 : S4) : (q31 [.agg (Cod.enc 4 x0)] []).eval = (g31T x0).ev fun r => ((.c (.int .i64 r) : AV), ([] : List Blk)) := by kernel_rfl
noncomputable def s31 : Ab.Spec := fun args h =>
  dN h <| dL args fun v0 a0 => dG v0 fun l0 => dE 4 l0 fun x0 => dN a0 <|
  let r := g31 x0; .val (.c (.int .i64 r), [])
theorem s31_ok : SpecOk Go.Proofs.Try.prog 31 s31 :=
  q31_ok.less fun args hs r h => by
    unfold s31 at h
    obtain ⟨rfl, hh1⟩ := dN_inv h
    obtain ⟨v0, a0, rfl, hh2⟩ := dL_inv hh1
    obtain ⟨l0, rfl, hh3⟩ := dG_inv hh2
    obtain ⟨x0, rfl, hh4⟩ := dE_inv hh3
    obtain ⟨rfl, hh5⟩ := dN_inv hh4
    rw [g31_run, Tr.ev_get (d := default) (by kernel_rfl)]
    exact hh5
/-- pontage/rvar.Check$1 -/
noncomputable def L33 : SL := []
noncomputable def e33 : Env := ⟨ti, fun g => lookS g L33, 1000000, [], []⟩
def g33T (x0 : Int) : Tr (Bool) :=
  .leaf ((bif (decide (x0 < 1)) then true else (decide (x0 > 200000000))))
def g33 (x0 : Int) : Bool := (g33T x0).get default
noncomputable def T33 : TL := []
noncomputable def q33 : Ab.Spec := runQ0 e33 (lookT T33) Go.Proofs.Try.f33
theorem q33_ok : SpecOk Go.Proofs.Try.prog 33 q33 := (runQ0_ok (runR_ok (e := e33) follows (allTI ti_ok _ _ _ _) (callsOk_nil) Go.Proofs.Try.func33 Go.Proofs.Try.call33) (fun c hc => by
  have hb : c = Go.Proofs.Try.f33.body.getD .skip := by rw [hc]; rfl
  subst hb
  exact tab_nil))
theorem g33_run (x0 : Int) : (q33 [.c (.int .u32 x0)] []).eval = (g33T x0).ev fun r => ((.c (.bool r) : AV), ([] : List Blk)) := by kernel_rfl
noncomputable def s33 : Ab.Spec := fun args h =>
  dN h <| dL args fun v0 a0 => dC v0 fun c0 => dI .u32 c0 fun x0 => dN a0 <|
  let r := g33 x0; .val (.c (.bool r), [])
theorem s33_ok : SpecOk Go.Proofs.Try.prog 33 s33 :=
  q33_ok.less fun args hs r h => by
    unfold s33 at h
    obtain ⟨rfl, hh1⟩ := dN_inv h
    obtain ⟨v0, a0, rfl, hh2⟩ := dL_inv hh1
    obtain ⟨c0, rfl, hh3⟩ := dC_inv hh2
    obtain ⟨x0, rfl, hh4⟩ := dI_inv hh3
    obtain ⟨rfl, hh5⟩ := dN_inv hh4
    rw [g33_run, Tr.ev_get (d := default) (by kernel_rfl)]
    exact hh5
/-- slices.IndexFunc[[]uint32,uint32] -/
noncomputable def L43 : SL := [(33, .byVal, s33)]
noncomputable def e43 : Env := ⟨ti, fun g => lookS g L43, 1000000, [.drop 2, .drop 3, .drop 6], []⟩
structure W43_0 where
  a0 : List S0
  a1 : Int
  a2 : Int
  a3 : Int
def hd43_0 (v : W43_0) : St := ⟨[.c (.rs 0 v.a0), .c (.fn 33 [] []), .top, .top, .c (.int .i64 v.a1), .top, .top, .c (.int .i64 v.a2), .c (.int .i64 v.a3), .top, .top, .top, .top, .top, .top, .top, .top, .top, .top], []⟩
def gR43_0 (v : W43_0) : Tr (W43_0 ⊕ (Bool × W43_0)) :=
  .br (decide (v.a3 < v.a2)) (
   .br (decide (0 ≤ v.a3)) (
    .opt (v.a0[Int.toNat v.a3]?) fun y4 =>
     let z5 := g33 y4.f0
     .br z5 (
      .leaf (.inr (true, { v with a1 := v.a3 }))) (
      .leaf (.inl ({ v with a3 := (IntKind.i64.wrap (v.a3 + 1)) })))) (
    .fail)) (
   .leaf (.inr (false, v)))
noncomputable def lb43_0 : Code := match findB 0 (Go.Proofs.Try.f43.body.getD .skip) with | [.loop b] => b | _ => .skip
def pa43_0 : List PA := [.c (.rs 0), .c (.fn 33), .any, .any, .c (.int .i64), .top, .any, .c (.int .i64), .c (.int .i64), .top, .top, .top, .top, .top, .top, .top, .top, .top, .top]
def pb43_0 : List PB := []
def ini43_0 (s : St) : W43_0 := ⟨rC 0 (aC (s.tmps.getD 0 .top)), iC (aC (s.tmps.getD 4 .top)), iC (aC (s.tmps.getD 7 .top)), iC (aC (s.tmps.getD 8 .top))⟩
noncomputable def F43_0 : St → Res (Ex × St) := loopF pa43_0 pb43_0 1000000 hd43_0 gR43_0 ini43_0 true
theorem F43_0_ok (s : St) (r : Ex × St) (h : (F43_0 s).eval = some r) : (codeR e43 0 (.block 0 (.loop lb43_0)) s).eval = some r :=
  blk_ok (e := e43) (T := lookT []) (fun s v => by kernel_rfl) (fun s => by kernel_rfl) (tab_nil) s r h
def g43T (x0 : List S0) : Tr (Int) :=
  .opt (iter gR43_0 1000000 (W43_0.mk (x0) (0) ((x0.length : Int)) (0))) fun r6 =>
   .br r6.1 (
    .leaf (r6.2.a1)) (
    .leaf ((-1)))
def g43 (x0 : List S0) : Option (Int) := (g43T x0).get?
noncomputable def T43 : TL := [(0, F43_0)]
noncomputable def q43 : Ab.Spec := runQ0 e43 (lookT T43) Go.Proofs.Try.f43
theorem q43_ok : SpecOk Go.Proofs.Try.prog 43 q43 := (runQ0_ok (runR_ok (e := e43) follows (allTI ti_ok _ _ _ _) (callsOk_cons s33_ok (callsOk_nil)) Go.Proofs.Try.func43 Go.Proofs.Try.call43) (fun c hc => by
  have hb : c = Go.Proofs.Try.f43.body.getD .skip := by rw [hc]; rfl
  subst hb
  exact tab_cons (by kernel_rfl) F43_0_ok (tab_nil)))
theorem g43_run (x0 : List S0) : (q43 [.c (.rs 0 x0), .c (.fn 33 [] [])] []).eval = (g43T x0).ev fun r => ((.c (.int .i64 r) : AV), ([] : List Blk)) := by kernel_rfl
noncomputable def s43_0 : Ab.Spec := fun args h =>
  dN h <| dL args fun v0 a0 => dC v0 fun c0 => dR0 0 c0 fun x0 => dL a0 fun v1 a1 => dFn 33 v1 <| dN a1 <|
  .opt (g43 x0) fun r => .val (.c (.int .i64 r), [])
theorem s43_0_ok : SpecOk Go.Proofs.Try.prog 43 s43_0 :=
  q43_ok.less fun args hs r h => by
    unfold s43_0 at h
    obtain ⟨rfl, hh1⟩ := dN_inv h
    obtain ⟨v0, a0, rfl, hh2⟩ := dL_inv hh1
    obtain ⟨c0, rfl, hh3⟩ := dC_inv hh2
    obtain ⟨x0, rfl, hh4⟩ := dR0_inv hh3
    obtain ⟨v1, a1, rfl, hh5⟩ := dL_inv hh4
    obtain ⟨rfl, hh6⟩ := dFn_inv hh5
    obtain ⟨rfl, hh7⟩ := dN_inv hh6
    rw [g43_run, Tr.ev_get?]
    change (Res.opt (g43 x0) _).eval = some r at hh7
    rw [eval_opt] at hh7
    obtain ⟨z, hz, hh8⟩ := Option.bind_eq_some_iff.mp hh7
    unfold g43 at hz
    rw [hz]; exact hh8
noncomputable def s43 : Ab.Spec := fun args h => s43_0 (coeA [[some 0], []] args) h
theorem s43_ok : SpecOk Go.Proofs.Try.prog 43 s43 := s43_0_ok.pre [[some 0], []]
/-- slices.ContainsFunc[[]uint32,uint32] -/
noncomputable def L32 : SL := [(43, .byVal, s43), (33, .byVal, s33)]
noncomputable def e32 : Env := ⟨ti, fun g => lookS g L32, 1000000, [], []⟩
def g32T (x0 : List S0) : Tr (Bool) :=
  .opt (g43 x0) fun z7 =>
   .leaf ((decide (z7 ≥ 0)))
def g32 (x0 : List S0) : Option (Bool) := (g32T x0).get?
noncomputable def T32 : TL := []
noncomputable def q32 : Ab.Spec := runQ0 e32 (lookT T32) Go.Proofs.Try.f32
theorem q32_ok : SpecOk Go.Proofs.Try.prog 32 q32 := (runQ0_ok (runR_ok (e := e32) follows (allTI ti_ok _ _ _ _) (callsOk_cons s43_ok (callsOk_cons s33_ok (callsOk_nil))) Go.Proofs.Try.func32 Go.Proofs.Try.call32) (fun c hc => by
  have hb : c = Go.Proofs.Try.f32.body.getD .skip := by rw [hc]; rfl
  subst hb
  exact tab_nil))
theorem g32_run (x0 : List S0) : (q32 [.c (.rs 0 x0), .c (.fn 33 [] [])] []).eval = (g32T x0).ev fun r => ((.c (.bool r) : AV), ([] : List Blk)) := by kernel_rfl
noncomputable def s32_0 : Ab.Spec := fun args h =>
  dN h <| dL args fun v0 a0 => dC v0 fun c0 => dR0 0 c0 fun x0 => dL a0 fun v1 a1 => dFn 33 v1 <| dN a1 <|
  .opt (g32 x0) fun r => .val (.c (.bool r), [])
theorem s32_0_ok : SpecOk Go.Proofs.Try.prog 32 s32_0 :=
  q32_ok.less fun args hs r h => by
    unfold s32_0 at h
    obtain ⟨rfl, hh1⟩ := dN_inv h
    obtain ⟨v0, a0, rfl, hh2⟩ := dL_inv hh1
    obtain ⟨c0, rfl, hh3⟩ := dC_inv hh2
    obtain ⟨x0, rfl, hh4⟩ := dR0_inv hh3
    obtain ⟨v1, a1, rfl, hh5⟩ := dL_inv hh4
    obtain ⟨rfl, hh6⟩ := dFn_inv hh5
    obtain ⟨rfl, hh7⟩ := dN_inv hh6
    rw [g32_run, Tr.ev_get?]
    change (Res.opt (g32 x0) _).eval = some r at hh7
    rw [eval_opt] at hh7
    obtain ⟨z, hz, hh8⟩ := Option.bind_eq_some_iff.mp hh7
    unfold g32 at hz
    rw [hz]; exact hh8
noncomputable def s32 : Ab.Spec := fun args h => s32_0 (coeA [[some 0], []] args) h
theorem s32_ok : SpecOk Go.Proofs.Try.prog 32 s32 := s32_0_ok.pre [[some 0], []]
/-- pontage/rvar.Check -/
noncomputable def L10 : SL := [(30, .byVal, s30), (31, .byVal, s31), (32, .byVal, s32), (33, .byVal, s33)]
noncomputable def e10 : Env := ⟨ti, fun g => lookS g L10, 1000000, [], []⟩
def g10T (x0 : S5) : Tr (Int) :=
  let z8 := g30 x0.f0
  let z9 := g31 (S4.mk x0.f1 x0.f2 x0.f3 x0.f4)
  .br (!(!(bif (bif (bif (bif (bif (bif (!(eqS9 z8 (S9.mk 0 0 0 0 0 0))) then (z9 == 0) else false) then (x0.f1 == 0) else false) then (decide (x0.f5 ≥ 1)) else false) then (decide (x0.f5 ≤ 10)) else false) then (decide ((x0.f6.length : Int) ≥ 1)) else false) then (decide ((x0.f6.length : Int) ≤ 8)) else false))) (
   .opt (g32 x0.f6) fun z11 =>
    .br z11 (
     .leaf (90)) (
     .leaf (0))) (
   .leaf (90))
def g10 (x0 : S5) : Option (Int) := (g10T x0).get?
noncomputable def T10 : TL := []
noncomputable def q10 : Ab.Spec := runQ0 e10 (lookT T10) Go.Proofs.Try.f10
theorem q10_ok : SpecOk Go.Proofs.Try.prog 10 q10 := (runQ0_ok (runR_ok (e := e10) follows (allTI ti_ok _ _ _ _) (callsOk_cons s30_ok (callsOk_cons s31_ok (callsOk_cons s32_ok (callsOk_cons s33_ok (callsOk_nil))))) Go.Proofs.Try.func10 Go.Proofs.Try.call10) (fun c hc => by
  have hb : c = Go.Proofs.Try.f10.body.getD .skip := by rw [hc]; rfl
  subst hb
  exact tab_nil))
theorem g10_run (x0 : S5) : (q10 [.agg (Cod.enc 5 x0)] []).eval = (g10T x0).ev fun r => ((.c (.int .i64 r) : AV), ([] : List Blk)) := by kernel_rfl
noncomputable def s10_0 : Ab.Spec := fun args h =>
  dN h <| dL args fun v0 a0 => dG v0 fun l0 => dE 5 l0 fun x0 => dN a0 <|
  .opt (g10 x0) fun r => .val (.c (.int .i64 r), [])
theorem s10_0_ok : SpecOk Go.Proofs.Try.prog 10 s10_0 :=
  q10_ok.less fun args hs r h => by
    unfold s10_0 at h
    obtain ⟨rfl, hh1⟩ := dN_inv h
    obtain ⟨v0, a0, rfl, hh2⟩ := dL_inv hh1
    obtain ⟨l0, rfl, hh3⟩ := dG_inv hh2
    obtain ⟨x0, rfl, hh4⟩ := dE_inv hh3
    obtain ⟨rfl, hh5⟩ := dN_inv hh4
    rw [g10_run, Tr.ev_get?]
    change (Res.opt (g10 x0) _).eval = some r at hh5
    rw [eval_opt] at hh5
    obtain ⟨z, hz, hh6⟩ := Option.bind_eq_some_iff.mp hh5
    unfold g10 at hz
    rw [hz]; exact hh6
noncomputable def s10 : Ab.Spec := fun args h => s10_0 (coeA [[none, none, none, none, none, none, some 0]] args) h
theorem s10_ok : SpecOk Go.Proofs.Try.prog 10 s10 := s10_0_ok.pre [[none, none, none, none, none, none, some 0]]
/-- pontage/rvar.New -/
noncomputable def L7 : SL := [(10, .byVal, s10)]
noncomputable def e7 : Env := ⟨ti, fun g => lookS g L7, 1000000, [.drop 0, .drop 1, .drop 4, .drop 8, .drop 9, .drop 10, .drop 11, .drop 12, .drop 13, .drop 14, .drop 15, .drop 16, .drop 17, .drop 18, .drop 19, .drop 20, .drop 21, .blk 2 16 1], []⟩
structure W7_0 where
  a0 : Int
  a1 : List S0
  a2 : Int
  a3 : Int
  a4 : Int
  a5 : Int
  a6 : Int
  a7 : Int
  a8 : Int
  a9 : Int
  a10 : Bool
  a11 : Int
  a12 : Int
  a13 : Int
  a14 : Int
  a15 : Int
  a16 : Int
  a17 : Int
  a18 : Int
  a19 : Int
  a20 : Int
  a21 : Int
  a22 : Int
  a23 : Int
  a24 : Int
  a25 : Int
  a26 : Bool
  a27 : Int
  a28 : Int
  a29 : Int
  a30 : Int
  a31 : Int
  a32 : Int
  a33 : Int
  a34 : Int
  a35 : Int
  a36 : List S1
def hd7_0 (v : W7_0) : St := ⟨[.top, .top, .c (.ptr 0 0), .c (.int .i64 v.a0), .top, .c (.ptr 1 0), .top, .top, .top, .top, .top, .top, .top, .top, .top, .top, .top, .top, .top, .top, .top, .top, .c (.rs 0 v.a1), .c (.int .i64 v.a2), .c (.int .i64 v.a3), .top, .top, .top, .top, .top, .top, .top, .top, .top, .top, .top, .top, .top, .top, .top, .top], [.cells [.int .u64 v.a4, .int .u8 v.a5, .int .u8 v.a6, .int .u8 v.a7, .int .u8 v.a8, .int .u8 v.a9, .bool v.a10, .int .u16 v.a11, .int .u64 v.a12, .int .u32 v.a13, .int .u64 v.a14, .int .u16 v.a15, .int .u8 v.a16, .int .u8 v.a17, .int .u8 v.a18, .int .u8 v.a19, .nils], .cells [.int .u64 v.a20, .int .u8 v.a21, .int .u8 v.a22, .int .u8 v.a23, .int .u8 v.a24, .int .u8 v.a25, .bool v.a26, .int .u16 v.a27, .int .u64 v.a28, .int .u32 v.a29, .int .u64 v.a30, .int .u16 v.a31, .int .u8 v.a32, .int .u8 v.a33, .int .u8 v.a34, .int .u8 v.a35, .slw 2], .row 1 v.a36]⟩
def gR7_0 (v : W7_0) : Tr (W7_0 ⊕ (Bool × W7_0)) :=
  .br (decide (v.a3 < v.a2)) (
   .br (decide (0 ≤ v.a3)) (
    .opt (v.a1[Int.toNat v.a3]?) fun y15 =>
     .br (Nat.ble (v.a36.length + 1) 140737488355328 && Nat.ble ((v.a36.length + 1) * 248) 140737488355328) (
      .leaf (.inl ({ v with a3 := (IntKind.i64.wrap (v.a3 + 1)), a36 := (v.a36 ++ [(S1.mk (IntKind.u16.wrap (32769 + (IntKind.u16.wrap v.a3))) y15.f0 false false false false false false false false false false false false false false false false false false false false false false false false false false false 0 0 0 0 0 0 0 0 0 0 0 0 0 0 0 0 0 0 0 0 false false false false false false 0 0 0 0 0 0 0 0 0 0 0 0 0 0 0 0 0 0 0 0 0 0)]) }))) (
      .fail)) (
    .fail)) (
   .leaf (.inr (false, v)))
noncomputable def lb7_0 : Code := match findB 0 (Go.Proofs.Try.f7.body.getD .skip) with | [.loop b] => b | _ => .skip
def pa7_0 : List PA := [.any, .any, .c (.ptr 1 0), .c (.int .i64), .any, .c (.ptr 2 0), .top, .top, .any, .any, .any, .any, .any, .any, .any, .any, .any, .any, .any, .any, .any, .any, .c (.rs 0), .c (.int .i64), .c (.int .i64), .top, .top, .top, .top, .top, .top, .top, .top, .top, .top, .top, .top, .top, .top, .top, .top]
def pb7_0 : List PB := [.cells [.int .u64, .int .u8, .int .u8, .int .u8, .int .u8, .int .u8, .rs 0], .cells [.int .u64, .int .u8, .int .u8, .int .u8, .int .u8, .int .u8, .bool, .int .u16, .int .u64, .int .u32, .int .u64, .int .u16, .int .u8, .int .u8, .int .u8, .int .u8, .nils], .cells [.int .u64, .int .u8, .int .u8, .int .u8, .int .u8, .int .u8, .bool, .int .u16, .int .u64, .int .u32, .int .u64, .int .u16, .int .u8, .int .u8, .int .u8, .int .u8, .nils]]
def ini7_0 (s : St) : W7_0 := ⟨iC (aC (s.tmps.getD 3 .top)), rC 0 (aC (s.tmps.getD 22 .top)), iC (aC (s.tmps.getD 23 .top)), iC (aC (s.tmps.getD 24 .top)), iC ((bL (s.heap.getD 1 .dead)).getD 0 .top), iC ((bL (s.heap.getD 1 .dead)).getD 1 .top), iC ((bL (s.heap.getD 1 .dead)).getD 2 .top), iC ((bL (s.heap.getD 1 .dead)).getD 3 .top), iC ((bL (s.heap.getD 1 .dead)).getD 4 .top), iC ((bL (s.heap.getD 1 .dead)).getD 5 .top), bC ((bL (s.heap.getD 1 .dead)).getD 6 .top), iC ((bL (s.heap.getD 1 .dead)).getD 7 .top), iC ((bL (s.heap.getD 1 .dead)).getD 8 .top), iC ((bL (s.heap.getD 1 .dead)).getD 9 .top), iC ((bL (s.heap.getD 1 .dead)).getD 10 .top), iC ((bL (s.heap.getD 1 .dead)).getD 11 .top), iC ((bL (s.heap.getD 1 .dead)).getD 12 .top), iC ((bL (s.heap.getD 1 .dead)).getD 13 .top), iC ((bL (s.heap.getD 1 .dead)).getD 14 .top), iC ((bL (s.heap.getD 1 .dead)).getD 15 .top), iC ((bL (s.heap.getD 2 .dead)).getD 0 .top), iC ((bL (s.heap.getD 2 .dead)).getD 1 .top), iC ((bL (s.heap.getD 2 .dead)).getD 2 .top), iC ((bL (s.heap.getD 2 .dead)).getD 3 .top), iC ((bL (s.heap.getD 2 .dead)).getD 4 .top), iC ((bL (s.heap.getD 2 .dead)).getD 5 .top), bC ((bL (s.heap.getD 2 .dead)).getD 6 .top), iC ((bL (s.heap.getD 2 .dead)).getD 7 .top), iC ((bL (s.heap.getD 2 .dead)).getD 8 .top), iC ((bL (s.heap.getD 2 .dead)).getD 9 .top), iC ((bL (s.heap.getD 2 .dead)).getD 10 .top), iC ((bL (s.heap.getD 2 .dead)).getD 11 .top), iC ((bL (s.heap.getD 2 .dead)).getD 12 .top), iC ((bL (s.heap.getD 2 .dead)).getD 13 .top), iC ((bL (s.heap.getD 2 .dead)).getD 14 .top), iC ((bL (s.heap.getD 2 .dead)).getD 15 .top), []⟩
noncomputable def F7_0 : St → Res (Ex × St) := loopF pa7_0 pb7_0 1000000 hd7_0 gR7_0 ini7_0 false
theorem F7_0_ok (s : St) (r : Ex × St) (h : (F7_0 s).eval = some r) : (codeR e7 0 (.block 0 (.loop lb7_0)) s).eval = some r :=
  blk_ok (e := e7) (T := lookT []) (fun s v => by kernel_rfl) (fun s => by kernel_rfl) (tab_nil) s r h
def g7T (x0 : S5) : Tr (S7 × Int) :=
  .opt (g10 x0) fun z14 =>
   .br (z14 != 0) (
    .leaf ((S7.mk 0 0 0 0 0 0 false 0 0 0 0 0 0 0 0 0 []), z14)) (
    .opt (iter gR7_0 1000000 (W7_0.mk (0) (x0.f6) ((x0.f6.length : Int)) (0) (0) (0) (0) (0) (0) (0) (false) (0) (0) (0) (0) (0) (0) (0) (0) (0) (x0.f0) (x0.f1) (x0.f2) (x0.f3) (x0.f4) (x0.f5) (false) (0) (0) (0) (0) (0) (0) (0) (0) (0) ([]))) fun r16 =>
     .br r16.1 (
      .fail) (
      .leaf ((S7.mk r16.2.a20 r16.2.a21 r16.2.a22 r16.2.a23 r16.2.a24 r16.2.a25 r16.2.a26 r16.2.a27 r16.2.a28 r16.2.a29 r16.2.a30 r16.2.a31 r16.2.a32 r16.2.a33 r16.2.a34 r16.2.a35 r16.2.a36), 0)))
def g7 (x0 : S5) : Option (S7 × Int) := (g7T x0).get?
noncomputable def T7 : TL := [(0, F7_0)]
noncomputable def q7 : Ab.Spec := frsR [[none, none, none, none, none, none, none, none, none, none, none, none, none, none, none, none, some 1], []] (runQ0 e7 (lookT T7) Go.Proofs.Try.f7)
theorem q7_ok : SpecOk Go.Proofs.Try.prog 7 q7 := (runQ0_ok (runR_ok (e := e7) follows (allTI ti_ok _ _ _ _) (callsOk_cons s10_ok (callsOk_nil)) Go.Proofs.Try.func7 Go.Proofs.Try.call7) (fun c hc => by
  have hb : c = Go.Proofs.Try.f7.body.getD .skip := by rw [hc]; rfl
  subst hb
  exact tab_cons (by kernel_rfl) F7_0_ok (tab_nil))).fresh [[none, none, none, none, none, none, none, none, none, none, none, none, none, none, none, none, some 1], []]
theorem g7_run (x0 : S5) : (q7 [.agg (Cod.enc 5 x0)] []).eval = (g7T x0).ev fun r => ((.tup [some (true, [.int .u64 r.1.f0, .int .u8 r.1.f1, .int .u8 r.1.f2, .int .u8 r.1.f3, .int .u8 r.1.f4, .int .u8 r.1.f5, .bool r.1.f6, .int .u16 r.1.f7, .int .u64 r.1.f8, .int .u32 r.1.f9, .int .u64 r.1.f10, .int .u16 r.1.f11, .int .u8 r.1.f12, .int .u8 r.1.f13, .int .u8 r.1.f14, .int .u8 r.1.f15, .slw 0]), some (false, [.int .i64 r.2])] : AV), ([.row 1 r.1.f16] : List Blk)) := by kernel_rfl
noncomputable def s7_0 : Ab.Spec := fun args h =>
  dN h <| dL args fun v0 a0 => dG v0 fun l0 => dE 5 l0 fun x0 => dN a0 <|
  .opt (g7 x0) fun r => .val (.tup [some (true, [.int .u64 r.1.f0, .int .u8 r.1.f1, .int .u8 r.1.f2, .int .u8 r.1.f3, .int .u8 r.1.f4, .int .u8 r.1.f5, .bool r.1.f6, .int .u16 r.1.f7, .int .u64 r.1.f8, .int .u32 r.1.f9, .int .u64 r.1.f10, .int .u16 r.1.f11, .int .u8 r.1.f12, .int .u8 r.1.f13, .int .u8 r.1.f14, .int .u8 r.1.f15, .slw 0]), some (false, [.int .i64 r.2])], [.row 1 r.1.f16])
theorem s7_0_ok : SpecOk Go.Proofs.Try.prog 7 s7_0 :=
  q7_ok.less fun args hs r h => by
    unfold s7_0 at h
    obtain ⟨rfl, hh1⟩ := dN_inv h
    obtain ⟨v0, a0, rfl, hh2⟩ := dL_inv hh1
    obtain ⟨l0, rfl, hh3⟩ := dG_inv hh2
    obtain ⟨x0, rfl, hh4⟩ := dE_inv hh3
    obtain ⟨rfl, hh5⟩ := dN_inv hh4
    rw [g7_run, Tr.ev_get?]
    change (Res.opt (g7 x0) _).eval = some r at hh5
    rw [eval_opt] at hh5
    obtain ⟨z, hz, hh6⟩ := Option.bind_eq_some_iff.mp hh5
    unfold g7 at hz
    rw [hz]; exact hh6
noncomputable def s7 : Ab.Spec := fun args h => s7_0 (coeA [[none, none, none, none, none, none, some 0]] args) h
theorem s7_ok : SpecOk Go.Proofs.Try.prog 7 s7 := s7_0_ok.pre [[none, none, none, none, none, none, some 0]]
/-- pontage/pontageref06.CheckT -/
noncomputable def L41 : SL := []
noncomputable def e41 : Env := ⟨ti, fun g => lookS g L41, 1000000, [], []⟩
def g41T (x0 : S4) : Tr (Int) :=
  .br (bif (bif (bif (bif (bif (bif (bif (decide ((IntKind.i64.wrap x0.f1) < 6)) then true else (decide ((IntKind.i64.wrap x0.f1) > 40))) then true else (decide ((IntKind.i64.wrap x0.f2) < 1))) then true else (decide ((IntKind.i64.wrap x0.f2) > 2))) then true else (decide ((IntKind.i64.wrap x0.f3) < 4))) then true else (decide ((IntKind.i64.wrap x0.f3) > 30))) then true else (decide ((IntKind.i64.wrap (2 * (IntKind.i64.wrap ((IntKind.i64.wrap x0.f3) - 1)))) < (IntKind.i64.wrap x0.f1)))) then true else (decide ((IntKind.i64.wrap x0.f1) < (IntKind.i64.wrap (2 * (IntKind.i64.wrap ((IntKind.i64.wrap x0.f2) + 1))))))) (
   .leaf (60)) (
   .leaf (0))
def g41 (x0 : S4) : Int := (g41T x0).get default
noncomputable def T41 : TL := []
noncomputable def q41 : Ab.Spec := runQ0 e41 (lookT T41) Go.Proofs.Try.f41
theorem q41_ok : SpecOk Go.Proofs.Try.prog 41 q41 := (runQ0_ok (runR_ok (e := e41) follows (allTI ti_ok _ _ _ _) (callsOk_nil) Go.Proofs.Try.func41 Go.Proofs.Try.call41) (fun c hc => by
  have hb : c = Go.Proofs.Try.f41.body.getD .skip := by rw [hc]; rfl
  subst hb
  exact tab_nil))
theorem g41_run (x0 : S4) : (q41 [.agg (Cod.enc 4 x0)] []).eval = (g41T x0).ev fun r => ((.c (.int .i64 r) : AV), ([] : List Blk)) := by kernel_rfl
noncomputable def s41 : Ab.Spec := fun args h =>
  dN h <| dL args fun v0 a0 => dG v0 fun l0 => dE 4 l0 fun x0 => dN a0 <|
  let r := g41 x0; .val (.c (.int .i64 r), [])
theorem s41_ok : SpecOk Go.Proofs.Try.prog 41 s41 :=
  q41_ok.less fun args hs r h => by
    unfold s41 at h
    obtain ⟨rfl, hh1⟩ := dN_inv h
    obtain ⟨v0, a0, rfl, hh2⟩ := dL_inv hh1
    obtain ⟨l0, rfl, hh3⟩ := dG_inv hh2
    obtain ⟨x0, rfl, hh4⟩ := dE_inv hh3
    obtain ⟨rfl, hh5⟩ := dN_inv hh4
    rw [g41_run, Tr.ev_get (d := default) (by kernel_rfl)]
    exact hh5
/-- pontage/pontageref09.IsConf -/
noncomputable def L29 : SL := [(41, .byVal, s41)]
noncomputable def e29 : Env := ⟨ti, fun g => lookS g L29, 1000000, [.drop 0, .drop 4, .drop 5, .drop 6, .drop 7, .drop 8, .drop 9, .drop 10, .drop 11, .drop 12, .drop 13, .drop 14, .drop 15, .drop 16, .drop 17, .drop 18, .drop 19, .drop 20, .drop 21, .drop 22, .drop 23, .drop 24, .drop 25, .drop 26, .drop 27, .drop 28, .drop 29, .drop 30, .drop 31, .drop 32, .drop 33, .drop 34, .drop 35, .drop 36, .drop 37, .drop 38, .drop 39, .drop 40, .drop 41], []⟩
structure W29_0 where
  a0 : Bool
  a1 : Int
  a2 : Int
  a3 : Int
  a4 : Int
  a5 : Int
  a6 : Int
  a7 : Int
  a8 : List S0
def hd29_0 (v : W29_0) : St := ⟨[.top, .c (.ptr 0 0), .c (.bool v.a0), .c (.int .i64 v.a1), .top, .top, .top, .top, .top, .top, .top, .top, .top, .top, .top, .top, .top, .top, .top, .top, .top, .top, .top, .top, .top, .top, .top, .top, .top, .top, .top, .top, .top, .top, .top, .top, .top, .top, .top, .top, .top, .top, .top, .top, .top, .top, .top, .top, .top, .top, .top, .top, .top, .top, .top, .top, .top, .top, .top, .top, .top, .top, .top], [.cells [.int .u64 v.a2, .int .u8 v.a3, .int .u8 v.a4, .int .u8 v.a5, .int .u8 v.a6, .int .u8 v.a7, .rs 0 v.a8]]⟩
def gR29_0 (v : W29_0) : Tr (W29_0 ⊕ (Bool × W29_0)) :=
  .br (decide (v.a1 < (v.a8.length : Int))) (
   .br (decide (0 ≤ v.a1)) (
    .opt (v.a8[Int.toNat v.a1]?) fun y18 =>
     .br (!(decide (y18.f0 < 1))) (
      .br (decide (0 ≤ v.a1)) (
       .opt (v.a8[Int.toNat v.a1]?) fun y20 =>
        .br (decide (y20.f0 > 200000000)) (
         .leaf (.inr (true, { v with a0 := false }))) (
         .leaf (.inl ({ v with a1 := (IntKind.i64.wrap (v.a1 + 1)) })))) (
       .fail)) (
      .leaf (.inr (true, { v with a0 := false })))) (
    .fail)) (
   .leaf (.inr (false, v)))
noncomputable def lb29_0 : Code := match findB 0 (Go.Proofs.Try.f29.body.getD .skip) with | [.loop b] => b | _ => .skip
def pa29_0 : List PA := [.any, .c (.ptr 0 0), .c (.bool), .c (.int .i64), .any, .any, .any, .any, .any, .any, .any, .any, .any, .any, .any, .any, .any, .any, .any, .any, .any, .any, .any, .any, .any, .any, .any, .any, .any, .any, .any, .any, .any, .any, .any, .any, .any, .any, .any, .any, .any, .any, .top, .top, .top, .top, .top, .top, .top, .top, .top, .top, .top, .top, .top, .top, .top, .top, .top, .top, .top, .top, .top]
def pb29_0 : List PB := [.cells [.int .u64, .int .u8, .int .u8, .int .u8, .int .u8, .int .u8, .rs 0]]
def ini29_0 (s : St) : W29_0 := ⟨bC (aC (s.tmps.getD 2 .top)), iC (aC (s.tmps.getD 3 .top)), iC ((bL (s.heap.getD 0 .dead)).getD 0 .top), iC ((bL (s.heap.getD 0 .dead)).getD 1 .top), iC ((bL (s.heap.getD 0 .dead)).getD 2 .top), iC ((bL (s.heap.getD 0 .dead)).getD 3 .top), iC ((bL (s.heap.getD 0 .dead)).getD 4 .top), iC ((bL (s.heap.getD 0 .dead)).getD 5 .top), rC 0 ((bL (s.heap.getD 0 .dead)).getD 6 .top)⟩
noncomputable def F29_0 : St → Res (Ex × St) := loopF pa29_0 pb29_0 1000000 hd29_0 gR29_0 ini29_0 true
theorem F29_0_ok (s : St) (r : Ex × St) (h : (F29_0 s).eval = some r) : (codeR e29 0 (.block 0 (.loop lb29_0)) s).eval = some r :=
  blk_ok (e := e29) (T := lookT []) (fun s v => by kernel_rfl) (fun s => by kernel_rfl) (tab_nil) s r h
def g29T (x0 : S5) : Tr (Bool) :=
  let z17 := g41 (S4.mk x0.f1 x0.f2 x0.f3 x0.f4)
  .br (bif (bif (bif (bif (bif (bif ((remI x0.f0 281474976710656) == 0) then true else (z17 != 0)) then true else (x0.f1 != 0)) then true else (decide (x0.f5 < 1))) then true else (decide (x0.f5 > 10))) then true else (decide ((x0.f6.length : Int) < 1))) then true else (decide ((x0.f6.length : Int) > 8))) (
   .leaf (false)) (
   .opt (iter gR29_0 1000000 (W29_0.mk (false) (0) (x0.f0) (x0.f1) (x0.f2) (x0.f3) (x0.f4) (x0.f5) (x0.f6))) fun r21 =>
    .br r21.1 (
     .leaf (r21.2.a0)) (
     .leaf (true)))
def g29 (x0 : S5) : Option (Bool) := (g29T x0).get?
noncomputable def T29 : TL := [(0, F29_0)]
noncomputable def q29 : Ab.Spec := runQ0 e29 (lookT T29) Go.Proofs.Try.f29
theorem q29_ok : SpecOk Go.Proofs.Try.prog 29 q29 := (runQ0_ok (runR_ok (e := e29) follows (allTI ti_ok _ _ _ _) (callsOk_cons s41_ok (callsOk_nil)) Go.Proofs.Try.func29 Go.Proofs.Try.call29) (fun c hc => by
  have hb : c = Go.Proofs.Try.f29.body.getD .skip := by rw [hc]; rfl
  subst hb
  exact tab_cons (by kernel_rfl) F29_0_ok (tab_nil)))
theorem g29_run (x0 : S5) : (q29 [.agg (Cod.enc 5 x0)] []).eval = (g29T x0).ev fun r => ((.c (.bool r) : AV), ([] : List Blk)) := by kernel_rfl
noncomputable def s29_0 : Ab.Spec := fun args h =>
  dN h <| dL args fun v0 a0 => dG v0 fun l0 => dE 5 l0 fun x0 => dN a0 <|
  .opt (g29 x0) fun r => .val (.c (.bool r), [])
theorem s29_0_ok : SpecOk Go.Proofs.Try.prog 29 s29_0 :=
  q29_ok.less fun args hs r h => by
    unfold s29_0 at h
    obtain ⟨rfl, hh1⟩ := dN_inv h
    obtain ⟨v0, a0, rfl, hh2⟩ := dL_inv hh1
    obtain ⟨l0, rfl, hh3⟩ := dG_inv hh2
    obtain ⟨x0, rfl, hh4⟩ := dE_inv hh3
    obtain ⟨rfl, hh5⟩ := dN_inv hh4
    rw [g29_run, Tr.ev_get?]
    change (Res.opt (g29 x0) _).eval = some r at hh5
    rw [eval_opt] at hh5
    obtain ⟨z, hz, hh6⟩ := Option.bind_eq_some_iff.mp hh5
    unfold g29 at hz
    rw [hz]; exact hh6
noncomputable def s29 : Ab.Spec := fun args h => s29_0 (coeA [[none, none, none, none, none, none, some 0]] args) h
theorem s29_ok : SpecOk Go.Proofs.Try.prog 29 s29 := s29_0_ok.pre [[none, none, none, none, none, none, some 0]]
/-- pontage/pontageref09.New -/
noncomputable def L8 : SL := [(29, .byVal, s29)]
noncomputable def e8 : Env := ⟨ti, fun g => lookS g L8, 1000000, [.drop 0, .drop 6, .drop 7, .drop 8, .drop 9, .drop 10, .drop 11, .drop 12, .drop 13, .drop 14, .drop 15, .drop 16, .blk 2 16 1], []⟩
structure W8_0 where
  a0 : Int
  a1 : Int
  a2 : Int
  a3 : Int
  a4 : Int
  a5 : Int
  a6 : Int
  a7 : Int
  a8 : List S0
  a9 : Int
  a10 : Int
  a11 : Int
  a12 : Int
  a13 : Int
  a14 : Int
  a15 : Bool
  a16 : Int
  a17 : Int
  a18 : Int
  a19 : Int
  a20 : Int
  a21 : Int
  a22 : Int
  a23 : Int
  a24 : Int
  a25 : Int
  a26 : Int
  a27 : Int
  a28 : Int
  a29 : Int
  a30 : Int
  a31 : Bool
  a32 : Int
  a33 : Int
  a34 : Int
  a35 : Int
  a36 : Int
  a37 : Int
  a38 : Int
  a39 : Int
  a40 : Int
  a41 : List S1
def hd8_0 (v : W8_0) : St := ⟨[.top, .c (.ptr 0 0), .c (.ptr 1 0), .c (.int .i64 v.a0), .c (.ptr 2 0), .c (.int .i64 v.a1), .top, .top, .top, .top, .top, .top, .top, .top, .top, .top, .top, .top, .top, .top, .top, .top, .top, .top, .top, .top, .top, .top, .top, .top, .top, .top, .top, .top, .top, .top, .top, .top, .top], [.cells [.int .u64 v.a2, .int .u8 v.a3, .int .u8 v.a4, .int .u8 v.a5, .int .u8 v.a6, .int .u8 v.a7, .rs 0 v.a8], .cells [.int .u64 v.a9, .int .u8 v.a10, .int .u8 v.a11, .int .u8 v.a12, .int .u8 v.a13, .int .u8 v.a14, .bool v.a15, .int .u16 v.a16, .int .u64 v.a17, .int .u32 v.a18, .int .u64 v.a19, .int .u16 v.a20, .int .u8 v.a21, .int .u8 v.a22, .int .u8 v.a23, .int .u8 v.a24, .nils], .cells [.int .u64 v.a25, .int .u8 v.a26, .int .u8 v.a27, .int .u8 v.a28, .int .u8 v.a29, .int .u8 v.a30, .bool v.a31, .int .u16 v.a32, .int .u64 v.a33, .int .u32 v.a34, .int .u64 v.a35, .int .u16 v.a36, .int .u8 v.a37, .int .u8 v.a38, .int .u8 v.a39, .int .u8 v.a40, .slw 3], .row 1 v.a41]⟩
def gR8_0 (v : W8_0) : Tr (W8_0 ⊕ (Bool × W8_0)) :=
  .br (decide (v.a1 < (v.a8.length : Int))) (
   .br (decide (0 ≤ v.a1)) (
    .opt (v.a8[Int.toNat v.a1]?) fun y25 =>
     .br (Nat.ble (v.a41.length + 1) 140737488355328 && Nat.ble ((v.a41.length + 1) * 248) 140737488355328) (
      .leaf (.inl ({ v with a1 := (IntKind.i64.wrap (v.a1 + 1)), a41 := (v.a41 ++ [(S1.mk (IntKind.u16.wrap (IntKind.i64.wrap (32769 + v.a1))) y25.f0 false false false false false false false false false false false false false false false false false false false false false false false false false false false 0 0 0 0 0 0 0 0 0 0 0 0 0 0 0 0 0 0 0 0 false false false false false false 0 0 0 0 0 0 0 0 0 0 0 0 0 0 0 0 0 0 0 0 0 0)]) }))) (
      .fail)) (
    .fail)) (
   .leaf (.inr (false, v)))
noncomputable def lb8_0 : Code := match findB 0 (Go.Proofs.Try.f8.body.getD .skip) with | [.loop b] => b | _ => .skip
def pa8_0 : List PA := [.any, .c (.ptr 0 0), .c (.ptr 1 0), .c (.int .i64), .c (.ptr 2 0), .c (.int .i64), .any, .any, .any, .any, .any, .any, .any, .any, .any, .any, .any, .top, .top, .top, .top, .top, .top, .top, .top, .top, .top, .top, .top, .top, .top, .top, .top, .top, .top, .top, .top, .top, .top]
def pb8_0 : List PB := [.cells [.int .u64, .int .u8, .int .u8, .int .u8, .int .u8, .int .u8, .rs 0], .cells [.int .u64, .int .u8, .int .u8, .int .u8, .int .u8, .int .u8, .bool, .int .u16, .int .u64, .int .u32, .int .u64, .int .u16, .int .u8, .int .u8, .int .u8, .int .u8, .nils], .cells [.int .u64, .int .u8, .int .u8, .int .u8, .int .u8, .int .u8, .bool, .int .u16, .int .u64, .int .u32, .int .u64, .int .u16, .int .u8, .int .u8, .int .u8, .int .u8, .nils]]
def ini8_0 (s : St) : W8_0 := ⟨iC (aC (s.tmps.getD 3 .top)), iC (aC (s.tmps.getD 5 .top)), iC ((bL (s.heap.getD 0 .dead)).getD 0 .top), iC ((bL (s.heap.getD 0 .dead)).getD 1 .top), iC ((bL (s.heap.getD 0 .dead)).getD 2 .top), iC ((bL (s.heap.getD 0 .dead)).getD 3 .top), iC ((bL (s.heap.getD 0 .dead)).getD 4 .top), iC ((bL (s.heap.getD 0 .dead)).getD 5 .top), rC 0 ((bL (s.heap.getD 0 .dead)).getD 6 .top), iC ((bL (s.heap.getD 1 .dead)).getD 0 .top), iC ((bL (s.heap.getD 1 .dead)).getD 1 .top), iC ((bL (s.heap.getD 1 .dead)).getD 2 .top), iC ((bL (s.heap.getD 1 .dead)).getD 3 .top), iC ((bL (s.heap.getD 1 .dead)).getD 4 .top), iC ((bL (s.heap.getD 1 .dead)).getD 5 .top), bC ((bL (s.heap.getD 1 .dead)).getD 6 .top), iC ((bL (s.heap.getD 1 .dead)).getD 7 .top), iC ((bL (s.heap.getD 1 .dead)).getD 8 .top), iC ((bL (s.heap.getD 1 .dead)).getD 9 .top), iC ((bL (s.heap.getD 1 .dead)).getD 10 .top), iC ((bL (s.heap.getD 1 .dead)).getD 11 .top), iC ((bL (s.heap.getD 1 .dead)).getD 12 .top), iC ((bL (s.heap.getD 1 .dead)).getD 13 .top), iC ((bL (s.heap.getD 1 .dead)).getD 14 .top), iC ((bL (s.heap.getD 1 .dead)).getD 15 .top), iC ((bL (s.heap.getD 2 .dead)).getD 0 .top), iC ((bL (s.heap.getD 2 .dead)).getD 1 .top), iC ((bL (s.heap.getD 2 .dead)).getD 2 .top), iC ((bL (s.heap.getD 2 .dead)).getD 3 .top), iC ((bL (s.heap.getD 2 .dead)).getD 4 .top), iC ((bL (s.heap.getD 2 .dead)).getD 5 .top), bC ((bL (s.heap.getD 2 .dead)).getD 6 .top), iC ((bL (s.heap.getD 2 .dead)).getD 7 .top), iC ((bL (s.heap.getD 2 .dead)).getD 8 .top), iC ((bL (s.heap.getD 2 .dead)).getD 9 .top), iC ((bL (s.heap.getD 2 .dead)).getD 10 .top), iC ((bL (s.heap.getD 2 .dead)).getD 11 .top), iC ((bL (s.heap.getD 2 .dead)).getD 12 .top), iC ((bL (s.heap.getD 2 .dead)).getD 13 .top), iC ((bL (s.heap.getD 2 .dead)).getD 14 .top), iC ((bL (s.heap.getD 2 .dead)).getD 15 .top), []⟩
noncomputable def F8_0 : St → Res (Ex × St) := loopF pa8_0 pb8_0 1000000 hd8_0 gR8_0 ini8_0 false
theorem F8_0_ok (s : St) (r : Ex × St) (h : (F8_0 s).eval = some r) : (codeR e8 0 (.block 0 (.loop lb8_0)) s).eval = some r :=
  blk_ok (e := e8) (T := lookT []) (fun s v => by kernel_rfl) (fun s => by kernel_rfl) (tab_nil) s r h
def g8T (x0 : S5) : Tr (S7 × Int) :=
  .opt (g29 x0) fun z24 =>
   .br (!z24) (
    .leaf ((S7.mk 0 0 0 0 0 0 false 0 0 0 0 0 0 0 0 0 []), 90)) (
    .opt (iter gR8_0 1000000 (W8_0.mk (0) (0) (x0.f0) (x0.f1) (x0.f2) (x0.f3) (x0.f4) (x0.f5) (x0.f6) (0) (0) (0) (0) (0) (0) (false) (0) (0) (0) (0) (0) (0) (0) (0) (0) (x0.f0) (x0.f1) (x0.f2) (x0.f3) (x0.f4) (x0.f5) (false) (0) (0) (0) (0) (0) (0) (0) (0) (0) ([]))) fun r26 =>
     .br r26.1 (
      .fail) (
      .leaf ((S7.mk r26.2.a25 r26.2.a26 r26.2.a27 r26.2.a28 r26.2.a29 r26.2.a30 r26.2.a31 r26.2.a32 r26.2.a33 r26.2.a34 r26.2.a35 r26.2.a36 r26.2.a37 r26.2.a38 r26.2.a39 r26.2.a40 r26.2.a41), 0)))
def g8 (x0 : S5) : Option (S7 × Int) := (g8T x0).get?
noncomputable def T8 : TL := [(0, F8_0)]
noncomputable def q8 : Ab.Spec := frzR [[none, none, none, none, none, none, none, none, none, none, none, none, none, none, none, none, some 1], []] (runQ0 e8 (lookT T8) Go.Proofs.Try.f8)
theorem q8_ok : SpecOk Go.Proofs.Try.prog 8 q8 := (runQ0_ok (runR_ok (e := e8) follows (allTI ti_ok _ _ _ _) (callsOk_cons s29_ok (callsOk_nil)) Go.Proofs.Try.func8 Go.Proofs.Try.call8) (fun c hc => by
  have hb : c = Go.Proofs.Try.f8.body.getD .skip := by rw [hc]; rfl
  subst hb
  exact tab_cons (by kernel_rfl) F8_0_ok (tab_nil))).froze [[none, none, none, none, none, none, none, none, none, none, none, none, none, none, none, none, some 1], []]
theorem g8_run (x0 : S5) : (q8 [.agg (Cod.enc 5 x0)] []).eval = (g8T x0).ev fun r => ((.tup [some (true, Cod.enc 7 r.1), some (false, [.int .i64 r.2])] : AV), ([] : List Blk)) := by kernel_rfl
noncomputable def s8_0 : Ab.Spec := fun args h =>
  dN h <| dL args fun v0 a0 => dG v0 fun l0 => dE 5 l0 fun x0 => dN a0 <|
  .opt (g8 x0) fun r => .val (.tup [some (true, Cod.enc 7 r.1), some (false, [.int .i64 r.2])], [])
theorem s8_0_ok : SpecOk Go.Proofs.Try.prog 8 s8_0 :=
  q8_ok.less fun args hs r h => by
    unfold s8_0 at h
    obtain ⟨rfl, hh1⟩ := dN_inv h
    obtain ⟨v0, a0, rfl, hh2⟩ := dL_inv hh1
    obtain ⟨l0, rfl, hh3⟩ := dG_inv hh2
    obtain ⟨x0, rfl, hh4⟩ := dE_inv hh3
    obtain ⟨rfl, hh5⟩ := dN_inv hh4
    rw [g8_run, Tr.ev_get?]
    change (Res.opt (g8 x0) _).eval = some r at hh5
    rw [eval_opt] at hh5
    obtain ⟨z, hz, hh6⟩ := Option.bind_eq_some_iff.mp hh5
    unfold g8 at hz
    rw [hz]; exact hh6
noncomputable def s8 : Ab.Spec := fun args h => s8_0 (coeA [[none, none, none, none, none, none, some 0]] args) h
theorem s8_ok : SpecOk Go.Proofs.Try.prog 8 s8 := s8_0_ok.pre [[none, none, none, none, none, none, some 0]]
/-- pontage/pontageref09.Same -/
noncomputable def L9 : SL := []
noncomputable def e9 : Env := ⟨ti, fun g => lookS g L9, 1000000, [.drop 0, .drop 1, .drop 6, .drop 7, .drop 8, .drop 9, .drop 10, .drop 11, .drop 12, .drop 13, .drop 14, .drop 15, .drop 16, .drop 17, .drop 18, .drop 19, .drop 20, .drop 21, .drop 22, .drop 23, .drop 24, .drop 25, .drop 26, .drop 27, .drop 28, .drop 29, .drop 30, .drop 31, .drop 32, .drop 33, .drop 34, .drop 35, .drop 36, .drop 37, .drop 38, .drop 39, .drop 40, .drop 41, .drop 42, .drop 43, .drop 44, .drop 45, .drop 46, .drop 47, .drop 48, .drop 49, .drop 50, .drop 51, .drop 52, .drop 53, .drop 54, .drop 55, .drop 56, .drop 57, .drop 58, .drop 59, .drop 60, .drop 61], []⟩
structure W9_0 where
  a0 : Bool
  a1 : Int
  a2 : Int
  a3 : Int
  a4 : Int
  a5 : Int
  a6 : Int
  a7 : Int
  a8 : Bool
  a9 : Int
  a10 : Int
  a11 : Int
  a12 : Int
  a13 : Int
  a14 : Int
  a15 : Int
  a16 : Int
  a17 : Int
  a18 : List S1
  a19 : Int
  a20 : Int
  a21 : Int
  a22 : Int
  a23 : Int
  a24 : Int
  a25 : Bool
  a26 : Int
  a27 : Int
  a28 : Int
  a29 : Int
  a30 : Int
  a31 : Int
  a32 : Int
  a33 : Int
  a34 : Int
  a35 : List S1
def hd9_0 (v : W9_0) : St := ⟨[.top, .top, .c (.ptr 0 0), .c (.ptr 1 0), .c (.bool v.a0), .c (.int .i64 v.a1), .top, .top, .top, .top, .top, .top, .top, .top, .top, .top, .top, .top, .top, .top, .top, .top, .top, .top, .top, .top, .top, .top, .top, .top, .top, .top, .top, .top, .top, .top, .top, .top, .top, .top, .top, .top, .top, .top, .top, .top, .top, .top, .top, .top, .top, .top, .top, .top, .top, .top, .top, .top, .top, .top, .top, .top, .top, .top, .top, .top, .top, .top, .top, .top, .top, .top, .top, .top, .top, .top, .top, .top, .top, .top], [.cells [.int .u64 v.a2, .int .u8 v.a3, .int .u8 v.a4, .int .u8 v.a5, .int .u8 v.a6, .int .u8 v.a7, .bool v.a8, .int .u16 v.a9, .int .u64 v.a10, .int .u32 v.a11, .int .u64 v.a12, .int .u16 v.a13, .int .u8 v.a14, .int .u8 v.a15, .int .u8 v.a16, .int .u8 v.a17, .rs 1 v.a18], .cells [.int .u64 v.a19, .int .u8 v.a20, .int .u8 v.a21, .int .u8 v.a22, .int .u8 v.a23, .int .u8 v.a24, .bool v.a25, .int .u16 v.a26, .int .u64 v.a27, .int .u32 v.a28, .int .u64 v.a29, .int .u16 v.a30, .int .u8 v.a31, .int .u8 v.a32, .int .u8 v.a33, .int .u8 v.a34, .rs 1 v.a35]]⟩
def gR9_0 (v : W9_0) : Tr (W9_0 ⊕ (Bool × W9_0)) :=
  .br (decide (v.a1 < (v.a18.length : Int))) (
   .br (decide (0 ≤ v.a1)) (
    .opt (v.a18[Int.toNat v.a1]?) fun y27 =>
     .br (decide (0 ≤ v.a1)) (
      .opt (v.a35[Int.toNat v.a1]?) fun y28 =>
       .br (!(eqS1 y27 y28)) (
        .leaf (.inr (true, { v with a0 := false }))) (
        .leaf (.inl ({ v with a1 := (IntKind.i64.wrap (v.a1 + 1)) })))) (
      .fail)) (
    .fail)) (
   .leaf (.inr (false, v)))
noncomputable def lb9_0 : Code := match findB 0 (Go.Proofs.Try.f9.body.getD .skip) with | [.loop b] => b | _ => .skip
def pa9_0 : List PA := [.any, .any, .c (.ptr 0 0), .c (.ptr 1 0), .c (.bool), .c (.int .i64), .any, .any, .any, .any, .any, .any, .any, .any, .any, .any, .any, .any, .any, .any, .any, .any, .any, .any, .any, .any, .any, .any, .any, .any, .any, .any, .any, .any, .any, .any, .any, .any, .any, .any, .any, .any, .any, .any, .any, .any, .any, .any, .any, .any, .any, .any, .any, .any, .any, .any, .any, .any, .any, .any, .any, .any, .top, .top, .top, .top, .top, .top, .top, .top, .top, .top, .top, .top, .top, .top, .top, .top, .top, .top]
def pb9_0 : List PB := [.cells [.int .u64, .int .u8, .int .u8, .int .u8, .int .u8, .int .u8, .bool, .int .u16, .int .u64, .int .u32, .int .u64, .int .u16, .int .u8, .int .u8, .int .u8, .int .u8, .rs 1], .cells [.int .u64, .int .u8, .int .u8, .int .u8, .int .u8, .int .u8, .bool, .int .u16, .int .u64, .int .u32, .int .u64, .int .u16, .int .u8, .int .u8, .int .u8, .int .u8, .rs 1]]
def ini9_0 (s : St) : W9_0 := ⟨bC (aC (s.tmps.getD 4 .top)), iC (aC (s.tmps.getD 5 .top)), iC ((bL (s.heap.getD 0 .dead)).getD 0 .top), iC ((bL (s.heap.getD 0 .dead)).getD 1 .top), iC ((bL (s.heap.getD 0 .dead)).getD 2 .top), iC ((bL (s.heap.getD 0 .dead)).getD 3 .top), iC ((bL (s.heap.getD 0 .dead)).getD 4 .top), iC ((bL (s.heap.getD 0 .dead)).getD 5 .top), bC ((bL (s.heap.getD 0 .dead)).getD 6 .top), iC ((bL (s.heap.getD 0 .dead)).getD 7 .top), iC ((bL (s.heap.getD 0 .dead)).getD 8 .top), iC ((bL (s.heap.getD 0 .dead)).getD 9 .top), iC ((bL (s.heap.getD 0 .dead)).getD 10 .top), iC ((bL (s.heap.getD 0 .dead)).getD 11 .top), iC ((bL (s.heap.getD 0 .dead)).getD 12 .top), iC ((bL (s.heap.getD 0 .dead)).getD 13 .top), iC ((bL (s.heap.getD 0 .dead)).getD 14 .top), iC ((bL (s.heap.getD 0 .dead)).getD 15 .top), rC 1 ((bL (s.heap.getD 0 .dead)).getD 16 .top), iC ((bL (s.heap.getD 1 .dead)).getD 0 .top), iC ((bL (s.heap.getD 1 .dead)).getD 1 .top), iC ((bL (s.heap.getD 1 .dead)).getD 2 .top), iC ((bL (s.heap.getD 1 .dead)).getD 3 .top), iC ((bL (s.heap.getD 1 .dead)).getD 4 .top), iC ((bL (s.heap.getD 1 .dead)).getD 5 .top), bC ((bL (s.heap.getD 1 .dead)).getD 6 .top), iC ((bL (s.heap.getD 1 .dead)).getD 7 .top), iC ((bL (s.heap.getD 1 .dead)).getD 8 .top), iC ((bL (s.heap.getD 1 .dead)).getD 9 .top), iC ((bL (s.heap.getD 1 .dead)).getD 10 .top), iC ((bL (s.heap.getD 1 .dead)).getD 11 .top), iC ((bL (s.heap.getD 1 .dead)).getD 12 .top), iC ((bL (s.heap.getD 1 .dead)).getD 13 .top), iC ((bL (s.heap.getD 1 .dead)).getD 14 .top), iC ((bL (s.heap.getD 1 .dead)).getD 15 .top), rC 1 ((bL (s.heap.getD 1 .dead)).getD 16 .top)⟩
noncomputable def F9_0 : St → Res (Ex × St) := loopF pa9_0 pb9_0 1000000 hd9_0 gR9_0 ini9_0 true
theorem F9_0_ok (s : St) (r : Ex × St) (h : (F9_0 s).eval = some r) : (codeR e9 0 (.block 0 (.loop lb9_0)) s).eval = some r :=
  blk_ok (e := e9) (T := lookT []) (fun s v => by kernel_rfl) (fun s => by kernel_rfl) (tab_nil) s r h
def g9T (x0 : S7) (x1 : S7) : Tr (Bool) :=
  .br (bif (bif (bif (bif (bif (bif (bif (x0.f0 != x1.f0) then true else (!(eqS4 (S4.mk x0.f1 x0.f2 x0.f3 x0.f4) (S4.mk x1.f1 x1.f2 x1.f3 x1.f4)))) then true else (x0.f5 != x1.f5)) then true else (!(x0.f6 == x1.f6))) then true else (x0.f7 != x1.f7)) then true else (!(eqS6 (S6.mk x0.f8 x0.f9 x0.f10 x0.f11) (S6.mk x1.f8 x1.f9 x1.f10 x1.f11)))) then true else (!(eqS4 (S4.mk x0.f12 x0.f13 x0.f14 x0.f15) (S4.mk x1.f12 x1.f13 x1.f14 x1.f15)))) then true else ((x0.f16.length : Int) != (x1.f16.length : Int))) (
   .leaf (false)) (
   .opt (iter gR9_0 1000000 (W9_0.mk (false) (0) (x0.f0) (x0.f1) (x0.f2) (x0.f3) (x0.f4) (x0.f5) (x0.f6) (x0.f7) (x0.f8) (x0.f9) (x0.f10) (x0.f11) (x0.f12) (x0.f13) (x0.f14) (x0.f15) (x0.f16) (x1.f0) (x1.f1) (x1.f2) (x1.f3) (x1.f4) (x1.f5) (x1.f6) (x1.f7) (x1.f8) (x1.f9) (x1.f10) (x1.f11) (x1.f12) (x1.f13) (x1.f14) (x1.f15) (x1.f16))) fun r29 =>
    .br r29.1 (
     .leaf (r29.2.a0)) (
     .leaf (true)))
def g9 (x0 : S7) (x1 : S7) : Option (Bool) := (g9T x0 x1).get?
noncomputable def T9 : TL := [(0, F9_0)]
noncomputable def q9 : Ab.Spec := runQ0 e9 (lookT T9) Go.Proofs.Try.f9
theorem q9_ok : SpecOk Go.Proofs.Try.prog 9 q9 := (runQ0_ok (runR_ok (e := e9) follows (allTI ti_ok _ _ _ _) (callsOk_nil) Go.Proofs.Try.func9 Go.Proofs.Try.call9) (fun c hc => by
  have hb : c = Go.Proofs.Try.f9.body.getD .skip := by rw [hc]; rfl
  subst hb
  exact tab_cons (by kernel_rfl) F9_0_ok (tab_nil)))
theorem g9_run (x0 : S7) (x1 : S7) : (q9 [.agg (Cod.enc 7 x0), .agg (Cod.enc 7 x1)] []).eval = (g9T x0 x1).ev fun r => ((.c (.bool r) : AV), ([] : List Blk)) := by kernel_rfl
noncomputable def s9_0 : Ab.Spec := fun args h =>
  dN h <| dL args fun v0 a0 => dG v0 fun l0 => dE 7 l0 fun x0 => dL a0 fun v1 a1 => dG v1 fun l1 => dE 7 l1 fun x1 => dN a1 <|
  .opt (g9 x0 x1) fun r => .val (.c (.bool r), [])
theorem s9_0_ok : SpecOk Go.Proofs.Try.prog 9 s9_0 :=
  q9_ok.less fun args hs r h => by
    unfold s9_0 at h
    obtain ⟨rfl, hh1⟩ := dN_inv h
    obtain ⟨v0, a0, rfl, hh2⟩ := dL_inv hh1
    obtain ⟨l0, rfl, hh3⟩ := dG_inv hh2
    obtain ⟨x0, rfl, hh4⟩ := dE_inv hh3
    obtain ⟨v1, a1, rfl, hh5⟩ := dL_inv hh4
    obtain ⟨l1, rfl, hh6⟩ := dG_inv hh5
    obtain ⟨x1, rfl, hh7⟩ := dE_inv hh6
    obtain ⟨rfl, hh8⟩ := dN_inv hh7
    rw [g9_run, Tr.ev_get?]
    change (Res.opt (g9 x0 x1) _).eval = some r at hh8
    rw [eval_opt] at hh8
    obtain ⟨z, hz, hh9⟩ := Option.bind_eq_some_iff.mp hh8
    unfold g9 at hz
    rw [hz]; exact hh9
noncomputable def s9 : Ab.Spec := fun args h => s9_0 (coeA [[none, none, none, none, none, none, none, none, none, none, none, none, none, none, none, none, some 1], [none, none, none, none, none, none, none, none, none, none, none, none, none, none, none, none, some 1]] args) h
theorem s9_ok : SpecOk Go.Proofs.Try.prog 9 s9 := s9_0_ok.pre [[none, none, none, none, none, none, none, none, none, none, none, none, none, none, none, none, some 1], [none, none, none, none, none, none, none, none, none, none, none, none, none, none, none, none, some 1]]
/-- pontage/pontagelaw09.Conf -/
noncomputable def L34 : SL := []
noncomputable def e34 : Env := ⟨ti, fun g => lookS g L34, 1000000, [], []⟩
def g34T  : Tr (S5) :=
  .leaf ((S5.mk 9223372036854775813 0 20 2 15 6 [(S0.mk 20000), (S0.mk 20000)]))
def g34  : S5 := (g34T ).get default
noncomputable def T34 : TL := []
noncomputable def q34 : Ab.Spec := frzR [[none, none, none, none, none, none, some 0]] (runQ0 e34 (lookT T34) Go.Proofs.Try.f34)
theorem q34_ok : SpecOk Go.Proofs.Try.prog 34 q34 := (runQ0_ok (runR_ok (e := e34) follows (allTI ti_ok _ _ _ _) (callsOk_nil) Go.Proofs.Try.func34 Go.Proofs.Try.call34) (fun c hc => by
  have hb : c = Go.Proofs.Try.f34.body.getD .skip := by rw [hc]; rfl
  subst hb
  exact tab_nil)).froze [[none, none, none, none, none, none, some 0]]
theorem g34_run  : (q34 [] []).eval = (g34T ).ev fun r => ((.agg (Cod.enc 5 r) : AV), ([] : List Blk)) := by kernel_rfl
noncomputable def s34 : Ab.Spec := fun args h =>
  dN h <| dN args <|
  let r := g34; .val (.agg (Cod.enc 5 r), [])
theorem s34_ok : SpecOk Go.Proofs.Try.prog 34 s34 :=
  q34_ok.less fun args hs r h => by
    unfold s34 at h
    obtain ⟨rfl, hh1⟩ := dN_inv h
    obtain ⟨rfl, hh2⟩ := dN_inv hh1
    rw [g34_run, Tr.ev_get (d := default) (by kernel_rfl)]
    exact hh2
/-- slices.Clone[[]pontage/api.Port,pontage/api.Port] -/
noncomputable def L39 : SL := []
noncomputable def e39 : Env := ⟨ti, fun g => lookS g L39, 1000000, [], []⟩
theorem s39_a : (runR e39 Go.Proofs.Try.f39 [.c (.rn true 1 [])] []).eval = some (.c .nils, []) := by kernel_rfl
theorem s39_b (L : List S1) : (runR e39 Go.Proofs.Try.f39 [.c (.rn false 1 L)] []).eval = bif L.isEmpty then some (.c .ez, []) else bif cloneB 1 248 L then some (.c (.slw 0), [.row 1 L]) else none := by
  cases L with
  | nil => kernel_rfl
  | cons x L => kernel_rfl
noncomputable def s39 : Ab.Spec := fun args h => cloneS 1 248 (coeA [[some 1]] args) h
theorem s39_ok : SpecOk Go.Proofs.Try.prog 39 s39 := (clone_ok (e := e39) (c := 1) (bytes := 248) (runR_ok (e := e39) follows (allTI ti_ok _ _ _ _) (callsOk_nil) Go.Proofs.Try.func39 Go.Proofs.Try.call39) s39_a s39_b).pre [[some 1]]
/-- pontage/rvar.Copy -/
noncomputable def L17 : SL := [(39, .byNew, s39)]
noncomputable def e17 : Env := ⟨ti, fun g => lookS g L17, 1000000, [], []⟩
def g17T (x0 : S7) : Tr (S7) :=
  .br (x0.f16.isEmpty || cloneB 1 248 x0.f16) (
   .leaf (x0)) (
   .fail)
def g17 (x0 : S7) : Option (S7) := (g17T x0).get?
noncomputable def T17 : TL := []
noncomputable def q17 : Ab.Spec := frsR [[none, none, none, none, none, none, none, none, none, none, none, none, none, none, none, none, some 1]] (runQ0 e17 (lookT T17) Go.Proofs.Try.f17)
theorem q17_ok : SpecOk Go.Proofs.Try.prog 17 q17 := (runQ0_ok (runR_ok (e := e17) follows (allTI ti_ok _ _ _ _) (callsOk_cons s39_ok (callsOk_nil)) Go.Proofs.Try.func17 Go.Proofs.Try.call17) (fun c hc => by
  have hb : c = Go.Proofs.Try.f17.body.getD .skip := by rw [hc]; rfl
  subst hb
  exact tab_nil)).fresh [[none, none, none, none, none, none, none, none, none, none, none, none, none, none, none, none, some 1]]
theorem g17_run (x0 : S7) : (q17 [.agg (Cod.enc 7 x0)] []).eval = (g17T x0).ev fun r => ((.agg ([.int .u64 r.f0, .int .u8 r.f1, .int .u8 r.f2, .int .u8 r.f3, .int .u8 r.f4, .int .u8 r.f5, .bool r.f6, .int .u16 r.f7, .int .u64 r.f8, .int .u32 r.f9, .int .u64 r.f10, .int .u16 r.f11, .int .u8 r.f12, .int .u8 r.f13, .int .u8 r.f14, .int .u8 r.f15, .slw 0]) : AV), ([.row 1 r.f16] : List Blk)) := by kernel_rfl
noncomputable def s17_0 : Ab.Spec := fun args h =>
  dN h <| dL args fun v0 a0 => dG v0 fun l0 => dE 7 l0 fun x0 => dN a0 <|
  .opt (g17 x0) fun r => .val (.agg ([.int .u64 r.f0, .int .u8 r.f1, .int .u8 r.f2, .int .u8 r.f3, .int .u8 r.f4, .int .u8 r.f5, .bool r.f6, .int .u16 r.f7, .int .u64 r.f8, .int .u32 r.f9, .int .u64 r.f10, .int .u16 r.f11, .int .u8 r.f12, .int .u8 r.f13, .int .u8 r.f14, .int .u8 r.f15, .slw 0]), [.row 1 r.f16])
theorem s17_0_ok : SpecOk Go.Proofs.Try.prog 17 s17_0 :=
  q17_ok.less fun args hs r h => by
    unfold s17_0 at h
    obtain ⟨rfl, hh1⟩ := dN_inv h
    obtain ⟨v0, a0, rfl, hh2⟩ := dL_inv hh1
    obtain ⟨l0, rfl, hh3⟩ := dG_inv hh2
    obtain ⟨x0, rfl, hh4⟩ := dE_inv hh3
    obtain ⟨rfl, hh5⟩ := dN_inv hh4
    rw [g17_run, Tr.ev_get?]
    change (Res.opt (g17 x0) _).eval = some r at hh5
    rw [eval_opt] at hh5
    obtain ⟨z, hz, hh6⟩ := Option.bind_eq_some_iff.mp hh5
    unfold g17 at hz
    rw [hz]; exact hh6
noncomputable def s17 : Ab.Spec := fun args h => s17_0 (coeA [[none, none, none, none, none, none, none, none, none, none, none, none, none, none, none, none, some 1]] args) h
theorem s17_ok : SpecOk Go.Proofs.Try.prog 17 s17 := s17_0_ok.pre [[none, none, none, none, none, none, none, none, none, none, none, none, none, none, none, none, some 1]]
/-- pontage/rvar.has -/
noncomputable def L35 : SL := []
noncomputable def e35 : Env := ⟨ti, fun g => lookS g L35, 1000000, [], []⟩
def g35T (x0 : S7) (x1 : Int) : Tr (Bool) :=
  .leaf ((bif (decide (x1 ≥ 0)) then (decide (x1 < (x0.f16.length : Int))) else false))
def g35 (x0 : S7) (x1 : Int) : Bool := (g35T x0 x1).get default
noncomputable def T35 : TL := []
noncomputable def q35 : Ab.Spec := runQ0 e35 (lookT T35) Go.Proofs.Try.f35
theorem q35_ok : SpecOk Go.Proofs.Try.prog 35 q35 := (runQ0_ok (runR_ok (e := e35) follows (allTI ti_ok _ _ _ _) (callsOk_nil) Go.Proofs.Try.func35 Go.Proofs.Try.call35) (fun c hc => by
  have hb : c = Go.Proofs.Try.f35.body.getD .skip := by rw [hc]; rfl
  subst hb
  exact tab_nil))
theorem g35_run (x0 : S7) (x1 : Int) : (q35 [.agg (Cod.enc 7 x0), .c (.int .i64 x1)] []).eval = (g35T x0 x1).ev fun r => ((.c (.bool r) : AV), ([] : List Blk)) := by kernel_rfl
noncomputable def s35_0 : Ab.Spec := fun args h =>
  dN h <| dL args fun v0 a0 => dG v0 fun l0 => dE 7 l0 fun x0 => dL a0 fun v1 a1 => dC v1 fun c0 => dI .i64 c0 fun x1 => dN a1 <|
  let r := g35 x0 x1; .val (.c (.bool r), [])
theorem s35_0_ok : SpecOk Go.Proofs.Try.prog 35 s35_0 :=
  q35_ok.less fun args hs r h => by
    unfold s35_0 at h
    obtain ⟨rfl, hh1⟩ := dN_inv h
    obtain ⟨v0, a0, rfl, hh2⟩ := dL_inv hh1
    obtain ⟨l0, rfl, hh3⟩ := dG_inv hh2
    obtain ⟨x0, rfl, hh4⟩ := dE_inv hh3
    obtain ⟨v1, a1, rfl, hh5⟩ := dL_inv hh4
    obtain ⟨c0, rfl, hh6⟩ := dC_inv hh5
    obtain ⟨x1, rfl, hh7⟩ := dI_inv hh6
    obtain ⟨rfl, hh8⟩ := dN_inv hh7
    rw [g35_run, Tr.ev_get (d := default) (by kernel_rfl)]
    exact hh8
noncomputable def s35 : Ab.Spec := fun args h => s35_0 (coeA [[none, none, none, none, none, none, none, none, none, none, none, none, none, none, none, none, some 1], []] args) h
theorem s35_ok : SpecOk Go.Proofs.Try.prog 35 s35 := s35_0_ok.pre [[none, none, none, none, none, none, none, none, none, none, none, none, none, none, none, none, some 1], []]
/-- pontage/rvar.Up -/
noncomputable def L13 : SL := [(17, .byNew, s17), (35, .byVal, s35)]
noncomputable def e13 : Env := ⟨ti, fun g => lookS g L13, 1000000, [], []⟩
def g13T (x0 : S7) (x1 : Int) (x2 : Bool) : Tr (S7) :=
  .opt (g17 x0) fun z31 =>
   let z32 := g35 z31 x1
   .br z32 (
    .br (decide (0 ≤ x1) && decide (x1 < (z31.f16.length : Int))) (
     .opt (z31.f16[(Int.toNat x1)]?) fun y33 =>
      .leaf ({ z31 with f16 := (List.set z31.f16 (Int.toNat x1) { y33 with f2 := x2 }) })) (
     .fail)) (
    .leaf (z31))
def g13 (x0 : S7) (x1 : Int) (x2 : Bool) : Option (S7) := (g13T x0 x1 x2).get?
noncomputable def T13 : TL := []
noncomputable def q13 : Ab.Spec := frzR [[none, none, none, none, none, none, none, none, none, none, none, none, none, none, none, none, some 1]] (runQ0 e13 (lookT T13) Go.Proofs.Try.f13)
theorem q13_ok : SpecOk Go.Proofs.Try.prog 13 q13 := (runQ0_ok (runR_ok (e := e13) follows (allTI ti_ok _ _ _ _) (callsOk_cons s17_ok (callsOk_cons s35_ok (callsOk_nil))) Go.Proofs.Try.func13 Go.Proofs.Try.call13) (fun c hc => by
  have hb : c = Go.Proofs.Try.f13.body.getD .skip := by rw [hc]; rfl
  subst hb
  exact tab_nil)).froze [[none, none, none, none, none, none, none, none, none, none, none, none, none, none, none, none, some 1]]
theorem g13_run (x0 : S7) (x1 : Int) (x2 : Bool) : (q13 [.agg (Cod.enc 7 x0), .c (.int .i64 x1), .c (.bool x2)] []).eval = (g13T x0 x1 x2).ev fun r => ((.agg (Cod.enc 7 r) : AV), ([] : List Blk)) := by kernel_rfl
noncomputable def s13_0 : Ab.Spec := fun args h =>
  dN h <| dL args fun v0 a0 => dG v0 fun l0 => dE 7 l0 fun x0 => dL a0 fun v1 a1 => dC v1 fun c0 => dI .i64 c0 fun x1 => dL a1 fun v2 a2 => dC v2 fun c1 => dB c1 fun x2 => dN a2 <|
  .opt (g13 x0 x1 x2) fun r => .val (.agg (Cod.enc 7 r), [])
theorem s13_0_ok : SpecOk Go.Proofs.Try.prog 13 s13_0 :=
  q13_ok.less fun args hs r h => by
    unfold s13_0 at h
    obtain ⟨rfl, hh1⟩ := dN_inv h
    obtain ⟨v0, a0, rfl, hh2⟩ := dL_inv hh1
    obtain ⟨l0, rfl, hh3⟩ := dG_inv hh2
    obtain ⟨x0, rfl, hh4⟩ := dE_inv hh3
    obtain ⟨v1, a1, rfl, hh5⟩ := dL_inv hh4
    obtain ⟨c0, rfl, hh6⟩ := dC_inv hh5
    obtain ⟨x1, rfl, hh7⟩ := dI_inv hh6
    obtain ⟨v2, a2, rfl, hh8⟩ := dL_inv hh7
    obtain ⟨c1, rfl, hh9⟩ := dC_inv hh8
    obtain ⟨x2, rfl, hh10⟩ := dB_inv hh9
    obtain ⟨rfl, hh11⟩ := dN_inv hh10
    rw [g13_run, Tr.ev_get?]
    change (Res.opt (g13 x0 x1 x2) _).eval = some r at hh11
    rw [eval_opt] at hh11
    obtain ⟨z, hz, hh12⟩ := Option.bind_eq_some_iff.mp hh11
    unfold g13 at hz
    rw [hz]; exact hh12
noncomputable def s13 : Ab.Spec := fun args h => s13_0 (coeA [[none, none, none, none, none, none, none, none, none, none, none, none, none, none, none, none, some 1], [], []] args) h
theorem s13_ok : SpecOk Go.Proofs.Try.prog 13 s13 := s13_0_ok.pre [[none, none, none, none, none, none, none, none, none, none, none, none, none, none, none, none, some 1], [], []]
/-- pontage/rvar.Tick -/
noncomputable def L15 : SL := [(17, .byNew, s17)]
noncomputable def e15 : Env := ⟨ti, fun g => lookS g L15, 1000000, [.drop 0, .drop 5, .drop 7, .drop 8, .drop 9, .drop 10], []⟩
structure W15_2 where
  a0 : Int
  a1 : Nat
  a2 : Int
  a3 : Int
  a4 : Bool
  a5 : Int
  a6 : Int
  a7 : Nat
  a8 : Nat
  a9 : Nat
  a10 : Nat
  a11 : Nat
  a12 : Nat
  a13 : Nat
  a14 : Nat
  a15 : Nat
  a16 : Nat
  a17 : Nat
  a18 : Nat
  a19 : Nat
  a20 : Nat
  a21 : Nat
  a22 : Nat
  a23 : Nat
  a24 : Nat
  a25 : Nat
  a26 : Nat
  a27 : Nat
  a28 : Nat
  a29 : Nat
  a30 : Nat
  a31 : Nat
  a32 : Nat
  a33 : Nat
  a34 : Nat
  a35 : Nat
  a36 : Nat
  a37 : Nat
  a38 : Nat
  a39 : Nat
  a40 : Int
  a41 : Int
  a42 : Int
  a43 : Int
  a44 : Int
  a45 : Int
  a46 : Int
  a47 : Bool
  a48 : Int
  a49 : Int
  a50 : Int
  a51 : Int
  a52 : Int
  a53 : Int
  a54 : Int
  a55 : Int
  a56 : Int
  a57 : Int
  a58 : Int
  a59 : Int
  a60 : Int
  a61 : Int
  a62 : Int
  a63 : Bool
  a64 : Int
  a65 : Int
  a66 : Int
  a67 : Int
  a68 : Int
  a69 : Int
  a70 : Int
  a71 : Int
  a72 : Int
  a73 : List S1
def hd15_2 (v : W15_2) : St := ⟨[.top, .c (.ptr 0 0), .c (.ptr 1 0), .c (.int .i64 v.a0), .c (.ep 2 77 v.a1 0), .top, .top, .top, .top, .top, .top, .c (.int .i64 v.a2), .c (.int .i64 v.a3), .c (.bool v.a4), .c (.int .i64 v.a5), .c (.ptr 0 16), .c (.slw 2), .c (.int .i64 v.a6), .c (.ep 2 77 v.a7 0), .c (.ep 2 77 v.a8 0), .c (.ep 2 77 v.a9 0), .c (.ep 2 77 v.a10 65), .c (.ep 2 77 v.a11 0), .c (.ep 2 77 v.a12 0), .c (.ep 2 77 v.a13 66), .c (.ep 2 77 v.a14 0), .c (.ep 2 77 v.a15 0), .c (.ep 2 77 v.a16 67), .c (.ep 2 77 v.a17 0), .c (.ep 2 77 v.a18 0), .c (.ep 2 77 v.a19 68), .c (.ep 2 77 v.a20 0), .c (.ep 2 77 v.a21 0), .c (.ep 2 77 v.a22 69), .c (.ep 2 77 v.a23 0), .c (.ep 2 77 v.a24 0), .c (.ep 2 77 v.a25 70), .c (.ep 2 77 v.a26 0), .c (.ep 2 77 v.a27 0), .c (.ep 2 77 v.a28 71), .c (.ep 2 77 v.a29 0), .c (.ep 2 77 v.a30 0), .c (.ep 2 77 v.a31 64), .agg [.ep 2 77 v.a32 65, .ep 2 77 v.a33 66, .ep 2 77 v.a34 67, .ep 2 77 v.a35 68, .ep 2 77 v.a36 69, .ep 2 77 v.a37 70, .ep 2 77 v.a38 71, .ep 2 77 v.a39 64], .c (.int .i64 v.a40), .top, .top, .top, .top, .top, .top, .top, .top, .top, .top, .top, .top, .top, .top], [.cells [.int .u64 v.a41, .int .u8 v.a42, .int .u8 v.a43, .int .u8 v.a44, .int .u8 v.a45, .int .u8 v.a46, .bool v.a47, .int .u16 v.a48, .int .u64 v.a49, .int .u32 v.a50, .int .u64 v.a51, .int .u16 v.a52, .int .u8 v.a53, .int .u8 v.a54, .int .u8 v.a55, .int .u8 v.a56, .slw 2], .cells [.int .u64 v.a57, .int .u8 v.a58, .int .u8 v.a59, .int .u8 v.a60, .int .u8 v.a61, .int .u8 v.a62, .bool v.a63, .int .u16 v.a64, .int .u64 v.a65, .int .u32 v.a66, .int .u64 v.a67, .int .u16 v.a68, .int .u8 v.a69, .int .u8 v.a70, .int .u8 v.a71, .int .u8 v.a72, .nils], .row 1 v.a73]⟩
def gR15_2 (v : W15_2) : Tr (W15_2 ⊕ (Bool × W15_2)) :=
  .br (decide (v.a40 < 8)) (
   .br (decide (0 ≤ v.a40) && decide (v.a40 < 8)) (
    .br (v.a40 == 0) (
     .opt (v.a73[v.a32]?) fun y35 =>
      .br (y35.f65 == 0) (
       .leaf (.inl ({ v with a40 := (IntKind.i64.wrap (v.a40 + 1)) }))) (
       .opt (v.a73[v.a32]?) fun y36 =>
        .opt (v.a73[v.a32]?) fun y37 =>
         .leaf (.inl ({ v with a40 := (IntKind.i64.wrap (v.a40 + 1)), a73 := (List.set v.a73 v.a32 { y37 with f65 := (IntKind.u8.wrap (y36.f65 - 1)) }) })))) (
     .br (v.a40 == 1) (
      .opt (v.a73[v.a33]?) fun y38 =>
       .br (y38.f66 == 0) (
        .leaf (.inl ({ v with a40 := (IntKind.i64.wrap (v.a40 + 1)) }))) (
        .opt (v.a73[v.a33]?) fun y39 =>
         .opt (v.a73[v.a33]?) fun y40 =>
          .leaf (.inl ({ v with a40 := (IntKind.i64.wrap (v.a40 + 1)), a73 := (List.set v.a73 v.a33 { y40 with f66 := (IntKind.u8.wrap (y39.f66 - 1)) }) })))) (
      .br (v.a40 == 2) (
       .opt (v.a73[v.a34]?) fun y41 =>
        .br (y41.f67 == 0) (
         .leaf (.inl ({ v with a40 := (IntKind.i64.wrap (v.a40 + 1)) }))) (
         .opt (v.a73[v.a34]?) fun y42 =>
          .opt (v.a73[v.a34]?) fun y43 =>
           .leaf (.inl ({ v with a40 := (IntKind.i64.wrap (v.a40 + 1)), a73 := (List.set v.a73 v.a34 { y43 with f67 := (IntKind.u8.wrap (y42.f67 - 1)) }) })))) (
       .br (v.a40 == 3) (
        .opt (v.a73[v.a35]?) fun y44 =>
         .br (y44.f68 == 0) (
          .leaf (.inl ({ v with a40 := (IntKind.i64.wrap (v.a40 + 1)) }))) (
          .opt (v.a73[v.a35]?) fun y45 =>
           .opt (v.a73[v.a35]?) fun y46 =>
            .leaf (.inl ({ v with a40 := (IntKind.i64.wrap (v.a40 + 1)), a73 := (List.set v.a73 v.a35 { y46 with f68 := (IntKind.u8.wrap (y45.f68 - 1)) }) })))) (
        .br (v.a40 == 4) (
         .opt (v.a73[v.a36]?) fun y47 =>
          .br (y47.f69 == 0) (
           .leaf (.inl ({ v with a40 := (IntKind.i64.wrap (v.a40 + 1)) }))) (
           .opt (v.a73[v.a36]?) fun y48 =>
            .opt (v.a73[v.a36]?) fun y49 =>
             .leaf (.inl ({ v with a40 := (IntKind.i64.wrap (v.a40 + 1)), a73 := (List.set v.a73 v.a36 { y49 with f69 := (IntKind.u8.wrap (y48.f69 - 1)) }) })))) (
         .br (v.a40 == 5) (
          .opt (v.a73[v.a37]?) fun y50 =>
           .br (y50.f70 == 0) (
            .leaf (.inl ({ v with a40 := (IntKind.i64.wrap (v.a40 + 1)) }))) (
            .opt (v.a73[v.a37]?) fun y51 =>
             .opt (v.a73[v.a37]?) fun y52 =>
              .leaf (.inl ({ v with a40 := (IntKind.i64.wrap (v.a40 + 1)), a73 := (List.set v.a73 v.a37 { y52 with f70 := (IntKind.u8.wrap (y51.f70 - 1)) }) })))) (
          .br (v.a40 == 6) (
           .opt (v.a73[v.a38]?) fun y53 =>
            .br (y53.f71 == 0) (
             .leaf (.inl ({ v with a40 := (IntKind.i64.wrap (v.a40 + 1)) }))) (
             .opt (v.a73[v.a38]?) fun y54 =>
              .opt (v.a73[v.a38]?) fun y55 =>
               .leaf (.inl ({ v with a40 := (IntKind.i64.wrap (v.a40 + 1)), a73 := (List.set v.a73 v.a38 { y55 with f71 := (IntKind.u8.wrap (y54.f71 - 1)) }) })))) (
           .br (v.a40 == 7) (
            .opt (v.a73[v.a39]?) fun y56 =>
             .br (y56.f64 == 0) (
              .leaf (.inl ({ v with a40 := (IntKind.i64.wrap (v.a40 + 1)) }))) (
              .opt (v.a73[v.a39]?) fun y57 =>
               .opt (v.a73[v.a39]?) fun y58 =>
                .leaf (.inl ({ v with a40 := (IntKind.i64.wrap (v.a40 + 1)), a73 := (List.set v.a73 v.a39 { y58 with f64 := (IntKind.u8.wrap (y57.f64 - 1)) }) })))) (
            .fail))))))))) (
    .fail)) (
   .leaf (.inr (false, v)))
noncomputable def lb15_2 : Code := match findB 2 (Go.Proofs.Try.f15.body.getD .skip) with | [.loop b] => b | _ => .skip
def pa15_2 : List PA := [.any, .c (.ptr 0 0), .c (.ptr 1 0), .c (.int .i64), .c (.ep 2 77 0), .any, .top, .any, .any, .any, .any, .c (.int .i64), .c (.int .i64), .c (.bool), .c (.int .i64), .c (.ptr 0 16), .c (.slw 2), .c (.int .i64), .c (.ep 2 77 0), .c (.ep 2 77 0), .c (.ep 2 77 0), .c (.ep 2 77 65), .c (.ep 2 77 0), .c (.ep 2 77 0), .c (.ep 2 77 66), .c (.ep 2 77 0), .c (.ep 2 77 0), .c (.ep 2 77 67), .c (.ep 2 77 0), .c (.ep 2 77 0), .c (.ep 2 77 68), .c (.ep 2 77 0), .c (.ep 2 77 0), .c (.ep 2 77 69), .c (.ep 2 77 0), .c (.ep 2 77 0), .c (.ep 2 77 70), .c (.ep 2 77 0), .c (.ep 2 77 0), .c (.ep 2 77 71), .c (.ep 2 77 0), .c (.ep 2 77 0), .c (.ep 2 77 64), .agg [.ep 2 77 65, .ep 2 77 66, .ep 2 77 67, .ep 2 77 68, .ep 2 77 69, .ep 2 77 70, .ep 2 77 71, .ep 2 77 64], .c (.int .i64), .top, .top, .top, .top, .top, .top, .top, .top, .top, .top, .top, .top, .top, .top]
def pb15_2 : List PB := [.cells [.int .u64, .int .u8, .int .u8, .int .u8, .int .u8, .int .u8, .bool, .int .u16, .int .u64, .int .u32, .int .u64, .int .u16, .int .u8, .int .u8, .int .u8, .int .u8, .slw 2], .cells [.int .u64, .int .u8, .int .u8, .int .u8, .int .u8, .int .u8, .bool, .int .u16, .int .u64, .int .u32, .int .u64, .int .u16, .int .u8, .int .u8, .int .u8, .int .u8, .nils], .row 1]
def ini15_2 (s : St) : W15_2 := ⟨iC (aC (s.tmps.getD 3 .top)), eC (aC (s.tmps.getD 4 .top)), iC (aC (s.tmps.getD 11 .top)), iC (aC (s.tmps.getD 12 .top)), bC (aC (s.tmps.getD 13 .top)), iC (aC (s.tmps.getD 14 .top)), iC (aC (s.tmps.getD 17 .top)), eC (aC (s.tmps.getD 18 .top)), eC (aC (s.tmps.getD 19 .top)), eC (aC (s.tmps.getD 20 .top)), eC (aC (s.tmps.getD 21 .top)), eC (aC (s.tmps.getD 22 .top)), eC (aC (s.tmps.getD 23 .top)), eC (aC (s.tmps.getD 24 .top)), eC (aC (s.tmps.getD 25 .top)), eC (aC (s.tmps.getD 26 .top)), eC (aC (s.tmps.getD 27 .top)), eC (aC (s.tmps.getD 28 .top)), eC (aC (s.tmps.getD 29 .top)), eC (aC (s.tmps.getD 30 .top)), eC (aC (s.tmps.getD 31 .top)), eC (aC (s.tmps.getD 32 .top)), eC (aC (s.tmps.getD 33 .top)), eC (aC (s.tmps.getD 34 .top)), eC (aC (s.tmps.getD 35 .top)), eC (aC (s.tmps.getD 36 .top)), eC (aC (s.tmps.getD 37 .top)), eC (aC (s.tmps.getD 38 .top)), eC (aC (s.tmps.getD 39 .top)), eC (aC (s.tmps.getD 40 .top)), eC (aC (s.tmps.getD 41 .top)), eC (aC (s.tmps.getD 42 .top)), eC ((aL (s.tmps.getD 43 .top)).getD 0 .top), eC ((aL (s.tmps.getD 43 .top)).getD 1 .top), eC ((aL (s.tmps.getD 43 .top)).getD 2 .top), eC ((aL (s.tmps.getD 43 .top)).getD 3 .top), eC ((aL (s.tmps.getD 43 .top)).getD 4 .top), eC ((aL (s.tmps.getD 43 .top)).getD 5 .top), eC ((aL (s.tmps.getD 43 .top)).getD 6 .top), eC ((aL (s.tmps.getD 43 .top)).getD 7 .top), iC (aC (s.tmps.getD 44 .top)), iC ((bL (s.heap.getD 0 .dead)).getD 0 .top), iC ((bL (s.heap.getD 0 .dead)).getD 1 .top), iC ((bL (s.heap.getD 0 .dead)).getD 2 .top), iC ((bL (s.heap.getD 0 .dead)).getD 3 .top), iC ((bL (s.heap.getD 0 .dead)).getD 4 .top), iC ((bL (s.heap.getD 0 .dead)).getD 5 .top), bC ((bL (s.heap.getD 0 .dead)).getD 6 .top), iC ((bL (s.heap.getD 0 .dead)).getD 7 .top), iC ((bL (s.heap.getD 0 .dead)).getD 8 .top), iC ((bL (s.heap.getD 0 .dead)).getD 9 .top), iC ((bL (s.heap.getD 0 .dead)).getD 10 .top), iC ((bL (s.heap.getD 0 .dead)).getD 11 .top), iC ((bL (s.heap.getD 0 .dead)).getD 12 .top), iC ((bL (s.heap.getD 0 .dead)).getD 13 .top), iC ((bL (s.heap.getD 0 .dead)).getD 14 .top), iC ((bL (s.heap.getD 0 .dead)).getD 15 .top), iC ((bL (s.heap.getD 1 .dead)).getD 0 .top), iC ((bL (s.heap.getD 1 .dead)).getD 1 .top), iC ((bL (s.heap.getD 1 .dead)).getD 2 .top), iC ((bL (s.heap.getD 1 .dead)).getD 3 .top), iC ((bL (s.heap.getD 1 .dead)).getD 4 .top), iC ((bL (s.heap.getD 1 .dead)).getD 5 .top), bC ((bL (s.heap.getD 1 .dead)).getD 6 .top), iC ((bL (s.heap.getD 1 .dead)).getD 7 .top), iC ((bL (s.heap.getD 1 .dead)).getD 8 .top), iC ((bL (s.heap.getD 1 .dead)).getD 9 .top), iC ((bL (s.heap.getD 1 .dead)).getD 10 .top), iC ((bL (s.heap.getD 1 .dead)).getD 11 .top), iC ((bL (s.heap.getD 1 .dead)).getD 12 .top), iC ((bL (s.heap.getD 1 .dead)).getD 13 .top), iC ((bL (s.heap.getD 1 .dead)).getD 14 .top), iC ((bL (s.heap.getD 1 .dead)).getD 15 .top), bR 1 (s.heap.getD 2 .dead)⟩
noncomputable def F15_2 : St → Res (Ex × St) := loopF pa15_2 pb15_2 1000000 hd15_2 gR15_2 ini15_2 false
theorem F15_2_ok (s : St) (r : Ex × St) (h : (F15_2 s).eval = some r) : (codeR e15 0 (.block 2 (.loop lb15_2)) s).eval = some r :=
  blk_ok (e := e15) (T := lookT []) (fun s v => by kernel_rfl) (fun s => by kernel_rfl) (tab_nil) s r h
structure W15_0 where
  a0 : Int
  a1 : Int
  a2 : Int
  a3 : Int
  a4 : Int
  a5 : Int
  a6 : Int
  a7 : Int
  a8 : Bool
  a9 : Int
  a10 : Int
  a11 : Int
  a12 : Int
  a13 : Int
  a14 : Int
  a15 : Int
  a16 : Int
  a17 : Int
  a18 : Int
  a19 : Int
  a20 : Int
  a21 : Int
  a22 : Int
  a23 : Int
  a24 : Bool
  a25 : Int
  a26 : Int
  a27 : Int
  a28 : Int
  a29 : Int
  a30 : Int
  a31 : Int
  a32 : Int
  a33 : Int
  a34 : List S1
def hd15_0 (v : W15_0) : St := ⟨[.top, .c (.ptr 0 0), .c (.ptr 1 0), .top, .top, .top, .top, .top, .top, .top, .top, .c (.int .i64 v.a0), .c (.int .i64 v.a1), .top, .top, .top, .top, .top, .top, .top, .top, .top, .top, .top, .top, .top, .top, .top, .top, .top, .top, .top, .top, .top, .top, .top, .top, .top, .top, .top, .top, .top, .top, .top, .top, .top, .top, .top, .top, .top, .top, .top, .top, .top, .top, .top, .top, .top, .top], [.cells [.int .u64 v.a2, .int .u8 v.a3, .int .u8 v.a4, .int .u8 v.a5, .int .u8 v.a6, .int .u8 v.a7, .bool v.a8, .int .u16 v.a9, .int .u64 v.a10, .int .u32 v.a11, .int .u64 v.a12, .int .u16 v.a13, .int .u8 v.a14, .int .u8 v.a15, .int .u8 v.a16, .int .u8 v.a17, .slw 2], .cells [.int .u64 v.a18, .int .u8 v.a19, .int .u8 v.a20, .int .u8 v.a21, .int .u8 v.a22, .int .u8 v.a23, .bool v.a24, .int .u16 v.a25, .int .u64 v.a26, .int .u32 v.a27, .int .u64 v.a28, .int .u16 v.a29, .int .u8 v.a30, .int .u8 v.a31, .int .u8 v.a32, .int .u8 v.a33, .nils], .row 1 v.a34]⟩
def gR15_0 (v : W15_0) : Tr (W15_0 ⊕ (Bool × W15_0)) :=
  .br (decide (v.a1 < v.a0)) (
   .br (decide (0 ≤ v.a1) && decide (v.a1 < (v.a34.length : Int))) (
    .opt (iter gR15_2 1000000 (W15_2.mk (v.a1) ((Int.toNat v.a1)) (v.a0) (v.a1) (true) (v.a1) (v.a1) ((Int.toNat v.a1)) ((Int.toNat v.a1)) ((Int.toNat v.a1)) ((Int.toNat v.a1)) ((Int.toNat v.a1)) ((Int.toNat v.a1)) ((Int.toNat v.a1)) ((Int.toNat v.a1)) ((Int.toNat v.a1)) ((Int.toNat v.a1)) ((Int.toNat v.a1)) ((Int.toNat v.a1)) ((Int.toNat v.a1)) ((Int.toNat v.a1)) ((Int.toNat v.a1)) ((Int.toNat v.a1)) ((Int.toNat v.a1)) ((Int.toNat v.a1)) ((Int.toNat v.a1)) ((Int.toNat v.a1)) ((Int.toNat v.a1)) ((Int.toNat v.a1)) ((Int.toNat v.a1)) ((Int.toNat v.a1)) ((Int.toNat v.a1)) ((Int.toNat v.a1)) ((Int.toNat v.a1)) ((Int.toNat v.a1)) ((Int.toNat v.a1)) ((Int.toNat v.a1)) ((Int.toNat v.a1)) ((Int.toNat v.a1)) ((Int.toNat v.a1)) (0) (v.a2) (v.a3) (v.a4) (v.a5) (v.a6) (v.a7) (v.a8) (v.a9) (v.a10) (v.a11) (v.a12) (v.a13) (v.a14) (v.a15) (v.a16) (v.a17) (v.a18) (v.a19) (v.a20) (v.a21) (v.a22) (v.a23) (v.a24) (v.a25) (v.a26) (v.a27) (v.a28) (v.a29) (v.a30) (v.a31) (v.a32) (v.a33) (v.a34))) fun r59 =>
     .br r59.1 (
      .fail) (
      .leaf (.inl (W15_0.mk (r59.2.a2) ((IntKind.i64.wrap (r59.2.a3 + 1))) (r59.2.a41) (r59.2.a42) (r59.2.a43) (r59.2.a44) (r59.2.a45) (r59.2.a46) (r59.2.a47) (r59.2.a48) (r59.2.a49) (r59.2.a50) (r59.2.a51) (r59.2.a52) (r59.2.a53) (r59.2.a54) (r59.2.a55) (r59.2.a56) (r59.2.a57) (r59.2.a58) (r59.2.a59) (r59.2.a60) (r59.2.a61) (r59.2.a62) (r59.2.a63) (r59.2.a64) (r59.2.a65) (r59.2.a66) (r59.2.a67) (r59.2.a68) (r59.2.a69) (r59.2.a70) (r59.2.a71) (r59.2.a72) (r59.2.a73))))) (
    .fail)) (
   .leaf (.inr (false, v)))
noncomputable def lb15_0 : Code := match findB 0 (Go.Proofs.Try.f15.body.getD .skip) with | [.loop b] => b | _ => .skip
def pa15_0 : List PA := [.any, .c (.ptr 0 0), .c (.ptr 1 0), .top, .top, .any, .top, .any, .any, .any, .any, .c (.int .i64), .c (.int .i64), .top, .top, .top, .top, .top, .top, .top, .top, .top, .top, .top, .top, .top, .top, .top, .top, .top, .top, .top, .top, .top, .top, .top, .top, .top, .top, .top, .top, .top, .top, .top, .top, .top, .top, .top, .top, .top, .top, .top, .top, .top, .top, .top, .top, .top, .top]
def pb15_0 : List PB := [.cells [.int .u64, .int .u8, .int .u8, .int .u8, .int .u8, .int .u8, .bool, .int .u16, .int .u64, .int .u32, .int .u64, .int .u16, .int .u8, .int .u8, .int .u8, .int .u8, .slw 2], .cells [.int .u64, .int .u8, .int .u8, .int .u8, .int .u8, .int .u8, .bool, .int .u16, .int .u64, .int .u32, .int .u64, .int .u16, .int .u8, .int .u8, .int .u8, .int .u8, .nils], .row 1]
def ini15_0 (s : St) : W15_0 := ⟨iC (aC (s.tmps.getD 11 .top)), iC (aC (s.tmps.getD 12 .top)), iC ((bL (s.heap.getD 0 .dead)).getD 0 .top), iC ((bL (s.heap.getD 0 .dead)).getD 1 .top), iC ((bL (s.heap.getD 0 .dead)).getD 2 .top), iC ((bL (s.heap.getD 0 .dead)).getD 3 .top), iC ((bL (s.heap.getD 0 .dead)).getD 4 .top), iC ((bL (s.heap.getD 0 .dead)).getD 5 .top), bC ((bL (s.heap.getD 0 .dead)).getD 6 .top), iC ((bL (s.heap.getD 0 .dead)).getD 7 .top), iC ((bL (s.heap.getD 0 .dead)).getD 8 .top), iC ((bL (s.heap.getD 0 .dead)).getD 9 .top), iC ((bL (s.heap.getD 0 .dead)).getD 10 .top), iC ((bL (s.heap.getD 0 .dead)).getD 11 .top), iC ((bL (s.heap.getD 0 .dead)).getD 12 .top), iC ((bL (s.heap.getD 0 .dead)).getD 13 .top), iC ((bL (s.heap.getD 0 .dead)).getD 14 .top), iC ((bL (s.heap.getD 0 .dead)).getD 15 .top), iC ((bL (s.heap.getD 1 .dead)).getD 0 .top), iC ((bL (s.heap.getD 1 .dead)).getD 1 .top), iC ((bL (s.heap.getD 1 .dead)).getD 2 .top), iC ((bL (s.heap.getD 1 .dead)).getD 3 .top), iC ((bL (s.heap.getD 1 .dead)).getD 4 .top), iC ((bL (s.heap.getD 1 .dead)).getD 5 .top), bC ((bL (s.heap.getD 1 .dead)).getD 6 .top), iC ((bL (s.heap.getD 1 .dead)).getD 7 .top), iC ((bL (s.heap.getD 1 .dead)).getD 8 .top), iC ((bL (s.heap.getD 1 .dead)).getD 9 .top), iC ((bL (s.heap.getD 1 .dead)).getD 10 .top), iC ((bL (s.heap.getD 1 .dead)).getD 11 .top), iC ((bL (s.heap.getD 1 .dead)).getD 12 .top), iC ((bL (s.heap.getD 1 .dead)).getD 13 .top), iC ((bL (s.heap.getD 1 .dead)).getD 14 .top), iC ((bL (s.heap.getD 1 .dead)).getD 15 .top), bR 1 (s.heap.getD 2 .dead)⟩
noncomputable def F15_0 : St → Res (Ex × St) := loopF pa15_0 pb15_0 1000000 hd15_0 gR15_0 ini15_0 false
theorem F15_0_ok (s : St) (r : Ex × St) (h : (F15_0 s).eval = some r) : (codeR e15 0 (.block 0 (.loop lb15_0)) s).eval = some r :=
  blk_ok (e := e15) (T := lookT [(2, F15_2)]) (fun s v => by kernel_rfl) (fun s => by kernel_rfl) (tab_cons (by kernel_rfl) F15_2_ok (tab_nil)) s r h
def g15T (x0 : S7) : Tr (S7) :=
  .opt (g17 x0) fun z34 =>
   .opt (iter gR15_0 1000000 (W15_0.mk ((z34.f16.length : Int)) (0) (z34.f0) (z34.f1) (z34.f2) (z34.f3) (z34.f4) (z34.f5) (z34.f6) (z34.f7) (z34.f8) (z34.f9) (z34.f10) (z34.f11) (z34.f12) (z34.f13) (z34.f14) (z34.f15) (0) (0) (0) (0) (0) (0) (false) (0) (0) (0) (0) (0) (0) (0) (0) (0) (z34.f16))) fun r60 =>
    .br r60.1 (
     .fail) (
     .leaf ((S7.mk r60.2.a2 r60.2.a3 r60.2.a4 r60.2.a5 r60.2.a6 r60.2.a7 r60.2.a8 r60.2.a9 r60.2.a10 r60.2.a11 r60.2.a12 r60.2.a13 r60.2.a14 r60.2.a15 r60.2.a16 r60.2.a17 r60.2.a34)))
def g15 (x0 : S7) : Option (S7) := (g15T x0).get?
noncomputable def T15 : TL := [(2, F15_2), (0, F15_0)]
noncomputable def q15 : Ab.Spec := frzR [[none, none, none, none, none, none, none, none, none, none, none, none, none, none, none, none, some 1]] (runQ0 e15 (lookT T15) Go.Proofs.Try.f15)
theorem q15_ok : SpecOk Go.Proofs.Try.prog 15 q15 := (runQ0_ok (runR_ok (e := e15) follows (allTI ti_ok _ _ _ _) (callsOk_cons s17_ok (callsOk_nil)) Go.Proofs.Try.func15 Go.Proofs.Try.call15) (fun c hc => by
  have hb : c = Go.Proofs.Try.f15.body.getD .skip := by rw [hc]; rfl
  subst hb
  exact tab_cons (by kernel_rfl) F15_2_ok (tab_cons (by kernel_rfl) F15_0_ok (tab_nil)))).froze [[none, none, none, none, none, none, none, none, none, none, none, none, none, none, none, none, some 1]]
theorem g15_run (x0 : S7) : (q15 [.agg (Cod.enc 7 x0)] []).eval = (g15T x0).ev fun r => ((.agg (Cod.enc 7 r) : AV), ([] : List Blk)) := by kernel_rfl
noncomputable def s15_0 : Ab.Spec := fun args h =>
  dN h <| dL args fun v0 a0 => dG v0 fun l0 => dE 7 l0 fun x0 => dN a0 <|
  .opt (g15 x0) fun r => .val (.agg (Cod.enc 7 r), [])
theorem s15_0_ok : SpecOk Go.Proofs.Try.prog 15 s15_0 :=
  q15_ok.less fun args hs r h => by
    unfold s15_0 at h
    obtain ⟨rfl, hh1⟩ := dN_inv h
    obtain ⟨v0, a0, rfl, hh2⟩ := dL_inv hh1
    obtain ⟨l0, rfl, hh3⟩ := dG_inv hh2
    obtain ⟨x0, rfl, hh4⟩ := dE_inv hh3
    obtain ⟨rfl, hh5⟩ := dN_inv hh4
    rw [g15_run, Tr.ev_get?]
    change (Res.opt (g15 x0) _).eval = some r at hh5
    rw [eval_opt] at hh5
    obtain ⟨z, hz, hh6⟩ := Option.bind_eq_some_iff.mp hh5
    unfold g15 at hz
    rw [hz]; exact hh6
noncomputable def s15 : Ab.Spec := fun args h => s15_0 (coeA [[none, none, none, none, none, none, none, none, none, none, none, none, none, none, none, none, some 1]] args) h
theorem s15_ok : SpecOk Go.Proofs.Try.prog 15 s15 := s15_0_ok.pre [[none, none, none, none, none, none, none, none, none, none, none, none, none, none, none, none, some 1]]
/-- pontage/rvar.AllSynced -/
noncomputable def L24 : SL := []
noncomputable def e24 : Env := ⟨ti, fun g => lookS g L24, 1000000, [.drop 0, .drop 2, .drop 3, .drop 7], []⟩
structure W24_0 where
  a0 : Int
  a1 : Bool
  a2 : List S1
  a3 : Int
  a4 : Int
def hd24_0 (v : W24_0) : St := ⟨[.top, .c (.int .i64 v.a0), .top, .top, .c (.bool v.a1), .top, .top, .top, .c (.rs 1 v.a2), .c (.int .i64 v.a3), .c (.int .i64 v.a4), .top, .top, .top, .top, .top, .top, .top, .top, .top, .top, .top, .top, .top, .top, .top, .top, .top, .top, .top, .top, .top, .top, .top, .top, .top, .top, .top, .top, .top, .top, .top, .top], []⟩
def gR24_0 (v : W24_0) : Tr (W24_0 ⊕ (Bool × W24_0)) :=
  .br (decide (v.a4 < v.a3)) (
   .br (decide (0 ≤ v.a4)) (
    .opt (v.a2[Int.toNat v.a4]?) fun y61 =>
     .br (bif (bif (!y61.f22) then true else y61.f28) then true else (y61.f30 != y61.f31)) (
      .leaf (.inr (true, { v with a1 := false }))) (
      .br (bif (bif (v.a4 != v.a0) then (!y61.f25) else false) then (y61.f30 != 3) else false) (
       .leaf (.inr (true, { v with a1 := false }))) (
       .leaf (.inl ({ v with a4 := (IntKind.i64.wrap (v.a4 + 1)) }))))) (
    .fail)) (
   .leaf (.inr (false, v)))
noncomputable def lb24_0 : Code := match findB 0 (Go.Proofs.Try.f24.body.getD .skip) with | [.loop b] => b | _ => .skip
def pa24_0 : List PA := [.any, .c (.int .i64), .any, .any, .c (.bool), .top, .top, .any, .c (.rs 1), .c (.int .i64), .c (.int .i64), .top, .top, .top, .top, .top, .top, .top, .top, .top, .top, .top, .top, .top, .top, .top, .top, .top, .top, .top, .top, .top, .top, .top, .top, .top, .top, .top, .top, .top, .top, .top, .top]
def pb24_0 : List PB := [.cells [.int .u64, .int .u8, .int .u8, .int .u8, .int .u8, .int .u8, .bool, .int .u16, .int .u64, .int .u32, .int .u64, .int .u16, .int .u8, .int .u8, .int .u8, .int .u8, .rs 1]]
def ini24_0 (s : St) : W24_0 := ⟨iC (aC (s.tmps.getD 1 .top)), bC (aC (s.tmps.getD 4 .top)), rC 1 (aC (s.tmps.getD 8 .top)), iC (aC (s.tmps.getD 9 .top)), iC (aC (s.tmps.getD 10 .top))⟩
noncomputable def F24_0 : St → Res (Ex × St) := loopF pa24_0 pb24_0 1000000 hd24_0 gR24_0 ini24_0 true
theorem F24_0_ok (s : St) (r : Ex × St) (h : (F24_0 s).eval = some r) : (codeR e24 0 (.block 0 (.loop lb24_0)) s).eval = some r :=
  blk_ok (e := e24) (T := lookT []) (fun s v => by kernel_rfl) (fun s => by kernel_rfl) (tab_nil) s r h
def g24T (x0 : S7) (x1 : Int) : Tr (Bool) :=
  .opt (iter gR24_0 1000000 (W24_0.mk (x1) (false) (x0.f16) ((x0.f16.length : Int)) (0))) fun r62 =>
   .br r62.1 (
    .leaf (r62.2.a1)) (
    .leaf (true))
def g24 (x0 : S7) (x1 : Int) : Option (Bool) := (g24T x0 x1).get?
noncomputable def T24 : TL := [(0, F24_0)]
noncomputable def q24 : Ab.Spec := runQ0 e24 (lookT T24) Go.Proofs.Try.f24
theorem q24_ok : SpecOk Go.Proofs.Try.prog 24 q24 := (runQ0_ok (runR_ok (e := e24) follows (allTI ti_ok _ _ _ _) (callsOk_nil) Go.Proofs.Try.func24 Go.Proofs.Try.call24) (fun c hc => by
  have hb : c = Go.Proofs.Try.f24.body.getD .skip := by rw [hc]; rfl
  subst hb
  exact tab_cons (by kernel_rfl) F24_0_ok (tab_nil)))
theorem g24_run (x0 : S7) (x1 : Int) : (q24 [.agg (Cod.enc 7 x0), .c (.int .i64 x1)] []).eval = (g24T x0 x1).ev fun r => ((.c (.bool r) : AV), ([] : List Blk)) := by kernel_rfl
noncomputable def s24_0 : Ab.Spec := fun args h =>
  dN h <| dL args fun v0 a0 => dG v0 fun l0 => dE 7 l0 fun x0 => dL a0 fun v1 a1 => dC v1 fun c0 => dI .i64 c0 fun x1 => dN a1 <|
  .opt (g24 x0 x1) fun r => .val (.c (.bool r), [])
theorem s24_0_ok : SpecOk Go.Proofs.Try.prog 24 s24_0 :=
  q24_ok.less fun args hs r h => by
    unfold s24_0 at h
    obtain ⟨rfl, hh1⟩ := dN_inv h
    obtain ⟨v0, a0, rfl, hh2⟩ := dL_inv hh1
    obtain ⟨l0, rfl, hh3⟩ := dG_inv hh2
    obtain ⟨x0, rfl, hh4⟩ := dE_inv hh3
    obtain ⟨v1, a1, rfl, hh5⟩ := dL_inv hh4
    obtain ⟨c0, rfl, hh6⟩ := dC_inv hh5
    obtain ⟨x1, rfl, hh7⟩ := dI_inv hh6
    obtain ⟨rfl, hh8⟩ := dN_inv hh7
    rw [g24_run, Tr.ev_get?]
    change (Res.opt (g24 x0 x1) _).eval = some r at hh8
    rw [eval_opt] at hh8
    obtain ⟨z, hz, hh9⟩ := Option.bind_eq_some_iff.mp hh8
    unfold g24 at hz
    rw [hz]; exact hh9
noncomputable def s24 : Ab.Spec := fun args h => s24_0 (coeA [[none, none, none, none, none, none, none, none, none, none, none, none, none, none, none, none, some 1], []] args) h
theorem s24_ok : SpecOk Go.Proofs.Try.prog 24 s24 := s24_0_ok.pre [[none, none, none, none, none, none, none, none, none, none, none, none, none, none, none, none, some 1], []]
/-- slices.Equal[[]pontage/api.Port,pontage/api.Port] -/
noncomputable def L40 : SL := []
noncomputable def e40 : Env := ⟨ti, fun g => lookS g L40, 1000000, [.drop 2, .drop 3, .drop 6, .drop 7, .drop 8, .drop 9, .drop 10, .drop 11], []⟩
structure W40_0 where
  a0 : List S1
  a1 : List S1
  a2 : Bool
  a3 : Int
  a4 : Int
def hd40_0 (v : W40_0) : St := ⟨[.c (.rs 1 v.a0), .c (.rs 1 v.a1), .top, .top, .c (.bool v.a2), .top, .top, .top, .top, .top, .top, .top, .c (.int .i64 v.a3), .c (.int .i64 v.a4), .top, .top, .top, .top, .top, .top, .top, .top, .top, .top, .top, .top], []⟩
def gR40_0 (v : W40_0) : Tr (W40_0 ⊕ (Bool × W40_0)) :=
  .br (decide (v.a4 < v.a3)) (
   .br (decide (0 ≤ v.a4)) (
    .opt (v.a0[Int.toNat v.a4]?) fun y63 =>
     .br (decide (0 ≤ v.a4)) (
      .opt (v.a1[Int.toNat v.a4]?) fun y64 =>
       .br (!(eqS1 y63 y64)) (
        .leaf (.inr (true, { v with a2 := false }))) (
        .leaf (.inl ({ v with a4 := (IntKind.i64.wrap (v.a4 + 1)) })))) (
      .fail)) (
    .fail)) (
   .leaf (.inr (false, v)))
noncomputable def lb40_0 : Code := match findB 0 (Go.Proofs.Try.f40.body.getD .skip) with | [.loop b] => b | _ => .skip
def pa40_0 : List PA := [.c (.rs 1), .c (.rs 1), .any, .any, .c (.bool), .top, .any, .any, .any, .any, .any, .any, .c (.int .i64), .c (.int .i64), .top, .top, .top, .top, .top, .top, .top, .top, .top, .top, .top, .top]
def pb40_0 : List PB := []
def ini40_0 (s : St) : W40_0 := ⟨rC 1 (aC (s.tmps.getD 0 .top)), rC 1 (aC (s.tmps.getD 1 .top)), bC (aC (s.tmps.getD 4 .top)), iC (aC (s.tmps.getD 12 .top)), iC (aC (s.tmps.getD 13 .top))⟩
noncomputable def F40_0 : St → Res (Ex × St) := loopF pa40_0 pb40_0 1000000 hd40_0 gR40_0 ini40_0 true
theorem F40_0_ok (s : St) (r : Ex × St) (h : (F40_0 s).eval = some r) : (codeR e40 0 (.block 0 (.loop lb40_0)) s).eval = some r :=
  blk_ok (e := e40) (T := lookT []) (fun s v => by kernel_rfl) (fun s => by kernel_rfl) (tab_nil) s r h
def g40T (x0 : List S1) (x1 : List S1) : Tr (Bool) :=
  .br ((x0.length : Int) != (x1.length : Int)) (
   .leaf (false)) (
   .opt (iter gR40_0 1000000 (W40_0.mk (x0) (x1) (false) ((x0.length : Int)) (0))) fun r65 =>
    .br r65.1 (
     .leaf (r65.2.a2)) (
     .leaf (true)))
def g40 (x0 : List S1) (x1 : List S1) : Option (Bool) := (g40T x0 x1).get?
noncomputable def T40 : TL := [(0, F40_0)]
noncomputable def q40 : Ab.Spec := runQ0 e40 (lookT T40) Go.Proofs.Try.f40
theorem q40_ok : SpecOk Go.Proofs.Try.prog 40 q40 := (runQ0_ok (runR_ok (e := e40) follows (allTI ti_ok _ _ _ _) (callsOk_nil) Go.Proofs.Try.func40 Go.Proofs.Try.call40) (fun c hc => by
  have hb : c = Go.Proofs.Try.f40.body.getD .skip := by rw [hc]; rfl
  subst hb
  exact tab_cons (by kernel_rfl) F40_0_ok (tab_nil)))
theorem g40_run (x0 : List S1) (x1 : List S1) : (q40 [.c (.rs 1 x0), .c (.rs 1 x1)] []).eval = (g40T x0 x1).ev fun r => ((.c (.bool r) : AV), ([] : List Blk)) := by kernel_rfl
noncomputable def s40_0 : Ab.Spec := fun args h =>
  dN h <| dL args fun v0 a0 => dC v0 fun c0 => dR0 1 c0 fun x0 => dL a0 fun v1 a1 => dC v1 fun c1 => dR0 1 c1 fun x1 => dN a1 <|
  .opt (g40 x0 x1) fun r => .val (.c (.bool r), [])
theorem s40_0_ok : SpecOk Go.Proofs.Try.prog 40 s40_0 :=
  q40_ok.less fun args hs r h => by
    unfold s40_0 at h
    obtain ⟨rfl, hh1⟩ := dN_inv h
    obtain ⟨v0, a0, rfl, hh2⟩ := dL_inv hh1
    obtain ⟨c0, rfl, hh3⟩ := dC_inv hh2
    obtain ⟨x0, rfl, hh4⟩ := dR0_inv hh3
    obtain ⟨v1, a1, rfl, hh5⟩ := dL_inv hh4
    obtain ⟨c1, rfl, hh6⟩ := dC_inv hh5
    obtain ⟨x1, rfl, hh7⟩ := dR0_inv hh6
    obtain ⟨rfl, hh8⟩ := dN_inv hh7
    rw [g40_run, Tr.ev_get?]
    change (Res.opt (g40 x0 x1) _).eval = some r at hh8
    rw [eval_opt] at hh8
    obtain ⟨z, hz, hh9⟩ := Option.bind_eq_some_iff.mp hh8
    unfold g40 at hz
    rw [hz]; exact hh9
noncomputable def s40 : Ab.Spec := fun args h => s40_0 (coeA [[some 1], [some 1]] args) h
theorem s40_ok : SpecOk Go.Proofs.Try.prog 40 s40 := s40_0_ok.pre [[some 1], [some 1]]
/-- pontage/rvar.Same -/
noncomputable def L28 : SL := [(40, .byVal, s40)]
noncomputable def e28 : Env := ⟨ti, fun g => lookS g L28, 1000000, [], []⟩
def g28T (x0 : S7) (x1 : S7) : Tr (Bool) :=
  .br (bif (bif (bif (bif (bif (bif (x0.f0 == x1.f0) then (eqS4 (S4.mk x0.f1 x0.f2 x0.f3 x0.f4) (S4.mk x1.f1 x1.f2 x1.f3 x1.f4)) else false) then (x0.f5 == x1.f5) else false) then (x0.f6 == x1.f6) else false) then (x0.f7 == x1.f7) else false) then (eqS6 (S6.mk x0.f8 x0.f9 x0.f10 x0.f11) (S6.mk x1.f8 x1.f9 x1.f10 x1.f11)) else false) then (eqS4 (S4.mk x0.f12 x0.f13 x0.f14 x0.f15) (S4.mk x1.f12 x1.f13 x1.f14 x1.f15)) else false) (
   .opt (g40 x0.f16 x1.f16) fun z67 =>
    .leaf (z67)) (
   .leaf (false))
def g28 (x0 : S7) (x1 : S7) : Option (Bool) := (g28T x0 x1).get?
noncomputable def T28 : TL := []
noncomputable def q28 : Ab.Spec := runQ0 e28 (lookT T28) Go.Proofs.Try.f28
theorem q28_ok : SpecOk Go.Proofs.Try.prog 28 q28 := (runQ0_ok (runR_ok (e := e28) follows (allTI ti_ok _ _ _ _) (callsOk_cons s40_ok (callsOk_nil)) Go.Proofs.Try.func28 Go.Proofs.Try.call28) (fun c hc => by
  have hb : c = Go.Proofs.Try.f28.body.getD .skip := by rw [hc]; rfl
  subst hb
  exact tab_nil))
theorem g28_run (x0 : S7) (x1 : S7) : (q28 [.agg (Cod.enc 7 x0), .agg (Cod.enc 7 x1)] []).eval = (g28T x0 x1).ev fun r => ((.c (.bool r) : AV), ([] : List Blk)) := by kernel_rfl
noncomputable def s28_0 : Ab.Spec := fun args h =>
  dN h <| dL args fun v0 a0 => dG v0 fun l0 => dE 7 l0 fun x0 => dL a0 fun v1 a1 => dG v1 fun l1 => dE 7 l1 fun x1 => dN a1 <|
  .opt (g28 x0 x1) fun r => .val (.c (.bool r), [])
theorem s28_0_ok : SpecOk Go.Proofs.Try.prog 28 s28_0 :=
  q28_ok.less fun args hs r h => by
    unfold s28_0 at h
    obtain ⟨rfl, hh1⟩ := dN_inv h
    obtain ⟨v0, a0, rfl, hh2⟩ := dL_inv hh1
    obtain ⟨l0, rfl, hh3⟩ := dG_inv hh2
    obtain ⟨x0, rfl, hh4⟩ := dE_inv hh3
    obtain ⟨v1, a1, rfl, hh5⟩ := dL_inv hh4
    obtain ⟨l1, rfl, hh6⟩ := dG_inv hh5
    obtain ⟨x1, rfl, hh7⟩ := dE_inv hh6
    obtain ⟨rfl, hh8⟩ := dN_inv hh7
    rw [g28_run, Tr.ev_get?]
    change (Res.opt (g28 x0 x1) _).eval = some r at hh8
    rw [eval_opt] at hh8
    obtain ⟨z, hz, hh9⟩ := Option.bind_eq_some_iff.mp hh8
    unfold g28 at hz
    rw [hz]; exact hh9
noncomputable def s28 : Ab.Spec := fun args h => s28_0 (coeA [[none, none, none, none, none, none, none, none, none, none, none, none, none, none, none, none, some 1], [none, none, none, none, none, none, none, none, none, none, none, none, none, none, none, none, some 1]] args) h
theorem s28_ok : SpecOk Go.Proofs.Try.prog 28 s28 := s28_0_ok.pre [[none, none, none, none, none, none, none, none, none, none, none, none, none, none, none, none, some 1], [none, none, none, none, none, none, none, none, none, none, none, none, none, none, none, none, some 1]]
/-- pontage/rvar.SyncAll -/
noncomputable def L18 : SL := [(17, .byNew, s17)]
noncomputable def e18 : Env := ⟨ti, fun g => lookS g L18, 1000000, [.drop 0, .drop 4, .drop 5, .drop 6, .drop 7], []⟩
structure W18_0 where
  a0 : Int
  a1 : Int
  a2 : Int
  a3 : Int
  a4 : Int
  a5 : Int
  a6 : Int
  a7 : Int
  a8 : Bool
  a9 : Int
  a10 : Int
  a11 : Int
  a12 : Int
  a13 : Int
  a14 : Int
  a15 : Int
  a16 : Int
  a17 : Int
  a18 : Int
  a19 : Int
  a20 : Int
  a21 : Int
  a22 : Int
  a23 : Int
  a24 : Bool
  a25 : Int
  a26 : Int
  a27 : Int
  a28 : Int
  a29 : Int
  a30 : Int
  a31 : Int
  a32 : Int
  a33 : Int
  a34 : List S1
def hd18_0 (v : W18_0) : St := ⟨[.top, .c (.ptr 0 0), .c (.ptr 1 0), .top, .top, .top, .top, .top, .c (.int .i64 v.a0), .c (.int .i64 v.a1), .top, .top, .top, .top, .top, .top, .top, .top, .top], [.cells [.int .u64 v.a2, .int .u8 v.a3, .int .u8 v.a4, .int .u8 v.a5, .int .u8 v.a6, .int .u8 v.a7, .bool v.a8, .int .u16 v.a9, .int .u64 v.a10, .int .u32 v.a11, .int .u64 v.a12, .int .u16 v.a13, .int .u8 v.a14, .int .u8 v.a15, .int .u8 v.a16, .int .u8 v.a17, .slw 2], .cells [.int .u64 v.a18, .int .u8 v.a19, .int .u8 v.a20, .int .u8 v.a21, .int .u8 v.a22, .int .u8 v.a23, .bool v.a24, .int .u16 v.a25, .int .u64 v.a26, .int .u32 v.a27, .int .u64 v.a28, .int .u16 v.a29, .int .u8 v.a30, .int .u8 v.a31, .int .u8 v.a32, .int .u8 v.a33, .nils], .row 1 v.a34]⟩
def gR18_0 (v : W18_0) : Tr (W18_0 ⊕ (Bool × W18_0)) :=
  .br (decide (v.a1 < v.a0)) (
   .br (decide (0 ≤ v.a1) && decide (v.a1 < (v.a34.length : Int))) (
    .opt (v.a34[(Int.toNat v.a1)]?) fun y69 =>
     .leaf (.inl ({ v with a1 := (IntKind.i64.wrap (v.a1 + 1)), a34 := (List.set v.a34 (Int.toNat v.a1) { y69 with f24 := true }) }))) (
    .fail)) (
   .leaf (.inr (false, v)))
noncomputable def lb18_0 : Code := match findB 0 (Go.Proofs.Try.f18.body.getD .skip) with | [.loop b] => b | _ => .skip
def pa18_0 : List PA := [.any, .c (.ptr 0 0), .c (.ptr 1 0), .top, .any, .any, .any, .any, .c (.int .i64), .c (.int .i64), .top, .top, .top, .top, .top, .top, .top, .top, .top]
def pb18_0 : List PB := [.cells [.int .u64, .int .u8, .int .u8, .int .u8, .int .u8, .int .u8, .bool, .int .u16, .int .u64, .int .u32, .int .u64, .int .u16, .int .u8, .int .u8, .int .u8, .int .u8, .slw 2], .cells [.int .u64, .int .u8, .int .u8, .int .u8, .int .u8, .int .u8, .bool, .int .u16, .int .u64, .int .u32, .int .u64, .int .u16, .int .u8, .int .u8, .int .u8, .int .u8, .nils], .row 1]
def ini18_0 (s : St) : W18_0 := ⟨iC (aC (s.tmps.getD 8 .top)), iC (aC (s.tmps.getD 9 .top)), iC ((bL (s.heap.getD 0 .dead)).getD 0 .top), iC ((bL (s.heap.getD 0 .dead)).getD 1 .top), iC ((bL (s.heap.getD 0 .dead)).getD 2 .top), iC ((bL (s.heap.getD 0 .dead)).getD 3 .top), iC ((bL (s.heap.getD 0 .dead)).getD 4 .top), iC ((bL (s.heap.getD 0 .dead)).getD 5 .top), bC ((bL (s.heap.getD 0 .dead)).getD 6 .top), iC ((bL (s.heap.getD 0 .dead)).getD 7 .top), iC ((bL (s.heap.getD 0 .dead)).getD 8 .top), iC ((bL (s.heap.getD 0 .dead)).getD 9 .top), iC ((bL (s.heap.getD 0 .dead)).getD 10 .top), iC ((bL (s.heap.getD 0 .dead)).getD 11 .top), iC ((bL (s.heap.getD 0 .dead)).getD 12 .top), iC ((bL (s.heap.getD 0 .dead)).getD 13 .top), iC ((bL (s.heap.getD 0 .dead)).getD 14 .top), iC ((bL (s.heap.getD 0 .dead)).getD 15 .top), iC ((bL (s.heap.getD 1 .dead)).getD 0 .top), iC ((bL (s.heap.getD 1 .dead)).getD 1 .top), iC ((bL (s.heap.getD 1 .dead)).getD 2 .top), iC ((bL (s.heap.getD 1 .dead)).getD 3 .top), iC ((bL (s.heap.getD 1 .dead)).getD 4 .top), iC ((bL (s.heap.getD 1 .dead)).getD 5 .top), bC ((bL (s.heap.getD 1 .dead)).getD 6 .top), iC ((bL (s.heap.getD 1 .dead)).getD 7 .top), iC ((bL (s.heap.getD 1 .dead)).getD 8 .top), iC ((bL (s.heap.getD 1 .dead)).getD 9 .top), iC ((bL (s.heap.getD 1 .dead)).getD 10 .top), iC ((bL (s.heap.getD 1 .dead)).getD 11 .top), iC ((bL (s.heap.getD 1 .dead)).getD 12 .top), iC ((bL (s.heap.getD 1 .dead)).getD 13 .top), iC ((bL (s.heap.getD 1 .dead)).getD 14 .top), iC ((bL (s.heap.getD 1 .dead)).getD 15 .top), bR 1 (s.heap.getD 2 .dead)⟩
noncomputable def F18_0 : St → Res (Ex × St) := loopF pa18_0 pb18_0 1000000 hd18_0 gR18_0 ini18_0 false
theorem F18_0_ok (s : St) (r : Ex × St) (h : (F18_0 s).eval = some r) : (codeR e18 0 (.block 0 (.loop lb18_0)) s).eval = some r :=
  blk_ok (e := e18) (T := lookT []) (fun s v => by kernel_rfl) (fun s => by kernel_rfl) (tab_nil) s r h
def g18T (x0 : S7) : Tr (S7) :=
  .opt (g17 x0) fun z68 =>
   .opt (iter gR18_0 1000000 (W18_0.mk ((z68.f16.length : Int)) (0) (z68.f0) (z68.f1) (z68.f2) (z68.f3) (z68.f4) (z68.f5) (z68.f6) (z68.f7) (z68.f8) (z68.f9) (z68.f10) (z68.f11) (z68.f12) (z68.f13) (z68.f14) (z68.f15) (0) (0) (0) (0) (0) (0) (false) (0) (0) (0) (0) (0) (0) (0) (0) (0) (z68.f16))) fun r70 =>
    .br r70.1 (
     .fail) (
     .leaf ((S7.mk r70.2.a2 r70.2.a3 r70.2.a4 r70.2.a5 r70.2.a6 r70.2.a7 r70.2.a8 r70.2.a9 r70.2.a10 r70.2.a11 r70.2.a12 r70.2.a13 r70.2.a14 r70.2.a15 r70.2.a16 r70.2.a17 r70.2.a34)))
def g18 (x0 : S7) : Option (S7) := (g18T x0).get?
noncomputable def T18 : TL := [(0, F18_0)]
noncomputable def q18 : Ab.Spec := frzR [[none, none, none, none, none, none, none, none, none, none, none, none, none, none, none, none, some 1]] (runQ0 e18 (lookT T18) Go.Proofs.Try.f18)
theorem q18_ok : SpecOk Go.Proofs.Try.prog 18 q18 := (runQ0_ok (runR_ok (e := e18) follows (allTI ti_ok _ _ _ _) (callsOk_cons s17_ok (callsOk_nil)) Go.Proofs.Try.func18 Go.Proofs.Try.call18) (fun c hc => by
  have hb : c = Go.Proofs.Try.f18.body.getD .skip := by rw [hc]; rfl
  subst hb
  exact tab_cons (by kernel_rfl) F18_0_ok (tab_nil))).froze [[none, none, none, none, none, none, none, none, none, none, none, none, none, none, none, none, some 1]]
theorem g18_run (x0 : S7) : (q18 [.agg (Cod.enc 7 x0)] []).eval = (g18T x0).ev fun r => ((.agg (Cod.enc 7 r) : AV), ([] : List Blk)) := by kernel_rfl
noncomputable def s18_0 : Ab.Spec := fun args h =>
  dN h <| dL args fun v0 a0 => dG v0 fun l0 => dE 7 l0 fun x0 => dN a0 <|
  .opt (g18 x0) fun r => .val (.agg (Cod.enc 7 r), [])
theorem s18_0_ok : SpecOk Go.Proofs.Try.prog 18 s18_0 :=
  q18_ok.less fun args hs r h => by
    unfold s18_0 at h
    obtain ⟨rfl, hh1⟩ := dN_inv h
    obtain ⟨v0, a0, rfl, hh2⟩ := dL_inv hh1
    obtain ⟨l0, rfl, hh3⟩ := dG_inv hh2
    obtain ⟨x0, rfl, hh4⟩ := dE_inv hh3
    obtain ⟨rfl, hh5⟩ := dN_inv hh4
    rw [g18_run, Tr.ev_get?]
    change (Res.opt (g18 x0) _).eval = some r at hh5
    rw [eval_opt] at hh5
    obtain ⟨z, hz, hh6⟩ := Option.bind_eq_some_iff.mp hh5
    unfold g18 at hz
    rw [hz]; exact hh6
noncomputable def s18 : Ab.Spec := fun args h => s18_0 (coeA [[none, none, none, none, none, none, none, none, none, none, none, none, none, none, none, none, some 1]] args) h
theorem s18_ok : SpecOk Go.Proofs.Try.prog 18 s18 := s18_0_ok.pre [[none, none, none, none, none, none, none, none, none, none, none, none, none, none, none, none, some 1]]
/-- pontage/rvar.ReRootAll -/
noncomputable def L20 : SL := [(17, .byNew, s17)]
noncomputable def e20 : Env := ⟨ti, fun g => lookS g L20, 1000000, [.drop 0, .drop 4, .drop 5, .drop 6, .drop 7], []⟩
structure W20_0 where
  a0 : Int
  a1 : Int
  a2 : Int
  a3 : Int
  a4 : Int
  a5 : Int
  a6 : Int
  a7 : Int
  a8 : Bool
  a9 : Int
  a10 : Int
  a11 : Int
  a12 : Int
  a13 : Int
  a14 : Int
  a15 : Int
  a16 : Int
  a17 : Int
  a18 : Int
  a19 : Int
  a20 : Int
  a21 : Int
  a22 : Int
  a23 : Int
  a24 : Bool
  a25 : Int
  a26 : Int
  a27 : Int
  a28 : Int
  a29 : Int
  a30 : Int
  a31 : Int
  a32 : Int
  a33 : Int
  a34 : List S1
def hd20_0 (v : W20_0) : St := ⟨[.top, .c (.ptr 0 0), .c (.ptr 1 0), .top, .top, .top, .top, .top, .c (.int .i64 v.a0), .c (.int .i64 v.a1), .top, .top, .top, .top, .top, .top, .top, .top, .top], [.cells [.int .u64 v.a2, .int .u8 v.a3, .int .u8 v.a4, .int .u8 v.a5, .int .u8 v.a6, .int .u8 v.a7, .bool v.a8, .int .u16 v.a9, .int .u64 v.a10, .int .u32 v.a11, .int .u64 v.a12, .int .u16 v.a13, .int .u8 v.a14, .int .u8 v.a15, .int .u8 v.a16, .int .u8 v.a17, .slw 2], .cells [.int .u64 v.a18, .int .u8 v.a19, .int .u8 v.a20, .int .u8 v.a21, .int .u8 v.a22, .int .u8 v.a23, .bool v.a24, .int .u16 v.a25, .int .u64 v.a26, .int .u32 v.a27, .int .u64 v.a28, .int .u16 v.a29, .int .u8 v.a30, .int .u8 v.a31, .int .u8 v.a32, .int .u8 v.a33, .nils], .row 1 v.a34]⟩
def gR20_0 (v : W20_0) : Tr (W20_0 ⊕ (Bool × W20_0)) :=
  .br (decide (v.a1 < v.a0)) (
   .br (decide (0 ≤ v.a1) && decide (v.a1 < (v.a34.length : Int))) (
    .opt (v.a34[(Int.toNat v.a1)]?) fun y72 =>
     .leaf (.inl ({ v with a1 := (IntKind.i64.wrap (v.a1 + 1)), a34 := (List.set v.a34 (Int.toNat v.a1) { y72 with f20 := true }) }))) (
    .fail)) (
   .leaf (.inr (false, v)))
noncomputable def lb20_0 : Code := match findB 0 (Go.Proofs.Try.f20.body.getD .skip) with | [.loop b] => b | _ => .skip
def pa20_0 : List PA := [.any, .c (.ptr 0 0), .c (.ptr 1 0), .top, .any, .any, .any, .any, .c (.int .i64), .c (.int .i64), .top, .top, .top, .top, .top, .top, .top, .top, .top]
def pb20_0 : List PB := [.cells [.int .u64, .int .u8, .int .u8, .int .u8, .int .u8, .int .u8, .bool, .int .u16, .int .u64, .int .u32, .int .u64, .int .u16, .int .u8, .int .u8, .int .u8, .int .u8, .slw 2], .cells [.int .u64, .int .u8, .int .u8, .int .u8, .int .u8, .int .u8, .bool, .int .u16, .int .u64, .int .u32, .int .u64, .int .u16, .int .u8, .int .u8, .int .u8, .int .u8, .nils], .row 1]
def ini20_0 (s : St) : W20_0 := ⟨iC (aC (s.tmps.getD 8 .top)), iC (aC (s.tmps.getD 9 .top)), iC ((bL (s.heap.getD 0 .dead)).getD 0 .top), iC ((bL (s.heap.getD 0 .dead)).getD 1 .top), iC ((bL (s.heap.getD 0 .dead)).getD 2 .top), iC ((bL (s.heap.getD 0 .dead)).getD 3 .top), iC ((bL (s.heap.getD 0 .dead)).getD 4 .top), iC ((bL (s.heap.getD 0 .dead)).getD 5 .top), bC ((bL (s.heap.getD 0 .dead)).getD 6 .top), iC ((bL (s.heap.getD 0 .dead)).getD 7 .top), iC ((bL (s.heap.getD 0 .dead)).getD 8 .top), iC ((bL (s.heap.getD 0 .dead)).getD 9 .top), iC ((bL (s.heap.getD 0 .dead)).getD 10 .top), iC ((bL (s.heap.getD 0 .dead)).getD 11 .top), iC ((bL (s.heap.getD 0 .dead)).getD 12 .top), iC ((bL (s.heap.getD 0 .dead)).getD 13 .top), iC ((bL (s.heap.getD 0 .dead)).getD 14 .top), iC ((bL (s.heap.getD 0 .dead)).getD 15 .top), iC ((bL (s.heap.getD 1 .dead)).getD 0 .top), iC ((bL (s.heap.getD 1 .dead)).getD 1 .top), iC ((bL (s.heap.getD 1 .dead)).getD 2 .top), iC ((bL (s.heap.getD 1 .dead)).getD 3 .top), iC ((bL (s.heap.getD 1 .dead)).getD 4 .top), iC ((bL (s.heap.getD 1 .dead)).getD 5 .top), bC ((bL (s.heap.getD 1 .dead)).getD 6 .top), iC ((bL (s.heap.getD 1 .dead)).getD 7 .top), iC ((bL (s.heap.getD 1 .dead)).getD 8 .top), iC ((bL (s.heap.getD 1 .dead)).getD 9 .top), iC ((bL (s.heap.getD 1 .dead)).getD 10 .top), iC ((bL (s.heap.getD 1 .dead)).getD 11 .top), iC ((bL (s.heap.getD 1 .dead)).getD 12 .top), iC ((bL (s.heap.getD 1 .dead)).getD 13 .top), iC ((bL (s.heap.getD 1 .dead)).getD 14 .top), iC ((bL (s.heap.getD 1 .dead)).getD 15 .top), bR 1 (s.heap.getD 2 .dead)⟩
noncomputable def F20_0 : St → Res (Ex × St) := loopF pa20_0 pb20_0 1000000 hd20_0 gR20_0 ini20_0 false
theorem F20_0_ok (s : St) (r : Ex × St) (h : (F20_0 s).eval = some r) : (codeR e20 0 (.block 0 (.loop lb20_0)) s).eval = some r :=
  blk_ok (e := e20) (T := lookT []) (fun s v => by kernel_rfl) (fun s => by kernel_rfl) (tab_nil) s r h
def g20T (x0 : S7) : Tr (S7) :=
  .opt (g17 x0) fun z71 =>
   .opt (iter gR20_0 1000000 (W20_0.mk ((z71.f16.length : Int)) (0) (z71.f0) (z71.f1) (z71.f2) (z71.f3) (z71.f4) (z71.f5) (z71.f6) (z71.f7) (z71.f8) (z71.f9) (z71.f10) (z71.f11) (z71.f12) (z71.f13) (z71.f14) (z71.f15) (0) (0) (0) (0) (0) (0) (false) (0) (0) (0) (0) (0) (0) (0) (0) (0) (z71.f16))) fun r73 =>
    .br r73.1 (
     .fail) (
     .leaf ((S7.mk r73.2.a2 r73.2.a3 r73.2.a4 r73.2.a5 r73.2.a6 r73.2.a7 r73.2.a8 r73.2.a9 r73.2.a10 r73.2.a11 r73.2.a12 r73.2.a13 r73.2.a14 r73.2.a15 r73.2.a16 r73.2.a17 r73.2.a34)))
def g20 (x0 : S7) : Option (S7) := (g20T x0).get?
noncomputable def T20 : TL := [(0, F20_0)]
noncomputable def q20 : Ab.Spec := frzR [[none, none, none, none, none, none, none, none, none, none, none, none, none, none, none, none, some 1]] (runQ0 e20 (lookT T20) Go.Proofs.Try.f20)
theorem q20_ok : SpecOk Go.Proofs.Try.prog 20 q20 := (runQ0_ok (runR_ok (e := e20) follows (allTI ti_ok _ _ _ _) (callsOk_cons s17_ok (callsOk_nil)) Go.Proofs.Try.func20 Go.Proofs.Try.call20) (fun c hc => by
  have hb : c = Go.Proofs.Try.f20.body.getD .skip := by rw [hc]; rfl
  subst hb
  exact tab_cons (by kernel_rfl) F20_0_ok (tab_nil))).froze [[none, none, none, none, none, none, none, none, none, none, none, none, none, none, none, none, some 1]]
theorem g20_run (x0 : S7) : (q20 [.agg (Cod.enc 7 x0)] []).eval = (g20T x0).ev fun r => ((.agg (Cod.enc 7 r) : AV), ([] : List Blk)) := by kernel_rfl
noncomputable def s20_0 : Ab.Spec := fun args h =>
  dN h <| dL args fun v0 a0 => dG v0 fun l0 => dE 7 l0 fun x0 => dN a0 <|
  .opt (g20 x0) fun r => .val (.agg (Cod.enc 7 r), [])
theorem s20_0_ok : SpecOk Go.Proofs.Try.prog 20 s20_0 :=
  q20_ok.less fun args hs r h => by
    unfold s20_0 at h
    obtain ⟨rfl, hh1⟩ := dN_inv h
    obtain ⟨v0, a0, rfl, hh2⟩ := dL_inv hh1
    obtain ⟨l0, rfl, hh3⟩ := dG_inv hh2
    obtain ⟨x0, rfl, hh4⟩ := dE_inv hh3
    obtain ⟨rfl, hh5⟩ := dN_inv hh4
    rw [g20_run, Tr.ev_get?]
    change (Res.opt (g20 x0) _).eval = some r at hh5
    rw [eval_opt] at hh5
    obtain ⟨z, hz, hh6⟩ := Option.bind_eq_some_iff.mp hh5
    unfold g20 at hz
    rw [hz]; exact hh6
noncomputable def s20 : Ab.Spec := fun args h => s20_0 (coeA [[none, none, none, none, none, none, none, none, none, none, none, none, none, none, none, none, some 1]] args) h
theorem s20_ok : SpecOk Go.Proofs.Try.prog 20 s20 := s20_0_ok.pre [[none, none, none, none, none, none, none, none, none, none, none, none, none, none, none, none, some 1]]
/-- pontage/rvar.ReRooted -/
noncomputable def L26 : SL := []
noncomputable def e26 : Env := ⟨ti, fun g => lookS g L26, 1000000, [.drop 0, .drop 2, .drop 3, .drop 7], []⟩
structure W26_0 where
  a0 : Int
  a1 : Bool
  a2 : List S1
  a3 : Int
  a4 : Int
def hd26_0 (v : W26_0) : St := ⟨[.top, .c (.int .i64 v.a0), .top, .top, .c (.bool v.a1), .top, .top, .top, .c (.rs 1 v.a2), .c (.int .i64 v.a3), .c (.int .i64 v.a4), .top, .top, .top, .top, .top, .top, .top, .top, .top, .top, .top, .top, .top], []⟩
def gR26_0 (v : W26_0) : Tr (W26_0 ⊕ (Bool × W26_0)) :=
  .br (decide (v.a4 < v.a3)) (
   .br (decide (0 ≤ v.a4)) (
    .opt (v.a2[Int.toNat v.a4]?) fun y74 =>
     .br (bif (v.a4 != v.a0) then (y74.f70 != 0) else false) (
      .leaf (.inr (true, { v with a1 := false }))) (
      .leaf (.inl ({ v with a4 := (IntKind.i64.wrap (v.a4 + 1)) })))) (
    .fail)) (
   .leaf (.inr (false, v)))
noncomputable def lb26_0 : Code := match findB 0 (Go.Proofs.Try.f26.body.getD .skip) with | [.loop b] => b | _ => .skip
def pa26_0 : List PA := [.any, .c (.int .i64), .any, .any, .c (.bool), .top, .top, .any, .c (.rs 1), .c (.int .i64), .c (.int .i64), .top, .top, .top, .top, .top, .top, .top, .top, .top, .top, .top, .top, .top]
def pb26_0 : List PB := [.cells [.int .u64, .int .u8, .int .u8, .int .u8, .int .u8, .int .u8, .bool, .int .u16, .int .u64, .int .u32, .int .u64, .int .u16, .int .u8, .int .u8, .int .u8, .int .u8, .rs 1]]
def ini26_0 (s : St) : W26_0 := ⟨iC (aC (s.tmps.getD 1 .top)), bC (aC (s.tmps.getD 4 .top)), rC 1 (aC (s.tmps.getD 8 .top)), iC (aC (s.tmps.getD 9 .top)), iC (aC (s.tmps.getD 10 .top))⟩
noncomputable def F26_0 : St → Res (Ex × St) := loopF pa26_0 pb26_0 1000000 hd26_0 gR26_0 ini26_0 true
theorem F26_0_ok (s : St) (r : Ex × St) (h : (F26_0 s).eval = some r) : (codeR e26 0 (.block 0 (.loop lb26_0)) s).eval = some r :=
  blk_ok (e := e26) (T := lookT []) (fun s v => by kernel_rfl) (fun s => by kernel_rfl) (tab_nil) s r h
def g26T (x0 : S7) (x1 : Int) : Tr (Bool) :=
  .opt (iter gR26_0 1000000 (W26_0.mk (x1) (false) (x0.f16) ((x0.f16.length : Int)) (0))) fun r75 =>
   .br r75.1 (
    .leaf (r75.2.a1)) (
    .leaf (true))
def g26 (x0 : S7) (x1 : Int) : Option (Bool) := (g26T x0 x1).get?
noncomputable def T26 : TL := [(0, F26_0)]
noncomputable def q26 : Ab.Spec := runQ0 e26 (lookT T26) Go.Proofs.Try.f26
theorem q26_ok : SpecOk Go.Proofs.Try.prog 26 q26 := (runQ0_ok (runR_ok (e := e26) follows (allTI ti_ok _ _ _ _) (callsOk_nil) Go.Proofs.Try.func26 Go.Proofs.Try.call26) (fun c hc => by
  have hb : c = Go.Proofs.Try.f26.body.getD .skip := by rw [hc]; rfl
  subst hb
  exact tab_cons (by kernel_rfl) F26_0_ok (tab_nil)))
theorem g26_run (x0 : S7) (x1 : Int) : (q26 [.agg (Cod.enc 7 x0), .c (.int .i64 x1)] []).eval = (g26T x0 x1).ev fun r => ((.c (.bool r) : AV), ([] : List Blk)) := by kernel_rfl
noncomputable def s26_0 : Ab.Spec := fun args h =>
  dN h <| dL args fun v0 a0 => dG v0 fun l0 => dE 7 l0 fun x0 => dL a0 fun v1 a1 => dC v1 fun c0 => dI .i64 c0 fun x1 => dN a1 <|
  .opt (g26 x0 x1) fun r => .val (.c (.bool r), [])
theorem s26_0_ok : SpecOk Go.Proofs.Try.prog 26 s26_0 :=
  q26_ok.less fun args hs r h => by
    unfold s26_0 at h
    obtain ⟨rfl, hh1⟩ := dN_inv h
    obtain ⟨v0, a0, rfl, hh2⟩ := dL_inv hh1
    obtain ⟨l0, rfl, hh3⟩ := dG_inv hh2
    obtain ⟨x0, rfl, hh4⟩ := dE_inv hh3
    obtain ⟨v1, a1, rfl, hh5⟩ := dL_inv hh4
    obtain ⟨c0, rfl, hh6⟩ := dC_inv hh5
    obtain ⟨x1, rfl, hh7⟩ := dI_inv hh6
    obtain ⟨rfl, hh8⟩ := dN_inv hh7
    rw [g26_run, Tr.ev_get?]
    change (Res.opt (g26 x0 x1) _).eval = some r at hh8
    rw [eval_opt] at hh8
    obtain ⟨z, hz, hh9⟩ := Option.bind_eq_some_iff.mp hh8
    unfold g26 at hz
    rw [hz]; exact hh9
noncomputable def s26 : Ab.Spec := fun args h => s26_0 (coeA [[none, none, none, none, none, none, none, none, none, none, none, none, none, none, none, none, some 1], []] args) h
theorem s26_ok : SpecOk Go.Proofs.Try.prog 26 s26 := s26_0_ok.pre [[none, none, none, none, none, none, none, none, none, none, none, none, none, none, none, none, some 1], []]
/-- pontage/pontagelaw09.awake -/
noncomputable def L11 : SL := [(34, .byNew, s34), (7, .byNew, s7), (13, .byNew, s13), (15, .byNew, s15), (24, .byVal, s24), (28, .byVal, s28), (10, .byVal, s10), (18, .byNew, s18), (20, .byNew, s20), (26, .byVal, s26)]
noncomputable def e11 : Env := ⟨ti, fun g => lookS g L11, 1000000, [.drop 2, .drop 5, .drop 6, .drop 7, .drop 8, .drop 9, .drop 10, .drop 11, .drop 12, .drop 13, .drop 14, .drop 15, .drop 16, .drop 17, .drop 18, .drop 19, .drop 20, .drop 21, .drop 22, .drop 23, .drop 24, .drop 25], []⟩
def g11T  : Tr (Bool) :=
  let z76 := g34 
  .opt (g7 z76) fun z77 =>
   .br (!(bif (z77.2 != 0) then true else ((z77.1.f16.length : Int) != 2))) (
    .br (decide (0 ≤ 1) && decide (1 < (z77.1.f16.length : Int))) (
     .opt (z77.1.f16[(Int.toNat 1)]?) fun y78 =>
      .br (y78.f0 != 32770) (
       .leaf (false)) (
       .br (decide (0 ≤ 0) && decide (0 < (z77.1.f16.length : Int))) (
        .opt (z77.1.f16[(Int.toNat 0)]?) fun y79 =>
         .br (decide (0 ≤ 0) && decide (0 < ((List.set z77.1.f16 (Int.toNat 0) { y79 with f22 := true }).length : Int))) (
          .opt ((List.set z77.1.f16 (Int.toNat 0) { y79 with f22 := true })[(Int.toNat 0)]?) fun y80 =>
           .br (decide (0 ≤ 0) && decide (0 < ((List.set (List.set z77.1.f16 (Int.toNat 0) { y79 with f22 := true }) (Int.toNat 0) { y80 with f30 := 4 }).length : Int))) (
            .opt ((List.set (List.set z77.1.f16 (Int.toNat 0) { y79 with f22 := true }) (Int.toNat 0) { y80 with f30 := 4 })[(Int.toNat 0)]?) fun y81 =>
             .br (decide (0 ≤ 1) && decide (1 < ((List.set (List.set (List.set z77.1.f16 (Int.toNat 0) { y79 with f22 := true }) (Int.toNat 0) { y80 with f30 := 4 }) (Int.toNat 0) { y81 with f31 := 4 }).length : Int))) (
              .opt ((List.set (List.set (List.set z77.1.f16 (Int.toNat 0) { y79 with f22 := true }) (Int.toNat 0) { y80 with f30 := 4 }) (Int.toNat 0) { y81 with f31 := 4 })[(Int.toNat 1)]?) fun y82 =>
               .br (decide (0 ≤ 1) && decide (1 < ((List.set (List.set (List.set (List.set z77.1.f16 (Int.toNat 0) { y79 with f22 := true }) (Int.toNat 0) { y80 with f30 := 4 }) (Int.toNat 0) { y81 with f31 := 4 }) (Int.toNat 1) { y82 with f22 := true }).length : Int))) (
                .opt ((List.set (List.set (List.set (List.set z77.1.f16 (Int.toNat 0) { y79 with f22 := true }) (Int.toNat 0) { y80 with f30 := 4 }) (Int.toNat 0) { y81 with f31 := 4 }) (Int.toNat 1) { y82 with f22 := true })[(Int.toNat 1)]?) fun y83 =>
                 .br (decide (0 ≤ 1) && decide (1 < ((List.set (List.set (List.set (List.set (List.set z77.1.f16 (Int.toNat 0) { y79 with f22 := true }) (Int.toNat 0) { y80 with f30 := 4 }) (Int.toNat 0) { y81 with f31 := 4 }) (Int.toNat 1) { y82 with f22 := true }) (Int.toNat 1) { y83 with f30 := 4 }).length : Int))) (
                  .opt ((List.set (List.set (List.set (List.set (List.set z77.1.f16 (Int.toNat 0) { y79 with f22 := true }) (Int.toNat 0) { y80 with f30 := 4 }) (Int.toNat 0) { y81 with f31 := 4 }) (Int.toNat 1) { y82 with f22 := true }) (Int.toNat 1) { y83 with f30 := 4 })[(Int.toNat 1)]?) fun y84 =>
                   .br (decide (0 ≤ 0) && decide (0 < ((List.set (List.set (List.set (List.set (List.set (List.set z77.1.f16 (Int.toNat 0) { y79 with f22 := true }) (Int.toNat 0) { y80 with f30 := 4 }) (Int.toNat 0) { y81 with f31 := 4 }) (Int.toNat 1) { y82 with f22 := true }) (Int.toNat 1) { y83 with f30 := 4 }) (Int.toNat 1) { y84 with f31 := 4 }).length : Int))) (
                    .opt ((List.set (List.set (List.set (List.set (List.set (List.set z77.1.f16 (Int.toNat 0) { y79 with f22 := true }) (Int.toNat 0) { y80 with f30 := 4 }) (Int.toNat 0) { y81 with f31 := 4 }) (Int.toNat 1) { y82 with f22 := true }) (Int.toNat 1) { y83 with f30 := 4 }) (Int.toNat 1) { y84 with f31 := 4 })[(Int.toNat 0)]?) fun y85 =>
                     .br (decide (0 ≤ 1) && decide (1 < ((List.set (List.set (List.set (List.set (List.set (List.set (List.set z77.1.f16 (Int.toNat 0) { y79 with f22 := true }) (Int.toNat 0) { y80 with f30 := 4 }) (Int.toNat 0) { y81 with f31 := 4 }) (Int.toNat 1) { y82 with f22 := true }) (Int.toNat 1) { y83 with f30 := 4 }) (Int.toNat 1) { y84 with f31 := 4 }) (Int.toNat 0) { y85 with f25 := true }).length : Int))) (
                      .opt ((List.set (List.set (List.set (List.set (List.set (List.set (List.set z77.1.f16 (Int.toNat 0) { y79 with f22 := true }) (Int.toNat 0) { y80 with f30 := 4 }) (Int.toNat 0) { y81 with f31 := 4 }) (Int.toNat 1) { y82 with f22 := true }) (Int.toNat 1) { y83 with f30 := 4 }) (Int.toNat 1) { y84 with f31 := 4 }) (Int.toNat 0) { y85 with f25 := true })[(Int.toNat 1)]?) fun y86 =>
                       .opt (g13 { z77.1 with f16 := (List.set (List.set (List.set (List.set (List.set (List.set (List.set (List.set z77.1.f16 (Int.toNat 0) { y79 with f22 := true }) (Int.toNat 0) { y80 with f30 := 4 }) (Int.toNat 0) { y81 with f31 := 4 }) (Int.toNat 1) { y82 with f22 := true }) (Int.toNat 1) { y83 with f30 := 4 }) (Int.toNat 1) { y84 with f31 := 4 }) (Int.toNat 0) { y85 with f25 := true }) (Int.toNat 1) { y86 with f65 := 7 }) } 1 true) fun z87 =>
                        .opt (g15 z87) fun z88 =>
                         .opt (g24 { z77.1 with f16 := (List.set (List.set (List.set (List.set (List.set (List.set (List.set (List.set z77.1.f16 (Int.toNat 0) { y79 with f22 := true }) (Int.toNat 0) { y80 with f30 := 4 }) (Int.toNat 0) { y81 with f31 := 4 }) (Int.toNat 1) { y82 with f22 := true }) (Int.toNat 1) { y83 with f30 := 4 }) (Int.toNat 1) { y84 with f31 := 4 }) (Int.toNat 0) { y85 with f25 := true }) (Int.toNat 1) { y86 with f65 := 7 }) } 0) fun z89 =>
                          .br (!z89) (
                           .opt (g24 { z77.1 with f16 := (List.set (List.set (List.set (List.set (List.set (List.set (List.set (List.set z77.1.f16 (Int.toNat 0) { y79 with f22 := true }) (Int.toNat 0) { y80 with f30 := 4 }) (Int.toNat 0) { y81 with f31 := 4 }) (Int.toNat 1) { y82 with f22 := true }) (Int.toNat 1) { y83 with f30 := 4 }) (Int.toNat 1) { y84 with f31 := 4 }) (Int.toNat 0) { y85 with f25 := true }) (Int.toNat 1) { y86 with f65 := 7 }) } 1) fun z91 =>
                            .br z91 (
                             .opt (z88.f16[1]?) fun y93 =>
                              .br y93.f2 (
                               .opt (z88.f16[1]?) fun y95 =>
                                .br (y95.f65 == 6) (
                                 .opt ((List.set (List.set (List.set (List.set (List.set (List.set (List.set (List.set z77.1.f16 (Int.toNat 0) { y79 with f22 := true }) (Int.toNat 0) { y80 with f30 := 4 }) (Int.toNat 0) { y81 with f31 := 4 }) (Int.toNat 1) { y82 with f22 := true }) (Int.toNat 1) { y83 with f30 := 4 }) (Int.toNat 1) { y84 with f31 := 4 }) (Int.toNat 0) { y85 with f25 := true }) (Int.toNat 1) { y86 with f65 := 7 })[1]?) fun y97 =>
                                  .br (!y97.f2) (
                                   .opt (g28 { z77.1 with f16 := (List.set (List.set (List.set (List.set (List.set (List.set (List.set (List.set z77.1.f16 (Int.toNat 0) { y79 with f22 := true }) (Int.toNat 0) { y80 with f30 := 4 }) (Int.toNat 0) { y81 with f31 := 4 }) (Int.toNat 1) { y82 with f22 := true }) (Int.toNat 1) { y83 with f30 := 4 }) (Int.toNat 1) { y84 with f31 := 4 }) (Int.toNat 0) { y85 with f25 := true }) (Int.toNat 1) { y86 with f65 := 7 }) } { z77.1 with f16 := (List.set (List.set (List.set (List.set (List.set (List.set (List.set (List.set z77.1.f16 (Int.toNat 0) { y79 with f22 := true }) (Int.toNat 0) { y80 with f30 := 4 }) (Int.toNat 0) { y81 with f31 := 4 }) (Int.toNat 1) { y82 with f22 := true }) (Int.toNat 1) { y83 with f30 := 4 }) (Int.toNat 1) { y84 with f31 := 4 }) (Int.toNat 0) { y85 with f25 := true }) (Int.toNat 1) { y86 with f65 := 7 }) }) fun z99 =>
                                    .br z99 (
                                     .opt (g28 { z77.1 with f16 := (List.set (List.set (List.set (List.set (List.set (List.set (List.set (List.set z77.1.f16 (Int.toNat 0) { y79 with f22 := true }) (Int.toNat 0) { y80 with f30 := 4 }) (Int.toNat 0) { y81 with f31 := 4 }) (Int.toNat 1) { y82 with f22 := true }) (Int.toNat 1) { y83 with f30 := 4 }) (Int.toNat 1) { y84 with f31 := 4 }) (Int.toNat 0) { y85 with f25 := true }) (Int.toNat 1) { y86 with f65 := 7 }) } z88) fun z101 =>
                                      .br (!z101) (
                                       .opt (g10 (S5.mk 0 0 0 0 0 0 [])) fun z103 =>
                                        .br (z103 == 90) (
                                         .opt (g18 { z77.1 with f16 := (List.set (List.set (List.set (List.set (List.set (List.set (List.set (List.set z77.1.f16 (Int.toNat 0) { y79 with f22 := true }) (Int.toNat 0) { y80 with f30 := 4 }) (Int.toNat 0) { y81 with f31 := 4 }) (Int.toNat 1) { y82 with f22 := true }) (Int.toNat 1) { y83 with f30 := 4 }) (Int.toNat 1) { y84 with f31 := 4 }) (Int.toNat 0) { y85 with f25 := true }) (Int.toNat 1) { y86 with f65 := 7 }) }) fun z104 =>
                                          .opt (z104.f16[1]?) fun y105 =>
                                           .br y105.f24 (
                                            .opt (g20 { z77.1 with f16 := (List.set (List.set (List.set (List.set (List.set (List.set (List.set (List.set z77.1.f16 (Int.toNat 0) { y79 with f22 := true }) (Int.toNat 0) { y80 with f30 := 4 }) (Int.toNat 0) { y81 with f31 := 4 }) (Int.toNat 1) { y82 with f22 := true }) (Int.toNat 1) { y83 with f30 := 4 }) (Int.toNat 1) { y84 with f31 := 4 }) (Int.toNat 0) { y85 with f25 := true }) (Int.toNat 1) { y86 with f65 := 7 }) }) fun z106 =>
                                             .opt (z106.f16[0]?) fun y107 =>
                                              .br y107.f20 (
                                               .opt (g26 { z77.1 with f16 := (List.set (List.set (List.set (List.set (List.set (List.set (List.set (List.set z77.1.f16 (Int.toNat 0) { y79 with f22 := true }) (Int.toNat 0) { y80 with f30 := 4 }) (Int.toNat 0) { y81 with f31 := 4 }) (Int.toNat 1) { y82 with f22 := true }) (Int.toNat 1) { y83 with f30 := 4 }) (Int.toNat 1) { y84 with f31 := 4 }) (Int.toNat 0) { y85 with f25 := true }) (Int.toNat 1) { y86 with f65 := 7 }) } 0) fun z109 =>
                                                .leaf (z109)) (
                                               .leaf (false))) (
                                            .leaf (false))) (
                                         .leaf (false))) (
                                       .leaf (false))) (
                                     .leaf (false))) (
                                   .leaf (false))) (
                                 .leaf (false))) (
                               .leaf (false))) (
                             .leaf (false))) (
                           .leaf (false))) (
                      .fail)) (
                    .fail)) (
                  .fail)) (
                .fail)) (
              .fail)) (
            .fail)) (
          .fail)) (
        .fail))) (
     .fail)) (
    .leaf (false))
def g11  : Option (Bool) := (g11T ).get?
noncomputable def T11 : TL := []
noncomputable def q11 : Ab.Spec := runQ0 e11 (lookT T11) Go.Proofs.Try.f11
theorem q11_ok : SpecOk Go.Proofs.Try.prog 11 q11 := (runQ0_ok (runR_ok (e := e11) follows (allTI ti_ok _ _ _ _) (callsOk_cons s34_ok (callsOk_cons s7_ok (callsOk_cons s13_ok (callsOk_cons s15_ok (callsOk_cons s24_ok (callsOk_cons s28_ok (callsOk_cons s10_ok (callsOk_cons s18_ok (callsOk_cons s20_ok (callsOk_cons s26_ok (callsOk_nil))))))))))) Go.Proofs.Try.func11 Go.Proofs.Try.call11) (fun c hc => by
  have hb : c = Go.Proofs.Try.f11.body.getD .skip := by rw [hc]; rfl
  subst hb
  exact tab_nil))
theorem g11_run  : (q11 [] []).eval = (g11T ).ev fun r => ((.c (.bool r) : AV), ([] : List Blk)) := by kernel_rfl
noncomputable def s11 : Ab.Spec := fun args h =>
  dN h <| dN args <|
  .opt (g11) fun r => .val (.c (.bool r), [])
theorem s11_ok : SpecOk Go.Proofs.Try.prog 11 s11 :=
  q11_ok.less fun args hs r h => by
    unfold s11 at h
    obtain ⟨rfl, hh1⟩ := dN_inv h
    obtain ⟨rfl, hh2⟩ := dN_inv hh1
    rw [g11_run, Tr.ev_get?]
    change (Res.opt (g11) _).eval = some r at hh2
    rw [eval_opt] at hh2
    obtain ⟨z, hz, hh3⟩ := Option.bind_eq_some_iff.mp hh2
    unfold g11 at hz
    rw [hz]; exact hh3
/-- pontage/pontagelaw09.RvarForms -/
noncomputable def L3 : SL := [(7, .byNew, s7), (8, .byNew, s8), (9, .byVal, s9), (10, .byVal, s10), (11, .byVal, s11)]
noncomputable def e3 : Env := ⟨ti, fun g => lookS g L3, 1000000, [], []⟩
def g3T (x0 : S5) : Tr (Bool) :=
  .br (decide (0 ≤ (mnI (x0.f6.length : Int) 20)) && decide ((mnI (x0.f6.length : Int) 20) ≤ (x0.f6.length : Int))) (
   .opt (g7 { x0 with f6 := (List.take (Int.toNat (mnI (x0.f6.length : Int) 20)) x0.f6) }) fun z140 =>
    .opt (g8 { x0 with f6 := (List.take (Int.toNat (mnI (x0.f6.length : Int) 20)) x0.f6) }) fun z141 =>
     .opt (g9 z140.1 z141.1) fun z142 =>
      .br (bif z142 then (z140.2 == z141.2) else false) (
       .opt (g10 { x0 with f6 := (List.take (Int.toNat (mnI (x0.f6.length : Int) 20)) x0.f6) }) fun z144 =>
        .br (z144 == z141.2) (
         .opt (g11 ) fun z146 =>
          .leaf (z146)) (
         .leaf (false))) (
       .leaf (false))) (
   .fail)
def g3 (x0 : S5) : Option (Bool) := (g3T x0).get?
noncomputable def T3 : TL := []
noncomputable def q3 : Ab.Spec := runQ0 e3 (lookT T3) Go.Proofs.Try.f3
theorem q3_ok : SpecOk Go.Proofs.Try.prog 3 q3 := (runQ0_ok (runR_ok (e := e3) follows (allTI ti_ok _ _ _ _) (callsOk_cons s7_ok (callsOk_cons s8_ok (callsOk_cons s9_ok (callsOk_cons s10_ok (callsOk_cons s11_ok (callsOk_nil)))))) Go.Proofs.Try.func3 Go.Proofs.Try.call3) (fun c hc => by
  have hb : c = Go.Proofs.Try.f3.body.getD .skip := by rw [hc]; rfl
  subst hb
  exact tab_nil))
theorem g3_run (x0 : S5) : (q3 [.agg (Cod.enc 5 x0)] []).eval = (g3T x0).ev fun r => ((.c (.bool r) : AV), ([] : List Blk)) := by kernel_rfl
noncomputable def s3_0 : Ab.Spec := fun args h =>
  dN h <| dL args fun v0 a0 => dG v0 fun l0 => dE 5 l0 fun x0 => dN a0 <|
  .opt (g3 x0) fun r => .val (.c (.bool r), [])
theorem s3_0_ok : SpecOk Go.Proofs.Try.prog 3 s3_0 :=
  q3_ok.less fun args hs r h => by
    unfold s3_0 at h
    obtain ⟨rfl, hh1⟩ := dN_inv h
    obtain ⟨v0, a0, rfl, hh2⟩ := dL_inv hh1
    obtain ⟨l0, rfl, hh3⟩ := dG_inv hh2
    obtain ⟨x0, rfl, hh4⟩ := dE_inv hh3
    obtain ⟨rfl, hh5⟩ := dN_inv hh4
    rw [g3_run, Tr.ev_get?]
    change (Res.opt (g3 x0) _).eval = some r at hh5
    rw [eval_opt] at hh5
    obtain ⟨z, hz, hh6⟩ := Option.bind_eq_some_iff.mp hh5
    unfold g3 at hz
    rw [hz]; exact hh6
noncomputable def s3 : Ab.Spec := fun args h => s3_0 (coeA [[none, none, none, none, none, none, some 0]] args) h
theorem s3_ok : SpecOk Go.Proofs.Try.prog 3 s3 := s3_0_ok.pre [[none, none, none, none, none, none, some 0]]
/-- pontage/pontagelaw09.Few -/
noncomputable def L12 : SL := []
noncomputable def e12 : Env := ⟨ti, fun g => lookS g L12, 1000000, [], []⟩
def g12T (x0 : S7) : Tr (S7) :=
  .br (decide (0 ≤ (mnI (x0.f16.length : Int) 10)) && decide ((mnI (x0.f16.length : Int) 10) ≤ (x0.f16.length : Int))) (
   .br ((List.take (Int.toNat (mnI (x0.f16.length : Int) 10)) x0.f16).isEmpty) (
    .leaf ({ x0 with f16 := [] })) (
    .br (Nat.ble (0 + (List.take (Int.toNat (mnI (x0.f16.length : Int) 10)) x0.f16).length) 140737488355328 && Nat.ble ((0 + (List.take (Int.toNat (mnI (x0.f16.length : Int) 10)) x0.f16).length) * 248) 140737488355328) (
     .leaf ({ x0 with f16 := (List.take (Int.toNat (mnI (x0.f16.length : Int) 10)) x0.f16) })) (
     .fail))) (
   .fail)
def g12 (x0 : S7) : Option (S7) := (g12T x0).get?
noncomputable def T12 : TL := []
noncomputable def q12 : Ab.Spec := frzR [[none, none, none, none, none, none, none, none, none, none, none, none, none, none, none, none, some 1]] (runQ0 e12 (lookT T12) Go.Proofs.Try.f12)
theorem q12_ok : SpecOk Go.Proofs.Try.prog 12 q12 := (runQ0_ok (runR_ok (e := e12) follows (allTI ti_ok _ _ _ _) (callsOk_nil) Go.Proofs.Try.func12 Go.Proofs.Try.call12) (fun c hc => by
  have hb : c = Go.Proofs.Try.f12.body.getD .skip := by rw [hc]; rfl
  subst hb
  exact tab_nil)).froze [[none, none, none, none, none, none, none, none, none, none, none, none, none, none, none, none, some 1]]
theorem g12_run (x0 : S7) : (q12 [.agg (Cod.enc 7 x0)] []).eval = (g12T x0).ev fun r => ((.agg (Cod.enc 7 r) : AV), ([] : List Blk)) := by kernel_rfl
noncomputable def s12_0 : Ab.Spec := fun args h =>
  dN h <| dL args fun v0 a0 => dG v0 fun l0 => dE 7 l0 fun x0 => dN a0 <|
  .opt (g12 x0) fun r => .val (.agg (Cod.enc 7 r), [])
theorem s12_0_ok : SpecOk Go.Proofs.Try.prog 12 s12_0 :=
  q12_ok.less fun args hs r h => by
    unfold s12_0 at h
    obtain ⟨rfl, hh1⟩ := dN_inv h
    obtain ⟨v0, a0, rfl, hh2⟩ := dL_inv hh1
    obtain ⟨l0, rfl, hh3⟩ := dG_inv hh2
    obtain ⟨x0, rfl, hh4⟩ := dE_inv hh3
    obtain ⟨rfl, hh5⟩ := dN_inv hh4
    rw [g12_run, Tr.ev_get?]
    change (Res.opt (g12 x0) _).eval = some r at hh5
    rw [eval_opt] at hh5
    obtain ⟨z, hz, hh6⟩ := Option.bind_eq_some_iff.mp hh5
    unfold g12 at hz
    rw [hz]; exact hh6
noncomputable def s12 : Ab.Spec := fun args h => s12_0 (coeA [[none, none, none, none, none, none, none, none, none, none, none, none, none, none, none, none, some 1]] args) h
theorem s12_ok : SpecOk Go.Proofs.Try.prog 12 s12 := s12_0_ok.pre [[none, none, none, none, none, none, none, none, none, none, none, none, none, none, none, none, some 1]]
/-- pontage/pontageref09.Copy -/
noncomputable def L36 : SL := []
noncomputable def e36 : Env := ⟨ti, fun g => lookS g L36, 1000000, [], []⟩
def g36T (x0 : S7) : Tr (S7) :=
  .br (x0.f16.isEmpty) (
   .leaf ({ x0 with f16 := [] })) (
   .br (Nat.ble (0 + x0.f16.length) 140737488355328 && Nat.ble ((0 + x0.f16.length) * 248) 140737488355328) (
    .leaf (x0)) (
    .fail))
def g36 (x0 : S7) : Option (S7) := (g36T x0).get?
noncomputable def T36 : TL := []
noncomputable def q36 : Ab.Spec := frsR [[none, none, none, none, none, none, none, none, none, none, none, none, none, none, none, none, some 1]] (runQ0 e36 (lookT T36) Go.Proofs.Try.f36)
theorem q36_ok : SpecOk Go.Proofs.Try.prog 36 q36 := (runQ0_ok (runR_ok (e := e36) follows (allTI ti_ok _ _ _ _) (callsOk_nil) Go.Proofs.Try.func36 Go.Proofs.Try.call36) (fun c hc => by
  have hb : c = Go.Proofs.Try.f36.body.getD .skip := by rw [hc]; rfl
  subst hb
  exact tab_nil)).fresh [[none, none, none, none, none, none, none, none, none, none, none, none, none, none, none, none, some 1]]
theorem g36_run (x0 : S7) : (q36 [.agg (Cod.enc 7 x0)] []).eval = (g36T x0).ev fun r => ((.agg ([.int .u64 r.f0, .int .u8 r.f1, .int .u8 r.f2, .int .u8 r.f3, .int .u8 r.f4, .int .u8 r.f5, .bool r.f6, .int .u16 r.f7, .int .u64 r.f8, .int .u32 r.f9, .int .u64 r.f10, .int .u16 r.f11, .int .u8 r.f12, .int .u8 r.f13, .int .u8 r.f14, .int .u8 r.f15, .slw 0]) : AV), ([.row 1 r.f16] : List Blk)) := by kernel_rfl
noncomputable def s36_0 : Ab.Spec := fun args h =>
  dN h <| dL args fun v0 a0 => dG v0 fun l0 => dE 7 l0 fun x0 => dN a0 <|
  .opt (g36 x0) fun r => .val (.agg ([.int .u64 r.f0, .int .u8 r.f1, .int .u8 r.f2, .int .u8 r.f3, .int .u8 r.f4, .int .u8 r.f5, .bool r.f6, .int .u16 r.f7, .int .u64 r.f8, .int .u32 r.f9, .int .u64 r.f10, .int .u16 r.f11, .int .u8 r.f12, .int .u8 r.f13, .int .u8 r.f14, .int .u8 r.f15, .slw 0]), [.row 1 r.f16])
theorem s36_0_ok : SpecOk Go.Proofs.Try.prog 36 s36_0 :=
  q36_ok.less fun args hs r h => by
    unfold s36_0 at h
    obtain ⟨rfl, hh1⟩ := dN_inv h
    obtain ⟨v0, a0, rfl, hh2⟩ := dL_inv hh1
    obtain ⟨l0, rfl, hh3⟩ := dG_inv hh2
    obtain ⟨x0, rfl, hh4⟩ := dE_inv hh3
    obtain ⟨rfl, hh5⟩ := dN_inv hh4
    rw [g36_run, Tr.ev_get?]
    change (Res.opt (g36 x0) _).eval = some r at hh5
    rw [eval_opt] at hh5
    obtain ⟨z, hz, hh6⟩ := Option.bind_eq_some_iff.mp hh5
    unfold g36 at hz
    rw [hz]; exact hh6
noncomputable def s36 : Ab.Spec := fun args h => s36_0 (coeA [[none, none, none, none, none, none, none, none, none, none, none, none, none, none, none, none, some 1]] args) h
theorem s36_ok : SpecOk Go.Proofs.Try.prog 36 s36 := s36_0_ok.pre [[none, none, none, none, none, none, none, none, none, none, none, none, none, none, none, none, some 1]]
/-- pontage/pontageref09.Has -/
noncomputable def L37 : SL := []
noncomputable def e37 : Env := ⟨ti, fun g => lookS g L37, 1000000, [], []⟩
def g37T (x0 : S7) (x1 : Int) : Tr (Bool) :=
  .leaf ((bif (decide (x1 ≥ 0)) then (decide (x1 < (x0.f16.length : Int))) else false))
def g37 (x0 : S7) (x1 : Int) : Bool := (g37T x0 x1).get default
noncomputable def T37 : TL := []
noncomputable def q37 : Ab.Spec := runQ0 e37 (lookT T37) Go.Proofs.Try.f37
theorem q37_ok : SpecOk Go.Proofs.Try.prog 37 q37 := (runQ0_ok (runR_ok (e := e37) follows (allTI ti_ok _ _ _ _) (callsOk_nil) Go.Proofs.Try.func37 Go.Proofs.Try.call37) (fun c hc => by
  have hb : c = Go.Proofs.Try.f37.body.getD .skip := by rw [hc]; rfl
  subst hb
  exact tab_nil))
theorem g37_run (x0 : S7) (x1 : Int) : (q37 [.agg (Cod.enc 7 x0), .c (.int .i64 x1)] []).eval = (g37T x0 x1).ev fun r => ((.c (.bool r) : AV), ([] : List Blk)) := by kernel_rfl
noncomputable def s37_0 : Ab.Spec := fun args h =>
  dN h <| dL args fun v0 a0 => dG v0 fun l0 => dE 7 l0 fun x0 => dL a0 fun v1 a1 => dC v1 fun c0 => dI .i64 c0 fun x1 => dN a1 <|
  let r := g37 x0 x1; .val (.c (.bool r), [])
theorem s37_0_ok : SpecOk Go.Proofs.Try.prog 37 s37_0 :=
  q37_ok.less fun args hs r h => by
    unfold s37_0 at h
    obtain ⟨rfl, hh1⟩ := dN_inv h
    obtain ⟨v0, a0, rfl, hh2⟩ := dL_inv hh1
    obtain ⟨l0, rfl, hh3⟩ := dG_inv hh2
    obtain ⟨x0, rfl, hh4⟩ := dE_inv hh3
    obtain ⟨v1, a1, rfl, hh5⟩ := dL_inv hh4
    obtain ⟨c0, rfl, hh6⟩ := dC_inv hh5
    obtain ⟨x1, rfl, hh7⟩ := dI_inv hh6
    obtain ⟨rfl, hh8⟩ := dN_inv hh7
    rw [g37_run, Tr.ev_get (d := default) (by kernel_rfl)]
    exact hh8
noncomputable def s37 : Ab.Spec := fun args h => s37_0 (coeA [[none, none, none, none, none, none, none, none, none, none, none, none, none, none, none, none, some 1], []] args) h
theorem s37_ok : SpecOk Go.Proofs.Try.prog 37 s37 := s37_0_ok.pre [[none, none, none, none, none, none, none, none, none, none, none, none, none, none, none, none, some 1], []]
/-- pontage/pontageref09.Up -/
noncomputable def L14 : SL := [(36, .byNew, s36), (37, .byVal, s37)]
noncomputable def e14 : Env := ⟨ti, fun g => lookS g L14, 1000000, [], []⟩
def g14T (x0 : S7) (x1 : Int) (x2 : Bool) : Tr (S7) :=
  .opt (g36 x0) fun z148 =>
   let z149 := g37 z148 x1
   .br z149 (
    .br (decide (0 ≤ x1) && decide (x1 < (z148.f16.length : Int))) (
     .opt (z148.f16[(Int.toNat x1)]?) fun y150 =>
      .leaf ({ z148 with f16 := (List.set z148.f16 (Int.toNat x1) { y150 with f2 := x2 }) })) (
     .fail)) (
    .leaf (z148))
def g14 (x0 : S7) (x1 : Int) (x2 : Bool) : Option (S7) := (g14T x0 x1 x2).get?
noncomputable def T14 : TL := []
noncomputable def q14 : Ab.Spec := frzR [[none, none, none, none, none, none, none, none, none, none, none, none, none, none, none, none, some 1]] (runQ0 e14 (lookT T14) Go.Proofs.Try.f14)
theorem q14_ok : SpecOk Go.Proofs.Try.prog 14 q14 := (runQ0_ok (runR_ok (e := e14) follows (allTI ti_ok _ _ _ _) (callsOk_cons s36_ok (callsOk_cons s37_ok (callsOk_nil))) Go.Proofs.Try.func14 Go.Proofs.Try.call14) (fun c hc => by
  have hb : c = Go.Proofs.Try.f14.body.getD .skip := by rw [hc]; rfl
  subst hb
  exact tab_nil)).froze [[none, none, none, none, none, none, none, none, none, none, none, none, none, none, none, none, some 1]]
theorem g14_run (x0 : S7) (x1 : Int) (x2 : Bool) : (q14 [.agg (Cod.enc 7 x0), .c (.int .i64 x1), .c (.bool x2)] []).eval = (g14T x0 x1 x2).ev fun r => ((.agg (Cod.enc 7 r) : AV), ([] : List Blk)) := by kernel_rfl
noncomputable def s14_0 : Ab.Spec := fun args h =>
  dN h <| dL args fun v0 a0 => dG v0 fun l0 => dE 7 l0 fun x0 => dL a0 fun v1 a1 => dC v1 fun c0 => dI .i64 c0 fun x1 => dL a1 fun v2 a2 => dC v2 fun c1 => dB c1 fun x2 => dN a2 <|
  .opt (g14 x0 x1 x2) fun r => .val (.agg (Cod.enc 7 r), [])
theorem s14_0_ok : SpecOk Go.Proofs.Try.prog 14 s14_0 :=
  q14_ok.less fun args hs r h => by
    unfold s14_0 at h
    obtain ⟨rfl, hh1⟩ := dN_inv h
    obtain ⟨v0, a0, rfl, hh2⟩ := dL_inv hh1
    obtain ⟨l0, rfl, hh3⟩ := dG_inv hh2
    obtain ⟨x0, rfl, hh4⟩ := dE_inv hh3
    obtain ⟨v1, a1, rfl, hh5⟩ := dL_inv hh4
    obtain ⟨c0, rfl, hh6⟩ := dC_inv hh5
    obtain ⟨x1, rfl, hh7⟩ := dI_inv hh6
    obtain ⟨v2, a2, rfl, hh8⟩ := dL_inv hh7
    obtain ⟨c1, rfl, hh9⟩ := dC_inv hh8
    obtain ⟨x2, rfl, hh10⟩ := dB_inv hh9
    obtain ⟨rfl, hh11⟩ := dN_inv hh10
    rw [g14_run, Tr.ev_get?]
    change (Res.opt (g14 x0 x1 x2) _).eval = some r at hh11
    rw [eval_opt] at hh11
    obtain ⟨z, hz, hh12⟩ := Option.bind_eq_some_iff.mp hh11
    unfold g14 at hz
    rw [hz]; exact hh12
noncomputable def s14 : Ab.Spec := fun args h => s14_0 (coeA [[none, none, none, none, none, none, none, none, none, none, none, none, none, none, none, none, some 1], [], []] args) h
theorem s14_ok : SpecOk Go.Proofs.Try.prog 14 s14 := s14_0_ok.pre [[none, none, none, none, none, none, none, none, none, none, none, none, none, none, none, none, some 1], [], []]
/-- pontage/pontageref09.less -/
noncomputable def L38 : SL := []
noncomputable def e38 : Env := ⟨ti, fun g => lookS g L38, 1000000, [], []⟩
def g38T (x0 : Int) : Tr (Int) :=
  .br (x0 == 0) (
   .leaf (0)) (
   .leaf ((IntKind.u8.wrap (x0 - 1))))
def g38 (x0 : Int) : Int := (g38T x0).get default
noncomputable def T38 : TL := []
noncomputable def q38 : Ab.Spec := runQ0 e38 (lookT T38) Go.Proofs.Try.f38
theorem q38_ok : SpecOk Go.Proofs.Try.prog 38 q38 := (runQ0_ok (runR_ok (e := e38) follows (allTI ti_ok _ _ _ _) (callsOk_nil) Go.Proofs.Try.func38 Go.Proofs.Try.call38) (fun c hc => by
  have hb : c = Go.Proofs.Try.f38.body.getD .skip := by rw [hc]; rfl
  subst hb
  exact tab_nil))
theorem g38_run (x0 : Int) : (q38 [.c (.int .u8 x0)] []).eval = (g38T x0).ev fun r => ((.c (.int .u8 r) : AV), ([] : List Blk)) := by kernel_rfl
noncomputable def s38 : Ab.Spec := fun args h =>
  dN h <| dL args fun v0 a0 => dC v0 fun c0 => dI .u8 c0 fun x0 => dN a0 <|
  let r := g38 x0; .val (.c (.int .u8 r), [])
theorem s38_ok : SpecOk Go.Proofs.Try.prog 38 s38 :=
  q38_ok.less fun args hs r h => by
    unfold s38 at h
    obtain ⟨rfl, hh1⟩ := dN_inv h
    obtain ⟨v0, a0, rfl, hh2⟩ := dL_inv hh1
    obtain ⟨c0, rfl, hh3⟩ := dC_inv hh2
    obtain ⟨x0, rfl, hh4⟩ := dI_inv hh3
    obtain ⟨rfl, hh5⟩ := dN_inv hh4
    rw [g38_run, Tr.ev_get (d := default) (by kernel_rfl)]
    exact hh5
/-- pontage/pontageref09.Tick -/
noncomputable def L16 : SL := [(36, .byNew, s36), (38, .byVal, s38)]
noncomputable def e16 : Env := ⟨ti, fun g => lookS g L16, 1000000, [.drop 0, .drop 5, .drop 6], []⟩
structure W16_0 where
  a0 : Int
  a1 : Int
  a2 : Int
  a3 : Int
  a4 : Int
  a5 : Int
  a6 : Int
  a7 : Bool
  a8 : Int
  a9 : Int
  a10 : Int
  a11 : Int
  a12 : Int
  a13 : Int
  a14 : Int
  a15 : Int
  a16 : Int
  a17 : Int
  a18 : Int
  a19 : Int
  a20 : Int
  a21 : Int
  a22 : Int
  a23 : Bool
  a24 : Int
  a25 : Int
  a26 : Int
  a27 : Int
  a28 : Int
  a29 : Int
  a30 : Int
  a31 : Int
  a32 : Int
  a33 : List S1
def hd16_0 (v : W16_0) : St := ⟨[.top, .c (.ptr 0 0), .c (.ptr 1 0), .c (.int .i64 v.a0), .top, .top, .top, .top, .top, .top, .top, .top, .top, .top, .top, .top, .top, .top, .top, .top, .top, .top, .top, .top, .top, .top, .top, .top, .top, .top, .top, .top, .top, .top, .top, .top, .top, .top, .top, .top, .top, .top, .top, .top, .top, .top, .top, .top, .top, .top, .top, .top, .top, .top, .top, .top, .top], [.cells [.int .u64 v.a1, .int .u8 v.a2, .int .u8 v.a3, .int .u8 v.a4, .int .u8 v.a5, .int .u8 v.a6, .bool v.a7, .int .u16 v.a8, .int .u64 v.a9, .int .u32 v.a10, .int .u64 v.a11, .int .u16 v.a12, .int .u8 v.a13, .int .u8 v.a14, .int .u8 v.a15, .int .u8 v.a16, .slw 2], .cells [.int .u64 v.a17, .int .u8 v.a18, .int .u8 v.a19, .int .u8 v.a20, .int .u8 v.a21, .int .u8 v.a22, .bool v.a23, .int .u16 v.a24, .int .u64 v.a25, .int .u32 v.a26, .int .u64 v.a27, .int .u16 v.a28, .int .u8 v.a29, .int .u8 v.a30, .int .u8 v.a31, .int .u8 v.a32, .nils], .row 1 v.a33]⟩
def gR16_0 (v : W16_0) : Tr (W16_0 ⊕ (Bool × W16_0)) :=
  .br (decide (v.a0 < (v.a33.length : Int))) (
   .br (decide (0 ≤ v.a0) && decide (v.a0 < (v.a33.length : Int))) (
    .opt (v.a33[(Int.toNat v.a0)]?) fun y152 =>
     let z153 := g38 y152.f65
     let z154 := g38 y152.f66
     let z155 := g38 y152.f67
     let z156 := g38 y152.f68
     let z157 := g38 y152.f69
     let z158 := g38 y152.f70
     let z159 := g38 y152.f71
     let z160 := g38 y152.f64
     .br (decide (0 ≤ v.a0) && decide (v.a0 < (v.a33.length : Int))) (
      .opt (v.a33[(Int.toNat v.a0)]?) fun y161 =>
       .leaf (.inl ({ v with a0 := (IntKind.i64.wrap (v.a0 + 1)), a33 := (List.set v.a33 (Int.toNat v.a0) { y152 with f64 := z160, f65 := z153, f66 := z154, f67 := z155, f68 := z156, f69 := z157, f70 := z158, f71 := z159 }) }))) (
      .fail)) (
    .fail)) (
   .leaf (.inr (false, v)))
noncomputable def lb16_0 : Code := match findB 0 (Go.Proofs.Try.f16.body.getD .skip) with | [.loop b] => b | _ => .skip
def pa16_0 : List PA := [.any, .c (.ptr 0 0), .c (.ptr 1 0), .c (.int .i64), .top, .any, .any, .top, .top, .top, .top, .top, .top, .top, .top, .top, .top, .top, .top, .top, .top, .top, .top, .top, .top, .top, .top, .top, .top, .top, .top, .top, .top, .top, .top, .top, .top, .top, .top, .top, .top, .top, .top, .top, .top, .top, .top, .top, .top, .top, .top, .top, .top, .top, .top, .top, .top]
def pb16_0 : List PB := [.cells [.int .u64, .int .u8, .int .u8, .int .u8, .int .u8, .int .u8, .bool, .int .u16, .int .u64, .int .u32, .int .u64, .int .u16, .int .u8, .int .u8, .int .u8, .int .u8, .slw 2], .cells [.int .u64, .int .u8, .int .u8, .int .u8, .int .u8, .int .u8, .bool, .int .u16, .int .u64, .int .u32, .int .u64, .int .u16, .int .u8, .int .u8, .int .u8, .int .u8, .nils], .row 1]
def ini16_0 (s : St) : W16_0 := ⟨iC (aC (s.tmps.getD 3 .top)), iC ((bL (s.heap.getD 0 .dead)).getD 0 .top), iC ((bL (s.heap.getD 0 .dead)).getD 1 .top), iC ((bL (s.heap.getD 0 .dead)).getD 2 .top), iC ((bL (s.heap.getD 0 .dead)).getD 3 .top), iC ((bL (s.heap.getD 0 .dead)).getD 4 .top), iC ((bL (s.heap.getD 0 .dead)).getD 5 .top), bC ((bL (s.heap.getD 0 .dead)).getD 6 .top), iC ((bL (s.heap.getD 0 .dead)).getD 7 .top), iC ((bL (s.heap.getD 0 .dead)).getD 8 .top), iC ((bL (s.heap.getD 0 .dead)).getD 9 .top), iC ((bL (s.heap.getD 0 .dead)).getD 10 .top), iC ((bL (s.heap.getD 0 .dead)).getD 11 .top), iC ((bL (s.heap.getD 0 .dead)).getD 12 .top), iC ((bL (s.heap.getD 0 .dead)).getD 13 .top), iC ((bL (s.heap.getD 0 .dead)).getD 14 .top), iC ((bL (s.heap.getD 0 .dead)).getD 15 .top), iC ((bL (s.heap.getD 1 .dead)).getD 0 .top), iC ((bL (s.heap.getD 1 .dead)).getD 1 .top), iC ((bL (s.heap.getD 1 .dead)).getD 2 .top), iC ((bL (s.heap.getD 1 .dead)).getD 3 .top), iC ((bL (s.heap.getD 1 .dead)).getD 4 .top), iC ((bL (s.heap.getD 1 .dead)).getD 5 .top), bC ((bL (s.heap.getD 1 .dead)).getD 6 .top), iC ((bL (s.heap.getD 1 .dead)).getD 7 .top), iC ((bL (s.heap.getD 1 .dead)).getD 8 .top), iC ((bL (s.heap.getD 1 .dead)).getD 9 .top), iC ((bL (s.heap.getD 1 .dead)).getD 10 .top), iC ((bL (s.heap.getD 1 .dead)).getD 11 .top), iC ((bL (s.heap.getD 1 .dead)).getD 12 .top), iC ((bL (s.heap.getD 1 .dead)).getD 13 .top), iC ((bL (s.heap.getD 1 .dead)).getD 14 .top), iC ((bL (s.heap.getD 1 .dead)).getD 15 .top), bR 1 (s.heap.getD 2 .dead)⟩
noncomputable def F16_0 : St → Res (Ex × St) := loopF pa16_0 pb16_0 1000000 hd16_0 gR16_0 ini16_0 false
theorem F16_0_ok (s : St) (r : Ex × St) (h : (F16_0 s).eval = some r) : (codeR e16 0 (.block 0 (.loop lb16_0)) s).eval = some r :=
  blk_ok (e := e16) (T := lookT []) (fun s v => by kernel_rfl) (fun s => by kernel_rfl) (tab_nil) s r h
def g16T (x0 : S7) : Tr (S7) :=
  .opt (g36 x0) fun z151 =>
   .opt (iter gR16_0 1000000 (W16_0.mk (0) (z151.f0) (z151.f1) (z151.f2) (z151.f3) (z151.f4) (z151.f5) (z151.f6) (z151.f7) (z151.f8) (z151.f9) (z151.f10) (z151.f11) (z151.f12) (z151.f13) (z151.f14) (z151.f15) (0) (0) (0) (0) (0) (0) (false) (0) (0) (0) (0) (0) (0) (0) (0) (0) (z151.f16))) fun r162 =>
    .br r162.1 (
     .fail) (
     .leaf ((S7.mk r162.2.a1 r162.2.a2 r162.2.a3 r162.2.a4 r162.2.a5 r162.2.a6 r162.2.a7 r162.2.a8 r162.2.a9 r162.2.a10 r162.2.a11 r162.2.a12 r162.2.a13 r162.2.a14 r162.2.a15 r162.2.a16 r162.2.a33)))
def g16 (x0 : S7) : Option (S7) := (g16T x0).get?
noncomputable def T16 : TL := [(0, F16_0)]
noncomputable def q16 : Ab.Spec := frzR [[none, none, none, none, none, none, none, none, none, none, none, none, none, none, none, none, some 1]] (runQ0 e16 (lookT T16) Go.Proofs.Try.f16)
theorem q16_ok : SpecOk Go.Proofs.Try.prog 16 q16 := (runQ0_ok (runR_ok (e := e16) follows (allTI ti_ok _ _ _ _) (callsOk_cons s36_ok (callsOk_cons s38_ok (callsOk_nil))) Go.Proofs.Try.func16 Go.Proofs.Try.call16) (fun c hc => by
  have hb : c = Go.Proofs.Try.f16.body.getD .skip := by rw [hc]; rfl
  subst hb
  exact tab_cons (by kernel_rfl) F16_0_ok (tab_nil))).froze [[none, none, none, none, none, none, none, none, none, none, none, none, none, none, none, none, some 1]]
theorem g16_run (x0 : S7) : (q16 [.agg (Cod.enc 7 x0)] []).eval = (g16T x0).ev fun r => ((.agg (Cod.enc 7 r) : AV), ([] : List Blk)) := by kernel_rfl
noncomputable def s16_0 : Ab.Spec := fun args h =>
  dN h <| dL args fun v0 a0 => dG v0 fun l0 => dE 7 l0 fun x0 => dN a0 <|
  .opt (g16 x0) fun r => .val (.agg (Cod.enc 7 r), [])
theorem s16_0_ok : SpecOk Go.Proofs.Try.prog 16 s16_0 :=
  q16_ok.less fun args hs r h => by
    unfold s16_0 at h
    obtain ⟨rfl, hh1⟩ := dN_inv h
    obtain ⟨v0, a0, rfl, hh2⟩ := dL_inv hh1
    obtain ⟨l0, rfl, hh3⟩ := dG_inv hh2
    obtain ⟨x0, rfl, hh4⟩ := dE_inv hh3
    obtain ⟨rfl, hh5⟩ := dN_inv hh4
    rw [g16_run, Tr.ev_get?]
    change (Res.opt (g16 x0) _).eval = some r at hh5
    rw [eval_opt] at hh5
    obtain ⟨z, hz, hh6⟩ := Option.bind_eq_some_iff.mp hh5
    unfold g16 at hz
    rw [hz]; exact hh6
noncomputable def s16 : Ab.Spec := fun args h => s16_0 (coeA [[none, none, none, none, none, none, none, none, none, none, none, none, none, none, none, none, some 1]] args) h
theorem s16_ok : SpecOk Go.Proofs.Try.prog 16 s16 := s16_0_ok.pre [[none, none, none, none, none, none, none, none, none, none, none, none, none, none, none, none, some 1]]
/-- pontage/pontageref09.SyncAll -/
noncomputable def L19 : SL := [(36, .byNew, s36)]
noncomputable def e19 : Env := ⟨ti, fun g => lookS g L19, 1000000, [.drop 0, .drop 4, .drop 5], []⟩
structure W19_0 where
  a0 : Int
  a1 : Int
  a2 : Int
  a3 : Int
  a4 : Int
  a5 : Int
  a6 : Int
  a7 : Bool
  a8 : Int
  a9 : Int
  a10 : Int
  a11 : Int
  a12 : Int
  a13 : Int
  a14 : Int
  a15 : Int
  a16 : Int
  a17 : Int
  a18 : Int
  a19 : Int
  a20 : Int
  a21 : Int
  a22 : Int
  a23 : Bool
  a24 : Int
  a25 : Int
  a26 : Int
  a27 : Int
  a28 : Int
  a29 : Int
  a30 : Int
  a31 : Int
  a32 : Int
  a33 : List S1
def hd19_0 (v : W19_0) : St := ⟨[.top, .c (.ptr 0 0), .c (.ptr 1 0), .c (.int .i64 v.a0), .top, .top, .top, .top, .top, .top, .top, .top, .top, .top, .top, .top, .top, .top, .top], [.cells [.int .u64 v.a1, .int .u8 v.a2, .int .u8 v.a3, .int .u8 v.a4, .int .u8 v.a5, .int .u8 v.a6, .bool v.a7, .int .u16 v.a8, .int .u64 v.a9, .int .u32 v.a10, .int .u64 v.a11, .int .u16 v.a12, .int .u8 v.a13, .int .u8 v.a14, .int .u8 v.a15, .int .u8 v.a16, .slw 2], .cells [.int .u64 v.a17, .int .u8 v.a18, .int .u8 v.a19, .int .u8 v.a20, .int .u8 v.a21, .int .u8 v.a22, .bool v.a23, .int .u16 v.a24, .int .u64 v.a25, .int .u32 v.a26, .int .u64 v.a27, .int .u16 v.a28, .int .u8 v.a29, .int .u8 v.a30, .int .u8 v.a31, .int .u8 v.a32, .nils], .row 1 v.a33]⟩
def gR19_0 (v : W19_0) : Tr (W19_0 ⊕ (Bool × W19_0)) :=
  .br (decide (v.a0 < (v.a33.length : Int))) (
   .br (decide (0 ≤ v.a0) && decide (v.a0 < (v.a33.length : Int))) (
    .opt (v.a33[(Int.toNat v.a0)]?) fun y164 =>
     .leaf (.inl ({ v with a0 := (IntKind.i64.wrap (v.a0 + 1)), a33 := (List.set v.a33 (Int.toNat v.a0) { y164 with f24 := true }) }))) (
    .fail)) (
   .leaf (.inr (false, v)))
noncomputable def lb19_0 : Code := match findB 0 (Go.Proofs.Try.f19.body.getD .skip) with | [.loop b] => b | _ => .skip
def pa19_0 : List PA := [.any, .c (.ptr 0 0), .c (.ptr 1 0), .c (.int .i64), .any, .any, .top, .top, .top, .top, .top, .top, .top, .top, .top, .top, .top, .top, .top]
def pb19_0 : List PB := [.cells [.int .u64, .int .u8, .int .u8, .int .u8, .int .u8, .int .u8, .bool, .int .u16, .int .u64, .int .u32, .int .u64, .int .u16, .int .u8, .int .u8, .int .u8, .int .u8, .slw 2], .cells [.int .u64, .int .u8, .int .u8, .int .u8, .int .u8, .int .u8, .bool, .int .u16, .int .u64, .int .u32, .int .u64, .int .u16, .int .u8, .int .u8, .int .u8, .int .u8, .nils], .row 1]
def ini19_0 (s : St) : W19_0 := ⟨iC (aC (s.tmps.getD 3 .top)), iC ((bL (s.heap.getD 0 .dead)).getD 0 .top), iC ((bL (s.heap.getD 0 .dead)).getD 1 .top), iC ((bL (s.heap.getD 0 .dead)).getD 2 .top), iC ((bL (s.heap.getD 0 .dead)).getD 3 .top), iC ((bL (s.heap.getD 0 .dead)).getD 4 .top), iC ((bL (s.heap.getD 0 .dead)).getD 5 .top), bC ((bL (s.heap.getD 0 .dead)).getD 6 .top), iC ((bL (s.heap.getD 0 .dead)).getD 7 .top), iC ((bL (s.heap.getD 0 .dead)).getD 8 .top), iC ((bL (s.heap.getD 0 .dead)).getD 9 .top), iC ((bL (s.heap.getD 0 .dead)).getD 10 .top), iC ((bL (s.heap.getD 0 .dead)).getD 11 .top), iC ((bL (s.heap.getD 0 .dead)).getD 12 .top), iC ((bL (s.heap.getD 0 .dead)).getD 13 .top), iC ((bL (s.heap.getD 0 .dead)).getD 14 .top), iC ((bL (s.heap.getD 0 .dead)).getD 15 .top), iC ((bL (s.heap.getD 1 .dead)).getD 0 .top), iC ((bL (s.heap.getD 1 .dead)).getD 1 .top), iC ((bL (s.heap.getD 1 .dead)).getD 2 .top), iC ((bL (s.heap.getD 1 .dead)).getD 3 .top), iC ((bL (s.heap.getD 1 .dead)).getD 4 .top), iC ((bL (s.heap.getD 1 .dead)).getD 5 .top), bC ((bL (s.heap.getD 1 .dead)).getD 6 .top), iC ((bL (s.heap.getD 1 .dead)).getD 7 .top), iC ((bL (s.heap.getD 1 .dead)).getD 8 .top), iC ((bL (s.heap.getD 1 .dead)).getD 9 .top), iC ((bL (s.heap.getD 1 .dead)).getD 10 .top), iC ((bL (s.heap.getD 1 .dead)).getD 11 .top), iC ((bL (s.heap.getD 1 .dead)).getD 12 .top), iC ((bL (s.heap.getD 1 .dead)).getD 13 .top), iC ((bL (s.heap.getD 1 .dead)).getD 14 .top), iC ((bL (s.heap.getD 1 .dead)).getD 15 .top), bR 1 (s.heap.getD 2 .dead)⟩
noncomputable def F19_0 : St → Res (Ex × St) := loopF pa19_0 pb19_0 1000000 hd19_0 gR19_0 ini19_0 false
theorem F19_0_ok (s : St) (r : Ex × St) (h : (F19_0 s).eval = some r) : (codeR e19 0 (.block 0 (.loop lb19_0)) s).eval = some r :=
  blk_ok (e := e19) (T := lookT []) (fun s v => by kernel_rfl) (fun s => by kernel_rfl) (tab_nil) s r h
def g19T (x0 : S7) : Tr (S7) :=
  .opt (g36 x0) fun z163 =>
   .opt (iter gR19_0 1000000 (W19_0.mk (0) (z163.f0) (z163.f1) (z163.f2) (z163.f3) (z163.f4) (z163.f5) (z163.f6) (z163.f7) (z163.f8) (z163.f9) (z163.f10) (z163.f11) (z163.f12) (z163.f13) (z163.f14) (z163.f15) (0) (0) (0) (0) (0) (0) (false) (0) (0) (0) (0) (0) (0) (0) (0) (0) (z163.f16))) fun r165 =>
    .br r165.1 (
     .fail) (
     .leaf ((S7.mk r165.2.a1 r165.2.a2 r165.2.a3 r165.2.a4 r165.2.a5 r165.2.a6 r165.2.a7 r165.2.a8 r165.2.a9 r165.2.a10 r165.2.a11 r165.2.a12 r165.2.a13 r165.2.a14 r165.2.a15 r165.2.a16 r165.2.a33)))
def g19 (x0 : S7) : Option (S7) := (g19T x0).get?
noncomputable def T19 : TL := [(0, F19_0)]
noncomputable def q19 : Ab.Spec := frzR [[none, none, none, none, none, none, none, none, none, none, none, none, none, none, none, none, some 1]] (runQ0 e19 (lookT T19) Go.Proofs.Try.f19)
theorem q19_ok : SpecOk Go.Proofs.Try.prog 19 q19 := (runQ0_ok (runR_ok (e := e19) follows (allTI ti_ok _ _ _ _) (callsOk_cons s36_ok (callsOk_nil)) Go.Proofs.Try.func19 Go.Proofs.Try.call19) (fun c hc => by
  have hb : c = Go.Proofs.Try.f19.body.getD .skip := by rw [hc]; rfl
  subst hb
  exact tab_cons (by kernel_rfl) F19_0_ok (tab_nil))).froze [[none, none, none, none, none, none, none, none, none, none, none, none, none, none, none, none, some 1]]
theorem g19_run (x0 : S7) : (q19 [.agg (Cod.enc 7 x0)] []).eval = (g19T x0).ev fun r => ((.agg (Cod.enc 7 r) : AV), ([] : List Blk)) := by kernel_rfl
noncomputable def s19_0 : Ab.Spec := fun args h =>
  dN h <| dL args fun v0 a0 => dG v0 fun l0 => dE 7 l0 fun x0 => dN a0 <|
  .opt (g19 x0) fun r => .val (.agg (Cod.enc 7 r), [])
theorem s19_0_ok : SpecOk Go.Proofs.Try.prog 19 s19_0 :=
  q19_ok.less fun args hs r h => by
    unfold s19_0 at h
    obtain ⟨rfl, hh1⟩ := dN_inv h
    obtain ⟨v0, a0, rfl, hh2⟩ := dL_inv hh1
    obtain ⟨l0, rfl, hh3⟩ := dG_inv hh2
    obtain ⟨x0, rfl, hh4⟩ := dE_inv hh3
    obtain ⟨rfl, hh5⟩ := dN_inv hh4
    rw [g19_run, Tr.ev_get?]
    change (Res.opt (g19 x0) _).eval = some r at hh5
    rw [eval_opt] at hh5
    obtain ⟨z, hz, hh6⟩ := Option.bind_eq_some_iff.mp hh5
    unfold g19 at hz
    rw [hz]; exact hh6
noncomputable def s19 : Ab.Spec := fun args h => s19_0 (coeA [[none, none, none, none, none, none, none, none, none, none, none, none, none, none, none, none, some 1]] args) h
theorem s19_ok : SpecOk Go.Proofs.Try.prog 19 s19 := s19_0_ok.pre [[none, none, none, none, none, none, none, none, none, none, none, none, none, none, none, none, some 1]]
/-- pontage/pontageref09.ReRootAll -/
noncomputable def L21 : SL := [(36, .byNew, s36)]
noncomputable def e21 : Env := ⟨ti, fun g => lookS g L21, 1000000, [.drop 0, .drop 4, .drop 5], []⟩
structure W21_0 where
  a0 : Int
  a1 : Int
  a2 : Int
  a3 : Int
  a4 : Int
  a5 : Int
  a6 : Int
  a7 : Bool
  a8 : Int
  a9 : Int
  a10 : Int
  a11 : Int
  a12 : Int
  a13 : Int
  a14 : Int
  a15 : Int
  a16 : Int
  a17 : Int
  a18 : Int
  a19 : Int
  a20 : Int
  a21 : Int
  a22 : Int
  a23 : Bool
  a24 : Int
  a25 : Int
  a26 : Int
  a27 : Int
  a28 : Int
  a29 : Int
  a30 : Int
  a31 : Int
  a32 : Int
  a33 : List S1
def hd21_0 (v : W21_0) : St := ⟨[.top, .c (.ptr 0 0), .c (.ptr 1 0), .c (.int .i64 v.a0), .top, .top, .top, .top, .top, .top, .top, .top, .top, .top, .top, .top, .top, .top, .top], [.cells [.int .u64 v.a1, .int .u8 v.a2, .int .u8 v.a3, .int .u8 v.a4, .int .u8 v.a5, .int .u8 v.a6, .bool v.a7, .int .u16 v.a8, .int .u64 v.a9, .int .u32 v.a10, .int .u64 v.a11, .int .u16 v.a12, .int .u8 v.a13, .int .u8 v.a14, .int .u8 v.a15, .int .u8 v.a16, .slw 2], .cells [.int .u64 v.a17, .int .u8 v.a18, .int .u8 v.a19, .int .u8 v.a20, .int .u8 v.a21, .int .u8 v.a22, .bool v.a23, .int .u16 v.a24, .int .u64 v.a25, .int .u32 v.a26, .int .u64 v.a27, .int .u16 v.a28, .int .u8 v.a29, .int .u8 v.a30, .int .u8 v.a31, .int .u8 v.a32, .nils], .row 1 v.a33]⟩
def gR21_0 (v : W21_0) : Tr (W21_0 ⊕ (Bool × W21_0)) :=
  .br (decide (v.a0 < (v.a33.length : Int))) (
   .br (decide (0 ≤ v.a0) && decide (v.a0 < (v.a33.length : Int))) (
    .opt (v.a33[(Int.toNat v.a0)]?) fun y167 =>
     .leaf (.inl ({ v with a0 := (IntKind.i64.wrap (v.a0 + 1)), a33 := (List.set v.a33 (Int.toNat v.a0) { y167 with f20 := true }) }))) (
    .fail)) (
   .leaf (.inr (false, v)))
noncomputable def lb21_0 : Code := match findB 0 (Go.Proofs.Try.f21.body.getD .skip) with | [.loop b] => b | _ => .skip
def pa21_0 : List PA := [.any, .c (.ptr 0 0), .c (.ptr 1 0), .c (.int .i64), .any, .any, .top, .top, .top, .top, .top, .top, .top, .top, .top, .top, .top, .top, .top]
def pb21_0 : List PB := [.cells [.int .u64, .int .u8, .int .u8, .int .u8, .int .u8, .int .u8, .bool, .int .u16, .int .u64, .int .u32, .int .u64, .int .u16, .int .u8, .int .u8, .int .u8, .int .u8, .slw 2], .cells [.int .u64, .int .u8, .int .u8, .int .u8, .int .u8, .int .u8, .bool, .int .u16, .int .u64, .int .u32, .int .u64, .int .u16, .int .u8, .int .u8, .int .u8, .int .u8, .nils], .row 1]
def ini21_0 (s : St) : W21_0 := ⟨iC (aC (s.tmps.getD 3 .top)), iC ((bL (s.heap.getD 0 .dead)).getD 0 .top), iC ((bL (s.heap.getD 0 .dead)).getD 1 .top), iC ((bL (s.heap.getD 0 .dead)).getD 2 .top), iC ((bL (s.heap.getD 0 .dead)).getD 3 .top), iC ((bL (s.heap.getD 0 .dead)).getD 4 .top), iC ((bL (s.heap.getD 0 .dead)).getD 5 .top), bC ((bL (s.heap.getD 0 .dead)).getD 6 .top), iC ((bL (s.heap.getD 0 .dead)).getD 7 .top), iC ((bL (s.heap.getD 0 .dead)).getD 8 .top), iC ((bL (s.heap.getD 0 .dead)).getD 9 .top), iC ((bL (s.heap.getD 0 .dead)).getD 10 .top), iC ((bL (s.heap.getD 0 .dead)).getD 11 .top), iC ((bL (s.heap.getD 0 .dead)).getD 12 .top), iC ((bL (s.heap.getD 0 .dead)).getD 13 .top), iC ((bL (s.heap.getD 0 .dead)).getD 14 .top), iC ((bL (s.heap.getD 0 .dead)).getD 15 .top), iC ((bL (s.heap.getD 1 .dead)).getD 0 .top), iC ((bL (s.heap.getD 1 .dead)).getD 1 .top), iC ((bL (s.heap.getD 1 .dead)).getD 2 .top), iC ((bL (s.heap.getD 1 .dead)).getD 3 .top), iC ((bL (s.heap.getD 1 .dead)).getD 4 .top), iC ((bL (s.heap.getD 1 .dead)).getD 5 .top), bC ((bL (s.heap.getD 1 .dead)).getD 6 .top), iC ((bL (s.heap.getD 1 .dead)).getD 7 .top), iC ((bL (s.heap.getD 1 .dead)).getD 8 .top), iC ((bL (s.heap.getD 1 .dead)).getD 9 .top), iC ((bL (s.heap.getD 1 .dead)).getD 10 .top), iC ((bL (s.heap.getD 1 .dead)).getD 11 .top), iC ((bL (s.heap.getD 1 .dead)).getD 12 .top), iC ((bL (s.heap.getD 1 .dead)).getD 13 .top), iC ((bL (s.heap.getD 1 .dead)).getD 14 .top), iC ((bL (s.heap.getD 1 .dead)).getD 15 .top), bR 1 (s.heap.getD 2 .dead)⟩
noncomputable def F21_0 : St → Res (Ex × St) := loopF pa21_0 pb21_0 1000000 hd21_0 gR21_0 ini21_0 false
theorem F21_0_ok (s : St) (r : Ex × St) (h : (F21_0 s).eval = some r) : (codeR e21 0 (.block 0 (.loop lb21_0)) s).eval = some r :=
  blk_ok (e := e21) (T := lookT []) (fun s v => by kernel_rfl) (fun s => by kernel_rfl) (tab_nil) s r h
def g21T (x0 : S7) : Tr (S7) :=
  .opt (g36 x0) fun z166 =>
   .opt (iter gR21_0 1000000 (W21_0.mk (0) (z166.f0) (z166.f1) (z166.f2) (z166.f3) (z166.f4) (z166.f5) (z166.f6) (z166.f7) (z166.f8) (z166.f9) (z166.f10) (z166.f11) (z166.f12) (z166.f13) (z166.f14) (z166.f15) (0) (0) (0) (0) (0) (0) (false) (0) (0) (0) (0) (0) (0) (0) (0) (0) (z166.f16))) fun r168 =>
    .br r168.1 (
     .fail) (
     .leaf ((S7.mk r168.2.a1 r168.2.a2 r168.2.a3 r168.2.a4 r168.2.a5 r168.2.a6 r168.2.a7 r168.2.a8 r168.2.a9 r168.2.a10 r168.2.a11 r168.2.a12 r168.2.a13 r168.2.a14 r168.2.a15 r168.2.a16 r168.2.a33)))
def g21 (x0 : S7) : Option (S7) := (g21T x0).get?
noncomputable def T21 : TL := [(0, F21_0)]
noncomputable def q21 : Ab.Spec := frzR [[none, none, none, none, none, none, none, none, none, none, none, none, none, none, none, none, some 1]] (runQ0 e21 (lookT T21) Go.Proofs.Try.f21)
theorem q21_ok : SpecOk Go.Proofs.Try.prog 21 q21 := (runQ0_ok (runR_ok (e := e21) follows (allTI ti_ok _ _ _ _) (callsOk_cons s36_ok (callsOk_nil)) Go.Proofs.Try.func21 Go.Proofs.Try.call21) (fun c hc => by
  have hb : c = Go.Proofs.Try.f21.body.getD .skip := by rw [hc]; rfl
  subst hb
  exact tab_cons (by kernel_rfl) F21_0_ok (tab_nil))).froze [[none, none, none, none, none, none, none, none, none, none, none, none, none, none, none, none, some 1]]
theorem g21_run (x0 : S7) : (q21 [.agg (Cod.enc 7 x0)] []).eval = (g21T x0).ev fun r => ((.agg (Cod.enc 7 r) : AV), ([] : List Blk)) := by kernel_rfl
noncomputable def s21_0 : Ab.Spec := fun args h =>
  dN h <| dL args fun v0 a0 => dG v0 fun l0 => dE 7 l0 fun x0 => dN a0 <|
  .opt (g21 x0) fun r => .val (.agg (Cod.enc 7 r), [])
theorem s21_0_ok : SpecOk Go.Proofs.Try.prog 21 s21_0 :=
  q21_ok.less fun args hs r h => by
    unfold s21_0 at h
    obtain ⟨rfl, hh1⟩ := dN_inv h
    obtain ⟨v0, a0, rfl, hh2⟩ := dL_inv hh1
    obtain ⟨l0, rfl, hh3⟩ := dG_inv hh2
    obtain ⟨x0, rfl, hh4⟩ := dE_inv hh3
    obtain ⟨rfl, hh5⟩ := dN_inv hh4
    rw [g21_run, Tr.ev_get?]
    change (Res.opt (g21 x0) _).eval = some r at hh5
    rw [eval_opt] at hh5
    obtain ⟨z, hz, hh6⟩ := Option.bind_eq_some_iff.mp hh5
    unfold g21 at hz
    rw [hz]; exact hh6
noncomputable def s21 : Ab.Spec := fun args h => s21_0 (coeA [[none, none, none, none, none, none, none, none, none, none, none, none, none, none, none, none, some 1]] args) h
theorem s21_ok : SpecOk Go.Proofs.Try.prog 21 s21 := s21_0_ok.pre [[none, none, none, none, none, none, none, none, none, none, none, none, none, none, none, none, some 1]]
/-- pontage/pontagelaw09.RvarTurns -/
noncomputable def L4 : SL := [(12, .byNew, s12), (13, .byNew, s13), (14, .byNew, s14), (9, .byVal, s9), (15, .byNew, s15), (16, .byNew, s16), (17, .byNew, s17), (18, .byNew, s18), (19, .byNew, s19), (20, .byNew, s20), (21, .byNew, s21), (11, .byVal, s11)]
noncomputable def e4 : Env := ⟨ti, fun g => lookS g L4, 1000000, [], []⟩
def g4T (x0 : S7) (x1 : Int) (x2 : Bool) : Tr (Bool) :=
  .opt (g12 x0) fun z169 =>
   .opt (g13 z169 x1 x2) fun z170 =>
    .opt (g14 z169 x1 x2) fun z171 =>
     .opt (g9 z170 z171) fun z172 =>
      .br z172 (
       .opt (g15 z169) fun z173 =>
        .opt (g16 z169) fun z174 =>
         .opt (g9 z173 z174) fun z175 =>
          .br z175 (
           .opt (g17 z169) fun z176 =>
            .opt (g9 z176 z169) fun z177 =>
             .br z177 (
              .opt (g18 z169) fun z178 =>
               .opt (g19 z169) fun z179 =>
                .opt (g9 z178 z179) fun z180 =>
                 .br z180 (
                  .opt (g20 z169) fun z181 =>
                   .opt (g21 z169) fun z182 =>
                    .opt (g9 z181 z182) fun z183 =>
                     .br z183 (
                      .opt (g11 ) fun z185 =>
                       .leaf (z185)) (
                      .leaf (false))) (
                  .leaf (false))) (
              .leaf (false))) (
           .leaf (false))) (
       .leaf (false))
def g4 (x0 : S7) (x1 : Int) (x2 : Bool) : Option (Bool) := (g4T x0 x1 x2).get?
noncomputable def T4 : TL := []
noncomputable def q4 : Ab.Spec := runQ0 e4 (lookT T4) Go.Proofs.Try.f4
theorem q4_ok : SpecOk Go.Proofs.Try.prog 4 q4 := (runQ0_ok (runR_ok (e := e4) follows (allTI ti_ok _ _ _ _) (callsOk_cons s12_ok (callsOk_cons s13_ok (callsOk_cons s14_ok (callsOk_cons s9_ok (callsOk_cons s15_ok (callsOk_cons s16_ok (callsOk_cons s17_ok (callsOk_cons s18_ok (callsOk_cons s19_ok (callsOk_cons s20_ok (callsOk_cons s21_ok (callsOk_cons s11_ok (callsOk_nil))))))))))))) Go.Proofs.Try.func4 Go.Proofs.Try.call4) (fun c hc => by
  have hb : c = Go.Proofs.Try.f4.body.getD .skip := by rw [hc]; rfl
  subst hb
  exact tab_nil))
theorem g4_run (x0 : S7) (x1 : Int) (x2 : Bool) : (q4 [.agg (Cod.enc 7 x0), .c (.int .i64 x1), .c (.bool x2)] []).eval = (g4T x0 x1 x2).ev fun r => ((.c (.bool r) : AV), ([] : List Blk)) := by kernel_rfl
noncomputable def s4_0 : Ab.Spec := fun args h =>
  dN h <| dL args fun v0 a0 => dG v0 fun l0 => dE 7 l0 fun x0 => dL a0 fun v1 a1 => dC v1 fun c0 => dI .i64 c0 fun x1 => dL a1 fun v2 a2 => dC v2 fun c1 => dB c1 fun x2 => dN a2 <|
  .opt (g4 x0 x1 x2) fun r => .val (.c (.bool r), [])
theorem s4_0_ok : SpecOk Go.Proofs.Try.prog 4 s4_0 :=
  q4_ok.less fun args hs r h => by
    unfold s4_0 at h
    obtain ⟨rfl, hh1⟩ := dN_inv h
    obtain ⟨v0, a0, rfl, hh2⟩ := dL_inv hh1
    obtain ⟨l0, rfl, hh3⟩ := dG_inv hh2
    obtain ⟨x0, rfl, hh4⟩ := dE_inv hh3
    obtain ⟨v1, a1, rfl, hh5⟩ := dL_inv hh4
    obtain ⟨c0, rfl, hh6⟩ := dC_inv hh5
    obtain ⟨x1, rfl, hh7⟩ := dI_inv hh6
    obtain ⟨v2, a2, rfl, hh8⟩ := dL_inv hh7
    obtain ⟨c1, rfl, hh9⟩ := dC_inv hh8
    obtain ⟨x2, rfl, hh10⟩ := dB_inv hh9
    obtain ⟨rfl, hh11⟩ := dN_inv hh10
    rw [g4_run, Tr.ev_get?]
    change (Res.opt (g4 x0 x1 x2) _).eval = some r at hh11
    rw [eval_opt] at hh11
    obtain ⟨z, hz, hh12⟩ := Option.bind_eq_some_iff.mp hh11
    unfold g4 at hz
    rw [hz]; exact hh12
noncomputable def s4 : Ab.Spec := fun args h => s4_0 (coeA [[none, none, none, none, none, none, none, none, none, none, none, none, none, none, none, none, some 1], [], []] args) h
theorem s4_ok : SpecOk Go.Proofs.Try.prog 4 s4 := s4_0_ok.pre [[none, none, none, none, none, none, none, none, none, none, none, none, none, none, none, none, some 1], [], []]
/-- pontage/pontagelaw09.RvarOut -/
noncomputable def L5 : SL := [(12, .byNew, s12), (15, .byNew, s15), (17, .byNew, s17), (9, .byVal, s9), (11, .byVal, s11)]
noncomputable def e5 : Env := ⟨ti, fun g => lookS g L5, 1000000, [.drop 0, .drop 10, .drop 11, .drop 12, .drop 13, .drop 14], []⟩
structure W5_0 where
  a0 : Bool
  a1 : Int
  a2 : Int
  a3 : Int
  a4 : Int
  a5 : Int
  a6 : Int
  a7 : Int
  a8 : Bool
  a9 : Int
  a10 : Int
  a11 : Int
  a12 : Int
  a13 : Int
  a14 : Int
  a15 : Int
  a16 : Int
  a17 : Int
  a18 : List S1
  a19 : Int
  a20 : Int
  a21 : Int
  a22 : Int
  a23 : Int
  a24 : Int
  a25 : Bool
  a26 : Int
  a27 : Int
  a28 : Int
  a29 : Int
  a30 : Int
  a31 : Int
  a32 : Int
  a33 : Int
  a34 : Int
  a35 : List S1
  a36 : Int
  a37 : Int
  a38 : Int
  a39 : Int
  a40 : Int
  a41 : Int
  a42 : Bool
  a43 : Int
  a44 : Int
  a45 : Int
  a46 : Int
  a47 : Int
  a48 : Int
  a49 : Int
  a50 : Int
  a51 : Int
  a52 : List S1
def hd5_0 (v : W5_0) : St := ⟨[.top, .c (.ptr 0 0), .c (.bool v.a0), .c (.ptr 1 0), .c (.ptr 2 0), .c (.int .i64 v.a1), .top, .top, .top, .top, .top, .top, .top, .top, .top, .top, .top, .top, .top, .top, .top, .top, .top, .top, .top, .top, .top, .top, .top, .top, .top, .top, .top, .top, .top, .top, .top, .top, .top, .top, .top, .top, .top, .top, .top, .top, .top, .top, .top, .top, .top, .top, .top, .top, .top, .top, .top, .top, .top, .top, .top, .top, .top, .top, .top, .top, .top, .top, .top, .top, .top, .top, .top, .top, .top], [.cells [.int .u64 v.a2, .int .u8 v.a3, .int .u8 v.a4, .int .u8 v.a5, .int .u8 v.a6, .int .u8 v.a7, .bool v.a8, .int .u16 v.a9, .int .u64 v.a10, .int .u32 v.a11, .int .u64 v.a12, .int .u16 v.a13, .int .u8 v.a14, .int .u8 v.a15, .int .u8 v.a16, .int .u8 v.a17, .rs 1 v.a18], .cells [.int .u64 v.a19, .int .u8 v.a20, .int .u8 v.a21, .int .u8 v.a22, .int .u8 v.a23, .int .u8 v.a24, .bool v.a25, .int .u16 v.a26, .int .u64 v.a27, .int .u32 v.a28, .int .u64 v.a29, .int .u16 v.a30, .int .u8 v.a31, .int .u8 v.a32, .int .u8 v.a33, .int .u8 v.a34, .rs 1 v.a35], .cells [.int .u64 v.a36, .int .u8 v.a37, .int .u8 v.a38, .int .u8 v.a39, .int .u8 v.a40, .int .u8 v.a41, .bool v.a42, .int .u16 v.a43, .int .u64 v.a44, .int .u32 v.a45, .int .u64 v.a46, .int .u16 v.a47, .int .u8 v.a48, .int .u8 v.a49, .int .u8 v.a50, .int .u8 v.a51, .rs 1 v.a52]]⟩
def gR5_0 (v : W5_0) : Tr (W5_0 ⊕ (Bool × W5_0)) :=
  .br (decide (v.a1 < 255)) (
   .opt (g15 (S7.mk v.a36 v.a37 v.a38 v.a39 v.a40 v.a41 v.a42 v.a43 v.a44 v.a45 v.a46 v.a47 v.a48 v.a49 v.a50 v.a51 v.a52)) fun z192 =>
    .leaf (.inl ({ v with a1 := (IntKind.i64.wrap (v.a1 + 1)), a36 := z192.f0, a37 := z192.f1, a38 := z192.f2, a39 := z192.f3, a40 := z192.f4, a41 := z192.f5, a42 := z192.f6, a43 := z192.f7, a44 := z192.f8, a45 := z192.f9, a46 := z192.f10, a47 := z192.f11, a48 := z192.f12, a49 := z192.f13, a50 := z192.f14, a51 := z192.f15, a52 := z192.f16 }))) (
   .leaf (.inr (false, v)))
noncomputable def lb5_0 : Code := match findB 0 (Go.Proofs.Try.f5.body.getD .skip) with | [.loop b] => b | _ => .skip
def pa5_0 : List PA := [.any, .c (.ptr 0 0), .c (.bool), .c (.ptr 1 0), .c (.ptr 2 0), .c (.int .i64), .top, .top, .top, .top, .any, .any, .any, .any, .any, .top, .top, .top, .top, .top, .top, .top, .top, .top, .top, .top, .top, .top, .top, .top, .top, .top, .top, .top, .top, .top, .top, .top, .top, .top, .top, .top, .top, .top, .top, .top, .top, .top, .top, .top, .top, .top, .top, .top, .top, .top, .top, .top, .top, .top, .top, .top, .top, .top, .top, .top, .top, .top, .top, .top, .top, .top, .top, .top, .top]
def pb5_0 : List PB := [.cells [.int .u64, .int .u8, .int .u8, .int .u8, .int .u8, .int .u8, .bool, .int .u16, .int .u64, .int .u32, .int .u64, .int .u16, .int .u8, .int .u8, .int .u8, .int .u8, .rs 1], .cells [.int .u64, .int .u8, .int .u8, .int .u8, .int .u8, .int .u8, .bool, .int .u16, .int .u64, .int .u32, .int .u64, .int .u16, .int .u8, .int .u8, .int .u8, .int .u8, .rs 1], .cells [.int .u64, .int .u8, .int .u8, .int .u8, .int .u8, .int .u8, .bool, .int .u16, .int .u64, .int .u32, .int .u64, .int .u16, .int .u8, .int .u8, .int .u8, .int .u8, .rs 1]]
def ini5_0 (s : St) : W5_0 := ⟨bC (aC (s.tmps.getD 2 .top)), iC (aC (s.tmps.getD 5 .top)), iC ((bL (s.heap.getD 0 .dead)).getD 0 .top), iC ((bL (s.heap.getD 0 .dead)).getD 1 .top), iC ((bL (s.heap.getD 0 .dead)).getD 2 .top), iC ((bL (s.heap.getD 0 .dead)).getD 3 .top), iC ((bL (s.heap.getD 0 .dead)).getD 4 .top), iC ((bL (s.heap.getD 0 .dead)).getD 5 .top), bC ((bL (s.heap.getD 0 .dead)).getD 6 .top), iC ((bL (s.heap.getD 0 .dead)).getD 7 .top), iC ((bL (s.heap.getD 0 .dead)).getD 8 .top), iC ((bL (s.heap.getD 0 .dead)).getD 9 .top), iC ((bL (s.heap.getD 0 .dead)).getD 10 .top), iC ((bL (s.heap.getD 0 .dead)).getD 11 .top), iC ((bL (s.heap.getD 0 .dead)).getD 12 .top), iC ((bL (s.heap.getD 0 .dead)).getD 13 .top), iC ((bL (s.heap.getD 0 .dead)).getD 14 .top), iC ((bL (s.heap.getD 0 .dead)).getD 15 .top), rC 1 ((bL (s.heap.getD 0 .dead)).getD 16 .top), iC ((bL (s.heap.getD 1 .dead)).getD 0 .top), iC ((bL (s.heap.getD 1 .dead)).getD 1 .top), iC ((bL (s.heap.getD 1 .dead)).getD 2 .top), iC ((bL (s.heap.getD 1 .dead)).getD 3 .top), iC ((bL (s.heap.getD 1 .dead)).getD 4 .top), iC ((bL (s.heap.getD 1 .dead)).getD 5 .top), bC ((bL (s.heap.getD 1 .dead)).getD 6 .top), iC ((bL (s.heap.getD 1 .dead)).getD 7 .top), iC ((bL (s.heap.getD 1 .dead)).getD 8 .top), iC ((bL (s.heap.getD 1 .dead)).getD 9 .top), iC ((bL (s.heap.getD 1 .dead)).getD 10 .top), iC ((bL (s.heap.getD 1 .dead)).getD 11 .top), iC ((bL (s.heap.getD 1 .dead)).getD 12 .top), iC ((bL (s.heap.getD 1 .dead)).getD 13 .top), iC ((bL (s.heap.getD 1 .dead)).getD 14 .top), iC ((bL (s.heap.getD 1 .dead)).getD 15 .top), rC 1 ((bL (s.heap.getD 1 .dead)).getD 16 .top), iC ((bL (s.heap.getD 2 .dead)).getD 0 .top), iC ((bL (s.heap.getD 2 .dead)).getD 1 .top), iC ((bL (s.heap.getD 2 .dead)).getD 2 .top), iC ((bL (s.heap.getD 2 .dead)).getD 3 .top), iC ((bL (s.heap.getD 2 .dead)).getD 4 .top), iC ((bL (s.heap.getD 2 .dead)).getD 5 .top), bC ((bL (s.heap.getD 2 .dead)).getD 6 .top), iC ((bL (s.heap.getD 2 .dead)).getD 7 .top), iC ((bL (s.heap.getD 2 .dead)).getD 8 .top), iC ((bL (s.heap.getD 2 .dead)).getD 9 .top), iC ((bL (s.heap.getD 2 .dead)).getD 10 .top), iC ((bL (s.heap.getD 2 .dead)).getD 11 .top), iC ((bL (s.heap.getD 2 .dead)).getD 12 .top), iC ((bL (s.heap.getD 2 .dead)).getD 13 .top), iC ((bL (s.heap.getD 2 .dead)).getD 14 .top), iC ((bL (s.heap.getD 2 .dead)).getD 15 .top), rC 1 ((bL (s.heap.getD 2 .dead)).getD 16 .top)⟩
noncomputable def F5_0 : St → Res (Ex × St) := loopF pa5_0 pb5_0 1000000 hd5_0 gR5_0 ini5_0 false
theorem F5_0_ok (s : St) (r : Ex × St) (h : (F5_0 s).eval = some r) : (codeR e5 0 (.block 0 (.loop lb5_0)) s).eval = some r :=
  blk_ok (e := e5) (T := lookT []) (fun s v => by kernel_rfl) (fun s => by kernel_rfl) (tab_nil) s r h
structure W5_2 where
  a0 : Bool
  a1 : Int
  a2 : Int
  a3 : List S1
  a4 : Int
  a5 : List S1
  a6 : Int
  a7 : Bool
  a8 : Int
  a9 : Int
  a10 : Int
  a11 : Int
  a12 : Int
  a13 : Int
  a14 : Bool
  a15 : Int
  a16 : Int
  a17 : Int
  a18 : Int
  a19 : Int
  a20 : Int
  a21 : Int
  a22 : Int
  a23 : Int
  a24 : List S1
  a25 : Int
  a26 : Int
  a27 : Int
  a28 : Int
  a29 : Int
  a30 : Int
  a31 : Bool
  a32 : Int
  a33 : Int
  a34 : Int
  a35 : Int
  a36 : Int
  a37 : Int
  a38 : Int
  a39 : Int
  a40 : Int
  a41 : List S1
  a42 : Int
  a43 : Int
  a44 : Int
  a45 : Int
  a46 : Int
  a47 : Int
  a48 : Bool
  a49 : Int
  a50 : Int
  a51 : Int
  a52 : Int
  a53 : Int
  a54 : Int
  a55 : Int
  a56 : Int
  a57 : Int
  a58 : List S1
def hd5_2 (v : W5_2) : St := ⟨[.top, .c (.ptr 0 0), .c (.bool v.a0), .c (.ptr 1 0), .c (.ptr 2 0), .c (.int .i64 v.a1), .c (.int .i64 v.a2), .top, .top, .top, .top, .top, .top, .top, .top, .top, .top, .top, .top, .top, .top, .c (.ptr 2 16), .c (.rs 1 v.a3), .c (.int .i64 v.a4), .c (.ptr 0 16), .c (.rs 1 v.a5), .c (.int .i64 v.a6), .c (.bool v.a7), .top, .top, .top, .top, .top, .top, .top, .top, .top, .top, .top, .top, .top, .top, .top, .top, .top, .top, .top, .top, .top, .top, .top, .top, .top, .top, .top, .top, .top, .top, .top, .top, .top, .top, .top, .top, .top, .top, .top, .top, .top, .top, .top, .top, .top, .top, .top], [.cells [.int .u64 v.a8, .int .u8 v.a9, .int .u8 v.a10, .int .u8 v.a11, .int .u8 v.a12, .int .u8 v.a13, .bool v.a14, .int .u16 v.a15, .int .u64 v.a16, .int .u32 v.a17, .int .u64 v.a18, .int .u16 v.a19, .int .u8 v.a20, .int .u8 v.a21, .int .u8 v.a22, .int .u8 v.a23, .rs 1 v.a24], .cells [.int .u64 v.a25, .int .u8 v.a26, .int .u8 v.a27, .int .u8 v.a28, .int .u8 v.a29, .int .u8 v.a30, .bool v.a31, .int .u16 v.a32, .int .u64 v.a33, .int .u32 v.a34, .int .u64 v.a35, .int .u16 v.a36, .int .u8 v.a37, .int .u8 v.a38, .int .u8 v.a39, .int .u8 v.a40, .rs 1 v.a41], .cells [.int .u64 v.a42, .int .u8 v.a43, .int .u8 v.a44, .int .u8 v.a45, .int .u8 v.a46, .int .u8 v.a47, .bool v.a48, .int .u16 v.a49, .int .u64 v.a50, .int .u32 v.a51, .int .u64 v.a52, .int .u16 v.a53, .int .u8 v.a54, .int .u8 v.a55, .int .u8 v.a56, .int .u8 v.a57, .rs 1 v.a58]]⟩
def gR5_2 (v : W5_2) : Tr (W5_2 ⊕ (Bool × W5_2)) :=
  .br (decide (v.a2 < (v.a24.length : Int))) (
   .br (decide (0 ≤ v.a2)) (
    .opt (v.a24[Int.toNat v.a2]?) fun y194 =>
     .br (decide (0 ≤ v.a2)) (
      .opt (v.a58[Int.toNat v.a2]?) fun y195 =>
       .br (!(eqS1 y195 { y194 with f64 := 0, f65 := 0, f66 := 0, f67 := 0, f68 := 0, f69 := 0, f70 := 0, f71 := 0 })) (
        .leaf (.inr (true, { v with a0 := false }))) (
        .leaf (.inl ({ v with a2 := (IntKind.i64.wrap (v.a2 + 1)) })))) (
      .fail)) (
    .fail)) (
   .leaf (.inr (false, v)))
noncomputable def lb5_2 : Code := match findB 2 (Go.Proofs.Try.f5.body.getD .skip) with | [.loop b] => b | _ => .skip
def pa5_2 : List PA := [.any, .c (.ptr 0 0), .c (.bool), .c (.ptr 1 0), .c (.ptr 2 0), .c (.int .i64), .c (.int .i64), .top, .top, .top, .any, .any, .any, .any, .any, .top, .top, .top, .top, .top, .top, .c (.ptr 2 16), .c (.rs 1), .c (.int .i64), .c (.ptr 0 16), .c (.rs 1), .c (.int .i64), .c (.bool), .top, .top, .top, .top, .top, .top, .top, .top, .top, .top, .top, .top, .top, .top, .top, .top, .top, .top, .top, .top, .top, .top, .top, .top, .top, .top, .top, .top, .top, .top, .top, .top, .top, .top, .top, .top, .top, .top, .top, .top, .top, .top, .top, .top, .top, .top, .top]
def pb5_2 : List PB := [.cells [.int .u64, .int .u8, .int .u8, .int .u8, .int .u8, .int .u8, .bool, .int .u16, .int .u64, .int .u32, .int .u64, .int .u16, .int .u8, .int .u8, .int .u8, .int .u8, .rs 1], .cells [.int .u64, .int .u8, .int .u8, .int .u8, .int .u8, .int .u8, .bool, .int .u16, .int .u64, .int .u32, .int .u64, .int .u16, .int .u8, .int .u8, .int .u8, .int .u8, .rs 1], .cells [.int .u64, .int .u8, .int .u8, .int .u8, .int .u8, .int .u8, .bool, .int .u16, .int .u64, .int .u32, .int .u64, .int .u16, .int .u8, .int .u8, .int .u8, .int .u8, .rs 1]]
def ini5_2 (s : St) : W5_2 := ⟨bC (aC (s.tmps.getD 2 .top)), iC (aC (s.tmps.getD 5 .top)), iC (aC (s.tmps.getD 6 .top)), rC 1 (aC (s.tmps.getD 22 .top)), iC (aC (s.tmps.getD 23 .top)), rC 1 (aC (s.tmps.getD 25 .top)), iC (aC (s.tmps.getD 26 .top)), bC (aC (s.tmps.getD 27 .top)), iC ((bL (s.heap.getD 0 .dead)).getD 0 .top), iC ((bL (s.heap.getD 0 .dead)).getD 1 .top), iC ((bL (s.heap.getD 0 .dead)).getD 2 .top), iC ((bL (s.heap.getD 0 .dead)).getD 3 .top), iC ((bL (s.heap.getD 0 .dead)).getD 4 .top), iC ((bL (s.heap.getD 0 .dead)).getD 5 .top), bC ((bL (s.heap.getD 0 .dead)).getD 6 .top), iC ((bL (s.heap.getD 0 .dead)).getD 7 .top), iC ((bL (s.heap.getD 0 .dead)).getD 8 .top), iC ((bL (s.heap.getD 0 .dead)).getD 9 .top), iC ((bL (s.heap.getD 0 .dead)).getD 10 .top), iC ((bL (s.heap.getD 0 .dead)).getD 11 .top), iC ((bL (s.heap.getD 0 .dead)).getD 12 .top), iC ((bL (s.heap.getD 0 .dead)).getD 13 .top), iC ((bL (s.heap.getD 0 .dead)).getD 14 .top), iC ((bL (s.heap.getD 0 .dead)).getD 15 .top), rC 1 ((bL (s.heap.getD 0 .dead)).getD 16 .top), iC ((bL (s.heap.getD 1 .dead)).getD 0 .top), iC ((bL (s.heap.getD 1 .dead)).getD 1 .top), iC ((bL (s.heap.getD 1 .dead)).getD 2 .top), iC ((bL (s.heap.getD 1 .dead)).getD 3 .top), iC ((bL (s.heap.getD 1 .dead)).getD 4 .top), iC ((bL (s.heap.getD 1 .dead)).getD 5 .top), bC ((bL (s.heap.getD 1 .dead)).getD 6 .top), iC ((bL (s.heap.getD 1 .dead)).getD 7 .top), iC ((bL (s.heap.getD 1 .dead)).getD 8 .top), iC ((bL (s.heap.getD 1 .dead)).getD 9 .top), iC ((bL (s.heap.getD 1 .dead)).getD 10 .top), iC ((bL (s.heap.getD 1 .dead)).getD 11 .top), iC ((bL (s.heap.getD 1 .dead)).getD 12 .top), iC ((bL (s.heap.getD 1 .dead)).getD 13 .top), iC ((bL (s.heap.getD 1 .dead)).getD 14 .top), iC ((bL (s.heap.getD 1 .dead)).getD 15 .top), rC 1 ((bL (s.heap.getD 1 .dead)).getD 16 .top), iC ((bL (s.heap.getD 2 .dead)).getD 0 .top), iC ((bL (s.heap.getD 2 .dead)).getD 1 .top), iC ((bL (s.heap.getD 2 .dead)).getD 2 .top), iC ((bL (s.heap.getD 2 .dead)).getD 3 .top), iC ((bL (s.heap.getD 2 .dead)).getD 4 .top), iC ((bL (s.heap.getD 2 .dead)).getD 5 .top), bC ((bL (s.heap.getD 2 .dead)).getD 6 .top), iC ((bL (s.heap.getD 2 .dead)).getD 7 .top), iC ((bL (s.heap.getD 2 .dead)).getD 8 .top), iC ((bL (s.heap.getD 2 .dead)).getD 9 .top), iC ((bL (s.heap.getD 2 .dead)).getD 10 .top), iC ((bL (s.heap.getD 2 .dead)).getD 11 .top), iC ((bL (s.heap.getD 2 .dead)).getD 12 .top), iC ((bL (s.heap.getD 2 .dead)).getD 13 .top), iC ((bL (s.heap.getD 2 .dead)).getD 14 .top), iC ((bL (s.heap.getD 2 .dead)).getD 15 .top), rC 1 ((bL (s.heap.getD 2 .dead)).getD 16 .top)⟩
noncomputable def F5_2 : St → Res (Ex × St) := loopF pa5_2 pb5_2 1000000 hd5_2 gR5_2 ini5_2 true
theorem F5_2_ok (s : St) (r : Ex × St) (h : (F5_2 s).eval = some r) : (codeR e5 0 (.block 2 (.loop lb5_2)) s).eval = some r :=
  blk_ok (e := e5) (T := lookT []) (fun s v => by kernel_rfl) (fun s => by kernel_rfl) (tab_nil) s r h
structure W5_4 where
  a0 : Bool
  a1 : Int
  a2 : Int
  a3 : Int
  a4 : List S1
  a5 : Int
  a6 : List S1
  a7 : Int
  a8 : Bool
  a9 : Int
  a10 : Int
  a11 : Int
  a12 : Int
  a13 : Int
  a14 : Int
  a15 : Bool
  a16 : Int
  a17 : Int
  a18 : Int
  a19 : Int
  a20 : Int
  a21 : Int
  a22 : Int
  a23 : Int
  a24 : Int
  a25 : List S1
  a26 : Int
  a27 : Int
  a28 : Int
  a29 : Int
  a30 : Int
  a31 : Int
  a32 : Bool
  a33 : Int
  a34 : Int
  a35 : Int
  a36 : Int
  a37 : Int
  a38 : Int
  a39 : Int
  a40 : Int
  a41 : Int
  a42 : Int
  a43 : Int
  a44 : Int
  a45 : Int
  a46 : Int
  a47 : Int
  a48 : Bool
  a49 : Int
  a50 : Int
  a51 : Int
  a52 : Int
  a53 : Int
  a54 : Int
  a55 : Int
  a56 : Int
  a57 : Int
  a58 : List S1
  a59 : Int
  a60 : Int
  a61 : Int
  a62 : Int
  a63 : Int
  a64 : Int
  a65 : Bool
  a66 : Int
  a67 : Int
  a68 : Int
  a69 : Int
  a70 : Int
  a71 : Int
  a72 : Int
  a73 : Int
  a74 : Int
  a75 : List S1
  a76 : Int
  a77 : Int
  a78 : Int
  a79 : Int
  a80 : Int
  a81 : Int
  a82 : Bool
  a83 : Int
  a84 : Int
  a85 : Int
  a86 : Int
  a87 : Int
  a88 : Int
  a89 : Int
  a90 : Int
  a91 : Int
  a92 : List S1
  a93 : Int
  a94 : Int
  a95 : Int
  a96 : Int
  a97 : Int
  a98 : Int
  a99 : Bool
  a100 : Int
  a101 : Int
  a102 : Int
  a103 : Int
  a104 : Int
  a105 : Int
  a106 : Int
  a107 : Int
  a108 : Int
  a109 : List S1
def hd5_4 (v : W5_4) : St := ⟨[.top, .c (.ptr 0 0), .c (.bool v.a0), .c (.ptr 1 0), .c (.ptr 2 0), .c (.int .i64 v.a1), .c (.int .i64 v.a2), .top, .c (.ptr 3 0), .c (.int .i64 v.a3), .top, .top, .top, .top, .top, .top, .top, .top, .top, .top, .top, .c (.ptr 2 16), .c (.rs 1 v.a4), .c (.int .i64 v.a5), .c (.ptr 0 16), .c (.rs 1 v.a6), .c (.int .i64 v.a7), .c (.bool v.a8), .top, .top, .top, .top, .top, .top, .top, .top, .top, .top, .top, .top, .top, .top, .top, .top, .top, .top, .top, .top, .top, .top, .top, .top, .top, .top, .top, .agg [.int .u64 v.a9, .int .u8 v.a10, .int .u8 v.a11, .int .u8 v.a12, .int .u8 v.a13, .int .u8 v.a14, .bool v.a15, .int .u16 v.a16, .int .u64 v.a17, .int .u32 v.a18, .int .u64 v.a19, .int .u16 v.a20, .int .u8 v.a21, .int .u8 v.a22, .int .u8 v.a23, .int .u8 v.a24, .rs 1 v.a25], .agg [.int .u64 v.a26, .int .u8 v.a27, .int .u8 v.a28, .int .u8 v.a29, .int .u8 v.a30, .int .u8 v.a31, .bool v.a32, .int .u16 v.a33, .int .u64 v.a34, .int .u32 v.a35, .int .u64 v.a36, .int .u16 v.a37, .int .u8 v.a38, .int .u8 v.a39, .int .u8 v.a40, .int .u8 v.a41, .slw 4], .top, .top, .top, .top, .top, .top, .top, .top, .top, .top, .top, .top, .top, .top, .top, .top, .top, .top], [.cells [.int .u64 v.a42, .int .u8 v.a43, .int .u8 v.a44, .int .u8 v.a45, .int .u8 v.a46, .int .u8 v.a47, .bool v.a48, .int .u16 v.a49, .int .u64 v.a50, .int .u32 v.a51, .int .u64 v.a52, .int .u16 v.a53, .int .u8 v.a54, .int .u8 v.a55, .int .u8 v.a56, .int .u8 v.a57, .rs 1 v.a58], .cells [.int .u64 v.a59, .int .u8 v.a60, .int .u8 v.a61, .int .u8 v.a62, .int .u8 v.a63, .int .u8 v.a64, .bool v.a65, .int .u16 v.a66, .int .u64 v.a67, .int .u32 v.a68, .int .u64 v.a69, .int .u16 v.a70, .int .u8 v.a71, .int .u8 v.a72, .int .u8 v.a73, .int .u8 v.a74, .rs 1 v.a75], .cells [.int .u64 v.a76, .int .u8 v.a77, .int .u8 v.a78, .int .u8 v.a79, .int .u8 v.a80, .int .u8 v.a81, .bool v.a82, .int .u16 v.a83, .int .u64 v.a84, .int .u32 v.a85, .int .u64 v.a86, .int .u16 v.a87, .int .u8 v.a88, .int .u8 v.a89, .int .u8 v.a90, .int .u8 v.a91, .rs 1 v.a92], .cells [.int .u64 v.a93, .int .u8 v.a94, .int .u8 v.a95, .int .u8 v.a96, .int .u8 v.a97, .int .u8 v.a98, .bool v.a99, .int .u16 v.a100, .int .u64 v.a101, .int .u32 v.a102, .int .u64 v.a103, .int .u16 v.a104, .int .u8 v.a105, .int .u8 v.a106, .int .u8 v.a107, .int .u8 v.a108, .slw 4], .row 1 v.a109]⟩
def gR5_4 (v : W5_4) : Tr (W5_4 ⊕ (Bool × W5_4)) :=
  .br (decide (v.a3 < (v.a109.length : Int))) (
   .br (decide (0 ≤ v.a3) && decide (v.a3 < (v.a109.length : Int))) (
    .opt (v.a109[(Int.toNat v.a3)]?) fun y198 =>
     .leaf (.inl ({ v with a3 := (IntKind.i64.wrap (v.a3 + 1)), a109 := (List.set v.a109 (Int.toNat v.a3) { y198 with f1 := 77 }) }))) (
    .fail)) (
   .leaf (.inr (false, v)))
noncomputable def lb5_4 : Code := match findB 4 (Go.Proofs.Try.f5.body.getD .skip) with | [.loop b] => b | _ => .skip
def pa5_4 : List PA := [.any, .c (.ptr 0 0), .c (.bool), .c (.ptr 1 0), .c (.ptr 2 0), .c (.int .i64), .c (.int .i64), .top, .c (.ptr 4 0), .c (.int .i64), .any, .any, .any, .any, .any, .top, .top, .top, .top, .top, .top, .c (.ptr 2 16), .c (.rs 1), .c (.int .i64), .c (.ptr 0 16), .c (.rs 1), .c (.int .i64), .c (.bool), .top, .top, .top, .top, .top, .top, .top, .top, .top, .top, .top, .top, .top, .top, .top, .top, .top, .top, .top, .top, .top, .top, .top, .top, .top, .top, .top, .agg [.int .u64, .int .u8, .int .u8, .int .u8, .int .u8, .int .u8, .bool, .int .u16, .int .u64, .int .u32, .int .u64, .int .u16, .int .u8, .int .u8, .int .u8, .int .u8, .rs 1], .agg [.int .u64, .int .u8, .int .u8, .int .u8, .int .u8, .int .u8, .bool, .int .u16, .int .u64, .int .u32, .int .u64, .int .u16, .int .u8, .int .u8, .int .u8, .int .u8, .slw 3], .top, .top, .top, .top, .top, .top, .top, .top, .top, .top, .top, .top, .top, .top, .top, .top, .top, .top]
def pb5_4 : List PB := [.cells [.int .u64, .int .u8, .int .u8, .int .u8, .int .u8, .int .u8, .bool, .int .u16, .int .u64, .int .u32, .int .u64, .int .u16, .int .u8, .int .u8, .int .u8, .int .u8, .rs 1], .cells [.int .u64, .int .u8, .int .u8, .int .u8, .int .u8, .int .u8, .bool, .int .u16, .int .u64, .int .u32, .int .u64, .int .u16, .int .u8, .int .u8, .int .u8, .int .u8, .rs 1], .cells [.int .u64, .int .u8, .int .u8, .int .u8, .int .u8, .int .u8, .bool, .int .u16, .int .u64, .int .u32, .int .u64, .int .u16, .int .u8, .int .u8, .int .u8, .int .u8, .rs 1], .row 1, .cells [.int .u64, .int .u8, .int .u8, .int .u8, .int .u8, .int .u8, .bool, .int .u16, .int .u64, .int .u32, .int .u64, .int .u16, .int .u8, .int .u8, .int .u8, .int .u8, .slw 3]]
def ini5_4 (s : St) : W5_4 := ⟨bC (aC (s.tmps.getD 2 .top)), iC (aC (s.tmps.getD 5 .top)), iC (aC (s.tmps.getD 6 .top)), iC (aC (s.tmps.getD 9 .top)), rC 1 (aC (s.tmps.getD 22 .top)), iC (aC (s.tmps.getD 23 .top)), rC 1 (aC (s.tmps.getD 25 .top)), iC (aC (s.tmps.getD 26 .top)), bC (aC (s.tmps.getD 27 .top)), iC ((aL (s.tmps.getD 55 .top)).getD 0 .top), iC ((aL (s.tmps.getD 55 .top)).getD 1 .top), iC ((aL (s.tmps.getD 55 .top)).getD 2 .top), iC ((aL (s.tmps.getD 55 .top)).getD 3 .top), iC ((aL (s.tmps.getD 55 .top)).getD 4 .top), iC ((aL (s.tmps.getD 55 .top)).getD 5 .top), bC ((aL (s.tmps.getD 55 .top)).getD 6 .top), iC ((aL (s.tmps.getD 55 .top)).getD 7 .top), iC ((aL (s.tmps.getD 55 .top)).getD 8 .top), iC ((aL (s.tmps.getD 55 .top)).getD 9 .top), iC ((aL (s.tmps.getD 55 .top)).getD 10 .top), iC ((aL (s.tmps.getD 55 .top)).getD 11 .top), iC ((aL (s.tmps.getD 55 .top)).getD 12 .top), iC ((aL (s.tmps.getD 55 .top)).getD 13 .top), iC ((aL (s.tmps.getD 55 .top)).getD 14 .top), iC ((aL (s.tmps.getD 55 .top)).getD 15 .top), rC 1 ((aL (s.tmps.getD 55 .top)).getD 16 .top), iC ((aL (s.tmps.getD 56 .top)).getD 0 .top), iC ((aL (s.tmps.getD 56 .top)).getD 1 .top), iC ((aL (s.tmps.getD 56 .top)).getD 2 .top), iC ((aL (s.tmps.getD 56 .top)).getD 3 .top), iC ((aL (s.tmps.getD 56 .top)).getD 4 .top), iC ((aL (s.tmps.getD 56 .top)).getD 5 .top), bC ((aL (s.tmps.getD 56 .top)).getD 6 .top), iC ((aL (s.tmps.getD 56 .top)).getD 7 .top), iC ((aL (s.tmps.getD 56 .top)).getD 8 .top), iC ((aL (s.tmps.getD 56 .top)).getD 9 .top), iC ((aL (s.tmps.getD 56 .top)).getD 10 .top), iC ((aL (s.tmps.getD 56 .top)).getD 11 .top), iC ((aL (s.tmps.getD 56 .top)).getD 12 .top), iC ((aL (s.tmps.getD 56 .top)).getD 13 .top), iC ((aL (s.tmps.getD 56 .top)).getD 14 .top), iC ((aL (s.tmps.getD 56 .top)).getD 15 .top), iC ((bL (s.heap.getD 0 .dead)).getD 0 .top), iC ((bL (s.heap.getD 0 .dead)).getD 1 .top), iC ((bL (s.heap.getD 0 .dead)).getD 2 .top), iC ((bL (s.heap.getD 0 .dead)).getD 3 .top), iC ((bL (s.heap.getD 0 .dead)).getD 4 .top), iC ((bL (s.heap.getD 0 .dead)).getD 5 .top), bC ((bL (s.heap.getD 0 .dead)).getD 6 .top), iC ((bL (s.heap.getD 0 .dead)).getD 7 .top), iC ((bL (s.heap.getD 0 .dead)).getD 8 .top), iC ((bL (s.heap.getD 0 .dead)).getD 9 .top), iC ((bL (s.heap.getD 0 .dead)).getD 10 .top), iC ((bL (s.heap.getD 0 .dead)).getD 11 .top), iC ((bL (s.heap.getD 0 .dead)).getD 12 .top), iC ((bL (s.heap.getD 0 .dead)).getD 13 .top), iC ((bL (s.heap.getD 0 .dead)).getD 14 .top), iC ((bL (s.heap.getD 0 .dead)).getD 15 .top), rC 1 ((bL (s.heap.getD 0 .dead)).getD 16 .top), iC ((bL (s.heap.getD 1 .dead)).getD 0 .top), iC ((bL (s.heap.getD 1 .dead)).getD 1 .top), iC ((bL (s.heap.getD 1 .dead)).getD 2 .top), iC ((bL (s.heap.getD 1 .dead)).getD 3 .top), iC ((bL (s.heap.getD 1 .dead)).getD 4 .top), iC ((bL (s.heap.getD 1 .dead)).getD 5 .top), bC ((bL (s.heap.getD 1 .dead)).getD 6 .top), iC ((bL (s.heap.getD 1 .dead)).getD 7 .top), iC ((bL (s.heap.getD 1 .dead)).getD 8 .top), iC ((bL (s.heap.getD 1 .dead)).getD 9 .top), iC ((bL (s.heap.getD 1 .dead)).getD 10 .top), iC ((bL (s.heap.getD 1 .dead)).getD 11 .top), iC ((bL (s.heap.getD 1 .dead)).getD 12 .top), iC ((bL (s.heap.getD 1 .dead)).getD 13 .top), iC ((bL (s.heap.getD 1 .dead)).getD 14 .top), iC ((bL (s.heap.getD 1 .dead)).getD 15 .top), rC 1 ((bL (s.heap.getD 1 .dead)).getD 16 .top), iC ((bL (s.heap.getD 2 .dead)).getD 0 .top), iC ((bL (s.heap.getD 2 .dead)).getD 1 .top), iC ((bL (s.heap.getD 2 .dead)).getD 2 .top), iC ((bL (s.heap.getD 2 .dead)).getD 3 .top), iC ((bL (s.heap.getD 2 .dead)).getD 4 .top), iC ((bL (s.heap.getD 2 .dead)).getD 5 .top), bC ((bL (s.heap.getD 2 .dead)).getD 6 .top), iC ((bL (s.heap.getD 2 .dead)).getD 7 .top), iC ((bL (s.heap.getD 2 .dead)).getD 8 .top), iC ((bL (s.heap.getD 2 .dead)).getD 9 .top), iC ((bL (s.heap.getD 2 .dead)).getD 10 .top), iC ((bL (s.heap.getD 2 .dead)).getD 11 .top), iC ((bL (s.heap.getD 2 .dead)).getD 12 .top), iC ((bL (s.heap.getD 2 .dead)).getD 13 .top), iC ((bL (s.heap.getD 2 .dead)).getD 14 .top), iC ((bL (s.heap.getD 2 .dead)).getD 15 .top), rC 1 ((bL (s.heap.getD 2 .dead)).getD 16 .top), iC ((bL (s.heap.getD 4 .dead)).getD 0 .top), iC ((bL (s.heap.getD 4 .dead)).getD 1 .top), iC ((bL (s.heap.getD 4 .dead)).getD 2 .top), iC ((bL (s.heap.getD 4 .dead)).getD 3 .top), iC ((bL (s.heap.getD 4 .dead)).getD 4 .top), iC ((bL (s.heap.getD 4 .dead)).getD 5 .top), bC ((bL (s.heap.getD 4 .dead)).getD 6 .top), iC ((bL (s.heap.getD 4 .dead)).getD 7 .top), iC ((bL (s.heap.getD 4 .dead)).getD 8 .top), iC ((bL (s.heap.getD 4 .dead)).getD 9 .top), iC ((bL (s.heap.getD 4 .dead)).getD 10 .top), iC ((bL (s.heap.getD 4 .dead)).getD 11 .top), iC ((bL (s.heap.getD 4 .dead)).getD 12 .top), iC ((bL (s.heap.getD 4 .dead)).getD 13 .top), iC ((bL (s.heap.getD 4 .dead)).getD 14 .top), iC ((bL (s.heap.getD 4 .dead)).getD 15 .top), bR 1 (s.heap.getD 3 .dead)⟩
noncomputable def F5_4 : St → Res (Ex × St) := loopF pa5_4 pb5_4 1000000 hd5_4 gR5_4 ini5_4 false
theorem F5_4_ok (s : St) (r : Ex × St) (h : (F5_4 s).eval = some r) : (codeR e5 0 (.block 4 (.loop lb5_4)) s).eval = some r :=
  blk_ok (e := e5) (T := lookT []) (fun s v => by kernel_rfl) (fun s => by kernel_rfl) (tab_nil) s r h
def g5T (x0 : S7) : Tr (Bool) :=
  .opt (g12 x0) fun z190 =>
   .opt (g12 z190) fun z191 =>
    .opt (iter gR5_0 1000000 (W5_0.mk (false) (0) (z190.f0) (z190.f1) (z190.f2) (z190.f3) (z190.f4) (z190.f5) (z190.f6) (z190.f7) (z190.f8) (z190.f9) (z190.f10) (z190.f11) (z190.f12) (z190.f13) (z190.f14) (z190.f15) (z190.f16) (z191.f0) (z191.f1) (z191.f2) (z191.f3) (z191.f4) (z191.f5) (z191.f6) (z191.f7) (z191.f8) (z191.f9) (z191.f10) (z191.f11) (z191.f12) (z191.f13) (z191.f14) (z191.f15) (z191.f16) (z190.f0) (z190.f1) (z190.f2) (z190.f3) (z190.f4) (z190.f5) (z190.f6) (z190.f7) (z190.f8) (z190.f9) (z190.f10) (z190.f11) (z190.f12) (z190.f13) (z190.f14) (z190.f15) (z190.f16))) fun r193 =>
     .br r193.1 (
      .fail) (
      .br ((r193.2.a52.length : Int) != (r193.2.a18.length : Int)) (
       .leaf (false)) (
       .opt (iter gR5_2 1000000 (W5_2.mk (r193.2.a0) (r193.2.a1) (0) (r193.2.a52) ((r193.2.a52.length : Int)) (r193.2.a18) ((r193.2.a18.length : Int)) (false) (r193.2.a2) (r193.2.a3) (r193.2.a4) (r193.2.a5) (r193.2.a6) (r193.2.a7) (r193.2.a8) (r193.2.a9) (r193.2.a10) (r193.2.a11) (r193.2.a12) (r193.2.a13) (r193.2.a14) (r193.2.a15) (r193.2.a16) (r193.2.a17) (r193.2.a18) (r193.2.a19) (r193.2.a20) (r193.2.a21) (r193.2.a22) (r193.2.a23) (r193.2.a24) (r193.2.a25) (r193.2.a26) (r193.2.a27) (r193.2.a28) (r193.2.a29) (r193.2.a30) (r193.2.a31) (r193.2.a32) (r193.2.a33) (r193.2.a34) (r193.2.a35) (r193.2.a36) (r193.2.a37) (r193.2.a38) (r193.2.a39) (r193.2.a40) (r193.2.a41) (r193.2.a42) (r193.2.a43) (r193.2.a44) (r193.2.a45) (r193.2.a46) (r193.2.a47) (r193.2.a48) (r193.2.a49) (r193.2.a50) (r193.2.a51) (r193.2.a52))) fun r196 =>
        .br r196.1 (
         .leaf (r196.2.a0)) (
         .opt (g17 (S7.mk r196.2.a8 r196.2.a9 r196.2.a10 r196.2.a11 r196.2.a12 r196.2.a13 r196.2.a14 r196.2.a15 r196.2.a16 r196.2.a17 r196.2.a18 r196.2.a19 r196.2.a20 r196.2.a21 r196.2.a22 r196.2.a23 r196.2.a24)) fun z197 =>
          .opt (iter gR5_4 1000000 (W5_4.mk (r196.2.a0) (r196.2.a1) (r196.2.a2) (0) (r196.2.a3) (r196.2.a4) (r196.2.a5) (r196.2.a6) (r196.2.a7) (r196.2.a8) (r196.2.a9) (r196.2.a10) (r196.2.a11) (r196.2.a12) (r196.2.a13) (r196.2.a14) (r196.2.a15) (r196.2.a16) (r196.2.a17) (r196.2.a18) (r196.2.a19) (r196.2.a20) (r196.2.a21) (r196.2.a22) (r196.2.a23) (r196.2.a24) (z197.f0) (z197.f1) (z197.f2) (z197.f3) (z197.f4) (z197.f5) (z197.f6) (z197.f7) (z197.f8) (z197.f9) (z197.f10) (z197.f11) (z197.f12) (z197.f13) (z197.f14) (z197.f15) (r196.2.a8) (r196.2.a9) (r196.2.a10) (r196.2.a11) (r196.2.a12) (r196.2.a13) (r196.2.a14) (r196.2.a15) (r196.2.a16) (r196.2.a17) (r196.2.a18) (r196.2.a19) (r196.2.a20) (r196.2.a21) (r196.2.a22) (r196.2.a23) (r196.2.a24) (r196.2.a25) (r196.2.a26) (r196.2.a27) (r196.2.a28) (r196.2.a29) (r196.2.a30) (r196.2.a31) (r196.2.a32) (r196.2.a33) (r196.2.a34) (r196.2.a35) (r196.2.a36) (r196.2.a37) (r196.2.a38) (r196.2.a39) (r196.2.a40) (r196.2.a41) (r196.2.a42) (r196.2.a43) (r196.2.a44) (r196.2.a45) (r196.2.a46) (r196.2.a47) (r196.2.a48) (r196.2.a49) (r196.2.a50) (r196.2.a51) (r196.2.a52) (r196.2.a53) (r196.2.a54) (r196.2.a55) (r196.2.a56) (r196.2.a57) (r196.2.a58) (z197.f0) (z197.f1) (z197.f2) (z197.f3) (z197.f4) (z197.f5) (z197.f6) (z197.f7) (z197.f8) (z197.f9) (z197.f10) (z197.f11) (z197.f12) (z197.f13) (z197.f14) (z197.f15) (z197.f16))) fun r199 =>
           .br r199.1 (
            .fail) (
            .opt (g9 (S7.mk r199.2.a42 r199.2.a43 r199.2.a44 r199.2.a45 r199.2.a46 r199.2.a47 r199.2.a48 r199.2.a49 r199.2.a50 r199.2.a51 r199.2.a52 r199.2.a53 r199.2.a54 r199.2.a55 r199.2.a56 r199.2.a57 r199.2.a58) (S7.mk r199.2.a59 r199.2.a60 r199.2.a61 r199.2.a62 r199.2.a63 r199.2.a64 r199.2.a65 r199.2.a66 r199.2.a67 r199.2.a68 r199.2.a69 r199.2.a70 r199.2.a71 r199.2.a72 r199.2.a73 r199.2.a74 r199.2.a75)) fun z200 =>
             .br z200 (
              .opt (g11 ) fun z202 =>
               .leaf (z202)) (
              .leaf (false))))))
def g5 (x0 : S7) : Option (Bool) := (g5T x0).get?
noncomputable def T5 : TL := [(0, F5_0), (2, F5_2), (4, F5_4)]
noncomputable def q5 : Ab.Spec := runQ0 e5 (lookT T5) Go.Proofs.Try.f5
theorem q5_ok : SpecOk Go.Proofs.Try.prog 5 q5 := (runQ0_ok (runR_ok (e := e5) follows (allTI ti_ok _ _ _ _) (callsOk_cons s12_ok (callsOk_cons s15_ok (callsOk_cons s17_ok (callsOk_cons s9_ok (callsOk_cons s11_ok (callsOk_nil)))))) Go.Proofs.Try.func5 Go.Proofs.Try.call5) (fun c hc => by
  have hb : c = Go.Proofs.Try.f5.body.getD .skip := by rw [hc]; rfl
  subst hb
  exact tab_cons (by kernel_rfl) F5_0_ok (tab_cons (by kernel_rfl) F5_2_ok (tab_cons (by kernel_rfl) F5_4_ok (tab_nil)))))
theorem g5_run (x0 : S7) : (q5 [.agg (Cod.enc 7 x0)] []).eval = (g5T x0).ev fun r => ((.c (.bool r) : AV), ([] : List Blk)) := by kernel_rfl
noncomputable def s5_0 : Ab.Spec := fun args h =>
  dN h <| dL args fun v0 a0 => dG v0 fun l0 => dE 7 l0 fun x0 => dN a0 <|
  .opt (g5 x0) fun r => .val (.c (.bool r), [])
theorem s5_0_ok : SpecOk Go.Proofs.Try.prog 5 s5_0 :=
  q5_ok.less fun args hs r h => by
    unfold s5_0 at h
    obtain ⟨rfl, hh1⟩ := dN_inv h
    obtain ⟨v0, a0, rfl, hh2⟩ := dL_inv hh1
    obtain ⟨l0, rfl, hh3⟩ := dG_inv hh2
    obtain ⟨x0, rfl, hh4⟩ := dE_inv hh3
    obtain ⟨rfl, hh5⟩ := dN_inv hh4
    rw [g5_run, Tr.ev_get?]
    change (Res.opt (g5 x0) _).eval = some r at hh5
    rw [eval_opt] at hh5
    obtain ⟨z, hz, hh6⟩ := Option.bind_eq_some_iff.mp hh5
    unfold g5 at hz
    rw [hz]; exact hh6
noncomputable def s5 : Ab.Spec := fun args h => s5_0 (coeA [[none, none, none, none, none, none, none, none, none, none, none, none, none, none, none, none, some 1]] args) h
theorem s5_ok : SpecOk Go.Proofs.Try.prog 5 s5 := s5_0_ok.pre [[none, none, none, none, none, none, none, none, none, none, none, none, none, none, none, none, some 1]]
/-- pontage/rvar.Delay -/
noncomputable def L22 : SL := []
noncomputable def e22 : Env := ⟨ti, fun g => lookS g L22, 1000000, [], []⟩
def g22T (x0 : S1) : Tr (Int) :=
  .br x0.f23 (
   .leaf (x0.f42)) (
   .leaf (x0.f43))
def g22 (x0 : S1) : Int := (g22T x0).get default
noncomputable def T22 : TL := []
noncomputable def q22 : Ab.Spec := runQ0 e22 (lookT T22) Go.Proofs.Try.f22
theorem q22_ok : SpecOk Go.Proofs.Try.prog 22 q22 := (runQ0_ok (runR_ok (e := e22) follows (allTI ti_ok _ _ _ _) (callsOk_nil) Go.Proofs.Try.func22 Go.Proofs.Try.call22) (fun c hc => by
  have hb : c = Go.Proofs.Try.f22.body.getD .skip := by rw [hc]; rfl
  subst hb
  exact tab_nil))
theorem g22_run (x0 : S1) : (q22 [.agg (Cod.enc 1 x0)] []).eval = (g22T x0).ev fun r => ((.c (.int .u8 r) : AV), ([] : List Blk)) := by kernel_rfl
noncomputable def s22 : Ab.Spec := fun args h =>
  dN h <| dL args fun v0 a0 => dG v0 fun l0 => dE 1 l0 fun x0 => dN a0 <|
  let r := g22 x0; .val (.c (.int .u8 r), [])
theorem s22_ok : SpecOk Go.Proofs.Try.prog 22 s22 :=
  q22_ok.less fun args hs r h => by
    unfold s22 at h
    obtain ⟨rfl, hh1⟩ := dN_inv h
    obtain ⟨v0, a0, rfl, hh2⟩ := dL_inv hh1
    obtain ⟨l0, rfl, hh3⟩ := dG_inv hh2
    obtain ⟨x0, rfl, hh4⟩ := dE_inv hh3
    obtain ⟨rfl, hh5⟩ := dN_inv hh4
    rw [g22_run, Tr.ev_get (d := default) (by kernel_rfl)]
    exact hh5
/-- pontage/pontageref09.Delay -/
noncomputable def L23 : SL := []
noncomputable def e23 : Env := ⟨ti, fun g => lookS g L23, 1000000, [], []⟩
def g23T (x0 : S1) : Tr (Int) :=
  .br x0.f23 (
   .leaf (x0.f42)) (
   .leaf (x0.f43))
def g23 (x0 : S1) : Int := (g23T x0).get default
noncomputable def T23 : TL := []
noncomputable def q23 : Ab.Spec := runQ0 e23 (lookT T23) Go.Proofs.Try.f23
theorem q23_ok : SpecOk Go.Proofs.Try.prog 23 q23 := (runQ0_ok (runR_ok (e := e23) follows (allTI ti_ok _ _ _ _) (callsOk_nil) Go.Proofs.Try.func23 Go.Proofs.Try.call23) (fun c hc => by
  have hb : c = Go.Proofs.Try.f23.body.getD .skip := by rw [hc]; rfl
  subst hb
  exact tab_nil))
theorem g23_run (x0 : S1) : (q23 [.agg (Cod.enc 1 x0)] []).eval = (g23T x0).ev fun r => ((.c (.int .u8 r) : AV), ([] : List Blk)) := by kernel_rfl
noncomputable def s23 : Ab.Spec := fun args h =>
  dN h <| dL args fun v0 a0 => dG v0 fun l0 => dE 1 l0 fun x0 => dN a0 <|
  let r := g23 x0; .val (.c (.int .u8 r), [])
theorem s23_ok : SpecOk Go.Proofs.Try.prog 23 s23 :=
  q23_ok.less fun args hs r h => by
    unfold s23 at h
    obtain ⟨rfl, hh1⟩ := dN_inv h
    obtain ⟨v0, a0, rfl, hh2⟩ := dL_inv hh1
    obtain ⟨l0, rfl, hh3⟩ := dG_inv hh2
    obtain ⟨x0, rfl, hh4⟩ := dE_inv hh3
    obtain ⟨rfl, hh5⟩ := dN_inv hh4
    rw [g23_run, Tr.ev_get (d := default) (by kernel_rfl)]
    exact hh5
/-- pontage/pontageref09.AllSynced -/
noncomputable def L25 : SL := []
noncomputable def e25 : Env := ⟨ti, fun g => lookS g L25, 1000000, [.drop 0, .drop 3], []⟩
structure W25_0 where
  a0 : Int
  a1 : Bool
  a2 : Int
  a3 : Int
  a4 : Int
  a5 : Int
  a6 : Int
  a7 : Int
  a8 : Int
  a9 : Bool
  a10 : Int
  a11 : Int
  a12 : Int
  a13 : Int
  a14 : Int
  a15 : Int
  a16 : Int
  a17 : Int
  a18 : Int
  a19 : List S1
def hd25_0 (v : W25_0) : St := ⟨[.top, .c (.int .i64 v.a0), .c (.ptr 0 0), .top, .c (.bool v.a1), .c (.int .i64 v.a2), .top, .top, .top, .top, .top, .top, .top, .top, .top, .top, .top, .top, .top, .top, .top, .top, .top, .top, .top, .top, .top, .top, .top, .top, .top, .top, .top, .top, .top, .top, .top, .top, .top, .top, .top, .top, .top, .top, .top, .top, .top, .top], [.cells [.int .u64 v.a3, .int .u8 v.a4, .int .u8 v.a5, .int .u8 v.a6, .int .u8 v.a7, .int .u8 v.a8, .bool v.a9, .int .u16 v.a10, .int .u64 v.a11, .int .u32 v.a12, .int .u64 v.a13, .int .u16 v.a14, .int .u8 v.a15, .int .u8 v.a16, .int .u8 v.a17, .int .u8 v.a18, .rs 1 v.a19]]⟩
def gR25_0 (v : W25_0) : Tr (W25_0 ⊕ (Bool × W25_0)) :=
  .br (decide (v.a2 < (v.a19.length : Int))) (
   .br (decide (0 ≤ v.a2)) (
    .opt (v.a19[Int.toNat v.a2]?) fun y203 =>
     .br (bif (bif (bif (!y203.f22) then true else y203.f28) then true else (y203.f30 != y203.f31)) then true else (bif (bif (v.a2 != v.a0) then (!y203.f25) else false) then (y203.f30 != 3) else false)) (
      .leaf (.inr (true, { v with a1 := false }))) (
      .leaf (.inl ({ v with a2 := (IntKind.i64.wrap (v.a2 + 1)) })))) (
    .fail)) (
   .leaf (.inr (false, v)))
noncomputable def lb25_0 : Code := match findB 0 (Go.Proofs.Try.f25.body.getD .skip) with | [.loop b] => b | _ => .skip
def pa25_0 : List PA := [.any, .c (.int .i64), .c (.ptr 0 0), .any, .c (.bool), .c (.int .i64), .top, .top, .top, .top, .top, .top, .top, .top, .top, .top, .top, .top, .top, .top, .top, .top, .top, .top, .top, .top, .top, .top, .top, .top, .top, .top, .top, .top, .top, .top, .top, .top, .top, .top, .top, .top, .top, .top, .top, .top, .top, .top]
def pb25_0 : List PB := [.cells [.int .u64, .int .u8, .int .u8, .int .u8, .int .u8, .int .u8, .bool, .int .u16, .int .u64, .int .u32, .int .u64, .int .u16, .int .u8, .int .u8, .int .u8, .int .u8, .rs 1]]
def ini25_0 (s : St) : W25_0 := ⟨iC (aC (s.tmps.getD 1 .top)), bC (aC (s.tmps.getD 4 .top)), iC (aC (s.tmps.getD 5 .top)), iC ((bL (s.heap.getD 0 .dead)).getD 0 .top), iC ((bL (s.heap.getD 0 .dead)).getD 1 .top), iC ((bL (s.heap.getD 0 .dead)).getD 2 .top), iC ((bL (s.heap.getD 0 .dead)).getD 3 .top), iC ((bL (s.heap.getD 0 .dead)).getD 4 .top), iC ((bL (s.heap.getD 0 .dead)).getD 5 .top), bC ((bL (s.heap.getD 0 .dead)).getD 6 .top), iC ((bL (s.heap.getD 0 .dead)).getD 7 .top), iC ((bL (s.heap.getD 0 .dead)).getD 8 .top), iC ((bL (s.heap.getD 0 .dead)).getD 9 .top), iC ((bL (s.heap.getD 0 .dead)).getD 10 .top), iC ((bL (s.heap.getD 0 .dead)).getD 11 .top), iC ((bL (s.heap.getD 0 .dead)).getD 12 .top), iC ((bL (s.heap.getD 0 .dead)).getD 13 .top), iC ((bL (s.heap.getD 0 .dead)).getD 14 .top), iC ((bL (s.heap.getD 0 .dead)).getD 15 .top), rC 1 ((bL (s.heap.getD 0 .dead)).getD 16 .top)⟩
noncomputable def F25_0 : St → Res (Ex × St) := loopF pa25_0 pb25_0 1000000 hd25_0 gR25_0 ini25_0 true
theorem F25_0_ok (s : St) (r : Ex × St) (h : (F25_0 s).eval = some r) : (codeR e25 0 (.block 0 (.loop lb25_0)) s).eval = some r :=
  blk_ok (e := e25) (T := lookT []) (fun s v => by kernel_rfl) (fun s => by kernel_rfl) (tab_nil) s r h
def g25T (x0 : S7) (x1 : Int) : Tr (Bool) :=
  .opt (iter gR25_0 1000000 (W25_0.mk (x1) (false) (0) (x0.f0) (x0.f1) (x0.f2) (x0.f3) (x0.f4) (x0.f5) (x0.f6) (x0.f7) (x0.f8) (x0.f9) (x0.f10) (x0.f11) (x0.f12) (x0.f13) (x0.f14) (x0.f15) (x0.f16))) fun r204 =>
   .br r204.1 (
    .leaf (r204.2.a1)) (
    .leaf (true))
def g25 (x0 : S7) (x1 : Int) : Option (Bool) := (g25T x0 x1).get?
noncomputable def T25 : TL := [(0, F25_0)]
noncomputable def q25 : Ab.Spec := runQ0 e25 (lookT T25) Go.Proofs.Try.f25
theorem q25_ok : SpecOk Go.Proofs.Try.prog 25 q25 := (runQ0_ok (runR_ok (e := e25) follows (allTI ti_ok _ _ _ _) (callsOk_nil) Go.Proofs.Try.func25 Go.Proofs.Try.call25) (fun c hc => by
  have hb : c = Go.Proofs.Try.f25.body.getD .skip := by rw [hc]; rfl
  subst hb
  exact tab_cons (by kernel_rfl) F25_0_ok (tab_nil)))
theorem g25_run (x0 : S7) (x1 : Int) : (q25 [.agg (Cod.enc 7 x0), .c (.int .i64 x1)] []).eval = (g25T x0 x1).ev fun r => ((.c (.bool r) : AV), ([] : List Blk)) := by kernel_rfl
noncomputable def s25_0 : Ab.Spec := fun args h =>
  dN h <| dL args fun v0 a0 => dG v0 fun l0 => dE 7 l0 fun x0 => dL a0 fun v1 a1 => dC v1 fun c0 => dI .i64 c0 fun x1 => dN a1 <|
  .opt (g25 x0 x1) fun r => .val (.c (.bool r), [])
theorem s25_0_ok : SpecOk Go.Proofs.Try.prog 25 s25_0 :=
  q25_ok.less fun args hs r h => by
    unfold s25_0 at h
    obtain ⟨rfl, hh1⟩ := dN_inv h
    obtain ⟨v0, a0, rfl, hh2⟩ := dL_inv hh1
    obtain ⟨l0, rfl, hh3⟩ := dG_inv hh2
    obtain ⟨x0, rfl, hh4⟩ := dE_inv hh3
    obtain ⟨v1, a1, rfl, hh5⟩ := dL_inv hh4
    obtain ⟨c0, rfl, hh6⟩ := dC_inv hh5
    obtain ⟨x1, rfl, hh7⟩ := dI_inv hh6
    obtain ⟨rfl, hh8⟩ := dN_inv hh7
    rw [g25_run, Tr.ev_get?]
    change (Res.opt (g25 x0 x1) _).eval = some r at hh8
    rw [eval_opt] at hh8
    obtain ⟨z, hz, hh9⟩ := Option.bind_eq_some_iff.mp hh8
    unfold g25 at hz
    rw [hz]; exact hh9
noncomputable def s25 : Ab.Spec := fun args h => s25_0 (coeA [[none, none, none, none, none, none, none, none, none, none, none, none, none, none, none, none, some 1], []] args) h
theorem s25_ok : SpecOk Go.Proofs.Try.prog 25 s25 := s25_0_ok.pre [[none, none, none, none, none, none, none, none, none, none, none, none, none, none, none, none, some 1], []]
/-- pontage/pontageref09.ReRooted -/
noncomputable def L27 : SL := []
noncomputable def e27 : Env := ⟨ti, fun g => lookS g L27, 1000000, [.drop 0, .drop 3], []⟩
structure W27_0 where
  a0 : Int
  a1 : Bool
  a2 : Int
  a3 : Int
  a4 : Int
  a5 : Int
  a6 : Int
  a7 : Int
  a8 : Int
  a9 : Bool
  a10 : Int
  a11 : Int
  a12 : Int
  a13 : Int
  a14 : Int
  a15 : Int
  a16 : Int
  a17 : Int
  a18 : Int
  a19 : List S1
def hd27_0 (v : W27_0) : St := ⟨[.top, .c (.int .i64 v.a0), .c (.ptr 0 0), .top, .c (.bool v.a1), .c (.int .i64 v.a2), .top, .top, .top, .top, .top, .top, .top, .top, .top, .top, .top, .top, .top, .top, .top, .top, .top, .top, .top], [.cells [.int .u64 v.a3, .int .u8 v.a4, .int .u8 v.a5, .int .u8 v.a6, .int .u8 v.a7, .int .u8 v.a8, .bool v.a9, .int .u16 v.a10, .int .u64 v.a11, .int .u32 v.a12, .int .u64 v.a13, .int .u16 v.a14, .int .u8 v.a15, .int .u8 v.a16, .int .u8 v.a17, .int .u8 v.a18, .rs 1 v.a19]]⟩
def gR27_0 (v : W27_0) : Tr (W27_0 ⊕ (Bool × W27_0)) :=
  .br (decide (v.a2 < (v.a19.length : Int))) (
   .br (v.a2 != v.a0) (
    .br (decide (0 ≤ v.a2)) (
     .opt (v.a19[Int.toNat v.a2]?) fun y206 =>
      .br (y206.f70 != 0) (
       .leaf (.inr (true, { v with a1 := false }))) (
       .leaf (.inl ({ v with a2 := (IntKind.i64.wrap (v.a2 + 1)) })))) (
     .fail)) (
    .leaf (.inl ({ v with a2 := (IntKind.i64.wrap (v.a2 + 1)) })))) (
   .leaf (.inr (false, v)))
noncomputable def lb27_0 : Code := match findB 0 (Go.Proofs.Try.f27.body.getD .skip) with | [.loop b] => b | _ => .skip
def pa27_0 : List PA := [.any, .c (.int .i64), .c (.ptr 0 0), .any, .c (.bool), .c (.int .i64), .top, .top, .top, .top, .top, .top, .top, .top, .top, .top, .top, .top, .top, .top, .top, .top, .top, .top, .top]
def pb27_0 : List PB := [.cells [.int .u64, .int .u8, .int .u8, .int .u8, .int .u8, .int .u8, .bool, .int .u16, .int .u64, .int .u32, .int .u64, .int .u16, .int .u8, .int .u8, .int .u8, .int .u8, .rs 1]]
def ini27_0 (s : St) : W27_0 := ⟨iC (aC (s.tmps.getD 1 .top)), bC (aC (s.tmps.getD 4 .top)), iC (aC (s.tmps.getD 5 .top)), iC ((bL (s.heap.getD 0 .dead)).getD 0 .top), iC ((bL (s.heap.getD 0 .dead)).getD 1 .top), iC ((bL (s.heap.getD 0 .dead)).getD 2 .top), iC ((bL (s.heap.getD 0 .dead)).getD 3 .top), iC ((bL (s.heap.getD 0 .dead)).getD 4 .top), iC ((bL (s.heap.getD 0 .dead)).getD 5 .top), bC ((bL (s.heap.getD 0 .dead)).getD 6 .top), iC ((bL (s.heap.getD 0 .dead)).getD 7 .top), iC ((bL (s.heap.getD 0 .dead)).getD 8 .top), iC ((bL (s.heap.getD 0 .dead)).getD 9 .top), iC ((bL (s.heap.getD 0 .dead)).getD 10 .top), iC ((bL (s.heap.getD 0 .dead)).getD 11 .top), iC ((bL (s.heap.getD 0 .dead)).getD 12 .top), iC ((bL (s.heap.getD 0 .dead)).getD 13 .top), iC ((bL (s.heap.getD 0 .dead)).getD 14 .top), iC ((bL (s.heap.getD 0 .dead)).getD 15 .top), rC 1 ((bL (s.heap.getD 0 .dead)).getD 16 .top)⟩
noncomputable def F27_0 : St → Res (Ex × St) := loopF pa27_0 pb27_0 1000000 hd27_0 gR27_0 ini27_0 true
theorem F27_0_ok (s : St) (r : Ex × St) (h : (F27_0 s).eval = some r) : (codeR e27 0 (.block 0 (.loop lb27_0)) s).eval = some r :=
  blk_ok (e := e27) (T := lookT []) (fun s v => by kernel_rfl) (fun s => by kernel_rfl) (tab_nil) s r h
def g27T (x0 : S7) (x1 : Int) : Tr (Bool) :=
  .opt (iter gR27_0 1000000 (W27_0.mk (x1) (false) (0) (x0.f0) (x0.f1) (x0.f2) (x0.f3) (x0.f4) (x0.f5) (x0.f6) (x0.f7) (x0.f8) (x0.f9) (x0.f10) (x0.f11) (x0.f12) (x0.f13) (x0.f14) (x0.f15) (x0.f16))) fun r207 =>
   .br r207.1 (
    .leaf (r207.2.a1)) (
    .leaf (true))
def g27 (x0 : S7) (x1 : Int) : Option (Bool) := (g27T x0 x1).get?
noncomputable def T27 : TL := [(0, F27_0)]
noncomputable def q27 : Ab.Spec := runQ0 e27 (lookT T27) Go.Proofs.Try.f27
theorem q27_ok : SpecOk Go.Proofs.Try.prog 27 q27 := (runQ0_ok (runR_ok (e := e27) follows (allTI ti_ok _ _ _ _) (callsOk_nil) Go.Proofs.Try.func27 Go.Proofs.Try.call27) (fun c hc => by
  have hb : c = Go.Proofs.Try.f27.body.getD .skip := by rw [hc]; rfl
  subst hb
  exact tab_cons (by kernel_rfl) F27_0_ok (tab_nil)))
theorem g27_run (x0 : S7) (x1 : Int) : (q27 [.agg (Cod.enc 7 x0), .c (.int .i64 x1)] []).eval = (g27T x0 x1).ev fun r => ((.c (.bool r) : AV), ([] : List Blk)) := by kernel_rfl
noncomputable def s27_0 : Ab.Spec := fun args h =>
  dN h <| dL args fun v0 a0 => dG v0 fun l0 => dE 7 l0 fun x0 => dL a0 fun v1 a1 => dC v1 fun c0 => dI .i64 c0 fun x1 => dN a1 <|
  .opt (g27 x0 x1) fun r => .val (.c (.bool r), [])
theorem s27_0_ok : SpecOk Go.Proofs.Try.prog 27 s27_0 :=
  q27_ok.less fun args hs r h => by
    unfold s27_0 at h
    obtain ⟨rfl, hh1⟩ := dN_inv h
    obtain ⟨v0, a0, rfl, hh2⟩ := dL_inv hh1
    obtain ⟨l0, rfl, hh3⟩ := dG_inv hh2
    obtain ⟨x0, rfl, hh4⟩ := dE_inv hh3
    obtain ⟨v1, a1, rfl, hh5⟩ := dL_inv hh4
    obtain ⟨c0, rfl, hh6⟩ := dC_inv hh5
    obtain ⟨x1, rfl, hh7⟩ := dI_inv hh6
    obtain ⟨rfl, hh8⟩ := dN_inv hh7
    rw [g27_run, Tr.ev_get?]
    change (Res.opt (g27 x0 x1) _).eval = some r at hh8
    rw [eval_opt] at hh8
    obtain ⟨z, hz, hh9⟩ := Option.bind_eq_some_iff.mp hh8
    unfold g27 at hz
    rw [hz]; exact hh9
noncomputable def s27 : Ab.Spec := fun args h => s27_0 (coeA [[none, none, none, none, none, none, none, none, none, none, none, none, none, none, none, none, some 1], []] args) h
theorem s27_ok : SpecOk Go.Proofs.Try.prog 27 s27 := s27_0_ok.pre [[none, none, none, none, none, none, none, none, none, none, none, none, none, none, none, none, some 1], []]
/-- pontage/pontagelaw09.RvarAsks -/
noncomputable def L6 : SL := [(12, .byNew, s12), (22, .byVal, s22), (23, .byVal, s23), (24, .byVal, s24), (25, .byVal, s25), (26, .byVal, s26), (27, .byVal, s27), (28, .byVal, s28), (9, .byVal, s9), (11, .byVal, s11)]
noncomputable def e6 : Env := ⟨ti, fun g => lookS g L6, 1000000, [.drop 0, .drop 1, .drop 5, .drop 8, .drop 9, .drop 10, .drop 11], []⟩
structure W6_0 where
  a0 : Int
  a1 : Bool
  a2 : Int
  a3 : Int
  a4 : Int
  a5 : Int
  a6 : Int
  a7 : Int
  a8 : Int
  a9 : Bool
  a10 : Int
  a11 : Int
  a12 : Int
  a13 : Int
  a14 : Int
  a15 : Int
  a16 : Int
  a17 : Int
  a18 : Int
  a19 : List S1
  a20 : Int
  a21 : Int
  a22 : Int
  a23 : Int
  a24 : Int
  a25 : Int
  a26 : Bool
  a27 : Int
  a28 : Int
  a29 : Int
  a30 : Int
  a31 : Int
  a32 : Int
  a33 : Int
  a34 : Int
  a35 : Int
  a36 : List S1
def hd6_0 (v : W6_0) : St := ⟨[.top, .top, .c (.int .i64 v.a0), .c (.ptr 0 0), .c (.ptr 1 0), .top, .c (.bool v.a1), .c (.int .i64 v.a2), .top, .top, .top, .top, .top, .top, .top, .top, .top, .top, .top, .top, .top, .top, .top, .top, .top, .top, .top, .top, .top, .top, .top, .top, .top, .top, .top, .top, .top, .top, .top, .top, .top, .top, .top, .top, .top, .top, .top, .top, .top, .top, .top, .top, .top, .top, .top, .top, .top, .top, .top, .top, .top, .top, .top, .top, .top], [.cells [.int .u64 v.a3, .int .u8 v.a4, .int .u8 v.a5, .int .u8 v.a6, .int .u8 v.a7, .int .u8 v.a8, .bool v.a9, .int .u16 v.a10, .int .u64 v.a11, .int .u32 v.a12, .int .u64 v.a13, .int .u16 v.a14, .int .u8 v.a15, .int .u8 v.a16, .int .u8 v.a17, .int .u8 v.a18, .rs 1 v.a19], .cells [.int .u64 v.a20, .int .u8 v.a21, .int .u8 v.a22, .int .u8 v.a23, .int .u8 v.a24, .int .u8 v.a25, .bool v.a26, .int .u16 v.a27, .int .u64 v.a28, .int .u32 v.a29, .int .u64 v.a30, .int .u16 v.a31, .int .u8 v.a32, .int .u8 v.a33, .int .u8 v.a34, .int .u8 v.a35, .rs 1 v.a36]]⟩
def gR6_0 (v : W6_0) : Tr (W6_0 ⊕ (Bool × W6_0)) :=
  .br (decide (v.a2 < (v.a19.length : Int))) (
   .br (decide (0 ≤ v.a2)) (
    .opt (v.a19[Int.toNat v.a2]?) fun y210 =>
     let z211 := g22 y210
     .br (decide (0 ≤ v.a2)) (
      .opt (v.a19[Int.toNat v.a2]?) fun y212 =>
       let z213 := g23 y212
       .br (z211 != z213) (
        .leaf (.inr (true, { v with a1 := false }))) (
        .leaf (.inl ({ v with a2 := (IntKind.i64.wrap (v.a2 + 1)) })))) (
      .fail)) (
    .fail)) (
   .leaf (.inr (false, v)))
noncomputable def lb6_0 : Code := match findB 0 (Go.Proofs.Try.f6.body.getD .skip) with | [.loop b] => b | _ => .skip
def pa6_0 : List PA := [.any, .any, .c (.int .i64), .c (.ptr 0 0), .c (.ptr 1 0), .any, .c (.bool), .c (.int .i64), .any, .any, .any, .any, .top, .top, .top, .top, .top, .top, .top, .top, .top, .top, .top, .top, .top, .top, .top, .top, .top, .top, .top, .top, .top, .top, .top, .top, .top, .top, .top, .top, .top, .top, .top, .top, .top, .top, .top, .top, .top, .top, .top, .top, .top, .top, .top, .top, .top, .top, .top, .top, .top, .top, .top, .top, .top]
def pb6_0 : List PB := [.cells [.int .u64, .int .u8, .int .u8, .int .u8, .int .u8, .int .u8, .bool, .int .u16, .int .u64, .int .u32, .int .u64, .int .u16, .int .u8, .int .u8, .int .u8, .int .u8, .rs 1], .cells [.int .u64, .int .u8, .int .u8, .int .u8, .int .u8, .int .u8, .bool, .int .u16, .int .u64, .int .u32, .int .u64, .int .u16, .int .u8, .int .u8, .int .u8, .int .u8, .rs 1]]
def ini6_0 (s : St) : W6_0 := ⟨iC (aC (s.tmps.getD 2 .top)), bC (aC (s.tmps.getD 6 .top)), iC (aC (s.tmps.getD 7 .top)), iC ((bL (s.heap.getD 0 .dead)).getD 0 .top), iC ((bL (s.heap.getD 0 .dead)).getD 1 .top), iC ((bL (s.heap.getD 0 .dead)).getD 2 .top), iC ((bL (s.heap.getD 0 .dead)).getD 3 .top), iC ((bL (s.heap.getD 0 .dead)).getD 4 .top), iC ((bL (s.heap.getD 0 .dead)).getD 5 .top), bC ((bL (s.heap.getD 0 .dead)).getD 6 .top), iC ((bL (s.heap.getD 0 .dead)).getD 7 .top), iC ((bL (s.heap.getD 0 .dead)).getD 8 .top), iC ((bL (s.heap.getD 0 .dead)).getD 9 .top), iC ((bL (s.heap.getD 0 .dead)).getD 10 .top), iC ((bL (s.heap.getD 0 .dead)).getD 11 .top), iC ((bL (s.heap.getD 0 .dead)).getD 12 .top), iC ((bL (s.heap.getD 0 .dead)).getD 13 .top), iC ((bL (s.heap.getD 0 .dead)).getD 14 .top), iC ((bL (s.heap.getD 0 .dead)).getD 15 .top), rC 1 ((bL (s.heap.getD 0 .dead)).getD 16 .top), iC ((bL (s.heap.getD 1 .dead)).getD 0 .top), iC ((bL (s.heap.getD 1 .dead)).getD 1 .top), iC ((bL (s.heap.getD 1 .dead)).getD 2 .top), iC ((bL (s.heap.getD 1 .dead)).getD 3 .top), iC ((bL (s.heap.getD 1 .dead)).getD 4 .top), iC ((bL (s.heap.getD 1 .dead)).getD 5 .top), bC ((bL (s.heap.getD 1 .dead)).getD 6 .top), iC ((bL (s.heap.getD 1 .dead)).getD 7 .top), iC ((bL (s.heap.getD 1 .dead)).getD 8 .top), iC ((bL (s.heap.getD 1 .dead)).getD 9 .top), iC ((bL (s.heap.getD 1 .dead)).getD 10 .top), iC ((bL (s.heap.getD 1 .dead)).getD 11 .top), iC ((bL (s.heap.getD 1 .dead)).getD 12 .top), iC ((bL (s.heap.getD 1 .dead)).getD 13 .top), iC ((bL (s.heap.getD 1 .dead)).getD 14 .top), iC ((bL (s.heap.getD 1 .dead)).getD 15 .top), rC 1 ((bL (s.heap.getD 1 .dead)).getD 16 .top)⟩
noncomputable def F6_0 : St → Res (Ex × St) := loopF pa6_0 pb6_0 1000000 hd6_0 gR6_0 ini6_0 true
theorem F6_0_ok (s : St) (r : Ex × St) (h : (F6_0 s).eval = some r) : (codeR e6 0 (.block 0 (.loop lb6_0)) s).eval = some r :=
  blk_ok (e := e6) (T := lookT []) (fun s v => by kernel_rfl) (fun s => by kernel_rfl) (tab_nil) s r h
def g6T (x0 : S7) (x1 : S7) (x2 : Int) : Tr (Bool) :=
  .opt (g12 x0) fun z208 =>
   .opt (g12 x1) fun z209 =>
    .opt (iter gR6_0 1000000 (W6_0.mk (x2) (false) (0) (z208.f0) (z208.f1) (z208.f2) (z208.f3) (z208.f4) (z208.f5) (z208.f6) (z208.f7) (z208.f8) (z208.f9) (z208.f10) (z208.f11) (z208.f12) (z208.f13) (z208.f14) (z208.f15) (z208.f16) (z209.f0) (z209.f1) (z209.f2) (z209.f3) (z209.f4) (z209.f5) (z209.f6) (z209.f7) (z209.f8) (z209.f9) (z209.f10) (z209.f11) (z209.f12) (z209.f13) (z209.f14) (z209.f15) (z209.f16))) fun r214 =>
     .br r214.1 (
      .leaf (r214.2.a1)) (
      .opt (g24 (S7.mk r214.2.a3 r214.2.a4 r214.2.a5 r214.2.a6 r214.2.a7 r214.2.a8 r214.2.a9 r214.2.a10 r214.2.a11 r214.2.a12 r214.2.a13 r214.2.a14 r214.2.a15 r214.2.a16 r214.2.a17 r214.2.a18 r214.2.a19) r214.2.a0) fun z215 =>
       .opt (g25 (S7.mk r214.2.a3 r214.2.a4 r214.2.a5 r214.2.a6 r214.2.a7 r214.2.a8 r214.2.a9 r214.2.a10 r214.2.a11 r214.2.a12 r214.2.a13 r214.2.a14 r214.2.a15 r214.2.a16 r214.2.a17 r214.2.a18 r214.2.a19) r214.2.a0) fun z216 =>
        .br (z215 == z216) (
         .opt (g26 (S7.mk r214.2.a3 r214.2.a4 r214.2.a5 r214.2.a6 r214.2.a7 r214.2.a8 r214.2.a9 r214.2.a10 r214.2.a11 r214.2.a12 r214.2.a13 r214.2.a14 r214.2.a15 r214.2.a16 r214.2.a17 r214.2.a18 r214.2.a19) r214.2.a0) fun z218 =>
          .opt (g27 (S7.mk r214.2.a3 r214.2.a4 r214.2.a5 r214.2.a6 r214.2.a7 r214.2.a8 r214.2.a9 r214.2.a10 r214.2.a11 r214.2.a12 r214.2.a13 r214.2.a14 r214.2.a15 r214.2.a16 r214.2.a17 r214.2.a18 r214.2.a19) r214.2.a0) fun z219 =>
           .br (z218 == z219) (
            .opt (g28 (S7.mk r214.2.a3 r214.2.a4 r214.2.a5 r214.2.a6 r214.2.a7 r214.2.a8 r214.2.a9 r214.2.a10 r214.2.a11 r214.2.a12 r214.2.a13 r214.2.a14 r214.2.a15 r214.2.a16 r214.2.a17 r214.2.a18 r214.2.a19) (S7.mk r214.2.a20 r214.2.a21 r214.2.a22 r214.2.a23 r214.2.a24 r214.2.a25 r214.2.a26 r214.2.a27 r214.2.a28 r214.2.a29 r214.2.a30 r214.2.a31 r214.2.a32 r214.2.a33 r214.2.a34 r214.2.a35 r214.2.a36)) fun z221 =>
             .opt (g9 (S7.mk r214.2.a3 r214.2.a4 r214.2.a5 r214.2.a6 r214.2.a7 r214.2.a8 r214.2.a9 r214.2.a10 r214.2.a11 r214.2.a12 r214.2.a13 r214.2.a14 r214.2.a15 r214.2.a16 r214.2.a17 r214.2.a18 r214.2.a19) (S7.mk r214.2.a20 r214.2.a21 r214.2.a22 r214.2.a23 r214.2.a24 r214.2.a25 r214.2.a26 r214.2.a27 r214.2.a28 r214.2.a29 r214.2.a30 r214.2.a31 r214.2.a32 r214.2.a33 r214.2.a34 r214.2.a35 r214.2.a36)) fun z222 =>
              .br (z221 == z222) (
               .opt (g28 (S7.mk r214.2.a3 r214.2.a4 r214.2.a5 r214.2.a6 r214.2.a7 r214.2.a8 r214.2.a9 r214.2.a10 r214.2.a11 r214.2.a12 r214.2.a13 r214.2.a14 r214.2.a15 r214.2.a16 r214.2.a17 r214.2.a18 r214.2.a19) (S7.mk r214.2.a3 r214.2.a4 r214.2.a5 r214.2.a6 r214.2.a7 r214.2.a8 r214.2.a9 r214.2.a10 r214.2.a11 r214.2.a12 r214.2.a13 r214.2.a14 r214.2.a15 r214.2.a16 r214.2.a17 r214.2.a18 r214.2.a19)) fun z224 =>
                .br z224 (
                 .opt (g11 ) fun z226 =>
                  .leaf (z226)) (
                 .leaf (false))) (
               .leaf (false))) (
            .leaf (false))) (
         .leaf (false)))
def g6 (x0 : S7) (x1 : S7) (x2 : Int) : Option (Bool) := (g6T x0 x1 x2).get?
noncomputable def T6 : TL := [(0, F6_0)]
noncomputable def q6 : Ab.Spec := runQ0 e6 (lookT T6) Go.Proofs.Try.f6
theorem q6_ok : SpecOk Go.Proofs.Try.prog 6 q6 := (runQ0_ok (runR_ok (e := e6) follows (allTI ti_ok _ _ _ _) (callsOk_cons s12_ok (callsOk_cons s22_ok (callsOk_cons s23_ok (callsOk_cons s24_ok (callsOk_cons s25_ok (callsOk_cons s26_ok (callsOk_cons s27_ok (callsOk_cons s28_ok (callsOk_cons s9_ok (callsOk_cons s11_ok (callsOk_nil))))))))))) Go.Proofs.Try.func6 Go.Proofs.Try.call6) (fun c hc => by
  have hb : c = Go.Proofs.Try.f6.body.getD .skip := by rw [hc]; rfl
  subst hb
  exact tab_cons (by kernel_rfl) F6_0_ok (tab_nil)))
theorem g6_run (x0 : S7) (x1 : S7) (x2 : Int) : (q6 [.agg (Cod.enc 7 x0), .agg (Cod.enc 7 x1), .c (.int .i64 x2)] []).eval = (g6T x0 x1 x2).ev fun r => ((.c (.bool r) : AV), ([] : List Blk)) := by kernel_rfl
noncomputable def s6_0 : Ab.Spec := fun args h =>
  dN h <| dL args fun v0 a0 => dG v0 fun l0 => dE 7 l0 fun x0 => dL a0 fun v1 a1 => dG v1 fun l1 => dE 7 l1 fun x1 => dL a1 fun v2 a2 => dC v2 fun c0 => dI .i64 c0 fun x2 => dN a2 <|
  .opt (g6 x0 x1 x2) fun r => .val (.c (.bool r), [])
theorem s6_0_ok : SpecOk Go.Proofs.Try.prog 6 s6_0 :=
  q6_ok.less fun args hs r h => by
    unfold s6_0 at h
    obtain ⟨rfl, hh1⟩ := dN_inv h
    obtain ⟨v0, a0, rfl, hh2⟩ := dL_inv hh1
    obtain ⟨l0, rfl, hh3⟩ := dG_inv hh2
    obtain ⟨x0, rfl, hh4⟩ := dE_inv hh3
    obtain ⟨v1, a1, rfl, hh5⟩ := dL_inv hh4
    obtain ⟨l1, rfl, hh6⟩ := dG_inv hh5
    obtain ⟨x1, rfl, hh7⟩ := dE_inv hh6
    obtain ⟨v2, a2, rfl, hh8⟩ := dL_inv hh7
    obtain ⟨c0, rfl, hh9⟩ := dC_inv hh8
    obtain ⟨x2, rfl, hh10⟩ := dI_inv hh9
    obtain ⟨rfl, hh11⟩ := dN_inv hh10
    rw [g6_run, Tr.ev_get?]
    change (Res.opt (g6 x0 x1 x2) _).eval = some r at hh11
    rw [eval_opt] at hh11
    obtain ⟨z, hz, hh12⟩ := Option.bind_eq_some_iff.mp hh11
    unfold g6 at hz
    rw [hz]; exact hh12
noncomputable def s6 : Ab.Spec := fun args h => s6_0 (coeA [[none, none, none, none, none, none, none, none, none, none, none, none, none, none, none, none, some 1], [none, none, none, none, none, none, none, none, none, none, none, none, none, none, none, none, some 1], []] args) h
theorem s6_ok : SpecOk Go.Proofs.Try.prog 6 s6 := s6_0_ok.pre [[none, none, none, none, none, none, none, none, none, none, none, none, none, none, none, none, some 1], [none, none, none, none, none, none, none, none, none, none, none, none, none, none, none, none, some 1], []]
end Ab09
