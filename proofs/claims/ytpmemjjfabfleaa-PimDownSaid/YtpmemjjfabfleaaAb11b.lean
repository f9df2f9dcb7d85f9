/- Seat 11: the functions. -/
import Derived.Test.YtpmemjjfabfleaaAb11a
set_option maxRecDepth 100000
set_option maxHeartbeats 4000000
set_option linter.unusedVariables false
set_option linter.unusedSimpArgs false
namespace Ab11
open Go Ab
/-- pontage/pontagelaw09.Few -/
noncomputable def L7 : SL := []
noncomputable def e7 : Env := ⟨ti, fun g => lookS g L7, 1000000, [], []⟩
def g7T (x0 : S7) : Tr (S7) :=
  .br (decide (0 ≤ (mnI (x0.f16.length : Int) 10)) && decide ((mnI (x0.f16.length : Int) 10) ≤ (x0.f16.length : Int))) (
   .br ((List.take (Int.toNat (mnI (x0.f16.length : Int) 10)) x0.f16).isEmpty) (
    .leaf ({ x0 with f16 := [] })) (
    .br (Nat.ble (0 + (List.take (Int.toNat (mnI (x0.f16.length : Int) 10)) x0.f16).length) 140737488355328 && Nat.ble ((0 + (List.take (Int.toNat (mnI (x0.f16.length : Int) 10)) x0.f16).length) * 248) 140737488355328) (
     .leaf ({ x0 with f16 := (List.take (Int.toNat (mnI (x0.f16.length : Int) 10)) x0.f16) })) (
     .fail))) (
   .fail)
def g7 (x0 : S7) : Option (S7) := (g7T x0).get?
noncomputable def T7 : TL := []
noncomputable def q7 : Ab.Spec := frzR [[none, none, none, none, none, none, none, none, none, none, none, none, none, none, none, none, some 0]] (runQ0 e7 (lookT T7) Go.Proofs.Try.f7)
theorem q7_ok : SpecOk Go.Proofs.Try.prog 7 q7 := (runQ0_ok (runR_ok (e := e7) follows (allTI ti_ok _ _ _ _) (callsOk_nil) Go.Proofs.Try.func7 Go.Proofs.Try.call7) (fun c hc => by
  have hb : c = Go.Proofs.Try.f7.body.getD .skip := by rw [hc]; rfl
  subst hb
  exact tab_nil)).froze [[none, none, none, none, none, none, none, none, none, none, none, none, none, none, none, none, some 0]]
theorem g7_run (x0 : S7) : (q7 [.agg (Cod.enc 7 x0)] []).eval = (g7T x0).ev fun r => ((.agg (Cod.enc 7 r) : AV), ([] : List Blk)) := by kernel_rfl
noncomputable def s7_0 : Ab.Spec := fun args h =>
  dN h <| dL args fun v0 a0 => dG v0 fun l0 => dE 7 l0 fun x0 => dN a0 <|
  .opt (g7 x0) fun r => .val (.agg (Cod.enc 7 r), [])
theorem s7_0_ok : SpecOk Go.Proofs.Try.prog 7 s7_0 :=
  q7_ok.less fun args hs r h => by
    unfold s7_0 at h
    obtain ⟨rfl, hh1⟩ := dN_inv h
    obtain ⟨v0, a0, rfl, hh2⟩ := dL_inv hh1
    obtain ⟨l0, rfl, hh3⟩ := dG_inv hh2
    obtain ⟨x0, rfl, hh4⟩ := dE_inv hh3
    obtain ⟨rfl, hh5⟩ := dN_inv hh4
    rw [g7_run, Tr.ev_get?]
    change (Res.opt (g7 x0) _).eval = some r at hh5
    rw [eval_opt] at hh5
    obtain ⟨z, hz, hh6⟩ := Option.bind_eq_some_iff.mp hh5
    unfold g7 at hz
    rw [hz]; exact hh6
noncomputable def s7 : Ab.Spec := fun args h => s7_0 (coeA [[none, none, none, none, none, none, none, none, none, none, none, none, none, none, none, none, some 0]] args) h
theorem s7_ok : SpecOk Go.Proofs.Try.prog 7 s7 := s7_0_ok.pre [[none, none, none, none, none, none, none, none, none, none, none, none, none, none, none, none, some 0]]
/-- pontage/pim.has -/
noncomputable def L18 : SL := []
noncomputable def e18 : Env := ⟨ti, fun g => lookS g L18, 1000000, [], []⟩
def g18T (x0 : S7) (x1 : Int) : Tr (Bool) :=
  .leaf ((bif (decide (x1 ≥ 0)) then (decide (x1 < (x0.f16.length : Int))) else false))
def g18 (x0 : S7) (x1 : Int) : Bool := (g18T x0 x1).get default
noncomputable def T18 : TL := []
noncomputable def q18 : Ab.Spec := runQ0 e18 (lookT T18) Go.Proofs.Try.f18
theorem q18_ok : SpecOk Go.Proofs.Try.prog 18 q18 := (runQ0_ok (runR_ok (e := e18) follows (allTI ti_ok _ _ _ _) (callsOk_nil) Go.Proofs.Try.func18 Go.Proofs.Try.call18) (fun c hc => by
  have hb : c = Go.Proofs.Try.f18.body.getD .skip := by rw [hc]; rfl
  subst hb
  exact tab_nil))
theorem g18_run (x0 : S7) (x1 : Int) : (q18 [.agg (Cod.enc 7 x0), .c (.int .i64 x1)] []).eval = (g18T x0 x1).ev fun r => ((.c (.bool r) : AV), ([] : List Blk)) := by kernel_rfl
noncomputable def s18_0 : Ab.Spec := fun args h =>
  dN h <| dL args fun v0 a0 => dG v0 fun l0 => dE 7 l0 fun x0 => dL a0 fun v1 a1 => dC v1 fun c0 => dI .i64 c0 fun x1 => dN a1 <|
  let r := g18 x0 x1; .val (.c (.bool r), [])
theorem s18_0_ok : SpecOk Go.Proofs.Try.prog 18 s18_0 :=
  q18_ok.less fun args hs r h => by
    unfold s18_0 at h
    obtain ⟨rfl, hh1⟩ := dN_inv h
    obtain ⟨v0, a0, rfl, hh2⟩ := dL_inv hh1
    obtain ⟨l0, rfl, hh3⟩ := dG_inv hh2
    obtain ⟨x0, rfl, hh4⟩ := dE_inv hh3
    obtain ⟨v1, a1, rfl, hh5⟩ := dL_inv hh4
    obtain ⟨c0, rfl, hh6⟩ := dC_inv hh5
    obtain ⟨x1, rfl, hh7⟩ := dI_inv hh6
    obtain ⟨rfl, hh8⟩ := dN_inv hh7
    rw [g18_run, Tr.ev_get (d := default) (by kernel_rfl)]
    exact hh8
noncomputable def s18 : Ab.Spec := fun args h => s18_0 (coeA [[none, none, none, none, none, none, none, none, none, none, none, none, none, none, none, none, some 0], []] args) h
theorem s18_ok : SpecOk Go.Proofs.Try.prog 18 s18 := s18_0_ok.pre [[none, none, none, none, none, none, none, none, none, none, none, none, none, none, none, none, some 0], []]
/-- pontage/pim.Step$1 -/
noncomputable def L19 : SL := []
noncomputable def e19 : Env := ⟨ti, fun g => lookS g L19, 1000000, [], []⟩
def g19T (x0 : S0) : Tr (S0) :=
  .leaf (x0)
def g19 (x0 : S0) : S0 := (g19T x0).get default
noncomputable def T19 : TL := []
noncomputable def q19 : Ab.Spec := runQ0 e19 (lookT T19) Go.Proofs.Try.f19
theorem q19_ok : SpecOk Go.Proofs.Try.prog 19 q19 := (runQ0_ok (runR_ok (e := e19) follows (allTI ti_ok _ _ _ _) (callsOk_nil) Go.Proofs.Try.func19 Go.Proofs.Try.call19) (fun c hc => by
  have hb : c = Go.Proofs.Try.f19.body.getD .skip := by rw [hc]; rfl
  subst hb
  exact tab_nil))
theorem g19_run (x0 : S0) : (q19 [.agg (Cod.enc 0 x0)] []).eval = (g19T x0).ev fun r => ((.agg (Cod.enc 0 r) : AV), ([] : List Blk)) := by kernel_rfl
noncomputable def s19 : Ab.Spec := fun args h =>
  dN h <| dL args fun v0 a0 => dG v0 fun l0 => dE 0 l0 fun x0 => dN a0 <|
  let r := g19 x0; .val (.agg (Cod.enc 0 r), [])
theorem s19_ok : SpecOk Go.Proofs.Try.prog 19 s19 :=
  q19_ok.less fun args hs r h => by
    unfold s19 at h
    obtain ⟨rfl, hh1⟩ := dN_inv h
    obtain ⟨v0, a0, rfl, hh2⟩ := dL_inv hh1
    obtain ⟨l0, rfl, hh3⟩ := dG_inv hh2
    obtain ⟨x0, rfl, hh4⟩ := dE_inv hh3
    obtain ⟨rfl, hh5⟩ := dN_inv hh4
    rw [g19_run, Tr.ev_get (d := default) (by kernel_rfl)]
    exact hh5
/-- pontage/pim.choose -/
noncomputable def L32 : SL := []
noncomputable def e32 : Env := ⟨ti, fun g => lookS g L32, 1000000, [], []⟩
def g32T (x0 : S0) : Tr (S0) :=
  .leaf ({ x0 with f21 := true, f22 := false })
def g32 (x0 : S0) : S0 := (g32T x0).get default
noncomputable def T32 : TL := []
noncomputable def q32 : Ab.Spec := runQ0 e32 (lookT T32) Go.Proofs.Try.f32
theorem q32_ok : SpecOk Go.Proofs.Try.prog 32 q32 := (runQ0_ok (runR_ok (e := e32) follows (allTI ti_ok _ _ _ _) (callsOk_nil) Go.Proofs.Try.func32 Go.Proofs.Try.call32) (fun c hc => by
  have hb : c = Go.Proofs.Try.f32.body.getD .skip := by rw [hc]; rfl
  subst hb
  exact tab_nil))
theorem g32_run (x0 : S0) : (q32 [.agg (Cod.enc 0 x0)] []).eval = (g32T x0).ev fun r => ((.agg (Cod.enc 0 r) : AV), ([] : List Blk)) := by kernel_rfl
noncomputable def s32 : Ab.Spec := fun args h =>
  dN h <| dL args fun v0 a0 => dG v0 fun l0 => dE 0 l0 fun x0 => dN a0 <|
  let r := g32 x0; .val (.agg (Cod.enc 0 r), [])
theorem s32_ok : SpecOk Go.Proofs.Try.prog 32 s32 :=
  q32_ok.less fun args hs r h => by
    unfold s32 at h
    obtain ⟨rfl, hh1⟩ := dN_inv h
    obtain ⟨v0, a0, rfl, hh2⟩ := dL_inv hh1
    obtain ⟨l0, rfl, hh3⟩ := dG_inv hh2
    obtain ⟨x0, rfl, hh4⟩ := dE_inv hh3
    obtain ⟨rfl, hh5⟩ := dN_inv hh4
    rw [g32_run, Tr.ev_get (d := default) (by kernel_rfl)]
    exact hh5
/-- pontage/pim.disabled -/
noncomputable def L20 : SL := [(32, .byVal, s32)]
noncomputable def e20 : Env := ⟨ti, fun g => lookS g L20, 1000000, [], []⟩
def g20T (x0 : S0) : Tr (S0) :=
  let z1 := g32 { x0 with f3 := false, f4 := false, f12 := false, f13 := false, f14 := false, f29 := 0, f69 := 0, f72 := 1 }
  .leaf (z1)
def g20 (x0 : S0) : S0 := (g20T x0).get default
noncomputable def T20 : TL := []
noncomputable def q20 : Ab.Spec := runQ0 e20 (lookT T20) Go.Proofs.Try.f20
theorem q20_ok : SpecOk Go.Proofs.Try.prog 20 q20 := (runQ0_ok (runR_ok (e := e20) follows (allTI ti_ok _ _ _ _) (callsOk_cons s32_ok (callsOk_nil)) Go.Proofs.Try.func20 Go.Proofs.Try.call20) (fun c hc => by
  have hb : c = Go.Proofs.Try.f20.body.getD .skip := by rw [hc]; rfl
  subst hb
  exact tab_nil))
theorem g20_run (x0 : S0) : (q20 [.agg (Cod.enc 0 x0)] []).eval = (g20T x0).ev fun r => ((.agg (Cod.enc 0 r) : AV), ([] : List Blk)) := by kernel_rfl
noncomputable def s20 : Ab.Spec := fun args h =>
  dN h <| dL args fun v0 a0 => dG v0 fun l0 => dE 0 l0 fun x0 => dN a0 <|
  let r := g20 x0; .val (.agg (Cod.enc 0 r), [])
theorem s20_ok : SpecOk Go.Proofs.Try.prog 20 s20 :=
  q20_ok.less fun args hs r h => by
    unfold s20 at h
    obtain ⟨rfl, hh1⟩ := dN_inv h
    obtain ⟨v0, a0, rfl, hh2⟩ := dL_inv hh1
    obtain ⟨l0, rfl, hh3⟩ := dG_inv hh2
    obtain ⟨x0, rfl, hh4⟩ := dE_inv hh3
    obtain ⟨rfl, hh5⟩ := dN_inv hh4
    rw [g20_run, Tr.ev_get (d := default) (by kernel_rfl)]
    exact hh5
/-- pontage/pim.aged -/
noncomputable def L21 : SL := [(32, .byVal, s32)]
noncomputable def e21 : Env := ⟨ti, fun g => lookS g L21, 1000000, [], []⟩
def g21T (x0 : S0) : Tr (S0) :=
  let z2 := g32 { x0 with f29 := 1, f72 := 2 }
  .leaf (z2)
def g21 (x0 : S0) : S0 := (g21T x0).get default
noncomputable def T21 : TL := []
noncomputable def q21 : Ab.Spec := runQ0 e21 (lookT T21) Go.Proofs.Try.f21
theorem q21_ok : SpecOk Go.Proofs.Try.prog 21 q21 := (runQ0_ok (runR_ok (e := e21) follows (allTI ti_ok _ _ _ _) (callsOk_cons s32_ok (callsOk_nil)) Go.Proofs.Try.func21 Go.Proofs.Try.call21) (fun c hc => by
  have hb : c = Go.Proofs.Try.f21.body.getD .skip := by rw [hc]; rfl
  subst hb
  exact tab_nil))
theorem g21_run (x0 : S0) : (q21 [.agg (Cod.enc 0 x0)] []).eval = (g21T x0).ev fun r => ((.agg (Cod.enc 0 r) : AV), ([] : List Blk)) := by kernel_rfl
noncomputable def s21 : Ab.Spec := fun args h =>
  dN h <| dL args fun v0 a0 => dG v0 fun l0 => dE 0 l0 fun x0 => dN a0 <|
  let r := g21 x0; .val (.agg (Cod.enc 0 r), [])
theorem s21_ok : SpecOk Go.Proofs.Try.prog 21 s21 :=
  q21_ok.less fun args hs r h => by
    unfold s21 at h
    obtain ⟨rfl, hh1⟩ := dN_inv h
    obtain ⟨v0, a0, rfl, hh2⟩ := dL_inv hh1
    obtain ⟨l0, rfl, hh3⟩ := dG_inv hh2
    obtain ⟨x0, rfl, hh4⟩ := dE_inv hh3
    obtain ⟨rfl, hh5⟩ := dN_inv hh4
    rw [g21_run, Tr.ev_get (d := default) (by kernel_rfl)]
    exact hh5
/-- pontage/heard.designated -/
noncomputable def L47 : SL := []
noncomputable def e47 : Env := ⟨ti, fun g => lookS g L47, 1000000, [], []⟩
def g47T (x0 : S8) : Tr (Bool) :=
  .leaf ((bif (x0.f0 == 1) then true else (bif (x0.f0 == 3) then (x0.f7 == 4) else false)))
def g47 (x0 : S8) : Bool := (g47T x0).get default
noncomputable def T47 : TL := []
noncomputable def q47 : Ab.Spec := runQ0 e47 (lookT T47) Go.Proofs.Try.f47
theorem q47_ok : SpecOk Go.Proofs.Try.prog 47 q47 := (runQ0_ok (runR_ok (e := e47) follows (allTI ti_ok _ _ _ _) (callsOk_nil) Go.Proofs.Try.func47 Go.Proofs.Try.call47) (fun c hc => by
  have hb : c = Go.Proofs.Try.f47.body.getD .skip := by rw [hc]; rfl
  subst hb
  exact tab_nil))
theorem g47_run (x0 : S8) : (q47 [.agg (Cod.enc 8 x0)] []).eval = (g47T x0).ev fun r => ((.c (.bool r) : AV), ([] : List Blk)) := by kernel_rfl
noncomputable def s47 : Ab.Spec := fun args h =>
  dN h <| dL args fun v0 a0 => dG v0 fun l0 => dE 8 l0 fun x0 => dN a0 <|
  let r := g47 x0; .val (.c (.bool r), [])
theorem s47_ok : SpecOk Go.Proofs.Try.prog 47 s47 :=
  q47_ok.less fun args hs r h => by
    unfold s47 at h
    obtain ⟨rfl, hh1⟩ := dN_inv h
    obtain ⟨v0, a0, rfl, hh2⟩ := dL_inv hh1
    obtain ⟨l0, rfl, hh3⟩ := dG_inv hh2
    obtain ⟨x0, rfl, hh4⟩ := dE_inv hh3
    obtain ⟨rfl, hh5⟩ := dN_inv hh4
    rw [g47_run, Tr.ev_get (d := default) (by kernel_rfl)]
    exact hh5
/-- pontage/vector.Compare -/
noncomputable def L49 : SL := []
noncomputable def e49 : Env := ⟨ti, fun g => lookS g L49, 1000000, [.drop 0, .drop 1, .drop 2, .drop 3, .drop 6, .drop 8, .drop 9, .drop 10, .drop 11, .drop 12, .drop 13, .drop 14, .drop 15, .drop 16, .drop 17, .drop 18, .drop 19, .drop 20, .drop 21, .drop 22, .drop 23, .drop 24, .drop 25, .drop 26, .drop 27, .drop 28, .drop 29, .drop 30, .drop 31], []⟩
def g49T (x0 : S6) (x1 : S6) : Tr (Int) :=
  .br (decide (x0.f0 < x1.f0)) (
   .leaf ((-1))) (
   .br (decide (x0.f0 > x1.f0)) (
    .leaf (1)) (
    .br (decide ((IntKind.u64.wrap x0.f1) < (IntKind.u64.wrap x1.f1))) (
     .leaf ((-1))) (
     .br (decide ((IntKind.u64.wrap x0.f1) > (IntKind.u64.wrap x1.f1))) (
      .leaf (1)) (
      .br (decide (x0.f2 < x1.f2)) (
       .leaf ((-1))) (
       .br (decide (x0.f2 > x1.f2)) (
        .leaf (1)) (
        .br (decide ((IntKind.u64.wrap x0.f3) < (IntKind.u64.wrap x1.f3))) (
         .leaf ((-1))) (
         .br (decide ((IntKind.u64.wrap x0.f3) > (IntKind.u64.wrap x1.f3))) (
          .leaf (1)) (
          .leaf (0)))))))))
def g49 (x0 : S6) (x1 : S6) : Int := (g49T x0 x1).get default
noncomputable def T49 : TL := []
noncomputable def q49 : Ab.Spec := runQ0 e49 (lookT T49) Go.Proofs.Try.f49
theorem q49_ok : SpecOk Go.Proofs.Try.prog 49 q49 := (runQ0_ok (runR_ok (e := e49) follows (allTI ti_ok _ _ _ _) (callsOk_nil) Go.Proofs.Try.func49 Go.Proofs.Try.call49) (fun c hc => by
  have hb : c = Go.Proofs.Try.f49.body.getD .skip := by rw [hc]; rfl
  subst hb
  exact tab_nil))
theorem g49_run (x0 : S6) (x1 : S6) : (q49 [.agg (Cod.enc 6 x0), .agg (Cod.enc 6 x1)] []).eval = (g49T x0 x1).ev fun r => ((.c (.int .i64 r) : AV), ([] : List Blk)) := by kernel_rfl
noncomputable def s49 : Ab.Spec := fun args h =>
  dN h <| dL args fun v0 a0 => dG v0 fun l0 => dE 6 l0 fun x0 => dL a0 fun v1 a1 => dG v1 fun l1 => dE 6 l1 fun x1 => dN a1 <|
  let r := g49 x0 x1; .val (.c (.int .i64 r), [])
theorem s49_ok : SpecOk Go.Proofs.Try.prog 49 s49 :=
  q49_ok.less fun args hs r h => by
    unfold s49 at h
    obtain ⟨rfl, hh1⟩ := dN_inv h
    obtain ⟨v0, a0, rfl, hh2⟩ := dL_inv hh1
    obtain ⟨l0, rfl, hh3⟩ := dG_inv hh2
    obtain ⟨x0, rfl, hh4⟩ := dE_inv hh3
    obtain ⟨v1, a1, rfl, hh5⟩ := dL_inv hh4
    obtain ⟨l1, rfl, hh6⟩ := dG_inv hh5
    obtain ⟨x1, rfl, hh7⟩ := dE_inv hh6
    obtain ⟨rfl, hh8⟩ := dN_inv hh7
    rw [g49_run, Tr.ev_get (d := default) (by kernel_rfl)]
    exact hh8
/-- pontage/vector.Better -/
noncomputable def L59 : SL := [(49, .byVal, s49)]
noncomputable def e59 : Env := ⟨ti, fun g => lookS g L59, 1000000, [], []⟩
def g59T (x0 : S6) (x1 : S6) : Tr (Bool) :=
  let z3 := g49 x0 x1
  .leaf ((decide (z3 < 0)))
def g59 (x0 : S6) (x1 : S6) : Bool := (g59T x0 x1).get default
noncomputable def T59 : TL := []
noncomputable def q59 : Ab.Spec := runQ0 e59 (lookT T59) Go.Proofs.Try.f59
theorem q59_ok : SpecOk Go.Proofs.Try.prog 59 q59 := (runQ0_ok (runR_ok (e := e59) follows (allTI ti_ok _ _ _ _) (callsOk_cons s49_ok (callsOk_nil)) Go.Proofs.Try.func59 Go.Proofs.Try.call59) (fun c hc => by
  have hb : c = Go.Proofs.Try.f59.body.getD .skip := by rw [hc]; rfl
  subst hb
  exact tab_nil))
theorem g59_run (x0 : S6) (x1 : S6) : (q59 [.agg (Cod.enc 6 x0), .agg (Cod.enc 6 x1)] []).eval = (g59T x0 x1).ev fun r => ((.c (.bool r) : AV), ([] : List Blk)) := by kernel_rfl
noncomputable def s59 : Ab.Spec := fun args h =>
  dN h <| dL args fun v0 a0 => dG v0 fun l0 => dE 6 l0 fun x0 => dL a0 fun v1 a1 => dG v1 fun l1 => dE 6 l1 fun x1 => dN a1 <|
  let r := g59 x0 x1; .val (.c (.bool r), [])
theorem s59_ok : SpecOk Go.Proofs.Try.prog 59 s59 :=
  q59_ok.less fun args hs r h => by
    unfold s59 at h
    obtain ⟨rfl, hh1⟩ := dN_inv h
    obtain ⟨v0, a0, rfl, hh2⟩ := dL_inv hh1
    obtain ⟨l0, rfl, hh3⟩ := dG_inv hh2
    obtain ⟨x0, rfl, hh4⟩ := dE_inv hh3
    obtain ⟨v1, a1, rfl, hh5⟩ := dL_inv hh4
    obtain ⟨l1, rfl, hh6⟩ := dG_inv hh5
    obtain ⟨x1, rfl, hh7⟩ := dE_inv hh6
    obtain ⟨rfl, hh8⟩ := dN_inv hh7
    rw [g59_run, Tr.ev_get (d := default) (by kernel_rfl)]
    exact hh8
/-- pontage/vector.Number -/
noncomputable def L69 : SL := []
noncomputable def e69 : Env := ⟨ti, fun g => lookS g L69, 1000000, [], []⟩
def g69T (x0 : Int) : Tr (Int) :=
  .leaf ((andI .u16 x0 4095))
def g69 (x0 : Int) : Int := (g69T x0).get default
noncomputable def T69 : TL := []
noncomputable def q69 : Ab.Spec := runQ0 e69 (lookT T69) Go.Proofs.Try.f69
theorem q69_ok : SpecOk Go.Proofs.Try.prog 69 q69 := (runQ0_ok (runR_ok (e := e69) follows (allTI ti_ok _ _ _ _) (callsOk_nil) Go.Proofs.Try.func69 Go.Proofs.Try.call69) (fun c hc => by
  have hb : c = Go.Proofs.Try.f69.body.getD .skip := by rw [hc]; rfl
  subst hb
  exact tab_nil))
theorem g69_run (x0 : Int) : (q69 [.c (.int .u16 x0)] []).eval = (g69T x0).ev fun r => ((.c (.int .u16 r) : AV), ([] : List Blk)) := by kernel_rfl
noncomputable def s69 : Ab.Spec := fun args h =>
  dN h <| dL args fun v0 a0 => dC v0 fun c0 => dI .u16 c0 fun x0 => dN a0 <|
  let r := g69 x0; .val (.c (.int .u16 r), [])
theorem s69_ok : SpecOk Go.Proofs.Try.prog 69 s69 :=
  q69_ok.less fun args hs r h => by
    unfold s69 at h
    obtain ⟨rfl, hh1⟩ := dN_inv h
    obtain ⟨v0, a0, rfl, hh2⟩ := dL_inv hh1
    obtain ⟨c0, rfl, hh3⟩ := dC_inv hh2
    obtain ⟨x0, rfl, hh4⟩ := dI_inv hh3
    obtain ⟨rfl, hh5⟩ := dN_inv hh4
    rw [g69_run, Tr.ev_get (d := default) (by kernel_rfl)]
    exact hh5
/-- pontage/vector.Superior -/
noncomputable def L48 : SL := [(59, .byVal, s59), (69, .byVal, s69)]
noncomputable def e48 : Env := ⟨ti, fun g => lookS g L48, 1000000, [], []⟩
def g48T (x0 : S6) (x1 : S6) : Tr (Bool) :=
  let z4 := g59 x0 x1
  let z5 := g69 x0.f3
  let z6 := g69 x1.f3
  .leaf ((bif z4 then true else (bif ((andI .u64 x0.f2 281474976710655) == (andI .u64 x1.f2 281474976710655)) then (z5 == z6) else false)))
def g48 (x0 : S6) (x1 : S6) : Bool := (g48T x0 x1).get default
noncomputable def T48 : TL := []
noncomputable def q48 : Ab.Spec := runQ0 e48 (lookT T48) Go.Proofs.Try.f48
theorem q48_ok : SpecOk Go.Proofs.Try.prog 48 q48 := (runQ0_ok (runR_ok (e := e48) follows (allTI ti_ok _ _ _ _) (callsOk_cons s59_ok (callsOk_cons s69_ok (callsOk_nil))) Go.Proofs.Try.func48 Go.Proofs.Try.call48) (fun c hc => by
  have hb : c = Go.Proofs.Try.f48.body.getD .skip := by rw [hc]; rfl
  subst hb
  exact tab_nil))
theorem g48_run (x0 : S6) (x1 : S6) : (q48 [.agg (Cod.enc 6 x0), .agg (Cod.enc 6 x1)] []).eval = (g48T x0 x1).ev fun r => ((.c (.bool r) : AV), ([] : List Blk)) := by kernel_rfl
noncomputable def s48 : Ab.Spec := fun args h =>
  dN h <| dL args fun v0 a0 => dG v0 fun l0 => dE 6 l0 fun x0 => dL a0 fun v1 a1 => dG v1 fun l1 => dE 6 l1 fun x1 => dN a1 <|
  let r := g48 x0 x1; .val (.c (.bool r), [])
theorem s48_ok : SpecOk Go.Proofs.Try.prog 48 s48 :=
  q48_ok.less fun args hs r h => by
    unfold s48 at h
    obtain ⟨rfl, hh1⟩ := dN_inv h
    obtain ⟨v0, a0, rfl, hh2⟩ := dL_inv hh1
    obtain ⟨l0, rfl, hh3⟩ := dG_inv hh2
    obtain ⟨x0, rfl, hh4⟩ := dE_inv hh3
    obtain ⟨v1, a1, rfl, hh5⟩ := dL_inv hh4
    obtain ⟨l1, rfl, hh6⟩ := dG_inv hh5
    obtain ⟨x1, rfl, hh7⟩ := dE_inv hh6
    obtain ⟨rfl, hh8⟩ := dN_inv hh7
    rw [g48_run, Tr.ev_get (d := default) (by kernel_rfl)]
    exact hh8
/-- pontage/heard.Info -/
noncomputable def L33 : SL := [(47, .byVal, s47), (48, .byVal, s48), (49, .byVal, s49)]
noncomputable def e33 : Env := ⟨ti, fun g => lookS g L33, 1000000, [], []⟩
def g33T (x0 : S0) : Tr (Int) :=
  let z7 := g47 (S8.mk x0.f48 x0.f49 x0.f50 x0.f51 x0.f52 x0.f53 x0.f54 x0.f55 x0.f56 x0.f57 x0.f58 x0.f59 x0.f60 x0.f61 x0.f62 x0.f63)
  .br z7 (
   .br (bif (eqS6 (S6.mk x0.f56 x0.f57 x0.f58 x0.f59) (S6.mk x0.f36 x0.f37 x0.f38 x0.f39)) then (eqS5 (S5.mk x0.f60 x0.f61 x0.f62 x0.f63) (S5.mk x0.f44 x0.f45 x0.f46 x0.f47)) else false) (
    .leaf (2)) (
    let z8 := g48 (S6.mk x0.f56 x0.f57 x0.f58 x0.f59) (S6.mk x0.f36 x0.f37 x0.f38 x0.f39)
    .br z8 (
     .leaf (1)) (
     .leaf (3)))) (
   .br (x0.f48 != 3) (
    .leaf (0)) (
    .br (x0.f55 == 3) (
     let z9 := g49 (S6.mk x0.f56 x0.f57 x0.f58 x0.f59) (S6.mk x0.f36 x0.f37 x0.f38 x0.f39)
     .br (decide (z9 ≥ 0)) (
      .leaf (4)) (
      .leaf (0))) (
     .br (x0.f55 == 1) (
      let z10 := g49 (S6.mk x0.f56 x0.f57 x0.f58 x0.f59) (S6.mk x0.f36 x0.f37 x0.f38 x0.f39)
      .br (decide (z10 ≥ 0)) (
       .leaf (4)) (
       .leaf (0))) (
      .br (x0.f55 == 2) (
       let z11 := g49 (S6.mk x0.f56 x0.f57 x0.f58 x0.f59) (S6.mk x0.f36 x0.f37 x0.f38 x0.f39)
       .br (decide (z11 ≥ 0)) (
        .leaf (4)) (
        .leaf (0))) (
       .leaf (0))))))
def g33 (x0 : S0) : Int := (g33T x0).get default
noncomputable def T33 : TL := []
noncomputable def q33 : Ab.Spec := runQ0 e33 (lookT T33) Go.Proofs.Try.f33
theorem q33_ok : SpecOk Go.Proofs.Try.prog 33 q33 := (runQ0_ok (runR_ok (e := e33) follows (allTI ti_ok _ _ _ _) (callsOk_cons s47_ok (callsOk_cons s48_ok (callsOk_cons s49_ok (callsOk_nil)))) Go.Proofs.Try.func33 Go.Proofs.Try.call33) (fun c hc => by
  have hb : c = Go.Proofs.Try.f33.body.getD .skip := by rw [hc]; rfl
  subst hb
  exact tab_nil))
theorem g33_run (x0 : S0) : (q33 [.agg (Cod.enc 0 x0)] []).eval = (g33T x0).ev fun r => ((.c (.int .i64 r) : AV), ([] : List Blk)) := by kernel_rfl
noncomputable def s33 : Ab.Spec := fun args h =>
  dN h <| dL args fun v0 a0 => dG v0 fun l0 => dE 0 l0 fun x0 => dN a0 <|
  let r := g33 x0; .val (.c (.int .i64 r), [])
theorem s33_ok : SpecOk Go.Proofs.Try.prog 33 s33 :=
  q33_ok.less fun args hs r h => by
    unfold s33 at h
    obtain ⟨rfl, hh1⟩ := dN_inv h
    obtain ⟨v0, a0, rfl, hh2⟩ := dL_inv hh1
    obtain ⟨l0, rfl, hh3⟩ := dG_inv hh2
    obtain ⟨x0, rfl, hh4⟩ := dE_inv hh3
    obtain ⟨rfl, hh5⟩ := dN_inv hh4
    rw [g33_run, Tr.ev_get (d := default) (by kernel_rfl)]
    exact hh5
/-- pontage/heard.BetterOrSame -/
noncomputable def L40 : SL := [(59, .byVal, s59)]
noncomputable def e40 : Env := ⟨ti, fun g => lookS g L40, 1000000, [], []⟩
def g40T (x0 : S0) (x1 : Int) : Tr (Bool) :=
  .br (x0.f29 != x1) (
   .leaf (false)) (
   .br (x1 == 3) (
    let z12 := g59 (S6.mk x0.f36 x0.f37 x0.f38 x0.f39) (S6.mk x0.f56 x0.f57 x0.f58 x0.f59)
    .leaf ((!z12))) (
    .br (x1 == 2) (
     let z13 := g59 (S6.mk x0.f36 x0.f37 x0.f38 x0.f39) (S6.mk x0.f32 x0.f33 x0.f34 x0.f35)
     .leaf ((!z13))) (
     .leaf (false))))
def g40 (x0 : S0) (x1 : Int) : Bool := (g40T x0 x1).get default
noncomputable def T40 : TL := []
noncomputable def q40 : Ab.Spec := runQ0 e40 (lookT T40) Go.Proofs.Try.f40
theorem q40_ok : SpecOk Go.Proofs.Try.prog 40 q40 := (runQ0_ok (runR_ok (e := e40) follows (allTI ti_ok _ _ _ _) (callsOk_cons s59_ok (callsOk_nil)) Go.Proofs.Try.func40 Go.Proofs.Try.call40) (fun c hc => by
  have hb : c = Go.Proofs.Try.f40.body.getD .skip := by rw [hc]; rfl
  subst hb
  exact tab_nil))
theorem g40_run (x0 : S0) (x1 : Int) : (q40 [.agg (Cod.enc 0 x0), .c (.int .i64 x1)] []).eval = (g40T x0 x1).ev fun r => ((.c (.bool r) : AV), ([] : List Blk)) := by kernel_rfl
noncomputable def s40 : Ab.Spec := fun args h =>
  dN h <| dL args fun v0 a0 => dG v0 fun l0 => dE 0 l0 fun x0 => dL a0 fun v1 a1 => dC v1 fun c0 => dI .i64 c0 fun x1 => dN a1 <|
  let r := g40 x0 x1; .val (.c (.bool r), [])
theorem s40_ok : SpecOk Go.Proofs.Try.prog 40 s40 :=
  q40_ok.less fun args hs r h => by
    unfold s40 at h
    obtain ⟨rfl, hh1⟩ := dN_inv h
    obtain ⟨v0, a0, rfl, hh2⟩ := dL_inv hh1
    obtain ⟨l0, rfl, hh3⟩ := dG_inv hh2
    obtain ⟨x0, rfl, hh4⟩ := dE_inv hh3
    obtain ⟨v1, a1, rfl, hh5⟩ := dL_inv hh4
    obtain ⟨c0, rfl, hh6⟩ := dC_inv hh5
    obtain ⟨x1, rfl, hh7⟩ := dI_inv hh6
    obtain ⟨rfl, hh8⟩ := dN_inv hh7
    rw [g40_run, Tr.ev_get (d := default) (by kernel_rfl)]
    exact hh8
/-- pontage/pim.updated -/
noncomputable def L23 : SL := [(40, .byVal, s40)]
noncomputable def e23 : Env := ⟨ti, fun g => lookS g L23, 1000000, [], []⟩
def g23T (x0 : S0) : Tr (S0) :=
  let z14 := g40 x0 2
  .leaf ({ x0 with f4 := (bif x0.f4 then z14 else false), f11 := true, f12 := false, f13 := false, f25 := (bif x0.f25 then (bif x0.f4 then z14 else false) else false), f28 := false, f29 := 2, f36 := x0.f32, f37 := x0.f33, f38 := x0.f34, f39 := x0.f35, f44 := x0.f40, f45 := x0.f41, f46 := x0.f42, f47 := x0.f43, f72 := 3 })
def g23 (x0 : S0) : S0 := (g23T x0).get default
noncomputable def T23 : TL := []
noncomputable def q23 : Ab.Spec := runQ0 e23 (lookT T23) Go.Proofs.Try.f23
theorem q23_ok : SpecOk Go.Proofs.Try.prog 23 q23 := (runQ0_ok (runR_ok (e := e23) follows (allTI ti_ok _ _ _ _) (callsOk_cons s40_ok (callsOk_nil)) Go.Proofs.Try.func23 Go.Proofs.Try.call23) (fun c hc => by
  have hb : c = Go.Proofs.Try.f23.body.getD .skip := by rw [hc]; rfl
  subst hb
  exact tab_nil))
theorem g23_run (x0 : S0) : (q23 [.agg (Cod.enc 0 x0)] []).eval = (g23T x0).ev fun r => ((.agg (Cod.enc 0 r) : AV), ([] : List Blk)) := by kernel_rfl
noncomputable def s23 : Ab.Spec := fun args h =>
  dN h <| dL args fun v0 a0 => dG v0 fun l0 => dE 0 l0 fun x0 => dN a0 <|
  let r := g23 x0; .val (.agg (Cod.enc 0 r), [])
theorem s23_ok : SpecOk Go.Proofs.Try.prog 23 s23 :=
  q23_ok.less fun args hs r h => by
    unfold s23 at h
    obtain ⟨rfl, hh1⟩ := dN_inv h
    obtain ⟨v0, a0, rfl, hh2⟩ := dL_inv hh1
    obtain ⟨l0, rfl, hh3⟩ := dG_inv hh2
    obtain ⟨x0, rfl, hh4⟩ := dE_inv hh3
    obtain ⟨rfl, hh5⟩ := dN_inv hh4
    rw [g23_run, Tr.ev_get (d := default) (by kernel_rfl)]
    exact hh5
/-- pontage/heard.Proposal$1 -/
noncomputable def L53 : SL := []
noncomputable def e53 : Env := ⟨ti, fun g => lookS g L53, 1000000, [], []⟩
noncomputable def s53 : Ab.Spec := runR e53 Go.Proofs.Try.f53
theorem s53_ok : SpecOk Go.Proofs.Try.prog 53 s53 := runR_ok (e := e53) follows (allTI ti_ok _ _ _ _) (callsOk_nil) Go.Proofs.Try.func53 Go.Proofs.Try.call53
/-- pontage/heard.Flags$1 -/
noncomputable def L54 : SL := []
noncomputable def e54 : Env := ⟨ti, fun g => lookS g L54, 1000000, [], []⟩
noncomputable def s54 : Ab.Spec := runR e54 Go.Proofs.Try.f54
theorem s54_ok : SpecOk Go.Proofs.Try.prog 54 s54 := runR_ok (e := e54) follows (allTI ti_ok _ _ _ _) (callsOk_nil) Go.Proofs.Try.func54 Go.Proofs.Try.call54
/-- pontage/heard.Flags$2 -/
noncomputable def L55 : SL := []
noncomputable def e55 : Env := ⟨ti, fun g => lookS g L55, 1000000, [], []⟩
noncomputable def s55 : Ab.Spec := runR e55 Go.Proofs.Try.f55
theorem s55_ok : SpecOk Go.Proofs.Try.prog 55 s55 := runR_ok (e := e55) follows (allTI ti_ok _ _ _ _) (callsOk_nil) Go.Proofs.Try.func55 Go.Proofs.Try.call55
/-- pontage/heard.Flags$3 -/
noncomputable def L56 : SL := []
noncomputable def e56 : Env := ⟨ti, fun g => lookS g L56, 1000000, [], []⟩
noncomputable def s56 : Ab.Spec := runR e56 Go.Proofs.Try.f56
theorem s56_ok : SpecOk Go.Proofs.Try.prog 56 s56 := runR_ok (e := e56) follows (allTI ti_ok _ _ _ _) (callsOk_nil) Go.Proofs.Try.func56 Go.Proofs.Try.call56
/-- pontage/heard.Agreement$1 -/
noncomputable def L57 : SL := []
noncomputable def e57 : Env := ⟨ti, fun g => lookS g L57, 1000000, [], []⟩
noncomputable def s57 : Ab.Spec := runR e57 Go.Proofs.Try.f57
theorem s57_ok : SpecOk Go.Proofs.Try.prog 57 s57 := runR_ok (e := e57) follows (allTI ti_ok _ _ _ _) (callsOk_nil) Go.Proofs.Try.func57 Go.Proofs.Try.call57
/-- pontage/heard.Dispute$1 -/
noncomputable def L58 : SL := []
noncomputable def e58 : Env := ⟨ti, fun g => lookS g L58, 1000000, [], []⟩
noncomputable def s58 : Ab.Spec := runR e58 Go.Proofs.Try.f58
theorem s58_ok : SpecOk Go.Proofs.Try.prog 58 s58 := runR_ok (e := e58) follows (allTI ti_ok _ _ _ _) (callsOk_nil) Go.Proofs.Try.func58 Go.Proofs.Try.call58
/-- pontage/heard.by -/
noncomputable def L52 : SL := [(19, .byVal, s19), (20, .byVal, s20), (21, .byVal, s21), (23, .byVal, s23), (53, .byHeap, s53), (54, .byHeap, s54), (55, .byHeap, s55), (56, .byHeap, s56), (57, .byHeap, s57), (58, .byHeap, s58)]
noncomputable def e52 : Env := ⟨ti, fun g => lookS g L52, 1000000, [], []⟩
noncomputable def s52 : Ab.Spec := runR e52 Go.Proofs.Try.f52
theorem s52_ok : SpecOk Go.Proofs.Try.prog 52 s52 := runR_ok (e := e52) follows (allTI ti_ok _ _ _ _) (callsOk_cons s19_ok (callsOk_cons s20_ok (callsOk_cons s21_ok (callsOk_cons s23_ok (callsOk_cons s53_ok (callsOk_cons s54_ok (callsOk_cons s55_ok (callsOk_cons s56_ok (callsOk_cons s57_ok (callsOk_cons s58_ok (callsOk_nil))))))))))) Go.Proofs.Try.func52 Go.Proofs.Try.call52
/-- pontage/heard.Proposal -/
noncomputable def L35 : SL := [(52, .byHeap, s52), (19, .byVal, s19), (20, .byVal, s20), (21, .byVal, s21), (23, .byVal, s23), (53, .byHeap, s53), (54, .byHeap, s54), (55, .byHeap, s55), (56, .byHeap, s56), (57, .byHeap, s57), (58, .byHeap, s58)]
noncomputable def e35 : Env := ⟨ti, fun g => lookS g L35, 1000000, [], []⟩
def g35T (x0 : S0) : Tr (S0) :=
  .br (bif (bif (x0.f48 == 3) then (x0.f55 == 4) else false) then x0.f51 else false) (
   .leaf ({ x0 with f12 := true })) (
   .leaf (x0))
def g35 (x0 : S0) : S0 := (g35T x0).get default
noncomputable def T35 : TL := []
noncomputable def q35 : Ab.Spec := runQ0 e35 (lookT T35) Go.Proofs.Try.f35
theorem q35_ok : SpecOk Go.Proofs.Try.prog 35 q35 := (runQ0_ok (runR_ok (e := e35) follows (allTI ti_ok _ _ _ _) (callsOk_cons s52_ok (callsOk_cons s19_ok (callsOk_cons s20_ok (callsOk_cons s21_ok (callsOk_cons s23_ok (callsOk_cons s53_ok (callsOk_cons s54_ok (callsOk_cons s55_ok (callsOk_cons s56_ok (callsOk_cons s57_ok (callsOk_cons s58_ok (callsOk_nil)))))))))))) Go.Proofs.Try.func35 Go.Proofs.Try.call35) (fun c hc => by
  have hb : c = Go.Proofs.Try.f35.body.getD .skip := by rw [hc]; rfl
  subst hb
  exact tab_nil))
theorem g35_run (x0 : S0) : (q35 [.agg (Cod.enc 0 x0)] []).eval = (g35T x0).ev fun r => ((.agg (Cod.enc 0 r) : AV), ([] : List Blk)) := by kernel_rfl
noncomputable def s35 : Ab.Spec := fun args h =>
  dN h <| dL args fun v0 a0 => dG v0 fun l0 => dE 0 l0 fun x0 => dN a0 <|
  let r := g35 x0; .val (.agg (Cod.enc 0 r), [])
theorem s35_ok : SpecOk Go.Proofs.Try.prog 35 s35 :=
  q35_ok.less fun args hs r h => by
    unfold s35 at h
    obtain ⟨rfl, hh1⟩ := dN_inv h
    obtain ⟨v0, a0, rfl, hh2⟩ := dL_inv hh1
    obtain ⟨l0, rfl, hh3⟩ := dG_inv hh2
    obtain ⟨x0, rfl, hh4⟩ := dE_inv hh3
    obtain ⟨rfl, hh5⟩ := dN_inv hh4
    rw [g35_run, Tr.ev_get (d := default) (by kernel_rfl)]
    exact hh5
/-- pontage/heard.Flags -/
noncomputable def L36 : SL := [(52, .byHeap, s52), (19, .byVal, s19), (20, .byVal, s20), (21, .byVal, s21), (23, .byVal, s23), (53, .byHeap, s53), (54, .byHeap, s54), (55, .byHeap, s55), (56, .byHeap, s56), (57, .byHeap, s57), (58, .byHeap, s58)]
noncomputable def e36 : Env := ⟨ti, fun g => lookS g L36, 1000000, [], []⟩
def g36T (x0 : S0) : Tr (S0) :=
  .br (bif x0.f49 then (bif (x0.f48 == 3) then true else (x0.f48 == 1)) else false) (
   .br (bif x0.f50 then (x0.f48 == 1) else false) (
    .br (x0.f48 == 2) (
     .leaf ({ x0 with f17 := true, f18 := true, f19 := true })) (
     .leaf ({ x0 with f17 := true, f18 := true }))) (
    .br (x0.f48 == 2) (
     .leaf ({ x0 with f17 := true, f19 := true })) (
     .leaf ({ x0 with f17 := true })))) (
   .br (bif x0.f50 then (x0.f48 == 1) else false) (
    .br (x0.f48 == 2) (
     .leaf ({ x0 with f18 := true, f19 := true })) (
     .leaf ({ x0 with f18 := true }))) (
    .br (x0.f48 == 2) (
     .leaf ({ x0 with f19 := true })) (
     .leaf (x0))))
def g36 (x0 : S0) : S0 := (g36T x0).get default
noncomputable def T36 : TL := []
noncomputable def q36 : Ab.Spec := runQ0 e36 (lookT T36) Go.Proofs.Try.f36
theorem q36_ok : SpecOk Go.Proofs.Try.prog 36 q36 := (runQ0_ok (runR_ok (e := e36) follows (allTI ti_ok _ _ _ _) (callsOk_cons s52_ok (callsOk_cons s19_ok (callsOk_cons s20_ok (callsOk_cons s21_ok (callsOk_cons s23_ok (callsOk_cons s53_ok (callsOk_cons s54_ok (callsOk_cons s55_ok (callsOk_cons s56_ok (callsOk_cons s57_ok (callsOk_cons s58_ok (callsOk_nil)))))))))))) Go.Proofs.Try.func36 Go.Proofs.Try.call36) (fun c hc => by
  have hb : c = Go.Proofs.Try.f36.body.getD .skip := by rw [hc]; rfl
  subst hb
  exact tab_nil))
theorem g36_run (x0 : S0) : (q36 [.agg (Cod.enc 0 x0)] []).eval = (g36T x0).ev fun r => ((.agg (Cod.enc 0 r) : AV), ([] : List Blk)) := by kernel_rfl
noncomputable def s36 : Ab.Spec := fun args h =>
  dN h <| dL args fun v0 a0 => dG v0 fun l0 => dE 0 l0 fun x0 => dN a0 <|
  let r := g36 x0; .val (.agg (Cod.enc 0 r), [])
theorem s36_ok : SpecOk Go.Proofs.Try.prog 36 s36 :=
  q36_ok.less fun args hs r h => by
    unfold s36 at h
    obtain ⟨rfl, hh1⟩ := dN_inv h
    obtain ⟨v0, a0, rfl, hh2⟩ := dL_inv hh1
    obtain ⟨l0, rfl, hh3⟩ := dG_inv hh2
    obtain ⟨x0, rfl, hh4⟩ := dE_inv hh3
    obtain ⟨rfl, hh5⟩ := dN_inv hh4
    rw [g36_run, Tr.ev_get (d := default) (by kernel_rfl)]
    exact hh5
/-- pontage/heard.Agreement -/
noncomputable def L37 : SL := [(52, .byHeap, s52), (19, .byVal, s19), (20, .byVal, s20), (21, .byVal, s21), (23, .byVal, s23), (53, .byHeap, s53), (54, .byHeap, s54), (55, .byHeap, s55), (56, .byHeap, s56), (57, .byHeap, s57), (58, .byHeap, s58)]
noncomputable def e37 : Env := ⟨ti, fun g => lookS g L37, 1000000, [], []⟩
def g37T (x0 : S0) : Tr (S0) :=
  .br (bif (x0.f48 == 3) then x0.f54 else false) (
   .leaf ({ x0 with f4 := (bif (x0.f48 == 3) then x0.f54 else false), f13 := false })) (
   .leaf ({ x0 with f4 := (bif (x0.f48 == 3) then x0.f54 else false) }))
def g37 (x0 : S0) : S0 := (g37T x0).get default
noncomputable def T37 : TL := []
noncomputable def q37 : Ab.Spec := runQ0 e37 (lookT T37) Go.Proofs.Try.f37
theorem q37_ok : SpecOk Go.Proofs.Try.prog 37 q37 := (runQ0_ok (runR_ok (e := e37) follows (allTI ti_ok _ _ _ _) (callsOk_cons s52_ok (callsOk_cons s19_ok (callsOk_cons s20_ok (callsOk_cons s21_ok (callsOk_cons s23_ok (callsOk_cons s53_ok (callsOk_cons s54_ok (callsOk_cons s55_ok (callsOk_cons s56_ok (callsOk_cons s57_ok (callsOk_cons s58_ok (callsOk_nil)))))))))))) Go.Proofs.Try.func37 Go.Proofs.Try.call37) (fun c hc => by
  have hb : c = Go.Proofs.Try.f37.body.getD .skip := by rw [hc]; rfl
  subst hb
  exact tab_nil))
theorem g37_run (x0 : S0) : (q37 [.agg (Cod.enc 0 x0)] []).eval = (g37T x0).ev fun r => ((.agg (Cod.enc 0 r) : AV), ([] : List Blk)) := by kernel_rfl
noncomputable def s37 : Ab.Spec := fun args h =>
  dN h <| dL args fun v0 a0 => dG v0 fun l0 => dE 0 l0 fun x0 => dN a0 <|
  let r := g37 x0; .val (.agg (Cod.enc 0 r), [])
theorem s37_ok : SpecOk Go.Proofs.Try.prog 37 s37 :=
  q37_ok.less fun args hs r h => by
    unfold s37 at h
    obtain ⟨rfl, hh1⟩ := dN_inv h
    obtain ⟨v0, a0, rfl, hh2⟩ := dL_inv hh1
    obtain ⟨l0, rfl, hh3⟩ := dG_inv hh2
    obtain ⟨x0, rfl, hh4⟩ := dE_inv hh3
    obtain ⟨rfl, hh5⟩ := dN_inv hh4
    rw [g37_run, Tr.ev_get (d := default) (by kernel_rfl)]
    exact hh5
/-- pontage/heard.Priority -/
noncomputable def L51 : SL := []
noncomputable def e51 : Env := ⟨ti, fun g => lookS g L51, 1000000, [], []⟩
def g51T (x0 : S0) : Tr (S0) :=
  .leaf ({ x0 with f36 := x0.f56, f37 := x0.f57, f38 := x0.f58, f39 := x0.f59 })
def g51 (x0 : S0) : S0 := (g51T x0).get default
noncomputable def T51 : TL := []
noncomputable def q51 : Ab.Spec := runQ0 e51 (lookT T51) Go.Proofs.Try.f51
theorem q51_ok : SpecOk Go.Proofs.Try.prog 51 q51 := (runQ0_ok (runR_ok (e := e51) follows (allTI ti_ok _ _ _ _) (callsOk_nil) Go.Proofs.Try.func51 Go.Proofs.Try.call51) (fun c hc => by
  have hb : c = Go.Proofs.Try.f51.body.getD .skip := by rw [hc]; rfl
  subst hb
  exact tab_nil))
theorem g51_run (x0 : S0) : (q51 [.agg (Cod.enc 0 x0)] []).eval = (g51T x0).ev fun r => ((.agg (Cod.enc 0 r) : AV), ([] : List Blk)) := by kernel_rfl
noncomputable def s51 : Ab.Spec := fun args h =>
  dN h <| dL args fun v0 a0 => dG v0 fun l0 => dE 0 l0 fun x0 => dN a0 <|
  let r := g51 x0; .val (.agg (Cod.enc 0 r), [])
theorem s51_ok : SpecOk Go.Proofs.Try.prog 51 s51 :=
  q51_ok.less fun args hs r h => by
    unfold s51 at h
    obtain ⟨rfl, hh1⟩ := dN_inv h
    obtain ⟨v0, a0, rfl, hh2⟩ := dL_inv hh1
    obtain ⟨l0, rfl, hh3⟩ := dG_inv hh2
    obtain ⟨x0, rfl, hh4⟩ := dE_inv hh3
    obtain ⟨rfl, hh5⟩ := dN_inv hh4
    rw [g51_run, Tr.ev_get (d := default) (by kernel_rfl)]
    exact hh5
/-- pontage/heard.Times -/
noncomputable def L50 : SL := []
noncomputable def e50 : Env := ⟨ti, fun g => lookS g L50, 1000000, [], []⟩
def g50T (x0 : S0) : Tr (S0) :=
  .leaf ({ x0 with f44 := x0.f60, f45 := x0.f61, f46 := (mxI x0.f62 1), f47 := x0.f63 })
def g50 (x0 : S0) : S0 := (g50T x0).get default
noncomputable def T50 : TL := []
noncomputable def q50 : Ab.Spec := runQ0 e50 (lookT T50) Go.Proofs.Try.f50
theorem q50_ok : SpecOk Go.Proofs.Try.prog 50 q50 := (runQ0_ok (runR_ok (e := e50) follows (allTI ti_ok _ _ _ _) (callsOk_nil) Go.Proofs.Try.func50 Go.Proofs.Try.call50) (fun c hc => by
  have hb : c = Go.Proofs.Try.f50.body.getD .skip := by rw [hc]; rfl
  subst hb
  exact tab_nil))
theorem g50_run (x0 : S0) : (q50 [.agg (Cod.enc 0 x0)] []).eval = (g50T x0).ev fun r => ((.agg (Cod.enc 0 r) : AV), ([] : List Blk)) := by kernel_rfl
noncomputable def s50 : Ab.Spec := fun args h =>
  dN h <| dL args fun v0 a0 => dG v0 fun l0 => dE 0 l0 fun x0 => dN a0 <|
  let r := g50 x0; .val (.agg (Cod.enc 0 r), [])
theorem s50_ok : SpecOk Go.Proofs.Try.prog 50 s50 :=
  q50_ok.less fun args hs r h => by
    unfold s50 at h
    obtain ⟨rfl, hh1⟩ := dN_inv h
    obtain ⟨v0, a0, rfl, hh2⟩ := dL_inv hh1
    obtain ⟨l0, rfl, hh3⟩ := dG_inv hh2
    obtain ⟨x0, rfl, hh4⟩ := dE_inv hh3
    obtain ⟨rfl, hh5⟩ := dN_inv hh4
    rw [g50_run, Tr.ev_get (d := default) (by kernel_rfl)]
    exact hh5
/-- pontage/heard.While -/
noncomputable def L38 : SL := []
noncomputable def e38 : Env := ⟨ti, fun g => lookS g L38, 1000000, [], []⟩
def g38T (x0 : S0) : Tr (S0) :=
  .br (decide (x0.f44 < x0.f45)) (
   .leaf ({ x0 with f69 := (IntKind.u8.wrap (mnI 255 (IntKind.i64.wrap (3 * (IntKind.i64.wrap x0.f46))))) })) (
   .leaf ({ x0 with f69 := 0 }))
def g38 (x0 : S0) : S0 := (g38T x0).get default
noncomputable def T38 : TL := []
noncomputable def q38 : Ab.Spec := runQ0 e38 (lookT T38) Go.Proofs.Try.f38
theorem q38_ok : SpecOk Go.Proofs.Try.prog 38 q38 := (runQ0_ok (runR_ok (e := e38) follows (allTI ti_ok _ _ _ _) (callsOk_nil) Go.Proofs.Try.func38 Go.Proofs.Try.call38) (fun c hc => by
  have hb : c = Go.Proofs.Try.f38.body.getD .skip := by rw [hc]; rfl
  subst hb
  exact tab_nil))
theorem g38_run (x0 : S0) : (q38 [.agg (Cod.enc 0 x0)] []).eval = (g38T x0).ev fun r => ((.agg (Cod.enc 0 r) : AV), ([] : List Blk)) := by kernel_rfl
noncomputable def s38 : Ab.Spec := fun args h =>
  dN h <| dL args fun v0 a0 => dG v0 fun l0 => dE 0 l0 fun x0 => dN a0 <|
  let r := g38 x0; .val (.agg (Cod.enc 0 r), [])
theorem s38_ok : SpecOk Go.Proofs.Try.prog 38 s38 :=
  q38_ok.less fun args hs r h => by
    unfold s38 at h
    obtain ⟨rfl, hh1⟩ := dN_inv h
    obtain ⟨v0, a0, rfl, hh2⟩ := dL_inv hh1
    obtain ⟨l0, rfl, hh3⟩ := dG_inv hh2
    obtain ⟨x0, rfl, hh4⟩ := dE_inv hh3
    obtain ⟨rfl, hh5⟩ := dN_inv hh4
    rw [g38_run, Tr.ev_get (d := default) (by kernel_rfl)]
    exact hh5
/-- pontage/pim.superior -/
noncomputable def L34 : SL := [(35, .byVal, s35), (36, .byVal, s36), (40, .byVal, s40), (37, .byVal, s37), (51, .byVal, s51), (50, .byVal, s50), (38, .byVal, s38), (32, .byVal, s32)]
noncomputable def e34 : Env := ⟨ti, fun g => lookS g L34, 1000000, [], []⟩
def g34T (x0 : S0) : Tr (S0) :=
  let z15 := g35 { x0 with f4 := false, f13 := false }
  let z16 := g36 z15
  let z17 := g40 z16 3
  let z18 := g37 { z16 with f3 := (bif z16.f3 then z17 else false) }
  let z19 := g51 { z18 with f25 := (bif z18.f25 then z18.f4 else false) }
  let z20 := g50 z19
  let z21 := g38 z20
  let z22 := g32 { z21 with f29 := 3 }
  .leaf (z22)
def g34 (x0 : S0) : S0 := (g34T x0).get default
noncomputable def T34 : TL := []
noncomputable def q34 : Ab.Spec := runQ0 e34 (lookT T34) Go.Proofs.Try.f34
theorem q34_ok : SpecOk Go.Proofs.Try.prog 34 q34 := (runQ0_ok (runR_ok (e := e34) follows (allTI ti_ok _ _ _ _) (callsOk_cons s35_ok (callsOk_cons s36_ok (callsOk_cons s40_ok (callsOk_cons s37_ok (callsOk_cons s51_ok (callsOk_cons s50_ok (callsOk_cons s38_ok (callsOk_cons s32_ok (callsOk_nil))))))))) Go.Proofs.Try.func34 Go.Proofs.Try.call34) (fun c hc => by
  have hb : c = Go.Proofs.Try.f34.body.getD .skip := by rw [hc]; rfl
  subst hb
  exact tab_nil))
theorem g34_run (x0 : S0) : (q34 [.agg (Cod.enc 0 x0)] []).eval = (g34T x0).ev fun r => ((.agg (Cod.enc 0 r) : AV), ([] : List Blk)) := by kernel_rfl
noncomputable def s34 : Ab.Spec := fun args h =>
  dN h <| dL args fun v0 a0 => dG v0 fun l0 => dE 0 l0 fun x0 => dN a0 <|
  let r := g34 x0; .val (.agg (Cod.enc 0 r), [])
theorem s34_ok : SpecOk Go.Proofs.Try.prog 34 s34 :=
  q34_ok.less fun args hs r h => by
    unfold s34 at h
    obtain ⟨rfl, hh1⟩ := dN_inv h
    obtain ⟨v0, a0, rfl, hh2⟩ := dL_inv hh1
    obtain ⟨l0, rfl, hh3⟩ := dG_inv hh2
    obtain ⟨x0, rfl, hh4⟩ := dE_inv hh3
    obtain ⟨rfl, hh5⟩ := dN_inv hh4
    rw [g34_run, Tr.ev_get (d := default) (by kernel_rfl)]
    exact hh5
/-- pontage/heard.Dispute -/
noncomputable def L39 : SL := [(52, .byHeap, s52), (19, .byVal, s19), (20, .byVal, s20), (21, .byVal, s21), (23, .byVal, s23), (53, .byHeap, s53), (54, .byHeap, s54), (55, .byHeap, s55), (56, .byHeap, s56), (57, .byHeap, s57), (58, .byHeap, s58)]
noncomputable def e39 : Env := ⟨ti, fun g => lookS g L39, 1000000, [], []⟩
def g39T (x0 : S0) : Tr (S0) :=
  .br (bif (x0.f48 == 3) then x0.f52 else false) (
   .leaf ({ x0 with f4 := false, f5 := true })) (
   .leaf (x0))
def g39 (x0 : S0) : S0 := (g39T x0).get default
noncomputable def T39 : TL := []
noncomputable def q39 : Ab.Spec := runQ0 e39 (lookT T39) Go.Proofs.Try.f39
theorem q39_ok : SpecOk Go.Proofs.Try.prog 39 q39 := (runQ0_ok (runR_ok (e := e39) follows (allTI ti_ok _ _ _ _) (callsOk_cons s52_ok (callsOk_cons s19_ok (callsOk_cons s20_ok (callsOk_cons s21_ok (callsOk_cons s23_ok (callsOk_cons s53_ok (callsOk_cons s54_ok (callsOk_cons s55_ok (callsOk_cons s56_ok (callsOk_cons s57_ok (callsOk_cons s58_ok (callsOk_nil)))))))))))) Go.Proofs.Try.func39 Go.Proofs.Try.call39) (fun c hc => by
  have hb : c = Go.Proofs.Try.f39.body.getD .skip := by rw [hc]; rfl
  subst hb
  exact tab_nil))
theorem g39_run (x0 : S0) : (q39 [.agg (Cod.enc 0 x0)] []).eval = (g39T x0).ev fun r => ((.agg (Cod.enc 0 r) : AV), ([] : List Blk)) := by kernel_rfl
noncomputable def s39 : Ab.Spec := fun args h =>
  dN h <| dL args fun v0 a0 => dG v0 fun l0 => dE 0 l0 fun x0 => dN a0 <|
  let r := g39 x0; .val (.agg (Cod.enc 0 r), [])
theorem s39_ok : SpecOk Go.Proofs.Try.prog 39 s39 :=
  q39_ok.less fun args hs r h => by
    unfold s39 at h
    obtain ⟨rfl, hh1⟩ := dN_inv h
    obtain ⟨v0, a0, rfl, hh2⟩ := dL_inv hh1
    obtain ⟨l0, rfl, hh3⟩ := dG_inv hh2
    obtain ⟨x0, rfl, hh4⟩ := dE_inv hh3
    obtain ⟨rfl, hh5⟩ := dN_inv hh4
    rw [g39_run, Tr.ev_get (d := default) (by kernel_rfl)]
    exact hh5
/-- pontage/pim.receives -/
noncomputable def L22 : SL := [(33, .byVal, s33), (34, .byVal, s34), (35, .byVal, s35), (36, .byVal, s36), (37, .byVal, s37), (38, .byVal, s38), (39, .byVal, s39), (19, .byVal, s19), (20, .byVal, s20), (21, .byVal, s21), (23, .byVal, s23), (53, .byHeap, s53), (54, .byHeap, s54), (55, .byHeap, s55), (56, .byHeap, s56), (57, .byHeap, s57), (58, .byHeap, s58)]
noncomputable def e22 : Env := ⟨ti, fun g => lookS g L22, 1000000, [.drop 0, .drop 3, .drop 4, .drop 6, .drop 7, .drop 8, .drop 9, .drop 10, .drop 11, .drop 12, .drop 13, .drop 14, .drop 15, .drop 16, .drop 17, .drop 18, .drop 19, .drop 20, .drop 21, .drop 22, .drop 23, .drop 24, .drop 25, .drop 26, .drop 27, .drop 28, .drop 29, .drop 30, .drop 31, .drop 32, .drop 33, .drop 34], []⟩
def g22T (x0 : S0) : Tr (S0) :=
  let z23 := g33 x0
  .br (z23 == 1) (
   let z24 := g34 x0
   .leaf ({ z24 with f14 := false })) (
   .br (z23 == 2) (
    let z25 := g35 x0
    let z26 := g36 z25
    let z27 := g37 z26
    let z28 := g38 z27
    .leaf ({ z28 with f14 := false })) (
    .br (z23 == 3) (
     let z29 := g39 x0
     .leaf ({ z29 with f14 := false })) (
     .br (z23 == 4) (
      let z30 := g37 x0
      let z31 := g36 z30
      .leaf ({ z31 with f14 := false })) (
      .br (x0.f48 == 2) (
       let z32 := g36 x0
       .leaf ({ z32 with f14 := false })) (
       .leaf ({ x0 with f14 := false }))))))
def g22 (x0 : S0) : S0 := (g22T x0).get default
noncomputable def T22 : TL := []
noncomputable def q22 : Ab.Spec := runQ0 e22 (lookT T22) Go.Proofs.Try.f22
theorem q22_ok : SpecOk Go.Proofs.Try.prog 22 q22 := (runQ0_ok (runR_ok (e := e22) follows (allTI ti_ok _ _ _ _) (callsOk_cons s33_ok (callsOk_cons s34_ok (callsOk_cons s35_ok (callsOk_cons s36_ok (callsOk_cons s37_ok (callsOk_cons s38_ok (callsOk_cons s39_ok (callsOk_cons s19_ok (callsOk_cons s20_ok (callsOk_cons s21_ok (callsOk_cons s23_ok (callsOk_cons s53_ok (callsOk_cons s54_ok (callsOk_cons s55_ok (callsOk_cons s56_ok (callsOk_cons s57_ok (callsOk_cons s58_ok (callsOk_nil)))))))))))))))))) Go.Proofs.Try.func22 Go.Proofs.Try.call22) (fun c hc => by
  have hb : c = Go.Proofs.Try.f22.body.getD .skip := by rw [hc]; rfl
  subst hb
  exact tab_nil))
theorem g22_run (x0 : S0) : (q22 [.agg (Cod.enc 0 x0)] []).eval = (g22T x0).ev fun r => ((.agg (Cod.enc 0 r) : AV), ([] : List Blk)) := by kernel_rfl
noncomputable def s22 : Ab.Spec := fun args h =>
  dN h <| dL args fun v0 a0 => dG v0 fun l0 => dE 0 l0 fun x0 => dN a0 <|
  let r := g22 x0; .val (.agg (Cod.enc 0 r), [])
theorem s22_ok : SpecOk Go.Proofs.Try.prog 22 s22 :=
  q22_ok.less fun args hs r h => by
    unfold s22 at h
    obtain ⟨rfl, hh1⟩ := dN_inv h
    obtain ⟨v0, a0, rfl, hh2⟩ := dL_inv hh1
    obtain ⟨l0, rfl, hh3⟩ := dG_inv hh2
    obtain ⟨x0, rfl, hh4⟩ := dE_inv hh3
    obtain ⟨rfl, hh5⟩ := dN_inv hh4
    rw [g22_run, Tr.ev_get (d := default) (by kernel_rfl)]
    exact hh5
/-- slices.Clone[[]pontage/api.Port,pontage/api.Port] -/
noncomputable def L41 : SL := []
noncomputable def e41 : Env := ⟨ti, fun g => lookS g L41, 1000000, [], []⟩
theorem s41_a : (runR e41 Go.Proofs.Try.f41 [.c (.rn true 0 [])] []).eval = some (.c .nils, []) := by kernel_rfl
theorem s41_b (L : List S0) : (runR e41 Go.Proofs.Try.f41 [.c (.rn false 0 L)] []).eval = bif L.isEmpty then some (.c .ez, []) else bif cloneB 0 248 L then some (.c (.slw 0), [.row 0 L]) else none := by
  cases L with
  | nil => kernel_rfl
  | cons x L => kernel_rfl
noncomputable def s41 : Ab.Spec := fun args h => cloneS 0 248 (coeA [[some 0]] args) h
theorem s41_ok : SpecOk Go.Proofs.Try.prog 41 s41 := (clone_ok (e := e41) (c := 0) (bytes := 248) (runR_ok (e := e41) follows (allTI ti_ok _ _ _ _) (callsOk_nil) Go.Proofs.Try.func41 Go.Proofs.Try.call41) s41_a s41_b).pre [[some 0]]
/-- pontage/pim.with -/
noncomputable def L24 : SL := [(41, .byNew, s41)]
noncomputable def e24 : Env := ⟨ti, fun g => lookS g L24, 1000000, [], []⟩
def g24T (x0 : S7) (x1 : Int) (x2 : S0) : Tr (S7) :=
  .br (x0.f16.isEmpty || cloneB 0 248 x0.f16) (
   .br (decide (0 ≤ x1) && decide (x1 < (x0.f16.length : Int))) (
    .opt (x0.f16[(Int.toNat x1)]?) fun y34 =>
     .leaf ({ x0 with f16 := (List.set x0.f16 (Int.toNat x1) x2) })) (
    .fail)) (
   .fail)
def g24 (x0 : S7) (x1 : Int) (x2 : S0) : Option (S7) := (g24T x0 x1 x2).get?
noncomputable def T24 : TL := []
noncomputable def q24 : Ab.Spec := frzR [[none, none, none, none, none, none, none, none, none, none, none, none, none, none, none, none, some 0]] (runQ0 e24 (lookT T24) Go.Proofs.Try.f24)
theorem q24_ok : SpecOk Go.Proofs.Try.prog 24 q24 := (runQ0_ok (runR_ok (e := e24) follows (allTI ti_ok _ _ _ _) (callsOk_cons s41_ok (callsOk_nil)) Go.Proofs.Try.func24 Go.Proofs.Try.call24) (fun c hc => by
  have hb : c = Go.Proofs.Try.f24.body.getD .skip := by rw [hc]; rfl
  subst hb
  exact tab_nil)).froze [[none, none, none, none, none, none, none, none, none, none, none, none, none, none, none, none, some 0]]
theorem g24_run (x0 : S7) (x1 : Int) (x2 : S0) : (q24 [.agg (Cod.enc 7 x0), .c (.int .i64 x1), .agg (Cod.enc 0 x2)] []).eval = (g24T x0 x1 x2).ev fun r => ((.agg (Cod.enc 7 r) : AV), ([] : List Blk)) := by kernel_rfl
noncomputable def s24_0 : Ab.Spec := fun args h =>
  dN h <| dL args fun v0 a0 => dG v0 fun l0 => dE 7 l0 fun x0 => dL a0 fun v1 a1 => dC v1 fun c0 => dI .i64 c0 fun x1 => dL a1 fun v2 a2 => dG v2 fun l2 => dE 0 l2 fun x2 => dN a2 <|
  .opt (g24 x0 x1 x2) fun r => .val (.agg (Cod.enc 7 r), [])
theorem s24_0_ok : SpecOk Go.Proofs.Try.prog 24 s24_0 :=
  q24_ok.less fun args hs r h => by
    unfold s24_0 at h
    obtain ⟨rfl, hh1⟩ := dN_inv h
    obtain ⟨v0, a0, rfl, hh2⟩ := dL_inv hh1
    obtain ⟨l0, rfl, hh3⟩ := dG_inv hh2
    obtain ⟨x0, rfl, hh4⟩ := dE_inv hh3
    obtain ⟨v1, a1, rfl, hh5⟩ := dL_inv hh4
    obtain ⟨c0, rfl, hh6⟩ := dC_inv hh5
    obtain ⟨x1, rfl, hh7⟩ := dI_inv hh6
    obtain ⟨v2, a2, rfl, hh8⟩ := dL_inv hh7
    obtain ⟨l2, rfl, hh9⟩ := dG_inv hh8
    obtain ⟨x2, rfl, hh10⟩ := dE_inv hh9
    obtain ⟨rfl, hh11⟩ := dN_inv hh10
    rw [g24_run, Tr.ev_get?]
    change (Res.opt (g24 x0 x1 x2) _).eval = some r at hh11
    rw [eval_opt] at hh11
    obtain ⟨z, hz, hh12⟩ := Option.bind_eq_some_iff.mp hh11
    unfold g24 at hz
    rw [hz]; exact hh12
noncomputable def s24 : Ab.Spec := fun args h => s24_0 (coeA [[none, none, none, none, none, none, none, none, none, none, none, none, none, none, none, none, some 0], [], []] args) h
theorem s24_ok : SpecOk Go.Proofs.Try.prog 24 s24 := s24_0_ok.pre [[none, none, none, none, none, none, none, none, none, none, none, none, none, none, none, none, some 0], [], []]
/-- pontage/pim.Step -/
noncomputable def L8 : SL := [(18, .byVal, s18), (19, .byVal, s19), (20, .byVal, s20), (21, .byVal, s21), (22, .byVal, s22), (23, .byVal, s23), (24, .byNew, s24), (53, .byHeap, s53), (54, .byHeap, s54), (55, .byHeap, s55), (56, .byHeap, s56), (57, .byHeap, s57), (58, .byHeap, s58)]
noncomputable def e8 : Env := ⟨ti, fun g => lookS g L8, 1000000, [], []⟩
def g8T (x0 : S7) (x1 : Int) : Tr (S7 × Bool) :=
  let z35 := g18 x0 x1
  .br (!z35) (
   .leaf (x0, false)) (
   .br (decide (0 ≤ x1)) (
    .opt (x0.f16[Int.toNat x1]?) fun y36 =>
     .br (bif (!(bif (bif (y36.f72 == 1) then true else (y36.f72 == 2)) then true else (y36.f72 == 3))) then true else (bif (!y36.f2) then (y36.f29 != 0) else false)) (
      let z37 := g20 y36
      .opt (g24 x0 x1 z37) fun z38 =>
       .leaf (z38, true)) (
      .br (bif (y36.f72 == 1) then y36.f2 else false) (
       let z39 := g21 y36
       .opt (g24 x0 x1 z39) fun z40 =>
        .leaf (z40, true)) (
       .br (bif (y36.f72 == 1) then y36.f14 else false) (
        let z41 := g20 y36
        .opt (g24 x0 x1 z41) fun z42 =>
         .leaf (z42, true)) (
        .br (y36.f72 == 1) (
         .leaf (x0, false)) (
         .br (bif (bif (y36.f72 == 3) then y36.f14 else false) then (!y36.f28) else false) (
          let z43 := g22 y36
          .opt (g24 x0 x1 z43) fun z44 =>
           .leaf (z44, true)) (
          .br (bif y36.f22 then y36.f28 else false) (
           let z45 := g23 y36
           .opt (g24 x0 x1 z45) fun z46 =>
            .leaf (z46, true)) (
           .br (bif (bif (bif (bif (y36.f72 == 3) then (y36.f29 == 3) else false) then (y36.f69 == 0) else false) then (!y36.f28) else false) then (!y36.f14) else false) (
            let z47 := g21 y36
            .opt (g24 x0 x1 z47) fun z48 =>
             .leaf (z48, true)) (
            .leaf (x0, false))))))))) (
    .fail))
def g8 (x0 : S7) (x1 : Int) : Option (S7 × Bool) := (g8T x0 x1).get?
noncomputable def T8 : TL := []
noncomputable def q8 : Ab.Spec := frzR [[none, none, none, none, none, none, none, none, none, none, none, none, none, none, none, none, some 0], []] (runQ0 e8 (lookT T8) Go.Proofs.Try.f8)
theorem q8_ok : SpecOk Go.Proofs.Try.prog 8 q8 := (runQ0_ok (runR_ok (e := e8) follows (allTI ti_ok _ _ _ _) (callsOk_cons s18_ok (callsOk_cons s19_ok (callsOk_cons s20_ok (callsOk_cons s21_ok (callsOk_cons s22_ok (callsOk_cons s23_ok (callsOk_cons s24_ok (callsOk_cons s53_ok (callsOk_cons s54_ok (callsOk_cons s55_ok (callsOk_cons s56_ok (callsOk_cons s57_ok (callsOk_cons s58_ok (callsOk_nil)))))))))))))) Go.Proofs.Try.func8 Go.Proofs.Try.call8) (fun c hc => by
  have hb : c = Go.Proofs.Try.f8.body.getD .skip := by rw [hc]; rfl
  subst hb
  exact tab_nil)).froze [[none, none, none, none, none, none, none, none, none, none, none, none, none, none, none, none, some 0], []]
theorem g8_run (x0 : S7) (x1 : Int) : (q8 [.agg (Cod.enc 7 x0), .c (.int .i64 x1)] []).eval = (g8T x0 x1).ev fun r => ((.tup [some (true, Cod.enc 7 r.1), some (false, [.bool r.2])] : AV), ([] : List Blk)) := by kernel_rfl
noncomputable def s8_0 : Ab.Spec := fun args h =>
  dN h <| dL args fun v0 a0 => dG v0 fun l0 => dE 7 l0 fun x0 => dL a0 fun v1 a1 => dC v1 fun c0 => dI .i64 c0 fun x1 => dN a1 <|
  .opt (g8 x0 x1) fun r => .val (.tup [some (true, Cod.enc 7 r.1), some (false, [.bool r.2])], [])
theorem s8_0_ok : SpecOk Go.Proofs.Try.prog 8 s8_0 :=
  q8_ok.less fun args hs r h => by
    unfold s8_0 at h
    obtain ⟨rfl, hh1⟩ := dN_inv h
    obtain ⟨v0, a0, rfl, hh2⟩ := dL_inv hh1
    obtain ⟨l0, rfl, hh3⟩ := dG_inv hh2
    obtain ⟨x0, rfl, hh4⟩ := dE_inv hh3
    obtain ⟨v1, a1, rfl, hh5⟩ := dL_inv hh4
    obtain ⟨c0, rfl, hh6⟩ := dC_inv hh5
    obtain ⟨x1, rfl, hh7⟩ := dI_inv hh6
    obtain ⟨rfl, hh8⟩ := dN_inv hh7
    rw [g8_run, Tr.ev_get?]
    change (Res.opt (g8 x0 x1) _).eval = some r at hh8
    rw [eval_opt] at hh8
    obtain ⟨z, hz, hh9⟩ := Option.bind_eq_some_iff.mp hh8
    unfold g8 at hz
    rw [hz]; exact hh9
noncomputable def s8 : Ab.Spec := fun args h => s8_0 (coeA [[none, none, none, none, none, none, none, none, none, none, none, none, none, none, none, none, some 0], []] args) h
theorem s8_ok : SpecOk Go.Proofs.Try.prog 8 s8 := s8_0_ok.pre [[none, none, none, none, none, none, none, none, none, none, none, none, none, none, none, none, some 0], []]
/-- pontage/pontageref09.Has -/
noncomputable def L14 : SL := []
noncomputable def e14 : Env := ⟨ti, fun g => lookS g L14, 1000000, [], []⟩
def g14T (x0 : S7) (x1 : Int) : Tr (Bool) :=
  .leaf ((bif (decide (x1 ≥ 0)) then (decide (x1 < (x0.f16.length : Int))) else false))
def g14 (x0 : S7) (x1 : Int) : Bool := (g14T x0 x1).get default
noncomputable def T14 : TL := []
noncomputable def q14 : Ab.Spec := runQ0 e14 (lookT T14) Go.Proofs.Try.f14
theorem q14_ok : SpecOk Go.Proofs.Try.prog 14 q14 := (runQ0_ok (runR_ok (e := e14) follows (allTI ti_ok _ _ _ _) (callsOk_nil) Go.Proofs.Try.func14 Go.Proofs.Try.call14) (fun c hc => by
  have hb : c = Go.Proofs.Try.f14.body.getD .skip := by rw [hc]; rfl
  subst hb
  exact tab_nil))
theorem g14_run (x0 : S7) (x1 : Int) : (q14 [.agg (Cod.enc 7 x0), .c (.int .i64 x1)] []).eval = (g14T x0 x1).ev fun r => ((.c (.bool r) : AV), ([] : List Blk)) := by kernel_rfl
noncomputable def s14_0 : Ab.Spec := fun args h =>
  dN h <| dL args fun v0 a0 => dG v0 fun l0 => dE 7 l0 fun x0 => dL a0 fun v1 a1 => dC v1 fun c0 => dI .i64 c0 fun x1 => dN a1 <|
  let r := g14 x0 x1; .val (.c (.bool r), [])
theorem s14_0_ok : SpecOk Go.Proofs.Try.prog 14 s14_0 :=
  q14_ok.less fun args hs r h => by
    unfold s14_0 at h
    obtain ⟨rfl, hh1⟩ := dN_inv h
    obtain ⟨v0, a0, rfl, hh2⟩ := dL_inv hh1
    obtain ⟨l0, rfl, hh3⟩ := dG_inv hh2
    obtain ⟨x0, rfl, hh4⟩ := dE_inv hh3
    obtain ⟨v1, a1, rfl, hh5⟩ := dL_inv hh4
    obtain ⟨c0, rfl, hh6⟩ := dC_inv hh5
    obtain ⟨x1, rfl, hh7⟩ := dI_inv hh6
    obtain ⟨rfl, hh8⟩ := dN_inv hh7
    rw [g14_run, Tr.ev_get (d := default) (by kernel_rfl)]
    exact hh8
noncomputable def s14 : Ab.Spec := fun args h => s14_0 (coeA [[none, none, none, none, none, none, none, none, none, none, none, none, none, none, none, none, some 0], []] args) h
theorem s14_ok : SpecOk Go.Proofs.Try.prog 14 s14 := s14_0_ok.pre [[none, none, none, none, none, none, none, none, none, none, none, none, none, none, none, none, some 0], []]
/-- pontage/pontageref11.disabled -/
noncomputable def L42 : SL := []
noncomputable def e42 : Env := ⟨ti, fun g => lookS g L42, 1000000, [], []⟩
def g42T (x0 : S0) : Tr (S0) :=
  .leaf ({ x0 with f3 := false, f4 := false, f12 := false, f13 := false, f14 := false, f21 := true, f22 := false, f29 := 0, f69 := 0, f72 := 1 })
def g42 (x0 : S0) : S0 := (g42T x0).get default
noncomputable def T42 : TL := []
noncomputable def q42 : Ab.Spec := runQ0 e42 (lookT T42) Go.Proofs.Try.f42
theorem q42_ok : SpecOk Go.Proofs.Try.prog 42 q42 := (runQ0_ok (runR_ok (e := e42) follows (allTI ti_ok _ _ _ _) (callsOk_nil) Go.Proofs.Try.func42 Go.Proofs.Try.call42) (fun c hc => by
  have hb : c = Go.Proofs.Try.f42.body.getD .skip := by rw [hc]; rfl
  subst hb
  exact tab_nil))
theorem g42_run (x0 : S0) : (q42 [.agg (Cod.enc 0 x0)] []).eval = (g42T x0).ev fun r => ((.agg (Cod.enc 0 r) : AV), ([] : List Blk)) := by kernel_rfl
noncomputable def s42 : Ab.Spec := fun args h =>
  dN h <| dL args fun v0 a0 => dG v0 fun l0 => dE 0 l0 fun x0 => dN a0 <|
  let r := g42 x0; .val (.agg (Cod.enc 0 r), [])
theorem s42_ok : SpecOk Go.Proofs.Try.prog 42 s42 :=
  q42_ok.less fun args hs r h => by
    unfold s42 at h
    obtain ⟨rfl, hh1⟩ := dN_inv h
    obtain ⟨v0, a0, rfl, hh2⟩ := dL_inv hh1
    obtain ⟨l0, rfl, hh3⟩ := dG_inv hh2
    obtain ⟨x0, rfl, hh4⟩ := dE_inv hh3
    obtain ⟨rfl, hh5⟩ := dN_inv hh4
    rw [g42_run, Tr.ev_get (d := default) (by kernel_rfl)]
    exact hh5
/-- pontage/pontageref11.aged -/
noncomputable def L43 : SL := []
noncomputable def e43 : Env := ⟨ti, fun g => lookS g L43, 1000000, [], []⟩
def g43T (x0 : S0) : Tr (S0) :=
  .leaf ({ x0 with f21 := true, f22 := false, f29 := 1, f72 := 2 })
def g43 (x0 : S0) : S0 := (g43T x0).get default
noncomputable def T43 : TL := []
noncomputable def q43 : Ab.Spec := runQ0 e43 (lookT T43) Go.Proofs.Try.f43
theorem q43_ok : SpecOk Go.Proofs.Try.prog 43 q43 := (runQ0_ok (runR_ok (e := e43) follows (allTI ti_ok _ _ _ _) (callsOk_nil) Go.Proofs.Try.func43 Go.Proofs.Try.call43) (fun c hc => by
  have hb : c = Go.Proofs.Try.f43.body.getD .skip := by rw [hc]; rfl
  subst hb
  exact tab_nil))
theorem g43_run (x0 : S0) : (q43 [.agg (Cod.enc 0 x0)] []).eval = (g43T x0).ev fun r => ((.agg (Cod.enc 0 r) : AV), ([] : List Blk)) := by kernel_rfl
noncomputable def s43 : Ab.Spec := fun args h =>
  dN h <| dL args fun v0 a0 => dG v0 fun l0 => dE 0 l0 fun x0 => dN a0 <|
  let r := g43 x0; .val (.agg (Cod.enc 0 r), [])
theorem s43_ok : SpecOk Go.Proofs.Try.prog 43 s43 :=
  q43_ok.less fun args hs r h => by
    unfold s43 at h
    obtain ⟨rfl, hh1⟩ := dN_inv h
    obtain ⟨v0, a0, rfl, hh2⟩ := dL_inv hh1
    obtain ⟨l0, rfl, hh3⟩ := dG_inv hh2
    obtain ⟨x0, rfl, hh4⟩ := dE_inv hh3
    obtain ⟨rfl, hh5⟩ := dN_inv hh4
    rw [g43_run, Tr.ev_get (d := default) (by kernel_rfl)]
    exact hh5
/-- pontage/pontageref06.Better -/
noncomputable def L70 : SL := []
noncomputable def e70 : Env := ⟨ti, fun g => lookS g L70, 1000000, [], []⟩
def g70T (x0 : S6) (x1 : S6) : Tr (Bool) :=
  .br (x0.f0 != x1.f0) (
   .leaf ((decide (x0.f0 < x1.f0)))) (
   .br (x0.f1 != x1.f1) (
    .leaf ((decide (x0.f1 < x1.f1)))) (
    .br (x0.f2 != x1.f2) (
     .leaf ((decide (x0.f2 < x1.f2)))) (
     .leaf ((decide (x0.f3 < x1.f3))))))
def g70 (x0 : S6) (x1 : S6) : Bool := (g70T x0 x1).get default
noncomputable def T70 : TL := []
noncomputable def q70 : Ab.Spec := runQ0 e70 (lookT T70) Go.Proofs.Try.f70
theorem q70_ok : SpecOk Go.Proofs.Try.prog 70 q70 := (runQ0_ok (runR_ok (e := e70) follows (allTI ti_ok _ _ _ _) (callsOk_nil) Go.Proofs.Try.func70 Go.Proofs.Try.call70) (fun c hc => by
  have hb : c = Go.Proofs.Try.f70.body.getD .skip := by rw [hc]; rfl
  subst hb
  exact tab_nil))
theorem g70_run (x0 : S6) (x1 : S6) : (q70 [.agg (Cod.enc 6 x0), .agg (Cod.enc 6 x1)] []).eval = (g70T x0 x1).ev fun r => ((.c (.bool r) : AV), ([] : List Blk)) := by kernel_rfl
noncomputable def s70 : Ab.Spec := fun args h =>
  dN h <| dL args fun v0 a0 => dG v0 fun l0 => dE 6 l0 fun x0 => dL a0 fun v1 a1 => dG v1 fun l1 => dE 6 l1 fun x1 => dN a1 <|
  let r := g70 x0 x1; .val (.c (.bool r), [])
theorem s70_ok : SpecOk Go.Proofs.Try.prog 70 s70 :=
  q70_ok.less fun args hs r h => by
    unfold s70 at h
    obtain ⟨rfl, hh1⟩ := dN_inv h
    obtain ⟨v0, a0, rfl, hh2⟩ := dL_inv hh1
    obtain ⟨l0, rfl, hh3⟩ := dG_inv hh2
    obtain ⟨x0, rfl, hh4⟩ := dE_inv hh3
    obtain ⟨v1, a1, rfl, hh5⟩ := dL_inv hh4
    obtain ⟨l1, rfl, hh6⟩ := dG_inv hh5
    obtain ⟨x1, rfl, hh7⟩ := dE_inv hh6
    obtain ⟨rfl, hh8⟩ := dN_inv hh7
    rw [g70_run, Tr.ev_get (d := default) (by kernel_rfl)]
    exact hh8
/-- pontage/pontageref10.BetterOrSame -/
noncomputable def L60 : SL := [(70, .byVal, s70)]
noncomputable def e60 : Env := ⟨ti, fun g => lookS g L60, 1000000, [], []⟩
def g60T (x0 : S0) (x1 : Int) : Tr (Bool) :=
  .br (x1 == 3) (
   let z49 := g70 (S6.mk x0.f36 x0.f37 x0.f38 x0.f39) (S6.mk x0.f56 x0.f57 x0.f58 x0.f59)
   .leaf ((bif (x0.f29 == 3) then (!z49) else false))) (
   .br (x1 == 2) (
    let z50 := g70 (S6.mk x0.f36 x0.f37 x0.f38 x0.f39) (S6.mk x0.f32 x0.f33 x0.f34 x0.f35)
    .leaf ((bif (x0.f29 == 2) then (!z50) else false))) (
    .leaf (false)))
def g60 (x0 : S0) (x1 : Int) : Bool := (g60T x0 x1).get default
noncomputable def T60 : TL := []
noncomputable def q60 : Ab.Spec := runQ0 e60 (lookT T60) Go.Proofs.Try.f60
theorem q60_ok : SpecOk Go.Proofs.Try.prog 60 q60 := (runQ0_ok (runR_ok (e := e60) follows (allTI ti_ok _ _ _ _) (callsOk_cons s70_ok (callsOk_nil)) Go.Proofs.Try.func60 Go.Proofs.Try.call60) (fun c hc => by
  have hb : c = Go.Proofs.Try.f60.body.getD .skip := by rw [hc]; rfl
  subst hb
  exact tab_nil))
theorem g60_run (x0 : S0) (x1 : Int) : (q60 [.agg (Cod.enc 0 x0), .c (.int .i64 x1)] []).eval = (g60T x0 x1).ev fun r => ((.c (.bool r) : AV), ([] : List Blk)) := by kernel_rfl
noncomputable def s60 : Ab.Spec := fun args h =>
  dN h <| dL args fun v0 a0 => dG v0 fun l0 => dE 0 l0 fun x0 => dL a0 fun v1 a1 => dC v1 fun c0 => dI .i64 c0 fun x1 => dN a1 <|
  let r := g60 x0 x1; .val (.c (.bool r), [])
theorem s60_ok : SpecOk Go.Proofs.Try.prog 60 s60 :=
  q60_ok.less fun args hs r h => by
    unfold s60 at h
    obtain ⟨rfl, hh1⟩ := dN_inv h
    obtain ⟨v0, a0, rfl, hh2⟩ := dL_inv hh1
    obtain ⟨l0, rfl, hh3⟩ := dG_inv hh2
    obtain ⟨x0, rfl, hh4⟩ := dE_inv hh3
    obtain ⟨v1, a1, rfl, hh5⟩ := dL_inv hh4
    obtain ⟨c0, rfl, hh6⟩ := dC_inv hh5
    obtain ⟨x1, rfl, hh7⟩ := dI_inv hh6
    obtain ⟨rfl, hh8⟩ := dN_inv hh7
    rw [g60_run, Tr.ev_get (d := default) (by kernel_rfl)]
    exact hh8
/-- pontage/pontageref11.updated -/
noncomputable def L44 : SL := [(60, .byVal, s60)]
noncomputable def e44 : Env := ⟨ti, fun g => lookS g L44, 1000000, [], []⟩
def g44T (x0 : S0) : Tr (S0) :=
  let z51 := g60 x0 2
  .leaf ({ x0 with f4 := (bif x0.f4 then z51 else false), f11 := true, f12 := false, f13 := false, f25 := (bif x0.f25 then (bif x0.f4 then z51 else false) else false), f28 := false, f29 := 2, f36 := x0.f32, f37 := x0.f33, f38 := x0.f34, f39 := x0.f35, f44 := x0.f40, f45 := x0.f41, f46 := x0.f42, f47 := x0.f43, f72 := 3 })
def g44 (x0 : S0) : S0 := (g44T x0).get default
noncomputable def T44 : TL := []
noncomputable def q44 : Ab.Spec := runQ0 e44 (lookT T44) Go.Proofs.Try.f44
theorem q44_ok : SpecOk Go.Proofs.Try.prog 44 q44 := (runQ0_ok (runR_ok (e := e44) follows (allTI ti_ok _ _ _ _) (callsOk_cons s60_ok (callsOk_nil)) Go.Proofs.Try.func44 Go.Proofs.Try.call44) (fun c hc => by
  have hb : c = Go.Proofs.Try.f44.body.getD .skip := by rw [hc]; rfl
  subst hb
  exact tab_nil))
theorem g44_run (x0 : S0) : (q44 [.agg (Cod.enc 0 x0)] []).eval = (g44T x0).ev fun r => ((.agg (Cod.enc 0 r) : AV), ([] : List Blk)) := by kernel_rfl
noncomputable def s44 : Ab.Spec := fun args h =>
  dN h <| dL args fun v0 a0 => dG v0 fun l0 => dE 0 l0 fun x0 => dN a0 <|
  let r := g44 x0; .val (.agg (Cod.enc 0 r), [])
theorem s44_ok : SpecOk Go.Proofs.Try.prog 44 s44 :=
  q44_ok.less fun args hs r h => by
    unfold s44 at h
    obtain ⟨rfl, hh1⟩ := dN_inv h
    obtain ⟨v0, a0, rfl, hh2⟩ := dL_inv hh1
    obtain ⟨l0, rfl, hh3⟩ := dG_inv hh2
    obtain ⟨x0, rfl, hh4⟩ := dE_inv hh3
    obtain ⟨rfl, hh5⟩ := dN_inv hh4
    rw [g44_run, Tr.ev_get (d := default) (by kernel_rfl)]
    exact hh5
/-- pontage/pontageref10.Designated -/
noncomputable def L71 : SL := []
noncomputable def e71 : Env := ⟨ti, fun g => lookS g L71, 1000000, [], []⟩
def g71T (x0 : S8) : Tr (Bool) :=
  .leaf ((bif (x0.f0 == 1) then true else (bif (x0.f0 == 3) then (x0.f7 == 4) else false)))
def g71 (x0 : S8) : Bool := (g71T x0).get default
noncomputable def T71 : TL := []
noncomputable def q71 : Ab.Spec := runQ0 e71 (lookT T71) Go.Proofs.Try.f71
theorem q71_ok : SpecOk Go.Proofs.Try.prog 71 q71 := (runQ0_ok (runR_ok (e := e71) follows (allTI ti_ok _ _ _ _) (callsOk_nil) Go.Proofs.Try.func71 Go.Proofs.Try.call71) (fun c hc => by
  have hb : c = Go.Proofs.Try.f71.body.getD .skip := by rw [hc]; rfl
  subst hb
  exact tab_nil))
theorem g71_run (x0 : S8) : (q71 [.agg (Cod.enc 8 x0)] []).eval = (g71T x0).ev fun r => ((.c (.bool r) : AV), ([] : List Blk)) := by kernel_rfl
noncomputable def s71 : Ab.Spec := fun args h =>
  dN h <| dL args fun v0 a0 => dG v0 fun l0 => dE 8 l0 fun x0 => dN a0 <|
  let r := g71 x0; .val (.c (.bool r), [])
theorem s71_ok : SpecOk Go.Proofs.Try.prog 71 s71 :=
  q71_ok.less fun args hs r h => by
    unfold s71 at h
    obtain ⟨rfl, hh1⟩ := dN_inv h
    obtain ⟨v0, a0, rfl, hh2⟩ := dL_inv hh1
    obtain ⟨l0, rfl, hh3⟩ := dG_inv hh2
    obtain ⟨x0, rfl, hh4⟩ := dE_inv hh3
    obtain ⟨rfl, hh5⟩ := dN_inv hh4
    rw [g71_run, Tr.ev_get (d := default) (by kernel_rfl)]
    exact hh5
/-- pontage/pontageref06.SameAddress -/
noncomputable def L75 : SL := []
noncomputable def e75 : Env := ⟨ti, fun g => lookS g L75, 1000000, [], []⟩
def g75T (x0 : Int) (x1 : Int) : Tr (Bool) :=
  .leaf (((remI x0 281474976710656) == (remI x1 281474976710656)))
def g75 (x0 : Int) (x1 : Int) : Bool := (g75T x0 x1).get default
noncomputable def T75 : TL := []
noncomputable def q75 : Ab.Spec := runQ0 e75 (lookT T75) Go.Proofs.Try.f75
theorem q75_ok : SpecOk Go.Proofs.Try.prog 75 q75 := (runQ0_ok (runR_ok (e := e75) follows (allTI ti_ok _ _ _ _) (callsOk_nil) Go.Proofs.Try.func75 Go.Proofs.Try.call75) (fun c hc => by
  have hb : c = Go.Proofs.Try.f75.body.getD .skip := by rw [hc]; rfl
  subst hb
  exact tab_nil))
theorem g75_run (x0 : Int) (x1 : Int) : (q75 [.c (.int .u64 x0), .c (.int .u64 x1)] []).eval = (g75T x0 x1).ev fun r => ((.c (.bool r) : AV), ([] : List Blk)) := by kernel_rfl
noncomputable def s75 : Ab.Spec := fun args h =>
  dN h <| dL args fun v0 a0 => dC v0 fun c0 => dI .u64 c0 fun x0 => dL a0 fun v1 a1 => dC v1 fun c1 => dI .u64 c1 fun x1 => dN a1 <|
  let r := g75 x0 x1; .val (.c (.bool r), [])
theorem s75_ok : SpecOk Go.Proofs.Try.prog 75 s75 :=
  q75_ok.less fun args hs r h => by
    unfold s75 at h
    obtain ⟨rfl, hh1⟩ := dN_inv h
    obtain ⟨v0, a0, rfl, hh2⟩ := dL_inv hh1
    obtain ⟨c0, rfl, hh3⟩ := dC_inv hh2
    obtain ⟨x0, rfl, hh4⟩ := dI_inv hh3
    obtain ⟨v1, a1, rfl, hh5⟩ := dL_inv hh4
    obtain ⟨c1, rfl, hh6⟩ := dC_inv hh5
    obtain ⟨x1, rfl, hh7⟩ := dI_inv hh6
    obtain ⟨rfl, hh8⟩ := dN_inv hh7
    rw [g75_run, Tr.ev_get (d := default) (by kernel_rfl)]
    exact hh8
/-- pontage/pontageref06.Number -/
noncomputable def L76 : SL := []
noncomputable def e76 : Env := ⟨ti, fun g => lookS g L76, 1000000, [], []⟩
def g76T (x0 : Int) : Tr (Int) :=
  .leaf ((remI x0 4096))
def g76 (x0 : Int) : Int := (g76T x0).get default
noncomputable def T76 : TL := []
noncomputable def q76 : Ab.Spec := runQ0 e76 (lookT T76) Go.Proofs.Try.f76
theorem q76_ok : SpecOk Go.Proofs.Try.prog 76 q76 := (runQ0_ok (runR_ok (e := e76) follows (allTI ti_ok _ _ _ _) (callsOk_nil) Go.Proofs.Try.func76 Go.Proofs.Try.call76) (fun c hc => by
  have hb : c = Go.Proofs.Try.f76.body.getD .skip := by rw [hc]; rfl
  subst hb
  exact tab_nil))
theorem g76_run (x0 : Int) : (q76 [.c (.int .u16 x0)] []).eval = (g76T x0).ev fun r => ((.c (.int .u16 r) : AV), ([] : List Blk)) := by kernel_rfl
noncomputable def s76 : Ab.Spec := fun args h =>
  dN h <| dL args fun v0 a0 => dC v0 fun c0 => dI .u16 c0 fun x0 => dN a0 <|
  let r := g76 x0; .val (.c (.int .u16 r), [])
theorem s76_ok : SpecOk Go.Proofs.Try.prog 76 s76 :=
  q76_ok.less fun args hs r h => by
    unfold s76 at h
    obtain ⟨rfl, hh1⟩ := dN_inv h
    obtain ⟨v0, a0, rfl, hh2⟩ := dL_inv hh1
    obtain ⟨c0, rfl, hh3⟩ := dC_inv hh2
    obtain ⟨x0, rfl, hh4⟩ := dI_inv hh3
    obtain ⟨rfl, hh5⟩ := dN_inv hh4
    rw [g76_run, Tr.ev_get (d := default) (by kernel_rfl)]
    exact hh5
/-- pontage/pontageref06.Superior -/
noncomputable def L72 : SL := [(70, .byVal, s70), (75, .byVal, s75), (76, .byVal, s76)]
noncomputable def e72 : Env := ⟨ti, fun g => lookS g L72, 1000000, [], []⟩
def g72T (x0 : S6) (x1 : S6) : Tr (Bool) :=
  let z52 := g70 x0 x1
  let z53 := g75 x0.f2 x1.f2
  let z54 := g76 x0.f3
  let z55 := g76 x1.f3
  .leaf ((bif z52 then true else (bif z53 then (z54 == z55) else false)))
def g72 (x0 : S6) (x1 : S6) : Bool := (g72T x0 x1).get default
noncomputable def T72 : TL := []
noncomputable def q72 : Ab.Spec := runQ0 e72 (lookT T72) Go.Proofs.Try.f72
theorem q72_ok : SpecOk Go.Proofs.Try.prog 72 q72 := (runQ0_ok (runR_ok (e := e72) follows (allTI ti_ok _ _ _ _) (callsOk_cons s70_ok (callsOk_cons s75_ok (callsOk_cons s76_ok (callsOk_nil)))) Go.Proofs.Try.func72 Go.Proofs.Try.call72) (fun c hc => by
  have hb : c = Go.Proofs.Try.f72.body.getD .skip := by rw [hc]; rfl
  subst hb
  exact tab_nil))
theorem g72_run (x0 : S6) (x1 : S6) : (q72 [.agg (Cod.enc 6 x0), .agg (Cod.enc 6 x1)] []).eval = (g72T x0 x1).ev fun r => ((.c (.bool r) : AV), ([] : List Blk)) := by kernel_rfl
noncomputable def s72 : Ab.Spec := fun args h =>
  dN h <| dL args fun v0 a0 => dG v0 fun l0 => dE 6 l0 fun x0 => dL a0 fun v1 a1 => dG v1 fun l1 => dE 6 l1 fun x1 => dN a1 <|
  let r := g72 x0 x1; .val (.c (.bool r), [])
theorem s72_ok : SpecOk Go.Proofs.Try.prog 72 s72 :=
  q72_ok.less fun args hs r h => by
    unfold s72 at h
    obtain ⟨rfl, hh1⟩ := dN_inv h
    obtain ⟨v0, a0, rfl, hh2⟩ := dL_inv hh1
    obtain ⟨l0, rfl, hh3⟩ := dG_inv hh2
    obtain ⟨x0, rfl, hh4⟩ := dE_inv hh3
    obtain ⟨v1, a1, rfl, hh5⟩ := dL_inv hh4
    obtain ⟨l1, rfl, hh6⟩ := dG_inv hh5
    obtain ⟨x1, rfl, hh7⟩ := dE_inv hh6
    obtain ⟨rfl, hh8⟩ := dN_inv hh7
    rw [g72_run, Tr.ev_get (d := default) (by kernel_rfl)]
    exact hh8
/-- pontage/pontageref10.Info -/
noncomputable def L61 : SL := [(71, .byVal, s71), (72, .byVal, s72), (70, .byVal, s70)]
noncomputable def e61 : Env := ⟨ti, fun g => lookS g L61, 1000000, [], []⟩
def g61T (x0 : S0) : Tr (Int) :=
  let z56 := g71 (S8.mk x0.f48 x0.f49 x0.f50 x0.f51 x0.f52 x0.f53 x0.f54 x0.f55 x0.f56 x0.f57 x0.f58 x0.f59 x0.f60 x0.f61 x0.f62 x0.f63)
  .br z56 (
   .br (bif (eqS6 (S6.mk x0.f56 x0.f57 x0.f58 x0.f59) (S6.mk x0.f36 x0.f37 x0.f38 x0.f39)) then (eqS5 (S5.mk x0.f60 x0.f61 x0.f62 x0.f63) (S5.mk x0.f44 x0.f45 x0.f46 x0.f47)) else false) (
    .leaf (2)) (
    let z57 := g72 (S6.mk x0.f56 x0.f57 x0.f58 x0.f59) (S6.mk x0.f36 x0.f37 x0.f38 x0.f39)
    .br z57 (
     .leaf (1)) (
     .leaf (3)))) (
   let z58 := g70 (S6.mk x0.f56 x0.f57 x0.f58 x0.f59) (S6.mk x0.f36 x0.f37 x0.f38 x0.f39)
   .br (bif (bif (x0.f48 == 3) then (bif (bif (x0.f55 == 3) then true else (x0.f55 == 1)) then true else (x0.f55 == 2)) else false) then (!z58) else false) (
    .leaf (4)) (
    .leaf (0)))
def g61 (x0 : S0) : Int := (g61T x0).get default
noncomputable def T61 : TL := []
noncomputable def q61 : Ab.Spec := runQ0 e61 (lookT T61) Go.Proofs.Try.f61
theorem q61_ok : SpecOk Go.Proofs.Try.prog 61 q61 := (runQ0_ok (runR_ok (e := e61) follows (allTI ti_ok _ _ _ _) (callsOk_cons s71_ok (callsOk_cons s72_ok (callsOk_cons s70_ok (callsOk_nil)))) Go.Proofs.Try.func61 Go.Proofs.Try.call61) (fun c hc => by
  have hb : c = Go.Proofs.Try.f61.body.getD .skip := by rw [hc]; rfl
  subst hb
  exact tab_nil))
theorem g61_run (x0 : S0) : (q61 [.agg (Cod.enc 0 x0)] []).eval = (g61T x0).ev fun r => ((.c (.int .i64 r) : AV), ([] : List Blk)) := by kernel_rfl
noncomputable def s61 : Ab.Spec := fun args h =>
  dN h <| dL args fun v0 a0 => dG v0 fun l0 => dE 0 l0 fun x0 => dN a0 <|
  let r := g61 x0; .val (.c (.int .i64 r), [])
theorem s61_ok : SpecOk Go.Proofs.Try.prog 61 s61 :=
  q61_ok.less fun args hs r h => by
    unfold s61 at h
    obtain ⟨rfl, hh1⟩ := dN_inv h
    obtain ⟨v0, a0, rfl, hh2⟩ := dL_inv hh1
    obtain ⟨l0, rfl, hh3⟩ := dG_inv hh2
    obtain ⟨x0, rfl, hh4⟩ := dE_inv hh3
    obtain ⟨rfl, hh5⟩ := dN_inv hh4
    rw [g61_run, Tr.ev_get (d := default) (by kernel_rfl)]
    exact hh5
/-- pontage/pontageref10.Proposal -/
noncomputable def L66 : SL := []
noncomputable def e66 : Env := ⟨ti, fun g => lookS g L66, 1000000, [], []⟩
def g66T (x0 : S0) : Tr (S0) :=
  .br (bif (bif (x0.f48 == 3) then (x0.f55 == 4) else false) then x0.f51 else false) (
   .leaf ({ x0 with f12 := true })) (
   .leaf (x0))
def g66 (x0 : S0) : S0 := (g66T x0).get default
noncomputable def T66 : TL := []
noncomputable def q66 : Ab.Spec := runQ0 e66 (lookT T66) Go.Proofs.Try.f66
theorem q66_ok : SpecOk Go.Proofs.Try.prog 66 q66 := (runQ0_ok (runR_ok (e := e66) follows (allTI ti_ok _ _ _ _) (callsOk_nil) Go.Proofs.Try.func66 Go.Proofs.Try.call66) (fun c hc => by
  have hb : c = Go.Proofs.Try.f66.body.getD .skip := by rw [hc]; rfl
  subst hb
  exact tab_nil))
theorem g66_run (x0 : S0) : (q66 [.agg (Cod.enc 0 x0)] []).eval = (g66T x0).ev fun r => ((.agg (Cod.enc 0 r) : AV), ([] : List Blk)) := by kernel_rfl
noncomputable def s66 : Ab.Spec := fun args h =>
  dN h <| dL args fun v0 a0 => dG v0 fun l0 => dE 0 l0 fun x0 => dN a0 <|
  let r := g66 x0; .val (.agg (Cod.enc 0 r), [])
theorem s66_ok : SpecOk Go.Proofs.Try.prog 66 s66 :=
  q66_ok.less fun args hs r h => by
    unfold s66 at h
    obtain ⟨rfl, hh1⟩ := dN_inv h
    obtain ⟨v0, a0, rfl, hh2⟩ := dL_inv hh1
    obtain ⟨l0, rfl, hh3⟩ := dG_inv hh2
    obtain ⟨x0, rfl, hh4⟩ := dE_inv hh3
    obtain ⟨rfl, hh5⟩ := dN_inv hh4
    rw [g66_run, Tr.ev_get (d := default) (by kernel_rfl)]
    exact hh5
/-- pontage/pontageref10.Flags -/
noncomputable def L65 : SL := []
noncomputable def e65 : Env := ⟨ti, fun g => lookS g L65, 1000000, [], []⟩
def g65T (x0 : S0) : Tr (S0) :=
  .br (bif x0.f49 then (bif (x0.f48 == 3) then true else (x0.f48 == 1)) else false) (
   .br (bif x0.f50 then (x0.f48 == 1) else false) (
    .br (x0.f48 == 2) (
     .leaf ({ x0 with f17 := true, f18 := true, f19 := true })) (
     .leaf ({ x0 with f17 := true, f18 := true }))) (
    .br (x0.f48 == 2) (
     .leaf ({ x0 with f17 := true, f19 := true })) (
     .leaf ({ x0 with f17 := true })))) (
   .br (bif x0.f50 then (x0.f48 == 1) else false) (
    .br (x0.f48 == 2) (
     .leaf ({ x0 with f18 := true, f19 := true })) (
     .leaf ({ x0 with f18 := true }))) (
    .br (x0.f48 == 2) (
     .leaf ({ x0 with f19 := true })) (
     .leaf (x0))))
def g65 (x0 : S0) : S0 := (g65T x0).get default
noncomputable def T65 : TL := []
noncomputable def q65 : Ab.Spec := runQ0 e65 (lookT T65) Go.Proofs.Try.f65
theorem q65_ok : SpecOk Go.Proofs.Try.prog 65 q65 := (runQ0_ok (runR_ok (e := e65) follows (allTI ti_ok _ _ _ _) (callsOk_nil) Go.Proofs.Try.func65 Go.Proofs.Try.call65) (fun c hc => by
  have hb : c = Go.Proofs.Try.f65.body.getD .skip := by rw [hc]; rfl
  subst hb
  exact tab_nil))
theorem g65_run (x0 : S0) : (q65 [.agg (Cod.enc 0 x0)] []).eval = (g65T x0).ev fun r => ((.agg (Cod.enc 0 r) : AV), ([] : List Blk)) := by kernel_rfl
noncomputable def s65 : Ab.Spec := fun args h =>
  dN h <| dL args fun v0 a0 => dG v0 fun l0 => dE 0 l0 fun x0 => dN a0 <|
  let r := g65 x0; .val (.agg (Cod.enc 0 r), [])
theorem s65_ok : SpecOk Go.Proofs.Try.prog 65 s65 :=
  q65_ok.less fun args hs r h => by
    unfold s65 at h
    obtain ⟨rfl, hh1⟩ := dN_inv h
    obtain ⟨v0, a0, rfl, hh2⟩ := dL_inv hh1
    obtain ⟨l0, rfl, hh3⟩ := dG_inv hh2
    obtain ⟨x0, rfl, hh4⟩ := dE_inv hh3
    obtain ⟨rfl, hh5⟩ := dN_inv hh4
    rw [g65_run, Tr.ev_get (d := default) (by kernel_rfl)]
    exact hh5
/-- pontage/pontageref10.Agreement -/
noncomputable def L64 : SL := []
noncomputable def e64 : Env := ⟨ti, fun g => lookS g L64, 1000000, [], []⟩
def g64T (x0 : S0) : Tr (S0) :=
  .br (bif (x0.f48 == 3) then x0.f54 else false) (
   .leaf ({ x0 with f4 := (bif (x0.f48 == 3) then x0.f54 else false), f13 := false })) (
   .leaf ({ x0 with f4 := (bif (x0.f48 == 3) then x0.f54 else false) }))
def g64 (x0 : S0) : S0 := (g64T x0).get default
noncomputable def T64 : TL := []
noncomputable def q64 : Ab.Spec := runQ0 e64 (lookT T64) Go.Proofs.Try.f64
theorem q64_ok : SpecOk Go.Proofs.Try.prog 64 q64 := (runQ0_ok (runR_ok (e := e64) follows (allTI ti_ok _ _ _ _) (callsOk_nil) Go.Proofs.Try.func64 Go.Proofs.Try.call64) (fun c hc => by
  have hb : c = Go.Proofs.Try.f64.body.getD .skip := by rw [hc]; rfl
  subst hb
  exact tab_nil))
theorem g64_run (x0 : S0) : (q64 [.agg (Cod.enc 0 x0)] []).eval = (g64T x0).ev fun r => ((.agg (Cod.enc 0 r) : AV), ([] : List Blk)) := by kernel_rfl
noncomputable def s64 : Ab.Spec := fun args h =>
  dN h <| dL args fun v0 a0 => dG v0 fun l0 => dE 0 l0 fun x0 => dN a0 <|
  let r := g64 x0; .val (.agg (Cod.enc 0 r), [])
theorem s64_ok : SpecOk Go.Proofs.Try.prog 64 s64 :=
  q64_ok.less fun args hs r h => by
    unfold s64 at h
    obtain ⟨rfl, hh1⟩ := dN_inv h
    obtain ⟨v0, a0, rfl, hh2⟩ := dL_inv hh1
    obtain ⟨l0, rfl, hh3⟩ := dG_inv hh2
    obtain ⟨x0, rfl, hh4⟩ := dE_inv hh3
    obtain ⟨rfl, hh5⟩ := dN_inv hh4
    rw [g64_run, Tr.ev_get (d := default) (by kernel_rfl)]
    exact hh5
/-- pontage/pontageref10.Priority -/
noncomputable def L74 : SL := []
noncomputable def e74 : Env := ⟨ti, fun g => lookS g L74, 1000000, [], []⟩
def g74T (x0 : S0) : Tr (S0) :=
  .leaf ({ x0 with f36 := x0.f56, f37 := x0.f57, f38 := x0.f58, f39 := x0.f59 })
def g74 (x0 : S0) : S0 := (g74T x0).get default
noncomputable def T74 : TL := []
noncomputable def q74 : Ab.Spec := runQ0 e74 (lookT T74) Go.Proofs.Try.f74
theorem q74_ok : SpecOk Go.Proofs.Try.prog 74 q74 := (runQ0_ok (runR_ok (e := e74) follows (allTI ti_ok _ _ _ _) (callsOk_nil) Go.Proofs.Try.func74 Go.Proofs.Try.call74) (fun c hc => by
  have hb : c = Go.Proofs.Try.f74.body.getD .skip := by rw [hc]; rfl
  subst hb
  exact tab_nil))
theorem g74_run (x0 : S0) : (q74 [.agg (Cod.enc 0 x0)] []).eval = (g74T x0).ev fun r => ((.agg (Cod.enc 0 r) : AV), ([] : List Blk)) := by kernel_rfl
noncomputable def s74 : Ab.Spec := fun args h =>
  dN h <| dL args fun v0 a0 => dG v0 fun l0 => dE 0 l0 fun x0 => dN a0 <|
  let r := g74 x0; .val (.agg (Cod.enc 0 r), [])
theorem s74_ok : SpecOk Go.Proofs.Try.prog 74 s74 :=
  q74_ok.less fun args hs r h => by
    unfold s74 at h
    obtain ⟨rfl, hh1⟩ := dN_inv h
    obtain ⟨v0, a0, rfl, hh2⟩ := dL_inv hh1
    obtain ⟨l0, rfl, hh3⟩ := dG_inv hh2
    obtain ⟨x0, rfl, hh4⟩ := dE_inv hh3
    obtain ⟨rfl, hh5⟩ := dN_inv hh4
    rw [g74_run, Tr.ev_get (d := default) (by kernel_rfl)]
    exact hh5
/-- pontage/pontageref10.Times -/
noncomputable def L73 : SL := []
noncomputable def e73 : Env := ⟨ti, fun g => lookS g L73, 1000000, [], []⟩
def g73T (x0 : S0) : Tr (S0) :=
  .br (x0.f62 == 0) (
   .leaf ({ x0 with f44 := x0.f60, f45 := x0.f61, f46 := 1, f47 := x0.f63 })) (
   .leaf ({ x0 with f44 := x0.f60, f45 := x0.f61, f46 := x0.f62, f47 := x0.f63 }))
def g73 (x0 : S0) : S0 := (g73T x0).get default
noncomputable def T73 : TL := []
noncomputable def q73 : Ab.Spec := runQ0 e73 (lookT T73) Go.Proofs.Try.f73
theorem q73_ok : SpecOk Go.Proofs.Try.prog 73 q73 := (runQ0_ok (runR_ok (e := e73) follows (allTI ti_ok _ _ _ _) (callsOk_nil) Go.Proofs.Try.func73 Go.Proofs.Try.call73) (fun c hc => by
  have hb : c = Go.Proofs.Try.f73.body.getD .skip := by rw [hc]; rfl
  subst hb
  exact tab_nil))
theorem g73_run (x0 : S0) : (q73 [.agg (Cod.enc 0 x0)] []).eval = (g73T x0).ev fun r => ((.agg (Cod.enc 0 r) : AV), ([] : List Blk)) := by kernel_rfl
noncomputable def s73 : Ab.Spec := fun args h =>
  dN h <| dL args fun v0 a0 => dG v0 fun l0 => dE 0 l0 fun x0 => dN a0 <|
  let r := g73 x0; .val (.agg (Cod.enc 0 r), [])
theorem s73_ok : SpecOk Go.Proofs.Try.prog 73 s73 :=
  q73_ok.less fun args hs r h => by
    unfold s73 at h
    obtain ⟨rfl, hh1⟩ := dN_inv h
    obtain ⟨v0, a0, rfl, hh2⟩ := dL_inv hh1
    obtain ⟨l0, rfl, hh3⟩ := dG_inv hh2
    obtain ⟨x0, rfl, hh4⟩ := dE_inv hh3
    obtain ⟨rfl, hh5⟩ := dN_inv hh4
    rw [g73_run, Tr.ev_get (d := default) (by kernel_rfl)]
    exact hh5
/-- pontage/pontageref10.While -/
noncomputable def L63 : SL := []
noncomputable def e63 : Env := ⟨ti, fun g => lookS g L63, 1000000, [], []⟩
def g63T (x0 : S0) : Tr (S0) :=
  .br (decide ((IntKind.i64.wrap ((IntKind.i64.wrap x0.f44) + 1)) ≤ (IntKind.i64.wrap x0.f45))) (
   .br (decide ((IntKind.i64.wrap (3 * (IntKind.i64.wrap x0.f46))) > 255)) (
    .leaf ({ x0 with f69 := 255 })) (
    .leaf ({ x0 with f69 := (IntKind.u8.wrap (IntKind.i64.wrap (3 * (IntKind.i64.wrap x0.f46)))) }))) (
   .leaf ({ x0 with f69 := 0 }))
def g63 (x0 : S0) : S0 := (g63T x0).get default
noncomputable def T63 : TL := []
noncomputable def q63 : Ab.Spec := runQ0 e63 (lookT T63) Go.Proofs.Try.f63
theorem q63_ok : SpecOk Go.Proofs.Try.prog 63 q63 := (runQ0_ok (runR_ok (e := e63) follows (allTI ti_ok _ _ _ _) (callsOk_nil) Go.Proofs.Try.func63 Go.Proofs.Try.call63) (fun c hc => by
  have hb : c = Go.Proofs.Try.f63.body.getD .skip := by rw [hc]; rfl
  subst hb
  exact tab_nil))
theorem g63_run (x0 : S0) : (q63 [.agg (Cod.enc 0 x0)] []).eval = (g63T x0).ev fun r => ((.agg (Cod.enc 0 r) : AV), ([] : List Blk)) := by kernel_rfl
noncomputable def s63 : Ab.Spec := fun args h =>
  dN h <| dL args fun v0 a0 => dG v0 fun l0 => dE 0 l0 fun x0 => dN a0 <|
  let r := g63 x0; .val (.agg (Cod.enc 0 r), [])
theorem s63_ok : SpecOk Go.Proofs.Try.prog 63 s63 :=
  q63_ok.less fun args hs r h => by
    unfold s63 at h
    obtain ⟨rfl, hh1⟩ := dN_inv h
    obtain ⟨v0, a0, rfl, hh2⟩ := dL_inv hh1
    obtain ⟨l0, rfl, hh3⟩ := dG_inv hh2
    obtain ⟨x0, rfl, hh4⟩ := dE_inv hh3
    obtain ⟨rfl, hh5⟩ := dN_inv hh4
    rw [g63_run, Tr.ev_get (d := default) (by kernel_rfl)]
    exact hh5
/-- pontage/pontageref11.superior -/
noncomputable def L62 : SL := [(66, .byVal, s66), (65, .byVal, s65), (60, .byVal, s60), (64, .byVal, s64), (74, .byVal, s74), (73, .byVal, s73), (63, .byVal, s63)]
noncomputable def e62 : Env := ⟨ti, fun g => lookS g L62, 1000000, [], []⟩
def g62T (x0 : S0) : Tr (S0) :=
  let z59 := g66 { x0 with f4 := false, f13 := false }
  let z60 := g65 z59
  let z61 := g60 z60 3
  let z62 := g64 { z60 with f3 := (bif z60.f3 then z61 else false) }
  let z63 := g74 { z62 with f25 := (bif z62.f25 then z62.f4 else false) }
  let z64 := g73 z63
  let z65 := g63 z64
  .leaf ({ z65 with f21 := true, f22 := false, f29 := 3 })
def g62 (x0 : S0) : S0 := (g62T x0).get default
noncomputable def T62 : TL := []
noncomputable def q62 : Ab.Spec := runQ0 e62 (lookT T62) Go.Proofs.Try.f62
theorem q62_ok : SpecOk Go.Proofs.Try.prog 62 q62 := (runQ0_ok (runR_ok (e := e62) follows (allTI ti_ok _ _ _ _) (callsOk_cons s66_ok (callsOk_cons s65_ok (callsOk_cons s60_ok (callsOk_cons s64_ok (callsOk_cons s74_ok (callsOk_cons s73_ok (callsOk_cons s63_ok (callsOk_nil)))))))) Go.Proofs.Try.func62 Go.Proofs.Try.call62) (fun c hc => by
  have hb : c = Go.Proofs.Try.f62.body.getD .skip := by rw [hc]; rfl
  subst hb
  exact tab_nil))
theorem g62_run (x0 : S0) : (q62 [.agg (Cod.enc 0 x0)] []).eval = (g62T x0).ev fun r => ((.agg (Cod.enc 0 r) : AV), ([] : List Blk)) := by kernel_rfl
noncomputable def s62 : Ab.Spec := fun args h =>
  dN h <| dL args fun v0 a0 => dG v0 fun l0 => dE 0 l0 fun x0 => dN a0 <|
  let r := g62 x0; .val (.agg (Cod.enc 0 r), [])
theorem s62_ok : SpecOk Go.Proofs.Try.prog 62 s62 :=
  q62_ok.less fun args hs r h => by
    unfold s62 at h
    obtain ⟨rfl, hh1⟩ := dN_inv h
    obtain ⟨v0, a0, rfl, hh2⟩ := dL_inv hh1
    obtain ⟨l0, rfl, hh3⟩ := dG_inv hh2
    obtain ⟨x0, rfl, hh4⟩ := dE_inv hh3
    obtain ⟨rfl, hh5⟩ := dN_inv hh4
    rw [g62_run, Tr.ev_get (d := default) (by kernel_rfl)]
    exact hh5
/-- pontage/pontageref10.Dispute -/
noncomputable def L67 : SL := []
noncomputable def e67 : Env := ⟨ti, fun g => lookS g L67, 1000000, [], []⟩
def g67T (x0 : S0) : Tr (S0) :=
  .br (bif (x0.f48 == 3) then x0.f52 else false) (
   .leaf ({ x0 with f4 := false, f5 := true })) (
   .leaf (x0))
def g67 (x0 : S0) : S0 := (g67T x0).get default
noncomputable def T67 : TL := []
noncomputable def q67 : Ab.Spec := runQ0 e67 (lookT T67) Go.Proofs.Try.f67
theorem q67_ok : SpecOk Go.Proofs.Try.prog 67 q67 := (runQ0_ok (runR_ok (e := e67) follows (allTI ti_ok _ _ _ _) (callsOk_nil) Go.Proofs.Try.func67 Go.Proofs.Try.call67) (fun c hc => by
  have hb : c = Go.Proofs.Try.f67.body.getD .skip := by rw [hc]; rfl
  subst hb
  exact tab_nil))
theorem g67_run (x0 : S0) : (q67 [.agg (Cod.enc 0 x0)] []).eval = (g67T x0).ev fun r => ((.agg (Cod.enc 0 r) : AV), ([] : List Blk)) := by kernel_rfl
noncomputable def s67 : Ab.Spec := fun args h =>
  dN h <| dL args fun v0 a0 => dG v0 fun l0 => dE 0 l0 fun x0 => dN a0 <|
  let r := g67 x0; .val (.agg (Cod.enc 0 r), [])
theorem s67_ok : SpecOk Go.Proofs.Try.prog 67 s67 :=
  q67_ok.less fun args hs r h => by
    unfold s67 at h
    obtain ⟨rfl, hh1⟩ := dN_inv h
    obtain ⟨v0, a0, rfl, hh2⟩ := dL_inv hh1
    obtain ⟨l0, rfl, hh3⟩ := dG_inv hh2
    obtain ⟨x0, rfl, hh4⟩ := dE_inv hh3
    obtain ⟨rfl, hh5⟩ := dN_inv hh4
    rw [g67_run, Tr.ev_get (d := default) (by kernel_rfl)]
    exact hh5
/-- pontage/pontageref11.receives -/
noncomputable def L45 : SL := [(61, .byVal, s61), (62, .byVal, s62), (66, .byVal, s66), (65, .byVal, s65), (64, .byVal, s64), (63, .byVal, s63), (67, .byVal, s67)]
noncomputable def e45 : Env := ⟨ti, fun g => lookS g L45, 1000000, [], []⟩
def g45T (x0 : S0) : Tr (S0) :=
  let z66 := g61 x0
  .br (z66 == 1) (
   let z67 := g62 x0
   .leaf ({ z67 with f14 := false })) (
   .br (z66 == 2) (
    let z68 := g66 x0
    let z69 := g65 z68
    let z70 := g64 z69
    let z71 := g63 z70
    .leaf ({ z71 with f14 := false })) (
    .br (z66 == 3) (
     let z72 := g67 x0
     .leaf ({ z72 with f14 := false })) (
     .br (z66 == 4) (
      let z73 := g64 x0
      let z74 := g65 z73
      .leaf ({ z74 with f14 := false })) (
      .br (x0.f48 == 2) (
       let z75 := g65 x0
       .leaf ({ z75 with f14 := false })) (
       .leaf ({ x0 with f14 := false }))))))
def g45 (x0 : S0) : S0 := (g45T x0).get default
noncomputable def T45 : TL := []
noncomputable def q45 : Ab.Spec := runQ0 e45 (lookT T45) Go.Proofs.Try.f45
theorem q45_ok : SpecOk Go.Proofs.Try.prog 45 q45 := (runQ0_ok (runR_ok (e := e45) follows (allTI ti_ok _ _ _ _) (callsOk_cons s61_ok (callsOk_cons s62_ok (callsOk_cons s66_ok (callsOk_cons s65_ok (callsOk_cons s64_ok (callsOk_cons s63_ok (callsOk_cons s67_ok (callsOk_nil)))))))) Go.Proofs.Try.func45 Go.Proofs.Try.call45) (fun c hc => by
  have hb : c = Go.Proofs.Try.f45.body.getD .skip := by rw [hc]; rfl
  subst hb
  exact tab_nil))
theorem g45_run (x0 : S0) : (q45 [.agg (Cod.enc 0 x0)] []).eval = (g45T x0).ev fun r => ((.agg (Cod.enc 0 r) : AV), ([] : List Blk)) := by kernel_rfl
noncomputable def s45 : Ab.Spec := fun args h =>
  dN h <| dL args fun v0 a0 => dG v0 fun l0 => dE 0 l0 fun x0 => dN a0 <|
  let r := g45 x0; .val (.agg (Cod.enc 0 r), [])
theorem s45_ok : SpecOk Go.Proofs.Try.prog 45 s45 :=
  q45_ok.less fun args hs r h => by
    unfold s45 at h
    obtain ⟨rfl, hh1⟩ := dN_inv h
    obtain ⟨v0, a0, rfl, hh2⟩ := dL_inv hh1
    obtain ⟨l0, rfl, hh3⟩ := dG_inv hh2
    obtain ⟨x0, rfl, hh4⟩ := dE_inv hh3
    obtain ⟨rfl, hh5⟩ := dN_inv hh4
    rw [g45_run, Tr.ev_get (d := default) (by kernel_rfl)]
    exact hh5
/-- pontage/pontageref11.one -/
noncomputable def L25 : SL := [(42, .byVal, s42), (43, .byVal, s43), (44, .byVal, s44), (45, .byVal, s45)]
noncomputable def e25 : Env := ⟨ti, fun g => lookS g L25, 1000000, [], []⟩
def g25T (x0 : S0) : Tr (S0 × Bool) :=
  .br (bif (!(bif (bif (x0.f72 == 1) then true else (x0.f72 == 2)) then true else (x0.f72 == 3))) then true else (bif (!x0.f2) then (x0.f29 != 0) else false)) (
   let z76 := g42 x0
   .leaf (z76, true)) (
   .br (bif (x0.f72 == 1) then x0.f2 else false) (
    let z77 := g43 x0
    .leaf (z77, true)) (
    .br (bif (x0.f72 == 1) then x0.f14 else false) (
     let z78 := g42 x0
     .leaf (z78, true)) (
     .br (bif (bif (x0.f72 == 2) then x0.f22 else false) then x0.f28 else false) (
      let z79 := g44 x0
      .leaf (z79, true)) (
      .br (x0.f72 != 3) (
       .leaf (x0, false)) (
       .br (bif x0.f14 then (!x0.f28) else false) (
        let z80 := g45 x0
        .leaf (z80, true)) (
        .br (bif x0.f22 then x0.f28 else false) (
         let z81 := g44 x0
         .leaf (z81, true)) (
         .br (bif (bif (bif (x0.f29 == 3) then (x0.f69 == 0) else false) then (!x0.f28) else false) then (!x0.f14) else false) (
          let z82 := g43 x0
          .leaf (z82, true)) (
          .leaf (x0, false)))))))))
def g25 (x0 : S0) : S0 × Bool := (g25T x0).get default
noncomputable def T25 : TL := []
noncomputable def q25 : Ab.Spec := runQ0 e25 (lookT T25) Go.Proofs.Try.f25
theorem q25_ok : SpecOk Go.Proofs.Try.prog 25 q25 := (runQ0_ok (runR_ok (e := e25) follows (allTI ti_ok _ _ _ _) (callsOk_cons s42_ok (callsOk_cons s43_ok (callsOk_cons s44_ok (callsOk_cons s45_ok (callsOk_nil))))) Go.Proofs.Try.func25 Go.Proofs.Try.call25) (fun c hc => by
  have hb : c = Go.Proofs.Try.f25.body.getD .skip := by rw [hc]; rfl
  subst hb
  exact tab_nil))
theorem g25_run (x0 : S0) : (q25 [.agg (Cod.enc 0 x0)] []).eval = (g25T x0).ev fun r => ((.tup [some (true, Cod.enc 0 r.1), some (false, [.bool r.2])] : AV), ([] : List Blk)) := by kernel_rfl
noncomputable def s25 : Ab.Spec := fun args h =>
  dN h <| dL args fun v0 a0 => dG v0 fun l0 => dE 0 l0 fun x0 => dN a0 <|
  let r := g25 x0; .val (.tup [some (true, Cod.enc 0 r.1), some (false, [.bool r.2])], [])
theorem s25_ok : SpecOk Go.Proofs.Try.prog 25 s25 :=
  q25_ok.less fun args hs r h => by
    unfold s25 at h
    obtain ⟨rfl, hh1⟩ := dN_inv h
    obtain ⟨v0, a0, rfl, hh2⟩ := dL_inv hh1
    obtain ⟨l0, rfl, hh3⟩ := dG_inv hh2
    obtain ⟨x0, rfl, hh4⟩ := dE_inv hh3
    obtain ⟨rfl, hh5⟩ := dN_inv hh4
    rw [g25_run, Tr.ev_get (d := default) (by kernel_rfl)]
    exact hh5
/-- pontage/pontageref09.Copy -/
noncomputable def L30 : SL := []
noncomputable def e30 : Env := ⟨ti, fun g => lookS g L30, 1000000, [], []⟩
def g30T (x0 : S7) : Tr (S7) :=
  .br (x0.f16.isEmpty) (
   .leaf ({ x0 with f16 := [] })) (
   .br (Nat.ble (0 + x0.f16.length) 140737488355328 && Nat.ble ((0 + x0.f16.length) * 248) 140737488355328) (
    .leaf (x0)) (
    .fail))
def g30 (x0 : S7) : Option (S7) := (g30T x0).get?
noncomputable def T30 : TL := []
noncomputable def q30 : Ab.Spec := frsR [[none, none, none, none, none, none, none, none, none, none, none, none, none, none, none, none, some 0]] (runQ0 e30 (lookT T30) Go.Proofs.Try.f30)
theorem q30_ok : SpecOk Go.Proofs.Try.prog 30 q30 := (runQ0_ok (runR_ok (e := e30) follows (allTI ti_ok _ _ _ _) (callsOk_nil) Go.Proofs.Try.func30 Go.Proofs.Try.call30) (fun c hc => by
  have hb : c = Go.Proofs.Try.f30.body.getD .skip := by rw [hc]; rfl
  subst hb
  exact tab_nil)).fresh [[none, none, none, none, none, none, none, none, none, none, none, none, none, none, none, none, some 0]]
theorem g30_run (x0 : S7) : (q30 [.agg (Cod.enc 7 x0)] []).eval = (g30T x0).ev fun r => ((.agg ([.int .u64 r.f0, .int .u8 r.f1, .int .u8 r.f2, .int .u8 r.f3, .int .u8 r.f4, .int .u8 r.f5, .bool r.f6, .int .u16 r.f7, .int .u64 r.f8, .int .u32 r.f9, .int .u64 r.f10, .int .u16 r.f11, .int .u8 r.f12, .int .u8 r.f13, .int .u8 r.f14, .int .u8 r.f15, .slw 0]) : AV), ([.row 0 r.f16] : List Blk)) := by kernel_rfl
noncomputable def s30_0 : Ab.Spec := fun args h =>
  dN h <| dL args fun v0 a0 => dG v0 fun l0 => dE 7 l0 fun x0 => dN a0 <|
  .opt (g30 x0) fun r => .val (.agg ([.int .u64 r.f0, .int .u8 r.f1, .int .u8 r.f2, .int .u8 r.f3, .int .u8 r.f4, .int .u8 r.f5, .bool r.f6, .int .u16 r.f7, .int .u64 r.f8, .int .u32 r.f9, .int .u64 r.f10, .int .u16 r.f11, .int .u8 r.f12, .int .u8 r.f13, .int .u8 r.f14, .int .u8 r.f15, .slw 0]), [.row 0 r.f16])
theorem s30_0_ok : SpecOk Go.Proofs.Try.prog 30 s30_0 :=
  q30_ok.less fun args hs r h => by
    unfold s30_0 at h
    obtain ⟨rfl, hh1⟩ := dN_inv h
    obtain ⟨v0, a0, rfl, hh2⟩ := dL_inv hh1
    obtain ⟨l0, rfl, hh3⟩ := dG_inv hh2
    obtain ⟨x0, rfl, hh4⟩ := dE_inv hh3
    obtain ⟨rfl, hh5⟩ := dN_inv hh4
    rw [g30_run, Tr.ev_get?]
    change (Res.opt (g30 x0) _).eval = some r at hh5
    rw [eval_opt] at hh5
    obtain ⟨z, hz, hh6⟩ := Option.bind_eq_some_iff.mp hh5
    unfold g30 at hz
    rw [hz]; exact hh6
noncomputable def s30 : Ab.Spec := fun args h => s30_0 (coeA [[none, none, none, none, none, none, none, none, none, none, none, none, none, none, none, none, some 0]] args) h
theorem s30_ok : SpecOk Go.Proofs.Try.prog 30 s30 := s30_0_ok.pre [[none, none, none, none, none, none, none, none, none, none, none, none, none, none, none, none, some 0]]
/-- pontage/pontageref09.With -/
noncomputable def L15 : SL := [(30, .byNew, s30)]
noncomputable def e15 : Env := ⟨ti, fun g => lookS g L15, 1000000, [], []⟩
def g15T (x0 : S7) (x1 : Int) (x2 : S0) : Tr (S7) :=
  .opt (g30 x0) fun z83 =>
   .br (decide (0 ≤ x1) && decide (x1 < (z83.f16.length : Int))) (
    .opt (z83.f16[(Int.toNat x1)]?) fun y84 =>
     .leaf ({ z83 with f16 := (List.set z83.f16 (Int.toNat x1) x2) })) (
    .fail)
def g15 (x0 : S7) (x1 : Int) (x2 : S0) : Option (S7) := (g15T x0 x1 x2).get?
noncomputable def T15 : TL := []
noncomputable def q15 : Ab.Spec := frzR [[none, none, none, none, none, none, none, none, none, none, none, none, none, none, none, none, some 0]] (runQ0 e15 (lookT T15) Go.Proofs.Try.f15)
theorem q15_ok : SpecOk Go.Proofs.Try.prog 15 q15 := (runQ0_ok (runR_ok (e := e15) follows (allTI ti_ok _ _ _ _) (callsOk_cons s30_ok (callsOk_nil)) Go.Proofs.Try.func15 Go.Proofs.Try.call15) (fun c hc => by
  have hb : c = Go.Proofs.Try.f15.body.getD .skip := by rw [hc]; rfl
  subst hb
  exact tab_nil)).froze [[none, none, none, none, none, none, none, none, none, none, none, none, none, none, none, none, some 0]]
theorem g15_run (x0 : S7) (x1 : Int) (x2 : S0) : (q15 [.agg (Cod.enc 7 x0), .c (.int .i64 x1), .agg (Cod.enc 0 x2)] []).eval = (g15T x0 x1 x2).ev fun r => ((.agg (Cod.enc 7 r) : AV), ([] : List Blk)) := by kernel_rfl
noncomputable def s15_0 : Ab.Spec := fun args h =>
  dN h <| dL args fun v0 a0 => dG v0 fun l0 => dE 7 l0 fun x0 => dL a0 fun v1 a1 => dC v1 fun c0 => dI .i64 c0 fun x1 => dL a1 fun v2 a2 => dG v2 fun l2 => dE 0 l2 fun x2 => dN a2 <|
  .opt (g15 x0 x1 x2) fun r => .val (.agg (Cod.enc 7 r), [])
theorem s15_0_ok : SpecOk Go.Proofs.Try.prog 15 s15_0 :=
  q15_ok.less fun args hs r h => by
    unfold s15_0 at h
    obtain ⟨rfl, hh1⟩ := dN_inv h
    obtain ⟨v0, a0, rfl, hh2⟩ := dL_inv hh1
    obtain ⟨l0, rfl, hh3⟩ := dG_inv hh2
    obtain ⟨x0, rfl, hh4⟩ := dE_inv hh3
    obtain ⟨v1, a1, rfl, hh5⟩ := dL_inv hh4
    obtain ⟨c0, rfl, hh6⟩ := dC_inv hh5
    obtain ⟨x1, rfl, hh7⟩ := dI_inv hh6
    obtain ⟨v2, a2, rfl, hh8⟩ := dL_inv hh7
    obtain ⟨l2, rfl, hh9⟩ := dG_inv hh8
    obtain ⟨x2, rfl, hh10⟩ := dE_inv hh9
    obtain ⟨rfl, hh11⟩ := dN_inv hh10
    rw [g15_run, Tr.ev_get?]
    change (Res.opt (g15 x0 x1 x2) _).eval = some r at hh11
    rw [eval_opt] at hh11
    obtain ⟨z, hz, hh12⟩ := Option.bind_eq_some_iff.mp hh11
    unfold g15 at hz
    rw [hz]; exact hh12
noncomputable def s15 : Ab.Spec := fun args h => s15_0 (coeA [[none, none, none, none, none, none, none, none, none, none, none, none, none, none, none, none, some 0], [], []] args) h
theorem s15_ok : SpecOk Go.Proofs.Try.prog 15 s15 := s15_0_ok.pre [[none, none, none, none, none, none, none, none, none, none, none, none, none, none, none, none, some 0], [], []]
/-- pontage/pontageref11.Step -/
noncomputable def L9 : SL := [(14, .byVal, s14), (25, .byVal, s25), (15, .byNew, s15)]
noncomputable def e9 : Env := ⟨ti, fun g => lookS g L9, 1000000, [], []⟩
def g9T (x0 : S7) (x1 : Int) : Tr (S7 × Bool) :=
  let z85 := g14 x0 x1
  .br (!z85) (
   .leaf (x0, false)) (
   .br (decide (0 ≤ x1)) (
    .opt (x0.f16[Int.toNat x1]?) fun y86 =>
     let z87 := g25 y86
     .br (!z87.2) (
      .leaf (x0, false)) (
      .opt (g15 x0 x1 z87.1) fun z88 =>
       .leaf (z88, true))) (
    .fail))
def g9 (x0 : S7) (x1 : Int) : Option (S7 × Bool) := (g9T x0 x1).get?
noncomputable def T9 : TL := []
noncomputable def q9 : Ab.Spec := frzR [[none, none, none, none, none, none, none, none, none, none, none, none, none, none, none, none, some 0], []] (runQ0 e9 (lookT T9) Go.Proofs.Try.f9)
theorem q9_ok : SpecOk Go.Proofs.Try.prog 9 q9 := (runQ0_ok (runR_ok (e := e9) follows (allTI ti_ok _ _ _ _) (callsOk_cons s14_ok (callsOk_cons s25_ok (callsOk_cons s15_ok (callsOk_nil)))) Go.Proofs.Try.func9 Go.Proofs.Try.call9) (fun c hc => by
  have hb : c = Go.Proofs.Try.f9.body.getD .skip := by rw [hc]; rfl
  subst hb
  exact tab_nil)).froze [[none, none, none, none, none, none, none, none, none, none, none, none, none, none, none, none, some 0], []]
theorem g9_run (x0 : S7) (x1 : Int) : (q9 [.agg (Cod.enc 7 x0), .c (.int .i64 x1)] []).eval = (g9T x0 x1).ev fun r => ((.tup [some (true, Cod.enc 7 r.1), some (false, [.bool r.2])] : AV), ([] : List Blk)) := by kernel_rfl
noncomputable def s9_0 : Ab.Spec := fun args h =>
  dN h <| dL args fun v0 a0 => dG v0 fun l0 => dE 7 l0 fun x0 => dL a0 fun v1 a1 => dC v1 fun c0 => dI .i64 c0 fun x1 => dN a1 <|
  .opt (g9 x0 x1) fun r => .val (.tup [some (true, Cod.enc 7 r.1), some (false, [.bool r.2])], [])
theorem s9_0_ok : SpecOk Go.Proofs.Try.prog 9 s9_0 :=
  q9_ok.less fun args hs r h => by
    unfold s9_0 at h
    obtain ⟨rfl, hh1⟩ := dN_inv h
    obtain ⟨v0, a0, rfl, hh2⟩ := dL_inv hh1
    obtain ⟨l0, rfl, hh3⟩ := dG_inv hh2
    obtain ⟨x0, rfl, hh4⟩ := dE_inv hh3
    obtain ⟨v1, a1, rfl, hh5⟩ := dL_inv hh4
    obtain ⟨c0, rfl, hh6⟩ := dC_inv hh5
    obtain ⟨x1, rfl, hh7⟩ := dI_inv hh6
    obtain ⟨rfl, hh8⟩ := dN_inv hh7
    rw [g9_run, Tr.ev_get?]
    change (Res.opt (g9 x0 x1) _).eval = some r at hh8
    rw [eval_opt] at hh8
    obtain ⟨z, hz, hh9⟩ := Option.bind_eq_some_iff.mp hh8
    unfold g9 at hz
    rw [hz]; exact hh9
noncomputable def s9 : Ab.Spec := fun args h => s9_0 (coeA [[none, none, none, none, none, none, none, none, none, none, none, none, none, none, none, none, some 0], []] args) h
theorem s9_ok : SpecOk Go.Proofs.Try.prog 9 s9 := s9_0_ok.pre [[none, none, none, none, none, none, none, none, none, none, none, none, none, none, none, none, some 0], []]
/-- pontage/pontageref09.Same -/
noncomputable def L10 : SL := []
noncomputable def e10 : Env := ⟨ti, fun g => lookS g L10, 1000000, [.drop 0, .drop 1, .drop 6, .drop 7, .drop 8, .drop 9, .drop 10, .drop 11, .drop 12, .drop 13, .drop 14, .drop 15, .drop 16, .drop 17, .drop 18, .drop 19, .drop 20, .drop 21, .drop 22, .drop 23, .drop 24, .drop 25, .drop 26, .drop 27, .drop 28, .drop 29, .drop 30, .drop 31, .drop 32, .drop 33, .drop 34, .drop 35, .drop 36, .drop 37, .drop 38, .drop 39, .drop 40, .drop 41, .drop 42, .drop 43, .drop 44, .drop 45, .drop 46, .drop 47, .drop 48, .drop 49, .drop 50, .drop 51, .drop 52, .drop 53, .drop 54, .drop 55, .drop 56, .drop 57, .drop 58, .drop 59, .drop 60, .drop 61], []⟩
structure W10_0 where
  a0 : Bool
  a1 : Int
  a2 : Int
  a3 : Int
  a4 : Int
  a5 : Int
  a6 : Int
  a7 : Int
  a8 : Bool
  a9 : Int
  a10 : Int
  a11 : Int
  a12 : Int
  a13 : Int
  a14 : Int
  a15 : Int
  a16 : Int
  a17 : Int
  a18 : List S0
  a19 : Int
  a20 : Int
  a21 : Int
  a22 : Int
  a23 : Int
  a24 : Int
  a25 : Bool
  a26 : Int
  a27 : Int
  a28 : Int
  a29 : Int
  a30 : Int
  a31 : Int
  a32 : Int
  a33 : Int
  a34 : Int
  a35 : List S0
def hd10_0 (v : W10_0) : St := ⟨[.top, .top, .c (.ptr 0 0), .c (.ptr 1 0), .c (.bool v.a0), .c (.int .i64 v.a1), .top, .top, .top, .top, .top, .top, .top, .top, .top, .top, .top, .top, .top, .top, .top, .top, .top, .top, .top, .top, .top, .top, .top, .top, .top, .top, .top, .top, .top, .top, .top, .top, .top, .top, .top, .top, .top, .top, .top, .top, .top, .top, .top, .top, .top, .top, .top, .top, .top, .top, .top, .top, .top, .top, .top, .top, .top, .top, .top, .top, .top, .top, .top, .top, .top, .top, .top, .top, .top, .top, .top, .top, .top, .top], [.cells [.int .u64 v.a2, .int .u8 v.a3, .int .u8 v.a4, .int .u8 v.a5, .int .u8 v.a6, .int .u8 v.a7, .bool v.a8, .int .u16 v.a9, .int .u64 v.a10, .int .u32 v.a11, .int .u64 v.a12, .int .u16 v.a13, .int .u8 v.a14, .int .u8 v.a15, .int .u8 v.a16, .int .u8 v.a17, .rs 0 v.a18], .cells [.int .u64 v.a19, .int .u8 v.a20, .int .u8 v.a21, .int .u8 v.a22, .int .u8 v.a23, .int .u8 v.a24, .bool v.a25, .int .u16 v.a26, .int .u64 v.a27, .int .u32 v.a28, .int .u64 v.a29, .int .u16 v.a30, .int .u8 v.a31, .int .u8 v.a32, .int .u8 v.a33, .int .u8 v.a34, .rs 0 v.a35]]⟩
def gR10_0 (v : W10_0) : Tr (W10_0 ⊕ (Bool × W10_0)) :=
  .br (decide (v.a1 < (v.a18.length : Int))) (
   .br (decide (0 ≤ v.a1)) (
    .opt (v.a18[Int.toNat v.a1]?) fun y89 =>
     .br (decide (0 ≤ v.a1)) (
      .opt (v.a35[Int.toNat v.a1]?) fun y90 =>
       .br (!(eqS0 y89 y90)) (
        .leaf (.inr (true, { v with a0 := false }))) (
        .leaf (.inl ({ v with a1 := (IntKind.i64.wrap (v.a1 + 1)) })))) (
      .fail)) (
    .fail)) (
   .leaf (.inr (false, v)))
noncomputable def lb10_0 : Code := match findB 0 (Go.Proofs.Try.f10.body.getD .skip) with | [.loop b] => b | _ => .skip
def pa10_0 : List PA := [.any, .any, .c (.ptr 0 0), .c (.ptr 1 0), .c (.bool), .c (.int .i64), .any, .any, .any, .any, .any, .any, .any, .any, .any, .any, .any, .any, .any, .any, .any, .any, .any, .any, .any, .any, .any, .any, .any, .any, .any, .any, .any, .any, .any, .any, .any, .any, .any, .any, .any, .any, .any, .any, .any, .any, .any, .any, .any, .any, .any, .any, .any, .any, .any, .any, .any, .any, .any, .any, .any, .any, .top, .top, .top, .top, .top, .top, .top, .top, .top, .top, .top, .top, .top, .top, .top, .top, .top, .top]
def pb10_0 : List PB := [.cells [.int .u64, .int .u8, .int .u8, .int .u8, .int .u8, .int .u8, .bool, .int .u16, .int .u64, .int .u32, .int .u64, .int .u16, .int .u8, .int .u8, .int .u8, .int .u8, .rs 0], .cells [.int .u64, .int .u8, .int .u8, .int .u8, .int .u8, .int .u8, .bool, .int .u16, .int .u64, .int .u32, .int .u64, .int .u16, .int .u8, .int .u8, .int .u8, .int .u8, .rs 0]]
def ini10_0 (s : St) : W10_0 := ⟨bC (aC (s.tmps.getD 4 .top)), iC (aC (s.tmps.getD 5 .top)), iC ((bL (s.heap.getD 0 .dead)).getD 0 .top), iC ((bL (s.heap.getD 0 .dead)).getD 1 .top), iC ((bL (s.heap.getD 0 .dead)).getD 2 .top), iC ((bL (s.heap.getD 0 .dead)).getD 3 .top), iC ((bL (s.heap.getD 0 .dead)).getD 4 .top), iC ((bL (s.heap.getD 0 .dead)).getD 5 .top), bC ((bL (s.heap.getD 0 .dead)).getD 6 .top), iC ((bL (s.heap.getD 0 .dead)).getD 7 .top), iC ((bL (s.heap.getD 0 .dead)).getD 8 .top), iC ((bL (s.heap.getD 0 .dead)).getD 9 .top), iC ((bL (s.heap.getD 0 .dead)).getD 10 .top), iC ((bL (s.heap.getD 0 .dead)).getD 11 .top), iC ((bL (s.heap.getD 0 .dead)).getD 12 .top), iC ((bL (s.heap.getD 0 .dead)).getD 13 .top), iC ((bL (s.heap.getD 0 .dead)).getD 14 .top), iC ((bL (s.heap.getD 0 .dead)).getD 15 .top), rC 0 ((bL (s.heap.getD 0 .dead)).getD 16 .top), iC ((bL (s.heap.getD 1 .dead)).getD 0 .top), iC ((bL (s.heap.getD 1 .dead)).getD 1 .top), iC ((bL (s.heap.getD 1 .dead)).getD 2 .top), iC ((bL (s.heap.getD 1 .dead)).getD 3 .top), iC ((bL (s.heap.getD 1 .dead)).getD 4 .top), iC ((bL (s.heap.getD 1 .dead)).getD 5 .top), bC ((bL (s.heap.getD 1 .dead)).getD 6 .top), iC ((bL (s.heap.getD 1 .dead)).getD 7 .top), iC ((bL (s.heap.getD 1 .dead)).getD 8 .top), iC ((bL (s.heap.getD 1 .dead)).getD 9 .top), iC ((bL (s.heap.getD 1 .dead)).getD 10 .top), iC ((bL (s.heap.getD 1 .dead)).getD 11 .top), iC ((bL (s.heap.getD 1 .dead)).getD 12 .top), iC ((bL (s.heap.getD 1 .dead)).getD 13 .top), iC ((bL (s.heap.getD 1 .dead)).getD 14 .top), iC ((bL (s.heap.getD 1 .dead)).getD 15 .top), rC 0 ((bL (s.heap.getD 1 .dead)).getD 16 .top)⟩
noncomputable def F10_0 : St → Res (Ex × St) := loopF pa10_0 pb10_0 1000000 hd10_0 gR10_0 ini10_0 true
theorem F10_0_ok (s : St) (r : Ex × St) (h : (F10_0 s).eval = some r) : (codeR e10 0 (.block 0 (.loop lb10_0)) s).eval = some r :=
  blk_ok (e := e10) (T := lookT []) (fun s v => by kernel_rfl) (fun s => by kernel_rfl) (tab_nil) s r h
def g10T (x0 : S7) (x1 : S7) : Tr (Bool) :=
  .br (bif (bif (bif (bif (bif (bif (bif (x0.f0 != x1.f0) then true else (!(eqS5 (S5.mk x0.f1 x0.f2 x0.f3 x0.f4) (S5.mk x1.f1 x1.f2 x1.f3 x1.f4)))) then true else (x0.f5 != x1.f5)) then true else (!(x0.f6 == x1.f6))) then true else (x0.f7 != x1.f7)) then true else (!(eqS6 (S6.mk x0.f8 x0.f9 x0.f10 x0.f11) (S6.mk x1.f8 x1.f9 x1.f10 x1.f11)))) then true else (!(eqS5 (S5.mk x0.f12 x0.f13 x0.f14 x0.f15) (S5.mk x1.f12 x1.f13 x1.f14 x1.f15)))) then true else ((x0.f16.length : Int) != (x1.f16.length : Int))) (
   .leaf (false)) (
   .opt (iter gR10_0 1000000 (W10_0.mk (false) (0) (x0.f0) (x0.f1) (x0.f2) (x0.f3) (x0.f4) (x0.f5) (x0.f6) (x0.f7) (x0.f8) (x0.f9) (x0.f10) (x0.f11) (x0.f12) (x0.f13) (x0.f14) (x0.f15) (x0.f16) (x1.f0) (x1.f1) (x1.f2) (x1.f3) (x1.f4) (x1.f5) (x1.f6) (x1.f7) (x1.f8) (x1.f9) (x1.f10) (x1.f11) (x1.f12) (x1.f13) (x1.f14) (x1.f15) (x1.f16))) fun r91 =>
    .br r91.1 (
     .leaf (r91.2.a0)) (
     .leaf (true)))
def g10 (x0 : S7) (x1 : S7) : Option (Bool) := (g10T x0 x1).get?
noncomputable def T10 : TL := [(0, F10_0)]
noncomputable def q10 : Ab.Spec := runQ0 e10 (lookT T10) Go.Proofs.Try.f10
theorem q10_ok : SpecOk Go.Proofs.Try.prog 10 q10 := (runQ0_ok (runR_ok (e := e10) follows (allTI ti_ok _ _ _ _) (callsOk_nil) Go.Proofs.Try.func10 Go.Proofs.Try.call10) (fun c hc => by
  have hb : c = Go.Proofs.Try.f10.body.getD .skip := by rw [hc]; rfl
  subst hb
  exact tab_cons (by kernel_rfl) F10_0_ok (tab_nil)))
theorem g10_run (x0 : S7) (x1 : S7) : (q10 [.agg (Cod.enc 7 x0), .agg (Cod.enc 7 x1)] []).eval = (g10T x0 x1).ev fun r => ((.c (.bool r) : AV), ([] : List Blk)) := by kernel_rfl
noncomputable def s10_0 : Ab.Spec := fun args h =>
  dN h <| dL args fun v0 a0 => dG v0 fun l0 => dE 7 l0 fun x0 => dL a0 fun v1 a1 => dG v1 fun l1 => dE 7 l1 fun x1 => dN a1 <|
  .opt (g10 x0 x1) fun r => .val (.c (.bool r), [])
theorem s10_0_ok : SpecOk Go.Proofs.Try.prog 10 s10_0 :=
  q10_ok.less fun args hs r h => by
    unfold s10_0 at h
    obtain ⟨rfl, hh1⟩ := dN_inv h
    obtain ⟨v0, a0, rfl, hh2⟩ := dL_inv hh1
    obtain ⟨l0, rfl, hh3⟩ := dG_inv hh2
    obtain ⟨x0, rfl, hh4⟩ := dE_inv hh3
    obtain ⟨v1, a1, rfl, hh5⟩ := dL_inv hh4
    obtain ⟨l1, rfl, hh6⟩ := dG_inv hh5
    obtain ⟨x1, rfl, hh7⟩ := dE_inv hh6
    obtain ⟨rfl, hh8⟩ := dN_inv hh7
    rw [g10_run, Tr.ev_get?]
    change (Res.opt (g10 x0 x1) _).eval = some r at hh8
    rw [eval_opt] at hh8
    obtain ⟨z, hz, hh9⟩ := Option.bind_eq_some_iff.mp hh8
    unfold g10 at hz
    rw [hz]; exact hh9
noncomputable def s10 : Ab.Spec := fun args h => s10_0 (coeA [[none, none, none, none, none, none, none, none, none, none, none, none, none, none, none, none, some 0], [none, none, none, none, none, none, none, none, none, none, none, none, none, none, none, none, some 0]] args) h
theorem s10_ok : SpecOk Go.Proofs.Try.prog 10 s10 := s10_0_ok.pre [[none, none, none, none, none, none, none, none, none, none, none, none, none, none, none, none, some 0], [none, none, none, none, none, none, none, none, none, none, none, none, none, none, none, none, some 0]]
/-- pontage/heard.Take -/
noncomputable def L26 : SL := []
noncomputable def e26 : Env := ⟨ti, fun g => lookS g L26, 1000000, [], []⟩
def g26T (x0 : S0) (x1 : S8) : Tr (S0) :=
  .br (!x0.f2) (
   .leaf (x0)) (
   .br (x1.f0 == 3) (
    .leaf ({ x0 with f14 := true, f15 := true, f48 := x1.f0, f49 := x1.f1, f50 := x1.f2, f51 := x1.f3, f52 := x1.f4, f53 := x1.f5, f54 := x1.f6, f55 := x1.f7, f56 := x1.f8, f57 := x1.f9, f58 := x1.f10, f59 := x1.f11, f60 := x1.f12, f61 := x1.f13, f62 := x1.f14, f63 := x1.f15 })) (
    .br (x1.f0 == 1) (
     .leaf ({ x0 with f14 := true, f16 := true, f48 := x1.f0, f49 := x1.f1, f50 := x1.f2, f51 := x1.f3, f52 := x1.f4, f53 := x1.f5, f54 := x1.f6, f55 := x1.f7, f56 := x1.f8, f57 := x1.f9, f58 := x1.f10, f59 := x1.f11, f60 := x1.f12, f61 := x1.f13, f62 := x1.f14, f63 := x1.f15 })) (
     .br (x1.f0 == 2) (
      .leaf ({ x0 with f14 := true, f16 := true, f48 := x1.f0, f49 := x1.f1, f50 := x1.f2, f51 := x1.f3, f52 := x1.f4, f53 := x1.f5, f54 := x1.f6, f55 := x1.f7, f56 := x1.f8, f57 := x1.f9, f58 := x1.f10, f59 := x1.f11, f60 := x1.f12, f61 := x1.f13, f62 := x1.f14, f63 := x1.f15 })) (
      .leaf (x0)))))
def g26 (x0 : S0) (x1 : S8) : S0 := (g26T x0 x1).get default
noncomputable def T26 : TL := []
noncomputable def q26 : Ab.Spec := runQ0 e26 (lookT T26) Go.Proofs.Try.f26
theorem q26_ok : SpecOk Go.Proofs.Try.prog 26 q26 := (runQ0_ok (runR_ok (e := e26) follows (allTI ti_ok _ _ _ _) (callsOk_nil) Go.Proofs.Try.func26 Go.Proofs.Try.call26) (fun c hc => by
  have hb : c = Go.Proofs.Try.f26.body.getD .skip := by rw [hc]; rfl
  subst hb
  exact tab_nil))
theorem g26_run (x0 : S0) (x1 : S8) : (q26 [.agg (Cod.enc 0 x0), .agg (Cod.enc 8 x1)] []).eval = (g26T x0 x1).ev fun r => ((.agg (Cod.enc 0 r) : AV), ([] : List Blk)) := by kernel_rfl
noncomputable def s26 : Ab.Spec := fun args h =>
  dN h <| dL args fun v0 a0 => dG v0 fun l0 => dE 0 l0 fun x0 => dL a0 fun v1 a1 => dG v1 fun l1 => dE 8 l1 fun x1 => dN a1 <|
  let r := g26 x0 x1; .val (.agg (Cod.enc 0 r), [])
theorem s26_ok : SpecOk Go.Proofs.Try.prog 26 s26 :=
  q26_ok.less fun args hs r h => by
    unfold s26 at h
    obtain ⟨rfl, hh1⟩ := dN_inv h
    obtain ⟨v0, a0, rfl, hh2⟩ := dL_inv hh1
    obtain ⟨l0, rfl, hh3⟩ := dG_inv hh2
    obtain ⟨x0, rfl, hh4⟩ := dE_inv hh3
    obtain ⟨v1, a1, rfl, hh5⟩ := dL_inv hh4
    obtain ⟨l1, rfl, hh6⟩ := dG_inv hh5
    obtain ⟨x1, rfl, hh7⟩ := dE_inv hh6
    obtain ⟨rfl, hh8⟩ := dN_inv hh7
    rw [g26_run, Tr.ev_get (d := default) (by kernel_rfl)]
    exact hh8
/-- pontage/pim.Hear -/
noncomputable def L11 : SL := [(18, .byVal, s18), (26, .byVal, s26), (24, .byNew, s24)]
noncomputable def e11 : Env := ⟨ti, fun g => lookS g L11, 1000000, [], []⟩
def g11T (x0 : S7) (x1 : Int) (x2 : S8) : Tr (S7) :=
  let z92 := g18 x0 x1
  .br (!z92) (
   .leaf (x0)) (
   .br (decide (0 ≤ x1)) (
    .opt (x0.f16[Int.toNat x1]?) fun y93 =>
     let z94 := g26 y93 x2
     .opt (g24 x0 x1 z94) fun z95 =>
      .leaf (z95)) (
    .fail))
def g11 (x0 : S7) (x1 : Int) (x2 : S8) : Option (S7) := (g11T x0 x1 x2).get?
noncomputable def T11 : TL := []
noncomputable def q11 : Ab.Spec := frzR [[none, none, none, none, none, none, none, none, none, none, none, none, none, none, none, none, some 0]] (runQ0 e11 (lookT T11) Go.Proofs.Try.f11)
theorem q11_ok : SpecOk Go.Proofs.Try.prog 11 q11 := (runQ0_ok (runR_ok (e := e11) follows (allTI ti_ok _ _ _ _) (callsOk_cons s18_ok (callsOk_cons s26_ok (callsOk_cons s24_ok (callsOk_nil)))) Go.Proofs.Try.func11 Go.Proofs.Try.call11) (fun c hc => by
  have hb : c = Go.Proofs.Try.f11.body.getD .skip := by rw [hc]; rfl
  subst hb
  exact tab_nil)).froze [[none, none, none, none, none, none, none, none, none, none, none, none, none, none, none, none, some 0]]
theorem g11_run (x0 : S7) (x1 : Int) (x2 : S8) : (q11 [.agg (Cod.enc 7 x0), .c (.int .i64 x1), .agg (Cod.enc 8 x2)] []).eval = (g11T x0 x1 x2).ev fun r => ((.agg (Cod.enc 7 r) : AV), ([] : List Blk)) := by kernel_rfl
noncomputable def s11_0 : Ab.Spec := fun args h =>
  dN h <| dL args fun v0 a0 => dG v0 fun l0 => dE 7 l0 fun x0 => dL a0 fun v1 a1 => dC v1 fun c0 => dI .i64 c0 fun x1 => dL a1 fun v2 a2 => dG v2 fun l2 => dE 8 l2 fun x2 => dN a2 <|
  .opt (g11 x0 x1 x2) fun r => .val (.agg (Cod.enc 7 r), [])
theorem s11_0_ok : SpecOk Go.Proofs.Try.prog 11 s11_0 :=
  q11_ok.less fun args hs r h => by
    unfold s11_0 at h
    obtain ⟨rfl, hh1⟩ := dN_inv h
    obtain ⟨v0, a0, rfl, hh2⟩ := dL_inv hh1
    obtain ⟨l0, rfl, hh3⟩ := dG_inv hh2
    obtain ⟨x0, rfl, hh4⟩ := dE_inv hh3
    obtain ⟨v1, a1, rfl, hh5⟩ := dL_inv hh4
    obtain ⟨c0, rfl, hh6⟩ := dC_inv hh5
    obtain ⟨x1, rfl, hh7⟩ := dI_inv hh6
    obtain ⟨v2, a2, rfl, hh8⟩ := dL_inv hh7
    obtain ⟨l2, rfl, hh9⟩ := dG_inv hh8
    obtain ⟨x2, rfl, hh10⟩ := dE_inv hh9
    obtain ⟨rfl, hh11⟩ := dN_inv hh10
    rw [g11_run, Tr.ev_get?]
    change (Res.opt (g11 x0 x1 x2) _).eval = some r at hh11
    rw [eval_opt] at hh11
    obtain ⟨z, hz, hh12⟩ := Option.bind_eq_some_iff.mp hh11
    unfold g11 at hz
    rw [hz]; exact hh12
noncomputable def s11 : Ab.Spec := fun args h => s11_0 (coeA [[none, none, none, none, none, none, none, none, none, none, none, none, none, none, none, none, some 0], [], []] args) h
theorem s11_ok : SpecOk Go.Proofs.Try.prog 11 s11 := s11_0_ok.pre [[none, none, none, none, none, none, none, none, none, none, none, none, none, none, none, none, some 0], [], []]
/-- pontage/pontageref10.Take -/
noncomputable def L27 : SL := []
noncomputable def e27 : Env := ⟨ti, fun g => lookS g L27, 1000000, [], []⟩
def g27T (x0 : S0) (x1 : S8) : Tr (S0) :=
  .br (bif (!x0.f2) then true else (bif (bif (x1.f0 != 3) then (x1.f0 != 1) else false) then (x1.f0 != 2) else false)) (
   .leaf (x0)) (
   .br (x1.f0 == 3) (
    .leaf ({ x0 with f14 := true, f15 := true, f48 := x1.f0, f49 := x1.f1, f50 := x1.f2, f51 := x1.f3, f52 := x1.f4, f53 := x1.f5, f54 := x1.f6, f55 := x1.f7, f56 := x1.f8, f57 := x1.f9, f58 := x1.f10, f59 := x1.f11, f60 := x1.f12, f61 := x1.f13, f62 := x1.f14, f63 := x1.f15 })) (
    .leaf ({ x0 with f14 := true, f16 := true, f48 := x1.f0, f49 := x1.f1, f50 := x1.f2, f51 := x1.f3, f52 := x1.f4, f53 := x1.f5, f54 := x1.f6, f55 := x1.f7, f56 := x1.f8, f57 := x1.f9, f58 := x1.f10, f59 := x1.f11, f60 := x1.f12, f61 := x1.f13, f62 := x1.f14, f63 := x1.f15 })))
def g27 (x0 : S0) (x1 : S8) : S0 := (g27T x0 x1).get default
noncomputable def T27 : TL := []
noncomputable def q27 : Ab.Spec := runQ0 e27 (lookT T27) Go.Proofs.Try.f27
theorem q27_ok : SpecOk Go.Proofs.Try.prog 27 q27 := (runQ0_ok (runR_ok (e := e27) follows (allTI ti_ok _ _ _ _) (callsOk_nil) Go.Proofs.Try.func27 Go.Proofs.Try.call27) (fun c hc => by
  have hb : c = Go.Proofs.Try.f27.body.getD .skip := by rw [hc]; rfl
  subst hb
  exact tab_nil))
theorem g27_run (x0 : S0) (x1 : S8) : (q27 [.agg (Cod.enc 0 x0), .agg (Cod.enc 8 x1)] []).eval = (g27T x0 x1).ev fun r => ((.agg (Cod.enc 0 r) : AV), ([] : List Blk)) := by kernel_rfl
noncomputable def s27 : Ab.Spec := fun args h =>
  dN h <| dL args fun v0 a0 => dG v0 fun l0 => dE 0 l0 fun x0 => dL a0 fun v1 a1 => dG v1 fun l1 => dE 8 l1 fun x1 => dN a1 <|
  let r := g27 x0 x1; .val (.agg (Cod.enc 0 r), [])
theorem s27_ok : SpecOk Go.Proofs.Try.prog 27 s27 :=
  q27_ok.less fun args hs r h => by
    unfold s27 at h
    obtain ⟨rfl, hh1⟩ := dN_inv h
    obtain ⟨v0, a0, rfl, hh2⟩ := dL_inv hh1
    obtain ⟨l0, rfl, hh3⟩ := dG_inv hh2
    obtain ⟨x0, rfl, hh4⟩ := dE_inv hh3
    obtain ⟨v1, a1, rfl, hh5⟩ := dL_inv hh4
    obtain ⟨l1, rfl, hh6⟩ := dG_inv hh5
    obtain ⟨x1, rfl, hh7⟩ := dE_inv hh6
    obtain ⟨rfl, hh8⟩ := dN_inv hh7
    rw [g27_run, Tr.ev_get (d := default) (by kernel_rfl)]
    exact hh8
/-- pontage/pontageref11.Hear -/
noncomputable def L12 : SL := [(14, .byVal, s14), (27, .byVal, s27), (15, .byNew, s15)]
noncomputable def e12 : Env := ⟨ti, fun g => lookS g L12, 1000000, [], []⟩
def g12T (x0 : S7) (x1 : Int) (x2 : S8) : Tr (S7) :=
  let z96 := g14 x0 x1
  .br (!z96) (
   .leaf (x0)) (
   .br (decide (0 ≤ x1)) (
    .opt (x0.f16[Int.toNat x1]?) fun y97 =>
     let z98 := g27 y97 x2
     .opt (g15 x0 x1 z98) fun z99 =>
      .leaf (z99)) (
    .fail))
def g12 (x0 : S7) (x1 : Int) (x2 : S8) : Option (S7) := (g12T x0 x1 x2).get?
noncomputable def T12 : TL := []
noncomputable def q12 : Ab.Spec := frzR [[none, none, none, none, none, none, none, none, none, none, none, none, none, none, none, none, some 0]] (runQ0 e12 (lookT T12) Go.Proofs.Try.f12)
theorem q12_ok : SpecOk Go.Proofs.Try.prog 12 q12 := (runQ0_ok (runR_ok (e := e12) follows (allTI ti_ok _ _ _ _) (callsOk_cons s14_ok (callsOk_cons s27_ok (callsOk_cons s15_ok (callsOk_nil)))) Go.Proofs.Try.func12 Go.Proofs.Try.call12) (fun c hc => by
  have hb : c = Go.Proofs.Try.f12.body.getD .skip := by rw [hc]; rfl
  subst hb
  exact tab_nil)).froze [[none, none, none, none, none, none, none, none, none, none, none, none, none, none, none, none, some 0]]
theorem g12_run (x0 : S7) (x1 : Int) (x2 : S8) : (q12 [.agg (Cod.enc 7 x0), .c (.int .i64 x1), .agg (Cod.enc 8 x2)] []).eval = (g12T x0 x1 x2).ev fun r => ((.agg (Cod.enc 7 r) : AV), ([] : List Blk)) := by kernel_rfl
noncomputable def s12_0 : Ab.Spec := fun args h =>
  dN h <| dL args fun v0 a0 => dG v0 fun l0 => dE 7 l0 fun x0 => dL a0 fun v1 a1 => dC v1 fun c0 => dI .i64 c0 fun x1 => dL a1 fun v2 a2 => dG v2 fun l2 => dE 8 l2 fun x2 => dN a2 <|
  .opt (g12 x0 x1 x2) fun r => .val (.agg (Cod.enc 7 r), [])
theorem s12_0_ok : SpecOk Go.Proofs.Try.prog 12 s12_0 :=
  q12_ok.less fun args hs r h => by
    unfold s12_0 at h
    obtain ⟨rfl, hh1⟩ := dN_inv h
    obtain ⟨v0, a0, rfl, hh2⟩ := dL_inv hh1
    obtain ⟨l0, rfl, hh3⟩ := dG_inv hh2
    obtain ⟨x0, rfl, hh4⟩ := dE_inv hh3
    obtain ⟨v1, a1, rfl, hh5⟩ := dL_inv hh4
    obtain ⟨c0, rfl, hh6⟩ := dC_inv hh5
    obtain ⟨x1, rfl, hh7⟩ := dI_inv hh6
    obtain ⟨v2, a2, rfl, hh8⟩ := dL_inv hh7
    obtain ⟨l2, rfl, hh9⟩ := dG_inv hh8
    obtain ⟨x2, rfl, hh10⟩ := dE_inv hh9
    obtain ⟨rfl, hh11⟩ := dN_inv hh10
    rw [g12_run, Tr.ev_get?]
    change (Res.opt (g12 x0 x1 x2) _).eval = some r at hh11
    rw [eval_opt] at hh11
    obtain ⟨z, hz, hh12⟩ := Option.bind_eq_some_iff.mp hh11
    unfold g12 at hz
    rw [hz]; exact hh12
noncomputable def s12 : Ab.Spec := fun args h => s12_0 (coeA [[none, none, none, none, none, none, none, none, none, none, none, none, none, none, none, none, some 0], [], []] args) h
theorem s12_ok : SpecOk Go.Proofs.Try.prog 12 s12 := s12_0_ok.pre [[none, none, none, none, none, none, none, none, none, none, none, none, none, none, none, none, some 0], [], []]
/-- pontage/pontagelaw09.Conf -/
noncomputable def L29 : SL := []
noncomputable def e29 : Env := ⟨ti, fun g => lookS g L29, 1000000, [], []⟩
def g29T  : Tr (S9) :=
  .leaf ((S9.mk 9223372036854775813 0 20 2 15 6 [(S1.mk 20000), (S1.mk 20000)]))
def g29  : S9 := (g29T ).get default
noncomputable def T29 : TL := []
noncomputable def q29 : Ab.Spec := frzR [[none, none, none, none, none, none, some 1]] (runQ0 e29 (lookT T29) Go.Proofs.Try.f29)
theorem q29_ok : SpecOk Go.Proofs.Try.prog 29 q29 := (runQ0_ok (runR_ok (e := e29) follows (allTI ti_ok _ _ _ _) (callsOk_nil) Go.Proofs.Try.func29 Go.Proofs.Try.call29) (fun c hc => by
  have hb : c = Go.Proofs.Try.f29.body.getD .skip := by rw [hc]; rfl
  subst hb
  exact tab_nil)).froze [[none, none, none, none, none, none, some 1]]
theorem g29_run  : (q29 [] []).eval = (g29T ).ev fun r => ((.agg (Cod.enc 9 r) : AV), ([] : List Blk)) := by kernel_rfl
noncomputable def s29 : Ab.Spec := fun args h =>
  dN h <| dN args <|
  let r := g29; .val (.agg (Cod.enc 9 r), [])
theorem s29_ok : SpecOk Go.Proofs.Try.prog 29 s29 :=
  q29_ok.less fun args hs r h => by
    unfold s29 at h
    obtain ⟨rfl, hh1⟩ := dN_inv h
    obtain ⟨rfl, hh2⟩ := dN_inv hh1
    rw [g29_run, Tr.ev_get (d := default) (by kernel_rfl)]
    exact hh2
/-- pontage/pontageref06.CheckT -/
noncomputable def L68 : SL := []
noncomputable def e68 : Env := ⟨ti, fun g => lookS g L68, 1000000, [], []⟩
def g68T (x0 : S5) : Tr (Int) :=
  .br (bif (bif (bif (bif (bif (bif (bif (decide ((IntKind.i64.wrap x0.f1) < 6)) then true else (decide ((IntKind.i64.wrap x0.f1) > 40))) then true else (decide ((IntKind.i64.wrap x0.f2) < 1))) then true else (decide ((IntKind.i64.wrap x0.f2) > 2))) then true else (decide ((IntKind.i64.wrap x0.f3) < 4))) then true else (decide ((IntKind.i64.wrap x0.f3) > 30))) then true else (decide ((IntKind.i64.wrap (2 * (IntKind.i64.wrap ((IntKind.i64.wrap x0.f3) - 1)))) < (IntKind.i64.wrap x0.f1)))) then true else (decide ((IntKind.i64.wrap x0.f1) < (IntKind.i64.wrap (2 * (IntKind.i64.wrap ((IntKind.i64.wrap x0.f2) + 1))))))) (
   .leaf (60)) (
   .leaf (0))
def g68 (x0 : S5) : Int := (g68T x0).get default
noncomputable def T68 : TL := []
noncomputable def q68 : Ab.Spec := runQ0 e68 (lookT T68) Go.Proofs.Try.f68
theorem q68_ok : SpecOk Go.Proofs.Try.prog 68 q68 := (runQ0_ok (runR_ok (e := e68) follows (allTI ti_ok _ _ _ _) (callsOk_nil) Go.Proofs.Try.func68 Go.Proofs.Try.call68) (fun c hc => by
  have hb : c = Go.Proofs.Try.f68.body.getD .skip := by rw [hc]; rfl
  subst hb
  exact tab_nil))
theorem g68_run (x0 : S5) : (q68 [.agg (Cod.enc 5 x0)] []).eval = (g68T x0).ev fun r => ((.c (.int .i64 r) : AV), ([] : List Blk)) := by kernel_rfl
noncomputable def s68 : Ab.Spec := fun args h =>
  dN h <| dL args fun v0 a0 => dG v0 fun l0 => dE 5 l0 fun x0 => dN a0 <|
  let r := g68 x0; .val (.c (.int .i64 r), [])
theorem s68_ok : SpecOk Go.Proofs.Try.prog 68 s68 :=
  q68_ok.less fun args hs r h => by
    unfold s68 at h
    obtain ⟨rfl, hh1⟩ := dN_inv h
    obtain ⟨v0, a0, rfl, hh2⟩ := dL_inv hh1
    obtain ⟨l0, rfl, hh3⟩ := dG_inv hh2
    obtain ⟨x0, rfl, hh4⟩ := dE_inv hh3
    obtain ⟨rfl, hh5⟩ := dN_inv hh4
    rw [g68_run, Tr.ev_get (d := default) (by kernel_rfl)]
    exact hh5
/-- pontage/pontageref09.IsConf -/
noncomputable def L46 : SL := [(68, .byVal, s68)]
noncomputable def e46 : Env := ⟨ti, fun g => lookS g L46, 1000000, [.drop 0, .drop 4, .drop 5, .drop 6, .drop 7, .drop 8, .drop 9, .drop 10, .drop 11, .drop 12, .drop 13, .drop 14, .drop 15, .drop 16, .drop 17, .drop 18, .drop 19, .drop 20, .drop 21, .drop 22, .drop 23, .drop 24, .drop 25, .drop 26, .drop 27, .drop 28, .drop 29, .drop 30, .drop 31, .drop 32, .drop 33, .drop 34, .drop 35, .drop 36, .drop 37, .drop 38, .drop 39, .drop 40, .drop 41], []⟩
structure W46_0 where
  a0 : Bool
  a1 : Int
  a2 : Int
  a3 : Int
  a4 : Int
  a5 : Int
  a6 : Int
  a7 : Int
  a8 : List S1
def hd46_0 (v : W46_0) : St := ⟨[.top, .c (.ptr 0 0), .c (.bool v.a0), .c (.int .i64 v.a1), .top, .top, .top, .top, .top, .top, .top, .top, .top, .top, .top, .top, .top, .top, .top, .top, .top, .top, .top, .top, .top, .top, .top, .top, .top, .top, .top, .top, .top, .top, .top, .top, .top, .top, .top, .top, .top, .top, .top, .top, .top, .top, .top, .top, .top, .top, .top, .top, .top, .top, .top, .top, .top, .top, .top, .top, .top, .top, .top], [.cells [.int .u64 v.a2, .int .u8 v.a3, .int .u8 v.a4, .int .u8 v.a5, .int .u8 v.a6, .int .u8 v.a7, .rs 1 v.a8]]⟩
def gR46_0 (v : W46_0) : Tr (W46_0 ⊕ (Bool × W46_0)) :=
  .br (decide (v.a1 < (v.a8.length : Int))) (
   .br (decide (0 ≤ v.a1)) (
    .opt (v.a8[Int.toNat v.a1]?) fun y101 =>
     .br (!(decide (y101.f0 < 1))) (
      .br (decide (0 ≤ v.a1)) (
       .opt (v.a8[Int.toNat v.a1]?) fun y103 =>
        .br (decide (y103.f0 > 200000000)) (
         .leaf (.inr (true, { v with a0 := false }))) (
         .leaf (.inl ({ v with a1 := (IntKind.i64.wrap (v.a1 + 1)) })))) (
       .fail)) (
      .leaf (.inr (true, { v with a0 := false })))) (
    .fail)) (
   .leaf (.inr (false, v)))
noncomputable def lb46_0 : Code := match findB 0 (Go.Proofs.Try.f46.body.getD .skip) with | [.loop b] => b | _ => .skip
def pa46_0 : List PA := [.any, .c (.ptr 0 0), .c (.bool), .c (.int .i64), .any, .any, .any, .any, .any, .any, .any, .any, .any, .any, .any, .any, .any, .any, .any, .any, .any, .any, .any, .any, .any, .any, .any, .any, .any, .any, .any, .any, .any, .any, .any, .any, .any, .any, .any, .any, .any, .any, .top, .top, .top, .top, .top, .top, .top, .top, .top, .top, .top, .top, .top, .top, .top, .top, .top, .top, .top, .top, .top]
def pb46_0 : List PB := [.cells [.int .u64, .int .u8, .int .u8, .int .u8, .int .u8, .int .u8, .rs 1]]
def ini46_0 (s : St) : W46_0 := ⟨bC (aC (s.tmps.getD 2 .top)), iC (aC (s.tmps.getD 3 .top)), iC ((bL (s.heap.getD 0 .dead)).getD 0 .top), iC ((bL (s.heap.getD 0 .dead)).getD 1 .top), iC ((bL (s.heap.getD 0 .dead)).getD 2 .top), iC ((bL (s.heap.getD 0 .dead)).getD 3 .top), iC ((bL (s.heap.getD 0 .dead)).getD 4 .top), iC ((bL (s.heap.getD 0 .dead)).getD 5 .top), rC 1 ((bL (s.heap.getD 0 .dead)).getD 6 .top)⟩
noncomputable def F46_0 : St → Res (Ex × St) := loopF pa46_0 pb46_0 1000000 hd46_0 gR46_0 ini46_0 true
theorem F46_0_ok (s : St) (r : Ex × St) (h : (F46_0 s).eval = some r) : (codeR e46 0 (.block 0 (.loop lb46_0)) s).eval = some r :=
  blk_ok (e := e46) (T := lookT []) (fun s v => by kernel_rfl) (fun s => by kernel_rfl) (tab_nil) s r h
def g46T (x0 : S9) : Tr (Bool) :=
  let z100 := g68 (S5.mk x0.f1 x0.f2 x0.f3 x0.f4)
  .br (bif (bif (bif (bif (bif (bif ((remI x0.f0 281474976710656) == 0) then true else (z100 != 0)) then true else (x0.f1 != 0)) then true else (decide (x0.f5 < 1))) then true else (decide (x0.f5 > 10))) then true else (decide ((x0.f6.length : Int) < 1))) then true else (decide ((x0.f6.length : Int) > 8))) (
   .leaf (false)) (
   .opt (iter gR46_0 1000000 (W46_0.mk (false) (0) (x0.f0) (x0.f1) (x0.f2) (x0.f3) (x0.f4) (x0.f5) (x0.f6))) fun r104 =>
    .br r104.1 (
     .leaf (r104.2.a0)) (
     .leaf (true)))
def g46 (x0 : S9) : Option (Bool) := (g46T x0).get?
noncomputable def T46 : TL := [(0, F46_0)]
noncomputable def q46 : Ab.Spec := runQ0 e46 (lookT T46) Go.Proofs.Try.f46
theorem q46_ok : SpecOk Go.Proofs.Try.prog 46 q46 := (runQ0_ok (runR_ok (e := e46) follows (allTI ti_ok _ _ _ _) (callsOk_cons s68_ok (callsOk_nil)) Go.Proofs.Try.func46 Go.Proofs.Try.call46) (fun c hc => by
  have hb : c = Go.Proofs.Try.f46.body.getD .skip := by rw [hc]; rfl
  subst hb
  exact tab_cons (by kernel_rfl) F46_0_ok (tab_nil)))
theorem g46_run (x0 : S9) : (q46 [.agg (Cod.enc 9 x0)] []).eval = (g46T x0).ev fun r => ((.c (.bool r) : AV), ([] : List Blk)) := by kernel_rfl
noncomputable def s46_0 : Ab.Spec := fun args h =>
  dN h <| dL args fun v0 a0 => dG v0 fun l0 => dE 9 l0 fun x0 => dN a0 <|
  .opt (g46 x0) fun r => .val (.c (.bool r), [])
theorem s46_0_ok : SpecOk Go.Proofs.Try.prog 46 s46_0 :=
  q46_ok.less fun args hs r h => by
    unfold s46_0 at h
    obtain ⟨rfl, hh1⟩ := dN_inv h
    obtain ⟨v0, a0, rfl, hh2⟩ := dL_inv hh1
    obtain ⟨l0, rfl, hh3⟩ := dG_inv hh2
    obtain ⟨x0, rfl, hh4⟩ := dE_inv hh3
    obtain ⟨rfl, hh5⟩ := dN_inv hh4
    rw [g46_run, Tr.ev_get?]
    change (Res.opt (g46 x0) _).eval = some r at hh5
    rw [eval_opt] at hh5
    obtain ⟨z, hz, hh6⟩ := Option.bind_eq_some_iff.mp hh5
    unfold g46 at hz
    rw [hz]; exact hh6
noncomputable def s46 : Ab.Spec := fun args h => s46_0 (coeA [[none, none, none, none, none, none, some 1]] args) h
theorem s46_ok : SpecOk Go.Proofs.Try.prog 46 s46 := s46_0_ok.pre [[none, none, none, none, none, none, some 1]]
/-- pontage/pontageref09.New -/
noncomputable def L28 : SL := [(46, .byVal, s46)]
noncomputable def e28 : Env := ⟨ti, fun g => lookS g L28, 1000000, [.drop 0, .drop 6, .drop 7, .drop 8, .drop 9, .drop 10, .drop 11, .drop 12, .drop 13, .drop 14, .drop 15, .drop 16, .blk 2 16 0], []⟩
structure W28_0 where
  a0 : Int
  a1 : Int
  a2 : Int
  a3 : Int
  a4 : Int
  a5 : Int
  a6 : Int
  a7 : Int
  a8 : List S1
  a9 : Int
  a10 : Int
  a11 : Int
  a12 : Int
  a13 : Int
  a14 : Int
  a15 : Bool
  a16 : Int
  a17 : Int
  a18 : Int
  a19 : Int
  a20 : Int
  a21 : Int
  a22 : Int
  a23 : Int
  a24 : Int
  a25 : Int
  a26 : Int
  a27 : Int
  a28 : Int
  a29 : Int
  a30 : Int
  a31 : Bool
  a32 : Int
  a33 : Int
  a34 : Int
  a35 : Int
  a36 : Int
  a37 : Int
  a38 : Int
  a39 : Int
  a40 : Int
  a41 : List S0
def hd28_0 (v : W28_0) : St := ⟨[.top, .c (.ptr 0 0), .c (.ptr 1 0), .c (.int .i64 v.a0), .c (.ptr 2 0), .c (.int .i64 v.a1), .top, .top, .top, .top, .top, .top, .top, .top, .top, .top, .top, .top, .top, .top, .top, .top, .top, .top, .top, .top, .top, .top, .top, .top, .top, .top, .top, .top, .top, .top, .top, .top, .top], [.cells [.int .u64 v.a2, .int .u8 v.a3, .int .u8 v.a4, .int .u8 v.a5, .int .u8 v.a6, .int .u8 v.a7, .rs 1 v.a8], .cells [.int .u64 v.a9, .int .u8 v.a10, .int .u8 v.a11, .int .u8 v.a12, .int .u8 v.a13, .int .u8 v.a14, .bool v.a15, .int .u16 v.a16, .int .u64 v.a17, .int .u32 v.a18, .int .u64 v.a19, .int .u16 v.a20, .int .u8 v.a21, .int .u8 v.a22, .int .u8 v.a23, .int .u8 v.a24, .nils], .cells [.int .u64 v.a25, .int .u8 v.a26, .int .u8 v.a27, .int .u8 v.a28, .int .u8 v.a29, .int .u8 v.a30, .bool v.a31, .int .u16 v.a32, .int .u64 v.a33, .int .u32 v.a34, .int .u64 v.a35, .int .u16 v.a36, .int .u8 v.a37, .int .u8 v.a38, .int .u8 v.a39, .int .u8 v.a40, .slw 3], .row 0 v.a41]⟩
def gR28_0 (v : W28_0) : Tr (W28_0 ⊕ (Bool × W28_0)) :=
  .br (decide (v.a1 < (v.a8.length : Int))) (
   .br (decide (0 ≤ v.a1)) (
    .opt (v.a8[Int.toNat v.a1]?) fun y108 =>
     .br (Nat.ble (v.a41.length + 1) 140737488355328 && Nat.ble ((v.a41.length + 1) * 248) 140737488355328) (
      .leaf (.inl ({ v with a1 := (IntKind.i64.wrap (v.a1 + 1)), a41 := (v.a41 ++ [(S0.mk (IntKind.u16.wrap (IntKind.i64.wrap (32769 + v.a1))) y108.f0 false false false false false false false false false false false false false false false false false false false false false false false false false false false 0 0 0 0 0 0 0 0 0 0 0 0 0 0 0 0 0 0 0 0 false false false false false false 0 0 0 0 0 0 0 0 0 0 0 0 0 0 0 0 0 0 0 0 0 0)]) }))) (
      .fail)) (
    .fail)) (
   .leaf (.inr (false, v)))
noncomputable def lb28_0 : Code := match findB 0 (Go.Proofs.Try.f28.body.getD .skip) with | [.loop b] => b | _ => .skip
def pa28_0 : List PA := [.any, .c (.ptr 0 0), .c (.ptr 1 0), .c (.int .i64), .c (.ptr 2 0), .c (.int .i64), .any, .any, .any, .any, .any, .any, .any, .any, .any, .any, .any, .top, .top, .top, .top, .top, .top, .top, .top, .top, .top, .top, .top, .top, .top, .top, .top, .top, .top, .top, .top, .top, .top]
def pb28_0 : List PB := [.cells [.int .u64, .int .u8, .int .u8, .int .u8, .int .u8, .int .u8, .rs 1], .cells [.int .u64, .int .u8, .int .u8, .int .u8, .int .u8, .int .u8, .bool, .int .u16, .int .u64, .int .u32, .int .u64, .int .u16, .int .u8, .int .u8, .int .u8, .int .u8, .nils], .cells [.int .u64, .int .u8, .int .u8, .int .u8, .int .u8, .int .u8, .bool, .int .u16, .int .u64, .int .u32, .int .u64, .int .u16, .int .u8, .int .u8, .int .u8, .int .u8, .nils]]
def ini28_0 (s : St) : W28_0 := ⟨iC (aC (s.tmps.getD 3 .top)), iC (aC (s.tmps.getD 5 .top)), iC ((bL (s.heap.getD 0 .dead)).getD 0 .top), iC ((bL (s.heap.getD 0 .dead)).getD 1 .top), iC ((bL (s.heap.getD 0 .dead)).getD 2 .top), iC ((bL (s.heap.getD 0 .dead)).getD 3 .top), iC ((bL (s.heap.getD 0 .dead)).getD 4 .top), iC ((bL (s.heap.getD 0 .dead)).getD 5 .top), rC 1 ((bL (s.heap.getD 0 .dead)).getD 6 .top), iC ((bL (s.heap.getD 1 .dead)).getD 0 .top), iC ((bL (s.heap.getD 1 .dead)).getD 1 .top), iC ((bL (s.heap.getD 1 .dead)).getD 2 .top), iC ((bL (s.heap.getD 1 .dead)).getD 3 .top), iC ((bL (s.heap.getD 1 .dead)).getD 4 .top), iC ((bL (s.heap.getD 1 .dead)).getD 5 .top), bC ((bL (s.heap.getD 1 .dead)).getD 6 .top), iC ((bL (s.heap.getD 1 .dead)).getD 7 .top), iC ((bL (s.heap.getD 1 .dead)).getD 8 .top), iC ((bL (s.heap.getD 1 .dead)).getD 9 .top), iC ((bL (s.heap.getD 1 .dead)).getD 10 .top), iC ((bL (s.heap.getD 1 .dead)).getD 11 .top), iC ((bL (s.heap.getD 1 .dead)).getD 12 .top), iC ((bL (s.heap.getD 1 .dead)).getD 13 .top), iC ((bL (s.heap.getD 1 .dead)).getD 14 .top), iC ((bL (s.heap.getD 1 .dead)).getD 15 .top), iC ((bL (s.heap.getD 2 .dead)).getD 0 .top), iC ((bL (s.heap.getD 2 .dead)).getD 1 .top), iC ((bL (s.heap.getD 2 .dead)).getD 2 .top), iC ((bL (s.heap.getD 2 .dead)).getD 3 .top), iC ((bL (s.heap.getD 2 .dead)).getD 4 .top), iC ((bL (s.heap.getD 2 .dead)).getD 5 .top), bC ((bL (s.heap.getD 2 .dead)).getD 6 .top), iC ((bL (s.heap.getD 2 .dead)).getD 7 .top), iC ((bL (s.heap.getD 2 .dead)).getD 8 .top), iC ((bL (s.heap.getD 2 .dead)).getD 9 .top), iC ((bL (s.heap.getD 2 .dead)).getD 10 .top), iC ((bL (s.heap.getD 2 .dead)).getD 11 .top), iC ((bL (s.heap.getD 2 .dead)).getD 12 .top), iC ((bL (s.heap.getD 2 .dead)).getD 13 .top), iC ((bL (s.heap.getD 2 .dead)).getD 14 .top), iC ((bL (s.heap.getD 2 .dead)).getD 15 .top), []⟩
noncomputable def F28_0 : St → Res (Ex × St) := loopF pa28_0 pb28_0 1000000 hd28_0 gR28_0 ini28_0 false
theorem F28_0_ok (s : St) (r : Ex × St) (h : (F28_0 s).eval = some r) : (codeR e28 0 (.block 0 (.loop lb28_0)) s).eval = some r :=
  blk_ok (e := e28) (T := lookT []) (fun s v => by kernel_rfl) (fun s => by kernel_rfl) (tab_nil) s r h
def g28T (x0 : S9) : Tr (S7 × Int) :=
  .opt (g46 x0) fun z107 =>
   .br (!z107) (
    .leaf ((S7.mk 0 0 0 0 0 0 false 0 0 0 0 0 0 0 0 0 []), 90)) (
    .opt (iter gR28_0 1000000 (W28_0.mk (0) (0) (x0.f0) (x0.f1) (x0.f2) (x0.f3) (x0.f4) (x0.f5) (x0.f6) (0) (0) (0) (0) (0) (0) (false) (0) (0) (0) (0) (0) (0) (0) (0) (0) (x0.f0) (x0.f1) (x0.f2) (x0.f3) (x0.f4) (x0.f5) (false) (0) (0) (0) (0) (0) (0) (0) (0) (0) ([]))) fun r109 =>
     .br r109.1 (
      .fail) (
      .leaf ((S7.mk r109.2.a25 r109.2.a26 r109.2.a27 r109.2.a28 r109.2.a29 r109.2.a30 r109.2.a31 r109.2.a32 r109.2.a33 r109.2.a34 r109.2.a35 r109.2.a36 r109.2.a37 r109.2.a38 r109.2.a39 r109.2.a40 r109.2.a41), 0)))
def g28 (x0 : S9) : Option (S7 × Int) := (g28T x0).get?
noncomputable def T28 : TL := [(0, F28_0)]
noncomputable def q28 : Ab.Spec := frzR [[none, none, none, none, none, none, none, none, none, none, none, none, none, none, none, none, some 0], []] (runQ0 e28 (lookT T28) Go.Proofs.Try.f28)
theorem q28_ok : SpecOk Go.Proofs.Try.prog 28 q28 := (runQ0_ok (runR_ok (e := e28) follows (allTI ti_ok _ _ _ _) (callsOk_cons s46_ok (callsOk_nil)) Go.Proofs.Try.func28 Go.Proofs.Try.call28) (fun c hc => by
  have hb : c = Go.Proofs.Try.f28.body.getD .skip := by rw [hc]; rfl
  subst hb
  exact tab_cons (by kernel_rfl) F28_0_ok (tab_nil))).froze [[none, none, none, none, none, none, none, none, none, none, none, none, none, none, none, none, some 0], []]
theorem g28_run (x0 : S9) : (q28 [.agg (Cod.enc 9 x0)] []).eval = (g28T x0).ev fun r => ((.tup [some (true, Cod.enc 7 r.1), some (false, [.int .i64 r.2])] : AV), ([] : List Blk)) := by kernel_rfl
noncomputable def s28_0 : Ab.Spec := fun args h =>
  dN h <| dL args fun v0 a0 => dG v0 fun l0 => dE 9 l0 fun x0 => dN a0 <|
  .opt (g28 x0) fun r => .val (.tup [some (true, Cod.enc 7 r.1), some (false, [.int .i64 r.2])], [])
theorem s28_0_ok : SpecOk Go.Proofs.Try.prog 28 s28_0 :=
  q28_ok.less fun args hs r h => by
    unfold s28_0 at h
    obtain ⟨rfl, hh1⟩ := dN_inv h
    obtain ⟨v0, a0, rfl, hh2⟩ := dL_inv hh1
    obtain ⟨l0, rfl, hh3⟩ := dG_inv hh2
    obtain ⟨x0, rfl, hh4⟩ := dE_inv hh3
    obtain ⟨rfl, hh5⟩ := dN_inv hh4
    rw [g28_run, Tr.ev_get?]
    change (Res.opt (g28 x0) _).eval = some r at hh5
    rw [eval_opt] at hh5
    obtain ⟨z, hz, hh6⟩ := Option.bind_eq_some_iff.mp hh5
    unfold g28 at hz
    rw [hz]; exact hh6
noncomputable def s28 : Ab.Spec := fun args h => s28_0 (coeA [[none, none, none, none, none, none, some 1]] args) h
theorem s28_ok : SpecOk Go.Proofs.Try.prog 28 s28 := s28_0_ok.pre [[none, none, none, none, none, none, some 1]]
/-- pontage/pontageref09.Up -/
noncomputable def L17 : SL := [(30, .byNew, s30), (14, .byVal, s14)]
noncomputable def e17 : Env := ⟨ti, fun g => lookS g L17, 1000000, [], []⟩
def g17T (x0 : S7) (x1 : Int) (x2 : Bool) : Tr (S7) :=
  .opt (g30 x0) fun z110 =>
   let z111 := g14 z110 x1
   .br z111 (
    .br (decide (0 ≤ x1) && decide (x1 < (z110.f16.length : Int))) (
     .opt (z110.f16[(Int.toNat x1)]?) fun y112 =>
      .leaf ({ z110 with f16 := (List.set z110.f16 (Int.toNat x1) { y112 with f2 := x2 }) })) (
     .fail)) (
    .leaf (z110))
def g17 (x0 : S7) (x1 : Int) (x2 : Bool) : Option (S7) := (g17T x0 x1 x2).get?
noncomputable def T17 : TL := []
noncomputable def q17 : Ab.Spec := frzR [[none, none, none, none, none, none, none, none, none, none, none, none, none, none, none, none, some 0]] (runQ0 e17 (lookT T17) Go.Proofs.Try.f17)
theorem q17_ok : SpecOk Go.Proofs.Try.prog 17 q17 := (runQ0_ok (runR_ok (e := e17) follows (allTI ti_ok _ _ _ _) (callsOk_cons s30_ok (callsOk_cons s14_ok (callsOk_nil))) Go.Proofs.Try.func17 Go.Proofs.Try.call17) (fun c hc => by
  have hb : c = Go.Proofs.Try.f17.body.getD .skip := by rw [hc]; rfl
  subst hb
  exact tab_nil)).froze [[none, none, none, none, none, none, none, none, none, none, none, none, none, none, none, none, some 0]]
theorem g17_run (x0 : S7) (x1 : Int) (x2 : Bool) : (q17 [.agg (Cod.enc 7 x0), .c (.int .i64 x1), .c (.bool x2)] []).eval = (g17T x0 x1 x2).ev fun r => ((.agg (Cod.enc 7 r) : AV), ([] : List Blk)) := by kernel_rfl
noncomputable def s17_0 : Ab.Spec := fun args h =>
  dN h <| dL args fun v0 a0 => dG v0 fun l0 => dE 7 l0 fun x0 => dL a0 fun v1 a1 => dC v1 fun c0 => dI .i64 c0 fun x1 => dL a1 fun v2 a2 => dC v2 fun c1 => dB c1 fun x2 => dN a2 <|
  .opt (g17 x0 x1 x2) fun r => .val (.agg (Cod.enc 7 r), [])
theorem s17_0_ok : SpecOk Go.Proofs.Try.prog 17 s17_0 :=
  q17_ok.less fun args hs r h => by
    unfold s17_0 at h
    obtain ⟨rfl, hh1⟩ := dN_inv h
    obtain ⟨v0, a0, rfl, hh2⟩ := dL_inv hh1
    obtain ⟨l0, rfl, hh3⟩ := dG_inv hh2
    obtain ⟨x0, rfl, hh4⟩ := dE_inv hh3
    obtain ⟨v1, a1, rfl, hh5⟩ := dL_inv hh4
    obtain ⟨c0, rfl, hh6⟩ := dC_inv hh5
    obtain ⟨x1, rfl, hh7⟩ := dI_inv hh6
    obtain ⟨v2, a2, rfl, hh8⟩ := dL_inv hh7
    obtain ⟨c1, rfl, hh9⟩ := dC_inv hh8
    obtain ⟨x2, rfl, hh10⟩ := dB_inv hh9
    obtain ⟨rfl, hh11⟩ := dN_inv hh10
    rw [g17_run, Tr.ev_get?]
    change (Res.opt (g17 x0 x1 x2) _).eval = some r at hh11
    rw [eval_opt] at hh11
    obtain ⟨z, hz, hh12⟩ := Option.bind_eq_some_iff.mp hh11
    unfold g17 at hz
    rw [hz]; exact hh12
noncomputable def s17 : Ab.Spec := fun args h => s17_0 (coeA [[none, none, none, none, none, none, none, none, none, none, none, none, none, none, none, none, some 0], [], []] args) h
theorem s17_ok : SpecOk Go.Proofs.Try.prog 17 s17 := s17_0_ok.pre [[none, none, none, none, none, none, none, none, none, none, none, none, none, none, none, none, some 0], [], []]
/-- pontage/pontagelaw11.awake -/
noncomputable def L13 : SL := [(29, .byNew, s29), (28, .byNew, s28), (8, .byNew, s8), (17, .byNew, s17), (11, .byNew, s11)]
noncomputable def e13 : Env := ⟨ti, fun g => lookS g L13, 1000000, [], []⟩
def g13T  : Tr (Bool) :=
  let z113 := g29 
  .opt (g28 z113) fun z114 =>
   .opt (g8 z114.1 0) fun z115 =>
    .opt (g8 z115.1 0) fun z116 =>
     .opt (g17 z115.1 0 true) fun z117 =>
      .opt (g8 z117 0) fun z118 =>
       .opt (g8 z114.1 2) fun z119 =>
        .opt (g11 z118.1 0 (S8.mk 2 false false false false false false 0 0 0 0 0 0 0 0 0)) fun z120 =>
         .br (bif (bif (z114.2 == 0) then z115.2 else false) then ((z115.1.f16.length : Int) == 2) else false) (
          .opt (z115.1.f16[0]?) fun y122 =>
           .br (y122.f72 == 1) (
            .opt (z115.1.f16[0]?) fun y124 =>
             .br (bif (bif y124.f21 then (!z116.2) else false) then z118.2 else false) (
              .opt (z118.1.f16[0]?) fun y126 =>
               .br (y126.f72 == 2) (
                .opt (z118.1.f16[0]?) fun y128 =>
                 .br (bif (y128.f29 == 1) then (!z119.2) else false) (
                  .opt (z120.f16[0]?) fun y130 =>
                   .leaf (y130.f14)) (
                  .leaf (false))) (
                .leaf (false))) (
              .leaf (false))) (
            .leaf (false))) (
          .leaf (false))
def g13  : Option (Bool) := (g13T ).get?
noncomputable def T13 : TL := []
noncomputable def q13 : Ab.Spec := runQ0 e13 (lookT T13) Go.Proofs.Try.f13
theorem q13_ok : SpecOk Go.Proofs.Try.prog 13 q13 := (runQ0_ok (runR_ok (e := e13) follows (allTI ti_ok _ _ _ _) (callsOk_cons s29_ok (callsOk_cons s28_ok (callsOk_cons s8_ok (callsOk_cons s17_ok (callsOk_cons s11_ok (callsOk_nil)))))) Go.Proofs.Try.func13 Go.Proofs.Try.call13) (fun c hc => by
  have hb : c = Go.Proofs.Try.f13.body.getD .skip := by rw [hc]; rfl
  subst hb
  exact tab_nil))
theorem g13_run  : (q13 [] []).eval = (g13T ).ev fun r => ((.c (.bool r) : AV), ([] : List Blk)) := by kernel_rfl
noncomputable def s13 : Ab.Spec := fun args h =>
  dN h <| dN args <|
  .opt (g13) fun r => .val (.c (.bool r), [])
theorem s13_ok : SpecOk Go.Proofs.Try.prog 13 s13 :=
  q13_ok.less fun args hs r h => by
    unfold s13 at h
    obtain ⟨rfl, hh1⟩ := dN_inv h
    obtain ⟨rfl, hh2⟩ := dN_inv hh1
    rw [g13_run, Tr.ev_get?]
    change (Res.opt (g13) _).eval = some r at hh2
    rw [eval_opt] at hh2
    obtain ⟨z, hz, hh3⟩ := Option.bind_eq_some_iff.mp hh2
    unfold g13 at hz
    rw [hz]; exact hh3
/-- pontage/pontagelaw11.PimSteps -/
noncomputable def L3 : SL := [(7, .byNew, s7), (8, .byNew, s8), (9, .byNew, s9), (10, .byVal, s10), (11, .byNew, s11), (12, .byNew, s12), (13, .byVal, s13)]
noncomputable def e3 : Env := ⟨ti, fun g => lookS g L3, 1000000, [], []⟩
def g3T (x0 : S7) (x1 : Int) (x2 : S8) : Tr (Bool) :=
  .opt (g7 x0) fun z141 =>
   .opt (g8 z141 x1) fun z142 =>
    .opt (g9 z141 x1) fun z143 =>
     .opt (g10 z142.1 z143.1) fun z144 =>
      .br (bif z144 then (z142.2 == z143.2) else false) (
       .opt (g11 z141 x1 x2) fun z145 =>
        .opt (g12 z141 x1 x2) fun z146 =>
         .opt (g10 z145 z146) fun z147 =>
          .br z147 (
           .opt (g13 ) fun z149 =>
            .leaf (z149)) (
           .leaf (false))) (
       .leaf (false))
def g3 (x0 : S7) (x1 : Int) (x2 : S8) : Option (Bool) := (g3T x0 x1 x2).get?
noncomputable def T3 : TL := []
noncomputable def q3 : Ab.Spec := runQ0 e3 (lookT T3) Go.Proofs.Try.f3
theorem q3_ok : SpecOk Go.Proofs.Try.prog 3 q3 := (runQ0_ok (runR_ok (e := e3) follows (allTI ti_ok _ _ _ _) (callsOk_cons s7_ok (callsOk_cons s8_ok (callsOk_cons s9_ok (callsOk_cons s10_ok (callsOk_cons s11_ok (callsOk_cons s12_ok (callsOk_cons s13_ok (callsOk_nil)))))))) Go.Proofs.Try.func3 Go.Proofs.Try.call3) (fun c hc => by
  have hb : c = Go.Proofs.Try.f3.body.getD .skip := by rw [hc]; rfl
  subst hb
  exact tab_nil))
theorem g3_run (x0 : S7) (x1 : Int) (x2 : S8) : (q3 [.agg (Cod.enc 7 x0), .c (.int .i64 x1), .agg (Cod.enc 8 x2)] []).eval = (g3T x0 x1 x2).ev fun r => ((.c (.bool r) : AV), ([] : List Blk)) := by kernel_rfl
noncomputable def s3_0 : Ab.Spec := fun args h =>
  dN h <| dL args fun v0 a0 => dG v0 fun l0 => dE 7 l0 fun x0 => dL a0 fun v1 a1 => dC v1 fun c0 => dI .i64 c0 fun x1 => dL a1 fun v2 a2 => dG v2 fun l2 => dE 8 l2 fun x2 => dN a2 <|
  .opt (g3 x0 x1 x2) fun r => .val (.c (.bool r), [])
theorem s3_0_ok : SpecOk Go.Proofs.Try.prog 3 s3_0 :=
  q3_ok.less fun args hs r h => by
    unfold s3_0 at h
    obtain ⟨rfl, hh1⟩ := dN_inv h
    obtain ⟨v0, a0, rfl, hh2⟩ := dL_inv hh1
    obtain ⟨l0, rfl, hh3⟩ := dG_inv hh2
    obtain ⟨x0, rfl, hh4⟩ := dE_inv hh3
    obtain ⟨v1, a1, rfl, hh5⟩ := dL_inv hh4
    obtain ⟨c0, rfl, hh6⟩ := dC_inv hh5
    obtain ⟨x1, rfl, hh7⟩ := dI_inv hh6
    obtain ⟨v2, a2, rfl, hh8⟩ := dL_inv hh7
    obtain ⟨l2, rfl, hh9⟩ := dG_inv hh8
    obtain ⟨x2, rfl, hh10⟩ := dE_inv hh9
    obtain ⟨rfl, hh11⟩ := dN_inv hh10
    rw [g3_run, Tr.ev_get?]
    change (Res.opt (g3 x0 x1 x2) _).eval = some r at hh11
    rw [eval_opt] at hh11
    obtain ⟨z, hz, hh12⟩ := Option.bind_eq_some_iff.mp hh11
    unfold g3 at hz
    rw [hz]; exact hh12
noncomputable def s3 : Ab.Spec := fun args h => s3_0 (coeA [[none, none, none, none, none, none, none, none, none, none, none, none, none, none, none, none, some 0], [], []] args) h
theorem s3_ok : SpecOk Go.Proofs.Try.prog 3 s3 := s3_0_ok.pre [[none, none, none, none, none, none, none, none, none, none, none, none, none, none, none, none, some 0], [], []]
/-- pontage/pontagelaw11.PimOnce -/
noncomputable def L4 : SL := [(7, .byNew, s7), (8, .byNew, s8), (14, .byVal, s14), (13, .byVal, s13), (10, .byVal, s10)]
noncomputable def e4 : Env := ⟨ti, fun g => lookS g L4, 1000000, [], []⟩
def g4T (x0 : S7) (x1 : Int) : Tr (Bool) :=
  .opt (g7 x0) fun z151 =>
   .opt (g8 z151 x1) fun z152 =>
    let z153 := g14 z151 x1
    .br (!z153) (
     .br (!z152.2) (
      .opt (g13 ) fun z155 =>
       .leaf (z155)) (
      .leaf (false))) (
     .br (bif (bif (!((z152.1.f16.length : Int) != (z151.f16.length : Int))) then true else false) then z152.2 else false) (
      .br (decide (0 ≤ x1)) (
       .opt (z151.f16[Int.toNat x1]?) fun y157 =>
        .br (y157.f72 == 3) (
         .br (decide (0 ≤ x1)) (
          .opt (z151.f16[Int.toNat x1]?) fun y159 =>
           .br y159.f2 (
            .br (decide (0 ≤ x1)) (
             .opt (z151.f16[Int.toNat x1]?) fun y161 =>
              .br y161.f14 (
               .br (decide (0 ≤ x1)) (
                .opt (z151.f16[Int.toNat x1]?) fun y163 =>
                 .br (!y163.f28) (
                  .br (decide (0 ≤ x1)) (
                   .opt (z152.1.f16[Int.toNat x1]?) fun y165 =>
                    .br (bif ((z152.1.f16.length : Int) != (z151.f16.length : Int)) then true else y165.f14) (
                     .leaf (false)) (
                     .br (z152.1.f16.isEmpty) (
                      .br (decide (0 ≤ x1)) (
                       .opt (z151.f16[Int.toNat x1]?) fun y166 =>
                        .fail) (
                       .fail)) (
                      .br (Nat.ble (0 + z152.1.f16.length) 140737488355328 && Nat.ble ((0 + z152.1.f16.length) * 248) 140737488355328) (
                       .br (decide (0 ≤ x1)) (
                        .opt (z151.f16[Int.toNat x1]?) fun y167 =>
                         .br (decide (0 ≤ x1) && decide (x1 < (z152.1.f16.length : Int))) (
                          .opt (z152.1.f16[(Int.toNat x1)]?) fun y168 =>
                           .opt (g10 { z152.1 with f16 := (List.set z152.1.f16 (Int.toNat x1) y167) } z151) fun z169 =>
                            .br z169 (
                             .opt (g13 ) fun z171 =>
                              .leaf (z171)) (
                             .leaf (false))) (
                          .fail)) (
                        .fail)) (
                       .fail)))) (
                   .fail)) (
                  .br (bif ((z152.1.f16.length : Int) != (z151.f16.length : Int)) then true else false) (
                   .leaf (false)) (
                   .br (z152.1.f16.isEmpty) (
                    .br (decide (0 ≤ x1)) (
                     .opt (z151.f16[Int.toNat x1]?) fun y172 =>
                      .fail) (
                     .fail)) (
                    .br (Nat.ble (0 + z152.1.f16.length) 140737488355328 && Nat.ble ((0 + z152.1.f16.length) * 248) 140737488355328) (
                     .br (decide (0 ≤ x1)) (
                      .opt (z151.f16[Int.toNat x1]?) fun y173 =>
                       .br (decide (0 ≤ x1) && decide (x1 < (z152.1.f16.length : Int))) (
                        .opt (z152.1.f16[(Int.toNat x1)]?) fun y174 =>
                         .opt (g10 { z152.1 with f16 := (List.set z152.1.f16 (Int.toNat x1) y173) } z151) fun z175 =>
                          .br z175 (
                           .opt (g13 ) fun z177 =>
                            .leaf (z177)) (
                           .leaf (false))) (
                        .fail)) (
                      .fail)) (
                     .fail))))) (
                .fail)) (
               .br (bif ((z152.1.f16.length : Int) != (z151.f16.length : Int)) then true else false) (
                .leaf (false)) (
                .br (z152.1.f16.isEmpty) (
                 .br (decide (0 ≤ x1)) (
                  .opt (z151.f16[Int.toNat x1]?) fun y179 =>
                   .fail) (
                  .fail)) (
                 .br (Nat.ble (0 + z152.1.f16.length) 140737488355328 && Nat.ble ((0 + z152.1.f16.length) * 248) 140737488355328) (
                  .br (decide (0 ≤ x1)) (
                   .opt (z151.f16[Int.toNat x1]?) fun y180 =>
                    .br (decide (0 ≤ x1) && decide (x1 < (z152.1.f16.length : Int))) (
                     .opt (z152.1.f16[(Int.toNat x1)]?) fun y181 =>
                      .opt (g10 { z152.1 with f16 := (List.set z152.1.f16 (Int.toNat x1) y180) } z151) fun z182 =>
                       .br z182 (
                        .opt (g13 ) fun z184 =>
                         .leaf (z184)) (
                        .leaf (false))) (
                     .fail)) (
                   .fail)) (
                  .fail))))) (
             .fail)) (
            .br (bif ((z152.1.f16.length : Int) != (z151.f16.length : Int)) then true else false) (
             .leaf (false)) (
             .br (z152.1.f16.isEmpty) (
              .br (decide (0 ≤ x1)) (
               .opt (z151.f16[Int.toNat x1]?) fun y187 =>
                .fail) (
               .fail)) (
              .br (Nat.ble (0 + z152.1.f16.length) 140737488355328 && Nat.ble ((0 + z152.1.f16.length) * 248) 140737488355328) (
               .br (decide (0 ≤ x1)) (
                .opt (z151.f16[Int.toNat x1]?) fun y188 =>
                 .br (decide (0 ≤ x1) && decide (x1 < (z152.1.f16.length : Int))) (
                  .opt (z152.1.f16[(Int.toNat x1)]?) fun y189 =>
                   .opt (g10 { z152.1 with f16 := (List.set z152.1.f16 (Int.toNat x1) y188) } z151) fun z190 =>
                    .br z190 (
                     .opt (g13 ) fun z192 =>
                      .leaf (z192)) (
                     .leaf (false))) (
                  .fail)) (
                .fail)) (
               .fail))))) (
          .fail)) (
         .br (bif ((z152.1.f16.length : Int) != (z151.f16.length : Int)) then true else false) (
          .leaf (false)) (
          .br (z152.1.f16.isEmpty) (
           .br (decide (0 ≤ x1)) (
            .opt (z151.f16[Int.toNat x1]?) fun y196 =>
             .fail) (
            .fail)) (
           .br (Nat.ble (0 + z152.1.f16.length) 140737488355328 && Nat.ble ((0 + z152.1.f16.length) * 248) 140737488355328) (
            .br (decide (0 ≤ x1)) (
             .opt (z151.f16[Int.toNat x1]?) fun y197 =>
              .br (decide (0 ≤ x1) && decide (x1 < (z152.1.f16.length : Int))) (
               .opt (z152.1.f16[(Int.toNat x1)]?) fun y198 =>
                .opt (g10 { z152.1 with f16 := (List.set z152.1.f16 (Int.toNat x1) y197) } z151) fun z199 =>
                 .br z199 (
                  .opt (g13 ) fun z201 =>
                   .leaf (z201)) (
                  .leaf (false))) (
               .fail)) (
             .fail)) (
            .fail))))) (
       .fail)) (
      .br (bif (bif (!((z152.1.f16.length : Int) != (z151.f16.length : Int))) then true else false) then z152.2 else false) (
       .fail) (
       .br (bif (bif (!((z152.1.f16.length : Int) != (z151.f16.length : Int))) then true else false) then z152.2 else false) (
        .fail) (
        .br (bif (bif (!((z152.1.f16.length : Int) != (z151.f16.length : Int))) then true else false) then z152.2 else false) (
         .fail) (
         .br (!((z152.1.f16.length : Int) != (z151.f16.length : Int))) (
          .br z152.2 (
           .fail) (
           .br (z152.1.f16.isEmpty) (
            .br (decide (0 ≤ x1)) (
             .opt (z151.f16[Int.toNat x1]?) fun y207 =>
              .fail) (
             .fail)) (
            .br (Nat.ble (0 + z152.1.f16.length) 140737488355328 && Nat.ble ((0 + z152.1.f16.length) * 248) 140737488355328) (
             .br (decide (0 ≤ x1)) (
              .opt (z151.f16[Int.toNat x1]?) fun y208 =>
               .br (decide (0 ≤ x1) && decide (x1 < (z152.1.f16.length : Int))) (
                .opt (z152.1.f16[(Int.toNat x1)]?) fun y209 =>
                 .opt (g10 { z152.1 with f16 := (List.set z152.1.f16 (Int.toNat x1) y208) } z151) fun z210 =>
                  .br z210 (
                   .opt (g13 ) fun z212 =>
                    .leaf (z212)) (
                   .leaf (false))) (
                .fail)) (
              .fail)) (
             .fail)))) (
          .fail))))))
def g4 (x0 : S7) (x1 : Int) : Option (Bool) := (g4T x0 x1).get?
noncomputable def T4 : TL := []
noncomputable def q4 : Ab.Spec := runQ0 e4 (lookT T4) Go.Proofs.Try.f4
theorem q4_ok : SpecOk Go.Proofs.Try.prog 4 q4 := (runQ0_ok (runR_ok (e := e4) follows (allTI ti_ok _ _ _ _) (callsOk_cons s7_ok (callsOk_cons s8_ok (callsOk_cons s14_ok (callsOk_cons s13_ok (callsOk_cons s10_ok (callsOk_nil)))))) Go.Proofs.Try.func4 Go.Proofs.Try.call4) (fun c hc => by
  have hb : c = Go.Proofs.Try.f4.body.getD .skip := by rw [hc]; rfl
  subst hb
  exact tab_nil))
theorem g4_run (x0 : S7) (x1 : Int) : (q4 [.agg (Cod.enc 7 x0), .c (.int .i64 x1)] []).eval = (g4T x0 x1).ev fun r => ((.c (.bool r) : AV), ([] : List Blk)) := by kernel_rfl
noncomputable def s4_0 : Ab.Spec := fun args h =>
  dN h <| dL args fun v0 a0 => dG v0 fun l0 => dE 7 l0 fun x0 => dL a0 fun v1 a1 => dC v1 fun c0 => dI .i64 c0 fun x1 => dN a1 <|
  .opt (g4 x0 x1) fun r => .val (.c (.bool r), [])
theorem s4_0_ok : SpecOk Go.Proofs.Try.prog 4 s4_0 :=
  q4_ok.less fun args hs r h => by
    unfold s4_0 at h
    obtain ⟨rfl, hh1⟩ := dN_inv h
    obtain ⟨v0, a0, rfl, hh2⟩ := dL_inv hh1
    obtain ⟨l0, rfl, hh3⟩ := dG_inv hh2
    obtain ⟨x0, rfl, hh4⟩ := dE_inv hh3
    obtain ⟨v1, a1, rfl, hh5⟩ := dL_inv hh4
    obtain ⟨c0, rfl, hh6⟩ := dC_inv hh5
    obtain ⟨x1, rfl, hh7⟩ := dI_inv hh6
    obtain ⟨rfl, hh8⟩ := dN_inv hh7
    rw [g4_run, Tr.ev_get?]
    change (Res.opt (g4 x0 x1) _).eval = some r at hh8
    rw [eval_opt] at hh8
    obtain ⟨z, hz, hh9⟩ := Option.bind_eq_some_iff.mp hh8
    unfold g4 at hz
    rw [hz]; exact hh9
noncomputable def s4 : Ab.Spec := fun args h => s4_0 (coeA [[none, none, none, none, none, none, none, none, none, none, none, none, none, none, none, none, some 0], []] args) h
theorem s4_ok : SpecOk Go.Proofs.Try.prog 4 s4 := s4_0_ok.pre [[none, none, none, none, none, none, none, none, none, none, none, none, none, none, none, none, some 0], []]
/-- pontage/pontageref09.less -/
noncomputable def L31 : SL := []
noncomputable def e31 : Env := ⟨ti, fun g => lookS g L31, 1000000, [], []⟩
def g31T (x0 : Int) : Tr (Int) :=
  .br (x0 == 0) (
   .leaf (0)) (
   .leaf ((IntKind.u8.wrap (x0 - 1))))
def g31 (x0 : Int) : Int := (g31T x0).get default
noncomputable def T31 : TL := []
noncomputable def q31 : Ab.Spec := runQ0 e31 (lookT T31) Go.Proofs.Try.f31
theorem q31_ok : SpecOk Go.Proofs.Try.prog 31 q31 := (runQ0_ok (runR_ok (e := e31) follows (allTI ti_ok _ _ _ _) (callsOk_nil) Go.Proofs.Try.func31 Go.Proofs.Try.call31) (fun c hc => by
  have hb : c = Go.Proofs.Try.f31.body.getD .skip := by rw [hc]; rfl
  subst hb
  exact tab_nil))
theorem g31_run (x0 : Int) : (q31 [.c (.int .u8 x0)] []).eval = (g31T x0).ev fun r => ((.c (.int .u8 r) : AV), ([] : List Blk)) := by kernel_rfl
noncomputable def s31 : Ab.Spec := fun args h =>
  dN h <| dL args fun v0 a0 => dC v0 fun c0 => dI .u8 c0 fun x0 => dN a0 <|
  let r := g31 x0; .val (.c (.int .u8 r), [])
theorem s31_ok : SpecOk Go.Proofs.Try.prog 31 s31 :=
  q31_ok.less fun args hs r h => by
    unfold s31 at h
    obtain ⟨rfl, hh1⟩ := dN_inv h
    obtain ⟨v0, a0, rfl, hh2⟩ := dL_inv hh1
    obtain ⟨c0, rfl, hh3⟩ := dC_inv hh2
    obtain ⟨x0, rfl, hh4⟩ := dI_inv hh3
    obtain ⟨rfl, hh5⟩ := dN_inv hh4
    rw [g31_run, Tr.ev_get (d := default) (by kernel_rfl)]
    exact hh5
/-- pontage/pontageref09.Tick -/
noncomputable def L16 : SL := [(30, .byNew, s30), (31, .byVal, s31)]
noncomputable def e16 : Env := ⟨ti, fun g => lookS g L16, 1000000, [.drop 0, .drop 5, .drop 6], []⟩
structure W16_0 where
  a0 : Int
  a1 : Int
  a2 : Int
  a3 : Int
  a4 : Int
  a5 : Int
  a6 : Int
  a7 : Bool
  a8 : Int
  a9 : Int
  a10 : Int
  a11 : Int
  a12 : Int
  a13 : Int
  a14 : Int
  a15 : Int
  a16 : Int
  a17 : Int
  a18 : Int
  a19 : Int
  a20 : Int
  a21 : Int
  a22 : Int
  a23 : Bool
  a24 : Int
  a25 : Int
  a26 : Int
  a27 : Int
  a28 : Int
  a29 : Int
  a30 : Int
  a31 : Int
  a32 : Int
  a33 : List S0
def hd16_0 (v : W16_0) : St := ⟨[.top, .c (.ptr 0 0), .c (.ptr 1 0), .c (.int .i64 v.a0), .top, .top, .top, .top, .top, .top, .top, .top, .top, .top, .top, .top, .top, .top, .top, .top, .top, .top, .top, .top, .top, .top, .top, .top, .top, .top, .top, .top, .top, .top, .top, .top, .top, .top, .top, .top, .top, .top, .top, .top, .top, .top, .top, .top, .top, .top, .top, .top, .top, .top, .top, .top, .top], [.cells [.int .u64 v.a1, .int .u8 v.a2, .int .u8 v.a3, .int .u8 v.a4, .int .u8 v.a5, .int .u8 v.a6, .bool v.a7, .int .u16 v.a8, .int .u64 v.a9, .int .u32 v.a10, .int .u64 v.a11, .int .u16 v.a12, .int .u8 v.a13, .int .u8 v.a14, .int .u8 v.a15, .int .u8 v.a16, .slw 2], .cells [.int .u64 v.a17, .int .u8 v.a18, .int .u8 v.a19, .int .u8 v.a20, .int .u8 v.a21, .int .u8 v.a22, .bool v.a23, .int .u16 v.a24, .int .u64 v.a25, .int .u32 v.a26, .int .u64 v.a27, .int .u16 v.a28, .int .u8 v.a29, .int .u8 v.a30, .int .u8 v.a31, .int .u8 v.a32, .nils], .row 0 v.a33]⟩
def gR16_0 (v : W16_0) : Tr (W16_0 ⊕ (Bool × W16_0)) :=
  .br (decide (v.a0 < (v.a33.length : Int))) (
   .br (decide (0 ≤ v.a0) && decide (v.a0 < (v.a33.length : Int))) (
    .opt (v.a33[(Int.toNat v.a0)]?) fun y215 =>
     let z216 := g31 y215.f65
     let z217 := g31 y215.f66
     let z218 := g31 y215.f67
     let z219 := g31 y215.f68
     let z220 := g31 y215.f69
     let z221 := g31 y215.f70
     let z222 := g31 y215.f71
     let z223 := g31 y215.f64
     .br (decide (0 ≤ v.a0) && decide (v.a0 < (v.a33.length : Int))) (
      .opt (v.a33[(Int.toNat v.a0)]?) fun y224 =>
       .leaf (.inl ({ v with a0 := (IntKind.i64.wrap (v.a0 + 1)), a33 := (List.set v.a33 (Int.toNat v.a0) { y215 with f64 := z223, f65 := z216, f66 := z217, f67 := z218, f68 := z219, f69 := z220, f70 := z221, f71 := z222 }) }))) (
      .fail)) (
    .fail)) (
   .leaf (.inr (false, v)))
noncomputable def lb16_0 : Code := match findB 0 (Go.Proofs.Try.f16.body.getD .skip) with | [.loop b] => b | _ => .skip
def pa16_0 : List PA := [.any, .c (.ptr 0 0), .c (.ptr 1 0), .c (.int .i64), .top, .any, .any, .top, .top, .top, .top, .top, .top, .top, .top, .top, .top, .top, .top, .top, .top, .top, .top, .top, .top, .top, .top, .top, .top, .top, .top, .top, .top, .top, .top, .top, .top, .top, .top, .top, .top, .top, .top, .top, .top, .top, .top, .top, .top, .top, .top, .top, .top, .top, .top, .top, .top]
def pb16_0 : List PB := [.cells [.int .u64, .int .u8, .int .u8, .int .u8, .int .u8, .int .u8, .bool, .int .u16, .int .u64, .int .u32, .int .u64, .int .u16, .int .u8, .int .u8, .int .u8, .int .u8, .slw 2], .cells [.int .u64, .int .u8, .int .u8, .int .u8, .int .u8, .int .u8, .bool, .int .u16, .int .u64, .int .u32, .int .u64, .int .u16, .int .u8, .int .u8, .int .u8, .int .u8, .nils], .row 0]
def ini16_0 (s : St) : W16_0 := ⟨iC (aC (s.tmps.getD 3 .top)), iC ((bL (s.heap.getD 0 .dead)).getD 0 .top), iC ((bL (s.heap.getD 0 .dead)).getD 1 .top), iC ((bL (s.heap.getD 0 .dead)).getD 2 .top), iC ((bL (s.heap.getD 0 .dead)).getD 3 .top), iC ((bL (s.heap.getD 0 .dead)).getD 4 .top), iC ((bL (s.heap.getD 0 .dead)).getD 5 .top), bC ((bL (s.heap.getD 0 .dead)).getD 6 .top), iC ((bL (s.heap.getD 0 .dead)).getD 7 .top), iC ((bL (s.heap.getD 0 .dead)).getD 8 .top), iC ((bL (s.heap.getD 0 .dead)).getD 9 .top), iC ((bL (s.heap.getD 0 .dead)).getD 10 .top), iC ((bL (s.heap.getD 0 .dead)).getD 11 .top), iC ((bL (s.heap.getD 0 .dead)).getD 12 .top), iC ((bL (s.heap.getD 0 .dead)).getD 13 .top), iC ((bL (s.heap.getD 0 .dead)).getD 14 .top), iC ((bL (s.heap.getD 0 .dead)).getD 15 .top), iC ((bL (s.heap.getD 1 .dead)).getD 0 .top), iC ((bL (s.heap.getD 1 .dead)).getD 1 .top), iC ((bL (s.heap.getD 1 .dead)).getD 2 .top), iC ((bL (s.heap.getD 1 .dead)).getD 3 .top), iC ((bL (s.heap.getD 1 .dead)).getD 4 .top), iC ((bL (s.heap.getD 1 .dead)).getD 5 .top), bC ((bL (s.heap.getD 1 .dead)).getD 6 .top), iC ((bL (s.heap.getD 1 .dead)).getD 7 .top), iC ((bL (s.heap.getD 1 .dead)).getD 8 .top), iC ((bL (s.heap.getD 1 .dead)).getD 9 .top), iC ((bL (s.heap.getD 1 .dead)).getD 10 .top), iC ((bL (s.heap.getD 1 .dead)).getD 11 .top), iC ((bL (s.heap.getD 1 .dead)).getD 12 .top), iC ((bL (s.heap.getD 1 .dead)).getD 13 .top), iC ((bL (s.heap.getD 1 .dead)).getD 14 .top), iC ((bL (s.heap.getD 1 .dead)).getD 15 .top), bR 0 (s.heap.getD 2 .dead)⟩
noncomputable def F16_0 : St → Res (Ex × St) := loopF pa16_0 pb16_0 1000000 hd16_0 gR16_0 ini16_0 false
theorem F16_0_ok (s : St) (r : Ex × St) (h : (F16_0 s).eval = some r) : (codeR e16 0 (.block 0 (.loop lb16_0)) s).eval = some r :=
  blk_ok (e := e16) (T := lookT []) (fun s v => by kernel_rfl) (fun s => by kernel_rfl) (tab_nil) s r h
def g16T (x0 : S7) : Tr (S7) :=
  .opt (g30 x0) fun z214 =>
   .opt (iter gR16_0 1000000 (W16_0.mk (0) (z214.f0) (z214.f1) (z214.f2) (z214.f3) (z214.f4) (z214.f5) (z214.f6) (z214.f7) (z214.f8) (z214.f9) (z214.f10) (z214.f11) (z214.f12) (z214.f13) (z214.f14) (z214.f15) (0) (0) (0) (0) (0) (0) (false) (0) (0) (0) (0) (0) (0) (0) (0) (0) (z214.f16))) fun r225 =>
    .br r225.1 (
     .fail) (
     .leaf ((S7.mk r225.2.a1 r225.2.a2 r225.2.a3 r225.2.a4 r225.2.a5 r225.2.a6 r225.2.a7 r225.2.a8 r225.2.a9 r225.2.a10 r225.2.a11 r225.2.a12 r225.2.a13 r225.2.a14 r225.2.a15 r225.2.a16 r225.2.a33)))
def g16 (x0 : S7) : Option (S7) := (g16T x0).get?
noncomputable def T16 : TL := [(0, F16_0)]
noncomputable def q16 : Ab.Spec := frzR [[none, none, none, none, none, none, none, none, none, none, none, none, none, none, none, none, some 0]] (runQ0 e16 (lookT T16) Go.Proofs.Try.f16)
theorem q16_ok : SpecOk Go.Proofs.Try.prog 16 q16 := (runQ0_ok (runR_ok (e := e16) follows (allTI ti_ok _ _ _ _) (callsOk_cons s30_ok (callsOk_cons s31_ok (callsOk_nil))) Go.Proofs.Try.func16 Go.Proofs.Try.call16) (fun c hc => by
  have hb : c = Go.Proofs.Try.f16.body.getD .skip := by rw [hc]; rfl
  subst hb
  exact tab_cons (by kernel_rfl) F16_0_ok (tab_nil))).froze [[none, none, none, none, none, none, none, none, none, none, none, none, none, none, none, none, some 0]]
theorem g16_run (x0 : S7) : (q16 [.agg (Cod.enc 7 x0)] []).eval = (g16T x0).ev fun r => ((.agg (Cod.enc 7 r) : AV), ([] : List Blk)) := by kernel_rfl
noncomputable def s16_0 : Ab.Spec := fun args h =>
  dN h <| dL args fun v0 a0 => dG v0 fun l0 => dE 7 l0 fun x0 => dN a0 <|
  .opt (g16 x0) fun r => .val (.agg (Cod.enc 7 r), [])
theorem s16_0_ok : SpecOk Go.Proofs.Try.prog 16 s16_0 :=
  q16_ok.less fun args hs r h => by
    unfold s16_0 at h
    obtain ⟨rfl, hh1⟩ := dN_inv h
    obtain ⟨v0, a0, rfl, hh2⟩ := dL_inv hh1
    obtain ⟨l0, rfl, hh3⟩ := dG_inv hh2
    obtain ⟨x0, rfl, hh4⟩ := dE_inv hh3
    obtain ⟨rfl, hh5⟩ := dN_inv hh4
    rw [g16_run, Tr.ev_get?]
    change (Res.opt (g16 x0) _).eval = some r at hh5
    rw [eval_opt] at hh5
    obtain ⟨z, hz, hh6⟩ := Option.bind_eq_some_iff.mp hh5
    unfold g16 at hz
    rw [hz]; exact hh6
noncomputable def s16 : Ab.Spec := fun args h => s16_0 (coeA [[none, none, none, none, none, none, none, none, none, none, none, none, none, none, none, none, some 0]] args) h
theorem s16_ok : SpecOk Go.Proofs.Try.prog 16 s16 := s16_0_ok.pre [[none, none, none, none, none, none, none, none, none, none, none, none, none, none, none, none, some 0]]
/-- pontage/pontagelaw11.PimAges -/
noncomputable def L5 : SL := [(7, .byNew, s7), (14, .byVal, s14), (13, .byVal, s13), (15, .byNew, s15), (8, .byNew, s8), (10, .byVal, s10), (16, .byNew, s16)]
noncomputable def e5 : Env := ⟨ti, fun g => lookS g L5, 1000000, [.drop 0, .drop 3, .drop 11, .drop 12, .drop 13, .drop 14, .drop 15, .drop 16, .drop 17, .drop 18, .drop 19, .drop 20, .drop 21, .drop 22, .drop 23, .drop 24, .drop 25, .drop 26, .drop 27, .drop 28, .drop 29, .drop 30, .drop 31], []⟩
structure W5_0 where
  a0 : Int
  a1 : Bool
  a2 : Int
  a3 : Int
  a4 : Int
  a5 : Int
  a6 : Int
  a7 : Int
  a8 : Int
  a9 : Bool
  a10 : Int
  a11 : Int
  a12 : Int
  a13 : Int
  a14 : Int
  a15 : Int
  a16 : Int
  a17 : Int
  a18 : Int
  a19 : List S0
  a20 : S0
def hd5_0 (v : W5_0) : St := ⟨[.top, .c (.int .i64 v.a0), .c (.ptr 0 0), .top, .c (.bool v.a1), .c (.ptr 1 0), .c (.int .i64 v.a2), .top, .top, .top, .top, .top, .top, .top, .top, .top, .top, .top, .top, .top, .top, .top, .top, .top, .top, .top, .top, .top, .top, .top, .top, .top, .top, .top, .top, .top, .top, .top, .top, .top, .top, .top, .top, .top, .top, .top, .top, .top, .top, .top, .top, .top, .top, .top, .top, .top, .top, .top, .top, .top, .top, .top, .top, .top, .top, .top, .top, .top, .top, .top, .top, .top, .top, .top, .top, .top, .top, .top, .top, .top, .top, .top, .top, .top, .top, .top, .top, .top, .top, .top, .top, .top, .top, .top, .top, .top, .top, .top, .top], [.cells [.int .u64 v.a3, .int .u8 v.a4, .int .u8 v.a5, .int .u8 v.a6, .int .u8 v.a7, .int .u8 v.a8, .bool v.a9, .int .u16 v.a10, .int .u64 v.a11, .int .u32 v.a12, .int .u64 v.a13, .int .u16 v.a14, .int .u8 v.a15, .int .u8 v.a16, .int .u8 v.a17, .int .u8 v.a18, .rs 0 v.a19], .cells [.int .u16 v.a20.f0, .int .u32 v.a20.f1, .bool v.a20.f2, .bool v.a20.f3, .bool v.a20.f4, .bool v.a20.f5, .bool v.a20.f6, .bool v.a20.f7, .bool v.a20.f8, .bool v.a20.f9, .bool v.a20.f10, .bool v.a20.f11, .bool v.a20.f12, .bool v.a20.f13, .bool v.a20.f14, .bool v.a20.f15, .bool v.a20.f16, .bool v.a20.f17, .bool v.a20.f18, .bool v.a20.f19, .bool v.a20.f20, .bool v.a20.f21, .bool v.a20.f22, .bool v.a20.f23, .bool v.a20.f24, .bool v.a20.f25, .bool v.a20.f26, .bool v.a20.f27, .bool v.a20.f28, .int .i64 v.a20.f29, .int .i64 v.a20.f30, .int .i64 v.a20.f31, .int .u64 v.a20.f32, .int .u32 v.a20.f33, .int .u64 v.a20.f34, .int .u16 v.a20.f35, .int .u64 v.a20.f36, .int .u32 v.a20.f37, .int .u64 v.a20.f38, .int .u16 v.a20.f39, .int .u8 v.a20.f40, .int .u8 v.a20.f41, .int .u8 v.a20.f42, .int .u8 v.a20.f43, .int .u8 v.a20.f44, .int .u8 v.a20.f45, .int .u8 v.a20.f46, .int .u8 v.a20.f47, .int .i64 v.a20.f48, .bool v.a20.f49, .bool v.a20.f50, .bool v.a20.f51, .bool v.a20.f52, .bool v.a20.f53, .bool v.a20.f54, .int .i64 v.a20.f55, .int .u64 v.a20.f56, .int .u32 v.a20.f57, .int .u64 v.a20.f58, .int .u16 v.a20.f59, .int .u8 v.a20.f60, .int .u8 v.a20.f61, .int .u8 v.a20.f62, .int .u8 v.a20.f63, .int .u8 v.a20.f64, .int .u8 v.a20.f65, .int .u8 v.a20.f66, .int .u8 v.a20.f67, .int .u8 v.a20.f68, .int .u8 v.a20.f69, .int .u8 v.a20.f70, .int .u8 v.a20.f71, .int .i64 v.a20.f72, .int .i64 v.a20.f73, .int .i64 v.a20.f74, .int .i64 v.a20.f75, .int .i64 v.a20.f76]]⟩
def gR5_0 (v : W5_0) : Tr (W5_0 ⊕ (Bool × W5_0)) :=
  .br (decide (v.a2 < (IntKind.i64.wrap v.a20.f69))) (
   .opt (g8 (S7.mk v.a3 v.a4 v.a5 v.a6 v.a7 v.a8 v.a9 v.a10 v.a11 v.a12 v.a13 v.a14 v.a15 v.a16 v.a17 v.a18 v.a19) v.a0) fun z231 =>
    .br (!z231.2) (
     .opt (g10 z231.1 (S7.mk v.a3 v.a4 v.a5 v.a6 v.a7 v.a8 v.a9 v.a10 v.a11 v.a12 v.a13 v.a14 v.a15 v.a16 v.a17 v.a18 v.a19)) fun z233 =>
      .br (!z233) (
       .leaf (.inr (true, { v with a1 := false }))) (
       .opt (g16 (S7.mk v.a3 v.a4 v.a5 v.a6 v.a7 v.a8 v.a9 v.a10 v.a11 v.a12 v.a13 v.a14 v.a15 v.a16 v.a17 v.a18 v.a19)) fun z234 =>
        .leaf (.inl ({ v with a2 := (IntKind.i64.wrap (v.a2 + 1)), a3 := z234.f0, a4 := z234.f1, a5 := z234.f2, a6 := z234.f3, a7 := z234.f4, a8 := z234.f5, a9 := z234.f6, a10 := z234.f7, a11 := z234.f8, a12 := z234.f9, a13 := z234.f10, a14 := z234.f11, a15 := z234.f12, a16 := z234.f13, a17 := z234.f14, a18 := z234.f15, a19 := z234.f16 })))) (
     .leaf (.inr (true, { v with a1 := false })))) (
   .leaf (.inr (false, v)))
noncomputable def lb5_0 : Code := match findB 0 (Go.Proofs.Try.f5.body.getD .skip) with | [.loop b] => b | _ => .skip
def pa5_0 : List PA := [.any, .c (.int .i64), .c (.ptr 0 0), .any, .c (.bool), .c (.ptr 1 0), .c (.int .i64), .top, .top, .top, .top, .any, .any, .any, .any, .any, .any, .any, .any, .any, .any, .any, .any, .any, .any, .any, .any, .any, .any, .any, .any, .any, .top, .top, .top, .top, .top, .top, .top, .top, .top, .top, .top, .top, .top, .top, .top, .top, .top, .top, .top, .top, .top, .top, .top, .top, .top, .top, .top, .top, .top, .top, .top, .top, .top, .top, .top, .top, .top, .top, .top, .top, .top, .top, .top, .top, .top, .top, .top, .top, .top, .top, .top, .top, .top, .top, .top, .top, .top, .top, .top, .top, .top, .top, .top, .top, .top, .top, .top]
def pb5_0 : List PB := [.cells [.int .u64, .int .u8, .int .u8, .int .u8, .int .u8, .int .u8, .bool, .int .u16, .int .u64, .int .u32, .int .u64, .int .u16, .int .u8, .int .u8, .int .u8, .int .u8, .rs 0], .cells [.int .u16, .int .u32, .bool, .bool, .bool, .bool, .bool, .bool, .bool, .bool, .bool, .bool, .bool, .bool, .bool, .bool, .bool, .bool, .bool, .bool, .bool, .bool, .bool, .bool, .bool, .bool, .bool, .bool, .bool, .int .i64, .int .i64, .int .i64, .int .u64, .int .u32, .int .u64, .int .u16, .int .u64, .int .u32, .int .u64, .int .u16, .int .u8, .int .u8, .int .u8, .int .u8, .int .u8, .int .u8, .int .u8, .int .u8, .int .i64, .bool, .bool, .bool, .bool, .bool, .bool, .int .i64, .int .u64, .int .u32, .int .u64, .int .u16, .int .u8, .int .u8, .int .u8, .int .u8, .int .u8, .int .u8, .int .u8, .int .u8, .int .u8, .int .u8, .int .u8, .int .u8, .int .i64, .int .i64, .int .i64, .int .i64, .int .i64]]
def ini5_0 (s : St) : W5_0 := ⟨iC (aC (s.tmps.getD 1 .top)), bC (aC (s.tmps.getD 4 .top)), iC (aC (s.tmps.getD 6 .top)), iC ((bL (s.heap.getD 0 .dead)).getD 0 .top), iC ((bL (s.heap.getD 0 .dead)).getD 1 .top), iC ((bL (s.heap.getD 0 .dead)).getD 2 .top), iC ((bL (s.heap.getD 0 .dead)).getD 3 .top), iC ((bL (s.heap.getD 0 .dead)).getD 4 .top), iC ((bL (s.heap.getD 0 .dead)).getD 5 .top), bC ((bL (s.heap.getD 0 .dead)).getD 6 .top), iC ((bL (s.heap.getD 0 .dead)).getD 7 .top), iC ((bL (s.heap.getD 0 .dead)).getD 8 .top), iC ((bL (s.heap.getD 0 .dead)).getD 9 .top), iC ((bL (s.heap.getD 0 .dead)).getD 10 .top), iC ((bL (s.heap.getD 0 .dead)).getD 11 .top), iC ((bL (s.heap.getD 0 .dead)).getD 12 .top), iC ((bL (s.heap.getD 0 .dead)).getD 13 .top), iC ((bL (s.heap.getD 0 .dead)).getD 14 .top), iC ((bL (s.heap.getD 0 .dead)).getD 15 .top), rC 0 ((bL (s.heap.getD 0 .dead)).getD 16 .top), rd0 (bL (s.heap.getD 1 .dead))⟩
noncomputable def F5_0 : St → Res (Ex × St) := loopF pa5_0 pb5_0 1000000 hd5_0 gR5_0 ini5_0 true
theorem F5_0_ok (s : St) (r : Ex × St) (h : (F5_0 s).eval = some r) : (codeR e5 0 (.block 0 (.loop lb5_0)) s).eval = some r :=
  blk_ok (e := e5) (T := lookT []) (fun s v => by kernel_rfl) (fun s => by kernel_rfl) (tab_nil) s r h
def g5T (x0 : S7) (x1 : Int) : Tr (Bool) :=
  .opt (g7 x0) fun z226 =>
   let z227 := g14 z226 x1
   .br (!z227) (
    .opt (g13 ) fun z228 =>
     .leaf (z228)) (
    .br (decide (0 ≤ x1)) (
     .opt (z226.f16[Int.toNat x1]?) fun y229 =>
      .opt (g15 z226 x1 { y229 with f2 := true, f14 := false, f28 := false, f29 := 3, f72 := 3 }) fun z230 =>
       .opt (iter gR5_0 1000000 (W5_0.mk (x1) (false) (0) (z230.f0) (z230.f1) (z230.f2) (z230.f3) (z230.f4) (z230.f5) (z230.f6) (z230.f7) (z230.f8) (z230.f9) (z230.f10) (z230.f11) (z230.f12) (z230.f13) (z230.f14) (z230.f15) (z230.f16) ({ y229 with f2 := true, f14 := false, f28 := false, f29 := 3, f72 := 3 }))) fun r235 =>
        .br r235.1 (
         .leaf (r235.2.a1)) (
         .opt (g8 (S7.mk r235.2.a3 r235.2.a4 r235.2.a5 r235.2.a6 r235.2.a7 r235.2.a8 r235.2.a9 r235.2.a10 r235.2.a11 r235.2.a12 r235.2.a13 r235.2.a14 r235.2.a15 r235.2.a16 r235.2.a17 r235.2.a18 r235.2.a19) r235.2.a0) fun z236 =>
          .br (bif z236.2 then ((z236.1.f16.length : Int) == (r235.2.a19.length : Int)) else false) (
           .br (decide (0 ≤ r235.2.a0)) (
            .opt (z236.1.f16[Int.toNat r235.2.a0]?) fun y238 =>
             .br (y238.f29 == 1) (
              .br (decide (0 ≤ r235.2.a0)) (
               .opt (z236.1.f16[Int.toNat r235.2.a0]?) fun y240 =>
                .br (y240.f72 == 2) (
                 .br (decide (0 ≤ r235.2.a0)) (
                  .opt (z236.1.f16[Int.toNat r235.2.a0]?) fun y242 =>
                   .br y242.f21 (
                    .opt (g13 ) fun z244 =>
                     .leaf (z244)) (
                    .leaf (false))) (
                  .fail)) (
                 .leaf (false))) (
               .fail)) (
              .leaf (false))) (
            .fail)) (
           .leaf (false)))) (
     .fail))
def g5 (x0 : S7) (x1 : Int) : Option (Bool) := (g5T x0 x1).get?
noncomputable def T5 : TL := [(0, F5_0)]
noncomputable def q5 : Ab.Spec := runQ0 e5 (lookT T5) Go.Proofs.Try.f5
theorem q5_ok : SpecOk Go.Proofs.Try.prog 5 q5 := (runQ0_ok (runR_ok (e := e5) follows (allTI ti_ok _ _ _ _) (callsOk_cons s7_ok (callsOk_cons s14_ok (callsOk_cons s13_ok (callsOk_cons s15_ok (callsOk_cons s8_ok (callsOk_cons s10_ok (callsOk_cons s16_ok (callsOk_nil)))))))) Go.Proofs.Try.func5 Go.Proofs.Try.call5) (fun c hc => by
  have hb : c = Go.Proofs.Try.f5.body.getD .skip := by rw [hc]; rfl
  subst hb
  exact tab_cons (by kernel_rfl) F5_0_ok (tab_nil)))
theorem g5_run (x0 : S7) (x1 : Int) : (q5 [.agg (Cod.enc 7 x0), .c (.int .i64 x1)] []).eval = (g5T x0 x1).ev fun r => ((.c (.bool r) : AV), ([] : List Blk)) := by kernel_rfl
noncomputable def s5_0 : Ab.Spec := fun args h =>
  dN h <| dL args fun v0 a0 => dG v0 fun l0 => dE 7 l0 fun x0 => dL a0 fun v1 a1 => dC v1 fun c0 => dI .i64 c0 fun x1 => dN a1 <|
  .opt (g5 x0 x1) fun r => .val (.c (.bool r), [])
theorem s5_0_ok : SpecOk Go.Proofs.Try.prog 5 s5_0 :=
  q5_ok.less fun args hs r h => by
    unfold s5_0 at h
    obtain ⟨rfl, hh1⟩ := dN_inv h
    obtain ⟨v0, a0, rfl, hh2⟩ := dL_inv hh1
    obtain ⟨l0, rfl, hh3⟩ := dG_inv hh2
    obtain ⟨x0, rfl, hh4⟩ := dE_inv hh3
    obtain ⟨v1, a1, rfl, hh5⟩ := dL_inv hh4
    obtain ⟨c0, rfl, hh6⟩ := dC_inv hh5
    obtain ⟨x1, rfl, hh7⟩ := dI_inv hh6
    obtain ⟨rfl, hh8⟩ := dN_inv hh7
    rw [g5_run, Tr.ev_get?]
    change (Res.opt (g5 x0 x1) _).eval = some r at hh8
    rw [eval_opt] at hh8
    obtain ⟨z, hz, hh9⟩ := Option.bind_eq_some_iff.mp hh8
    unfold g5 at hz
    rw [hz]; exact hh9
noncomputable def s5 : Ab.Spec := fun args h => s5_0 (coeA [[none, none, none, none, none, none, none, none, none, none, none, none, none, none, none, none, some 0], []] args) h
theorem s5_ok : SpecOk Go.Proofs.Try.prog 5 s5 := s5_0_ok.pre [[none, none, none, none, none, none, none, none, none, none, none, none, none, none, none, none, some 0], []]
/-- pontage/pontagelaw11.PimDown -/
noncomputable def L6 : SL := [(7, .byNew, s7), (14, .byVal, s14), (13, .byVal, s13), (17, .byNew, s17), (8, .byNew, s8), (11, .byNew, s11)]
noncomputable def e6 : Env := ⟨ti, fun g => lookS g L6, 1000000, [.drop 0, .drop 2, .drop 4, .drop 12, .drop 13, .drop 14, .drop 15, .drop 16, .drop 17, .drop 18, .drop 19, .drop 20, .drop 21], []⟩
def g6T (x0 : S7) (x1 : Int) (x2 : S8) : Tr (Bool) :=
  .opt (g7 x0) fun z251 =>
   let z252 := g14 z251 x1
   .br (!z252) (
    .opt (g13 ) fun z253 =>
     .leaf (z253)) (
    .opt (g17 z251 x1 false) fun z254 =>
     .opt (g8 z254 x1) fun z255 =>
      .br (!z255.2) (
       .opt (g11 z254 x1 x2) fun z256 =>
        .opt (g8 z256 x1) fun z257 =>
         let z258 := g14 z257.1 x1
         .br (bif ((z257.1.f16.length : Int) != (z256.f16.length : Int)) then true else (!z258)) (
          .leaf (false)) (
          .br (!z257.2) (
           .br (decide (0 ≤ x1)) (
            .opt (z257.1.f16[Int.toNat x1]?) fun y260 =>
             .br (!(y260.f72 == 1)) (
              .br (decide (0 ≤ x1)) (
               .opt (z256.f16[Int.toNat x1]?) fun y262 =>
                .br (y262.f29 == 0) (
                 .br (decide (0 ≤ x1)) (
                  .opt (z257.1.f16[Int.toNat x1]?) fun y264 =>
                   .br (y264.f29 == 0) (
                    .opt (g13 ) fun z266 =>
                     .leaf (z266)) (
                    .leaf (false))) (
                  .fail)) (
                 .leaf (false))) (
               .fail)) (
              .br (decide (0 ≤ x1)) (
               .opt (z257.1.f16[Int.toNat x1]?) fun y269 =>
                .br (y269.f29 == 0) (
                 .opt (g13 ) fun z271 =>
                  .leaf (z271)) (
                 .leaf (false))) (
               .fail))) (
            .fail)) (
           .fail))) (
       .opt (g8 z255.1 x1) fun z273 =>
        .br (!z273.2) (
         .opt (g11 z255.1 x1 x2) fun z274 =>
          .opt (g8 z274 x1) fun z275 =>
           let z276 := g14 z275.1 x1
           .br (bif ((z275.1.f16.length : Int) != (z274.f16.length : Int)) then true else (!z276)) (
            .leaf (false)) (
            .br (!z275.2) (
             .br (decide (0 ≤ x1)) (
              .opt (z275.1.f16[Int.toNat x1]?) fun y278 =>
               .br (!(y278.f72 == 1)) (
                .br (decide (0 ≤ x1)) (
                 .opt (z274.f16[Int.toNat x1]?) fun y280 =>
                  .br (y280.f29 == 0) (
                   .br (decide (0 ≤ x1)) (
                    .opt (z275.1.f16[Int.toNat x1]?) fun y282 =>
                     .br (y282.f29 == 0) (
                      .opt (g13 ) fun z284 =>
                       .leaf (z284)) (
                      .leaf (false))) (
                    .fail)) (
                   .leaf (false))) (
                 .fail)) (
                .br (decide (0 ≤ x1)) (
                 .opt (z275.1.f16[Int.toNat x1]?) fun y287 =>
                  .br (y287.f29 == 0) (
                   .opt (g13 ) fun z289 =>
                    .leaf (z289)) (
                   .leaf (false))) (
                 .fail))) (
              .fail)) (
             .fail))) (
         .opt (g8 z273.1 x1) fun z291 =>
          .br (!z291.2) (
           .opt (g11 z273.1 x1 x2) fun z292 =>
            .opt (g8 z292 x1) fun z293 =>
             let z294 := g14 z293.1 x1
             .br (bif ((z293.1.f16.length : Int) != (z292.f16.length : Int)) then true else (!z294)) (
              .leaf (false)) (
              .br (!z293.2) (
               .br (decide (0 ≤ x1)) (
                .opt (z293.1.f16[Int.toNat x1]?) fun y296 =>
                 .br (!(y296.f72 == 1)) (
                  .br (decide (0 ≤ x1)) (
                   .opt (z292.f16[Int.toNat x1]?) fun y298 =>
                    .br (y298.f29 == 0) (
                     .br (decide (0 ≤ x1)) (
                      .opt (z293.1.f16[Int.toNat x1]?) fun y300 =>
                       .br (y300.f29 == 0) (
                        .opt (g13 ) fun z302 =>
                         .leaf (z302)) (
                        .leaf (false))) (
                      .fail)) (
                     .leaf (false))) (
                   .fail)) (
                  .br (decide (0 ≤ x1)) (
                   .opt (z293.1.f16[Int.toNat x1]?) fun y305 =>
                    .br (y305.f29 == 0) (
                     .opt (g13 ) fun z307 =>
                      .leaf (z307)) (
                     .leaf (false))) (
                   .fail))) (
                .fail)) (
               .fail))) (
           .opt (g11 z291.1 x1 x2) fun z309 =>
            .opt (g8 z309 x1) fun z310 =>
             let z311 := g14 z310.1 x1
             .br (bif ((z310.1.f16.length : Int) != (z309.f16.length : Int)) then true else (!z311)) (
              .leaf (false)) (
              .br (!z310.2) (
               .br (decide (0 ≤ x1)) (
                .opt (z310.1.f16[Int.toNat x1]?) fun y313 =>
                 .br (!(y313.f72 == 1)) (
                  .br (decide (0 ≤ x1)) (
                   .opt (z309.f16[Int.toNat x1]?) fun y315 =>
                    .br (y315.f29 == 0) (
                     .br (decide (0 ≤ x1)) (
                      .opt (z310.1.f16[Int.toNat x1]?) fun y317 =>
                       .br (y317.f29 == 0) (
                        .opt (g13 ) fun z319 =>
                         .leaf (z319)) (
                        .leaf (false))) (
                      .fail)) (
                     .leaf (false))) (
                   .fail)) (
                  .br (decide (0 ≤ x1)) (
                   .opt (z310.1.f16[Int.toNat x1]?) fun y322 =>
                    .br (y322.f29 == 0) (
                     .opt (g13 ) fun z324 =>
                      .leaf (z324)) (
                     .leaf (false))) (
                   .fail))) (
                .fail)) (
               .fail))))))
def g6 (x0 : S7) (x1 : Int) (x2 : S8) : Option (Bool) := (g6T x0 x1 x2).get?
noncomputable def T6 : TL := []
noncomputable def q6 : Ab.Spec := runQ0 e6 (lookT T6) Go.Proofs.Try.f6
theorem q6_ok : SpecOk Go.Proofs.Try.prog 6 q6 := (runQ0_ok (runR_ok (e := e6) follows (allTI ti_ok _ _ _ _) (callsOk_cons s7_ok (callsOk_cons s14_ok (callsOk_cons s13_ok (callsOk_cons s17_ok (callsOk_cons s8_ok (callsOk_cons s11_ok (callsOk_nil))))))) Go.Proofs.Try.func6 Go.Proofs.Try.call6) (fun c hc => by
  have hb : c = Go.Proofs.Try.f6.body.getD .skip := by rw [hc]; rfl
  subst hb
  exact tab_nil))
theorem g6_run (x0 : S7) (x1 : Int) (x2 : S8) : (q6 [.agg (Cod.enc 7 x0), .c (.int .i64 x1), .agg (Cod.enc 8 x2)] []).eval = (g6T x0 x1 x2).ev fun r => ((.c (.bool r) : AV), ([] : List Blk)) := by kernel_rfl
noncomputable def s6_0 : Ab.Spec := fun args h =>
  dN h <| dL args fun v0 a0 => dG v0 fun l0 => dE 7 l0 fun x0 => dL a0 fun v1 a1 => dC v1 fun c0 => dI .i64 c0 fun x1 => dL a1 fun v2 a2 => dG v2 fun l2 => dE 8 l2 fun x2 => dN a2 <|
  .opt (g6 x0 x1 x2) fun r => .val (.c (.bool r), [])
theorem s6_0_ok : SpecOk Go.Proofs.Try.prog 6 s6_0 :=
  q6_ok.less fun args hs r h => by
    unfold s6_0 at h
    obtain ⟨rfl, hh1⟩ := dN_inv h
    obtain ⟨v0, a0, rfl, hh2⟩ := dL_inv hh1
    obtain ⟨l0, rfl, hh3⟩ := dG_inv hh2
    obtain ⟨x0, rfl, hh4⟩ := dE_inv hh3
    obtain ⟨v1, a1, rfl, hh5⟩ := dL_inv hh4
    obtain ⟨c0, rfl, hh6⟩ := dC_inv hh5
    obtain ⟨x1, rfl, hh7⟩ := dI_inv hh6
    obtain ⟨v2, a2, rfl, hh8⟩ := dL_inv hh7
    obtain ⟨l2, rfl, hh9⟩ := dG_inv hh8
    obtain ⟨x2, rfl, hh10⟩ := dE_inv hh9
    obtain ⟨rfl, hh11⟩ := dN_inv hh10
    rw [g6_run, Tr.ev_get?]
    change (Res.opt (g6 x0 x1 x2) _).eval = some r at hh11
    rw [eval_opt] at hh11
    obtain ⟨z, hz, hh12⟩ := Option.bind_eq_some_iff.mp hh11
    unfold g6 at hz
    rw [hz]; exact hh12
noncomputable def s6 : Ab.Spec := fun args h => s6_0 (coeA [[none, none, none, none, none, none, none, none, none, none, none, none, none, none, none, none, some 0], [], []] args) h
theorem s6_ok : SpecOk Go.Proofs.Try.prog 6 s6 := s6_0_ok.pre [[none, none, none, none, none, none, none, none, none, none, none, none, none, none, none, none, some 0], [], []]
end Ab11
