/- Seat 31: the functions. -/
import Derived.Test.YtcdimepfojdjdaaAb31a
set_option maxRecDepth 100000
set_option maxHeartbeats 4000000
set_option linter.unusedVariables false
set_option linter.unusedSimpArgs false
namespace Ab31
open Go Ab
/-- pontage/pontagelaw31.small -/
noncomputable def L7 : SL := []
noncomputable def e7 : Env := ⟨ti, fun g => lookS g L7, 1000000, [], [], none⟩
def g7T (x0 : S7) : Tr (S7) :=
  .leaf ((S7.mk (IntKind.i64.wrap (remI (IntKind.u64.wrap x0.f0) 300)) (IntKind.i64.wrap (remI (IntKind.u64.wrap x0.f1) 3000)) (IntKind.i64.wrap (remI (IntKind.u64.wrap x0.f2) 300)) (IntKind.i64.wrap (remI (IntKind.u64.wrap x0.f3) 3000)) x0.f4 x0.f5))
def g7 (x0 : S7) : S7 := (g7T x0).get default
noncomputable def T7 : TL := []
noncomputable def q7 : Ab.Spec := runQ0 e7 (lookT T7) Go.Proofs.Try.f7
theorem q7_ok : SpecOk Go.Proofs.Try.prog 7 q7 := (runQ0_ok (runR_ok (e := e7) follows (allTI ti_ok _ _ _ _ _) (callsOk_nil) Go.Proofs.Try.func7 Go.Proofs.Try.call7) (fun c hc => by
  have hb : c = Go.Proofs.Try.f7.body.getD .skip := by rw [hc]; rfl
  subst hb
  exact tab_nil))
theorem g7_run (x0 : S7) : (q7 [.agg (Cod.enc 7 x0)] []).eval = (g7T x0).ev fun r => ((.agg (Cod.enc 7 r) : AV), ([] : List Blk)) := by kernel_rfl
noncomputable def s7 : Ab.Spec := fun args h =>
  dN h <| dL args fun v0 a0 => dG v0 fun l0 => dE 7 l0 fun x0 => dN a0 <|
  let r := g7 x0; .val (.agg (Cod.enc 7 r), [])
theorem s7_ok : SpecOk Go.Proofs.Try.prog 7 s7 :=
  q7_ok.less fun args hs r h => by
    unfold s7 at h
    obtain ⟨rfl, hh1⟩ := dN_inv h
    obtain ⟨v0, a0, rfl, hh2⟩ := dL_inv hh1
    obtain ⟨l0, rfl, hh3⟩ := dG_inv hh2
    obtain ⟨x0, rfl, hh4⟩ := dE_inv hh3
    obtain ⟨rfl, hh5⟩ := dN_inv hh4
    rw [g7_run, Tr.ev_get (d := default) (by kernel_rfl)]
    exact hh5
/-- pontage/meter.Check -/
noncomputable def L13 : SL := []
noncomputable def e13 : Env := ⟨ti, fun g => lookS g L13, 1000000, [.drop 0, .drop 1, .drop 3, .drop 4, .drop 5, .drop 6, .drop 7, .drop 8, .drop 9, .drop 10, .drop 11, .drop 12, .drop 15, .drop 16, .drop 17, .drop 18, .drop 19, .drop 20, .drop 21, .drop 22, .drop 23], [], some [2]⟩
def g13T (x0 : S7) : Tr (Int) :=
  .br (bif (decide (x0.f0 < 0)) then true else (decide (x0.f0 > 1073741824))) (
   .leaf (310)) (
   .br (bif (decide (x0.f1 < 0)) then true else (decide (x0.f1 > 1073741824))) (
    .leaf (310)) (
    .br (bif (decide (x0.f2 < 0)) then true else (decide (x0.f2 > 1073741824))) (
     .leaf (310)) (
     .br (bif (decide (x0.f3 < 0)) then true else (decide (x0.f3 > 1073741824))) (
      .leaf (310)) (
      .leaf (0)))))
def g13 (x0 : S7) : Int := (g13T x0).get default
noncomputable def T13 : TL := []
noncomputable def q13 : Ab.Spec := runQ0 e13 (lookT T13) Go.Proofs.Try.f13
theorem q13_ok : SpecOk Go.Proofs.Try.prog 13 q13 := (runQ0_ok (runR_ok (e := e13) follows (allTI ti_ok _ _ _ _ _) (callsOk_nil) Go.Proofs.Try.func13 Go.Proofs.Try.call13) (fun c hc => by
  have hb : c = Go.Proofs.Try.f13.body.getD .skip := by rw [hc]; rfl
  subst hb
  exact tab_nil))
theorem g13_run (x0 : S7) : (q13 [.agg (Cod.enc 7 x0)] []).eval = (g13T x0).ev fun r => ((.c (.int .i64 r) : AV), ([] : List Blk)) := by kernel_rfl
noncomputable def s13 : Ab.Spec := fun args h =>
  dN h <| dL args fun v0 a0 => dG v0 fun l0 => dE 7 l0 fun x0 => dN a0 <|
  let r := g13 x0; .val (.c (.int .i64 r), [])
theorem s13_ok : SpecOk Go.Proofs.Try.prog 13 s13 :=
  q13_ok.less fun args hs r h => by
    unfold s13 at h
    obtain ⟨rfl, hh1⟩ := dN_inv h
    obtain ⟨v0, a0, rfl, hh2⟩ := dL_inv hh1
    obtain ⟨l0, rfl, hh3⟩ := dG_inv hh2
    obtain ⟨x0, rfl, hh4⟩ := dE_inv hh3
    obtain ⟨rfl, hh5⟩ := dN_inv hh4
    rw [g13_run, Tr.ev_get (d := default) (by kernel_rfl)]
    exact hh5
/-- pontage/meter.New -/
noncomputable def L8 : SL := [(13, .byVal, s13)]
noncomputable def e8 : Env := ⟨ti, fun g => lookS g L8, 1000000, [], [], none⟩
noncomputable def s8 : Ab.Spec := runR e8 Go.Proofs.Try.f8
theorem s8_ok : SpecOk Go.Proofs.Try.prog 8 s8 := runR_ok (e := e8) follows (allTI ti_ok _ _ _ _ _) (callsOk_cons s13_ok (callsOk_nil)) Go.Proofs.Try.func8 Go.Proofs.Try.call8
/-- (*pontage/meter.Meter).none -/
noncomputable def L18 : SL := []
noncomputable def e18 : Env := ⟨ti, fun g => lookS g L18, 1000000, [], [], none⟩
noncomputable def s18 : Ab.Spec := runR e18 Go.Proofs.Try.f18
theorem s18_ok : SpecOk Go.Proofs.Try.prog 18 s18 := runR_ok (e := e18) follows (allTI ti_ok _ _ _ _ _) (callsOk_nil) Go.Proofs.Try.func18 Go.Proofs.Try.call18
/-- (*pontage/meter.Meter).timed -/
noncomputable def L19 : SL := []
noncomputable def e19 : Env := ⟨ti, fun g => lookS g L19, 1000000, [], [], none⟩
noncomputable def s19 : Ab.Spec := runR e19 Go.Proofs.Try.f19
theorem s19_ok : SpecOk Go.Proofs.Try.prog 19 s19 := runR_ok (e := e19) follows (allTI ti_ok _ _ _ _ _) (callsOk_nil) Go.Proofs.Try.func19 Go.Proofs.Try.call19
/-- (*pontage/meter.Meter).filled$1 -/
noncomputable def L23 : SL := []
noncomputable def e23 : Env := ⟨ti, fun g => lookS g L23, 1000000, [], [], none⟩
structure V23_0 where
  a0 : Int
  a1 : S4
structure Y23_0 where
  b0 : Int
  deriving Inhabited
def hS23_0 (v : V23_0) : St := ⟨[.c (.int .i64 v.a0), .c (.rp 4 v.a1 0)], []⟩
def iS23_0 (s : St) : V23_0 := ⟨iC (aC (s.tmps.getD 0 .top)), rpC 4 (aC (s.tmps.getD 1 .top))⟩
def aS23_0 : List PA := [.c (.int .i64), .c (.rp 4 0)]
def bS23_0 : List PB := []
def g23_0T (v : V23_0) : Tr Y23_0 :=
  .br (decide (v.a0 > 0)) (
   .br (v.a0 == 0) (
    .fail) (
    .br (decide (v.a1.f0 > (quoI .i64 8589934592 v.a0))) (
     .leaf (⟨8589934592⟩)) (
     .leaf (⟨(IntKind.i64.wrap (v.a0 * v.a1.f0))⟩)))) (
   .leaf (⟨(IntKind.i64.wrap (v.a0 * v.a1.f0))⟩))
def g23_0 (v : V23_0) : Option Y23_0 := (g23_0T v).get?
def k23_0 (v : V23_0) (r : Y23_0) : AV × List Blk := (.c (.int .i64 r.b0), [])
noncomputable def q23_0 : Ab.Spec := runQh 0 e23 (lookT []) Go.Proofs.Try.f23
theorem q23_0_ok : SpecOk Go.Proofs.Try.prog 23 q23_0 := runQh_ok (runR_ok (e := e23) follows (allTI ti_ok _ _ _ _ _) (callsOk_nil) Go.Proofs.Try.func23 Go.Proofs.Try.call23) (fun c hc => by
  have hb : c = Go.Proofs.Try.f23.body.getD .skip := by rw [hc]; rfl
  subst hb
  exact tab_nil)
theorem g23_0_run (v : V23_0) : (q23_0 (hS23_0 v).tmps (hS23_0 v).heap).eval = (g23_0T v).ev (k23_0 v) := by kernel_rfl
noncomputable def sp23_0 (v : V23_0) : Res (AV × List Blk) := .opt (g23_0 v) fun r => .val (k23_0 v r)
theorem sp23_0_ok (v : V23_0) (r : AV × List Blk) (h : (sp23_0 v).eval = some r) : (q23_0 (hS23_0 v).tmps (hS23_0 v).heap).eval = some r := by
  rw [g23_0_run, Tr.ev_get?]
  unfold sp23_0 at h
  rw [eval_opt] at h
  obtain ⟨z, hz, h⟩ := Option.bind_eq_some_iff.mp h
  unfold g23_0 at hz
  rw [hz]; exact h
noncomputable def s23 : Ab.Spec := shapeS aS23_0 bS23_0 (fun args h => sp23_0 (iS23_0 ⟨args, h⟩)) (runR e23 Go.Proofs.Try.f23)
theorem s23_ok : SpecOk Go.Proofs.Try.prog 23 s23 := shape_ok hS23_0 iS23_0 q23_0_ok ((runR_ok (e := e23) follows (allTI ti_ok _ _ _ _ _) (callsOk_nil) Go.Proofs.Try.func23 Go.Proofs.Try.call23)) (fun s => by kernel_rfl) sp23_0_ok
/-- (*pontage/meter.Meter).filled -/
noncomputable def L20 : SL := [(23, .byRead [none, some 4], s23)]
noncomputable def e20 : Env := ⟨ti, fun g => lookS g L20, 1000000, [], [], none⟩
structure V20_0 where
  a0 : Int
  a1 : S3
structure Y20_0 where
  b0 : S3
  b1 : S3
  deriving Inhabited
def hS20_0 (v : V20_0) : St := ⟨[.c (.ptr 0 0), .c (.int .i64 v.a0)], [.cells [.int .i64 v.a1.f0, .int .i64 v.a1.f1, .int .i64 v.a1.f2, .int .i64 v.a1.f3, .bool v.a1.f4, .bool v.a1.f5, .int .i64 v.a1.f6, .int .i64 v.a1.f7, .int .i64 v.a1.f8, .bool v.a1.f9]]⟩
def iS20_0 (s : St) : V20_0 := ⟨iC (aC (s.tmps.getD 1 .top)), rd3 (bL (s.heap.getD 0 .dead))⟩
def aS20_0 : List PA := [.c (.ptr 0 0), .c (.int .i64)]
def bS20_0 : List PB := [.cells [.int .i64, .int .i64, .int .i64, .int .i64, .bool, .bool, .int .i64, .int .i64, .int .i64, .bool]]
def g20_0T (v : V20_0) : Tr Y20_0 :=
  .opt (g23_0 (V23_0.mk (v.a1.f0) ((S4.mk (IntKind.i64.wrap (v.a0 - v.a1.f8)))))) fun z9 =>
   .br v.a1.f4 (
    .opt (g23_0 (V23_0.mk (v.a1.f2) ((S4.mk (IntKind.i64.wrap (v.a0 - v.a1.f8)))))) fun z10 =>
     .leaf (⟨(S3.mk v.a1.f0 v.a1.f1 v.a1.f2 v.a1.f3 v.a1.f4 v.a1.f5 (mnI (IntKind.i64.wrap (v.a1.f6 + z9.b0)) v.a1.f1) (mnI (IntKind.i64.wrap ((IntKind.i64.wrap (v.a1.f7 + z10.b0)) + (IntKind.i64.wrap ((IntKind.i64.wrap (v.a1.f6 + z9.b0)) - (mnI (IntKind.i64.wrap (v.a1.f6 + z9.b0)) v.a1.f1))))) v.a1.f3) v.a0 v.a1.f9), (S3.mk v.a1.f0 v.a1.f1 v.a1.f2 v.a1.f3 v.a1.f4 v.a1.f5 v.a1.f6 v.a1.f7 v.a1.f8 v.a1.f9)⟩)) (
    .opt (g23_0 (V23_0.mk (v.a1.f2) ((S4.mk (IntKind.i64.wrap (v.a0 - v.a1.f8)))))) fun z11 =>
     .leaf (⟨(S3.mk v.a1.f0 v.a1.f1 v.a1.f2 v.a1.f3 v.a1.f4 v.a1.f5 (mnI (IntKind.i64.wrap (v.a1.f6 + z9.b0)) v.a1.f1) (mnI (IntKind.i64.wrap ((IntKind.i64.wrap (v.a1.f7 + z11.b0)) + 0)) v.a1.f3) v.a0 v.a1.f9), (S3.mk v.a1.f0 v.a1.f1 v.a1.f2 v.a1.f3 v.a1.f4 v.a1.f5 v.a1.f6 v.a1.f7 v.a1.f8 v.a1.f9)⟩))
def g20_0 (v : V20_0) : Option Y20_0 := (g20_0T v).get?
def k20_0 (v : V20_0) (r : Y20_0) : AV × List Blk := (.agg [.int .i64 r.b0.f0, .int .i64 r.b0.f1, .int .i64 r.b0.f2, .int .i64 r.b0.f3, .bool r.b0.f4, .bool r.b0.f5, .int .i64 r.b0.f6, .int .i64 r.b0.f7, .int .i64 r.b0.f8, .bool r.b0.f9], [.cells [.int .i64 r.b1.f0, .int .i64 r.b1.f1, .int .i64 r.b1.f2, .int .i64 r.b1.f3, .bool r.b1.f4, .bool r.b1.f5, .int .i64 r.b1.f6, .int .i64 r.b1.f7, .int .i64 r.b1.f8, .bool r.b1.f9]])
noncomputable def q20_0 : Ab.Spec := runQh 1 e20 (lookT []) Go.Proofs.Try.f20
theorem q20_0_ok : SpecOk Go.Proofs.Try.prog 20 q20_0 := runQh_ok (runR_ok (e := e20) follows (allTI ti_ok _ _ _ _ _) (callsOk_cons s23_ok (callsOk_nil)) Go.Proofs.Try.func20 Go.Proofs.Try.call20) (fun c hc => by
  have hb : c = Go.Proofs.Try.f20.body.getD .skip := by rw [hc]; rfl
  subst hb
  exact tab_nil)
theorem g20_0_run (v : V20_0) : (q20_0 (hS20_0 v).tmps (hS20_0 v).heap).eval = (g20_0T v).ev (k20_0 v) := by kernel_rfl
noncomputable def sp20_0 (v : V20_0) : Res (AV × List Blk) := .opt (g20_0 v) fun r => .val (k20_0 v r)
theorem sp20_0_ok (v : V20_0) (r : AV × List Blk) (h : (sp20_0 v).eval = some r) : (q20_0 (hS20_0 v).tmps (hS20_0 v).heap).eval = some r := by
  rw [g20_0_run, Tr.ev_get?]
  unfold sp20_0 at h
  rw [eval_opt] at h
  obtain ⟨z, hz, h⟩ := Option.bind_eq_some_iff.mp h
  unfold g20_0 at hz
  rw [hz]; exact h
structure V20_1 where
  a0 : S3
  a1 : Int
structure Y20_1 where
  b0 : S3
  deriving Inhabited
def hS20_1 (v : V20_1) : St := ⟨[.c (.rp 3 v.a0 0), .c (.int .i64 v.a1)], []⟩
def iS20_1 (s : St) : V20_1 := ⟨rpC 3 (aC (s.tmps.getD 0 .top)), iC (aC (s.tmps.getD 1 .top))⟩
def aS20_1 : List PA := [.c (.rp 3 0), .c (.int .i64)]
def bS20_1 : List PB := []
def g20_1T (v : V20_1) : Tr Y20_1 :=
  .opt (g23_0 (V23_0.mk (v.a0.f0) ((S4.mk (IntKind.i64.wrap (v.a1 - v.a0.f8)))))) fun z53 =>
   .br v.a0.f4 (
    .opt (g23_0 (V23_0.mk (v.a0.f2) ((S4.mk (IntKind.i64.wrap (v.a1 - v.a0.f8)))))) fun z54 =>
     .leaf (⟨{ v.a0 with f6 := (mnI (IntKind.i64.wrap (v.a0.f6 + z53.b0)) v.a0.f1), f7 := (mnI (IntKind.i64.wrap ((IntKind.i64.wrap (v.a0.f7 + z54.b0)) + (IntKind.i64.wrap ((IntKind.i64.wrap (v.a0.f6 + z53.b0)) - (mnI (IntKind.i64.wrap (v.a0.f6 + z53.b0)) v.a0.f1))))) v.a0.f3), f8 := v.a1 }⟩)) (
    .opt (g23_0 (V23_0.mk (v.a0.f2) ((S4.mk (IntKind.i64.wrap (v.a1 - v.a0.f8)))))) fun z55 =>
     .leaf (⟨{ v.a0 with f6 := (mnI (IntKind.i64.wrap (v.a0.f6 + z53.b0)) v.a0.f1), f7 := (mnI (IntKind.i64.wrap ((IntKind.i64.wrap (v.a0.f7 + z55.b0)) + 0)) v.a0.f3), f8 := v.a1 }⟩))
def g20_1 (v : V20_1) : Option Y20_1 := (g20_1T v).get?
def k20_1 (v : V20_1) (r : Y20_1) : AV × List Blk := (.agg [.int .i64 r.b0.f0, .int .i64 r.b0.f1, .int .i64 r.b0.f2, .int .i64 r.b0.f3, .bool r.b0.f4, .bool r.b0.f5, .int .i64 r.b0.f6, .int .i64 r.b0.f7, .int .i64 r.b0.f8, .bool r.b0.f9], [])
noncomputable def q20_1 : Ab.Spec := runQh 0 e20 (lookT []) Go.Proofs.Try.f20
theorem q20_1_ok : SpecOk Go.Proofs.Try.prog 20 q20_1 := runQh_ok (runR_ok (e := e20) follows (allTI ti_ok _ _ _ _ _) (callsOk_cons s23_ok (callsOk_nil)) Go.Proofs.Try.func20 Go.Proofs.Try.call20) (fun c hc => by
  have hb : c = Go.Proofs.Try.f20.body.getD .skip := by rw [hc]; rfl
  subst hb
  exact tab_nil)
theorem g20_1_run (v : V20_1) : (q20_1 (hS20_1 v).tmps (hS20_1 v).heap).eval = (g20_1T v).ev (k20_1 v) := by kernel_rfl
noncomputable def sp20_1 (v : V20_1) : Res (AV × List Blk) := .opt (g20_1 v) fun r => .val (k20_1 v r)
theorem sp20_1_ok (v : V20_1) (r : AV × List Blk) (h : (sp20_1 v).eval = some r) : (q20_1 (hS20_1 v).tmps (hS20_1 v).heap).eval = some r := by
  rw [g20_1_run, Tr.ev_get?]
  unfold sp20_1 at h
  rw [eval_opt] at h
  obtain ⟨z, hz, h⟩ := Option.bind_eq_some_iff.mp h
  unfold g20_1 at hz
  rw [hz]; exact h
noncomputable def s20 : Ab.Spec := shapeS aS20_1 bS20_1 (fun args h => sp20_1 (iS20_1 ⟨args, h⟩)) (shapeS aS20_0 bS20_0 (fun args h => sp20_0 (iS20_0 ⟨args, h⟩)) (runR e20 Go.Proofs.Try.f20))
theorem s20_ok : SpecOk Go.Proofs.Try.prog 20 s20 := shape_ok hS20_1 iS20_1 q20_1_ok (shape_ok hS20_0 iS20_0 q20_0_ok ((runR_ok (e := e20) follows (allTI ti_ok _ _ _ _ _) (callsOk_cons s23_ok (callsOk_nil)) Go.Proofs.Try.func20 Go.Proofs.Try.call20)) (fun s => by kernel_rfl) sp20_0_ok) (fun s => by kernel_rfl) sp20_1_ok
/-- (*pontage/meter.Meter).Mark -/
noncomputable def L10 : SL := [(18, .byHeap, s18), (19, .byHeap, s19), (20, .byHeap, s20), (23, .byRead [none, some 4], s23)]
noncomputable def e10 : Env := ⟨ti, fun g => lookS g L10, 1000000, [], [], none⟩
structure V10_0 where
  a0 : Int
  a1 : Int
  a2 : Int
structure Y10_0 where

  deriving Inhabited
def hS10_0 (v : V10_0) : St := ⟨[.c (.nilp), .c (.int .i64 v.a0), .c (.int .i64 v.a1), .c (.int .i64 v.a2)], []⟩
def iS10_0 (s : St) : V10_0 := ⟨iC (aC (s.tmps.getD 1 .top)), iC (aC (s.tmps.getD 2 .top)), iC (aC (s.tmps.getD 3 .top))⟩
def aS10_0 : List PA := [.c (.nilp), .c (.int .i64), .c (.int .i64), .c (.int .i64)]
def bS10_0 : List PB := []
def g10_0T (v : V10_0) : Tr Y10_0 :=
  .leaf (⟨⟩)
def g10_0 (v : V10_0) : Y10_0 := (g10_0T v).get default
def k10_0 (v : V10_0) (r : Y10_0) : AV × List Blk := (.tup [some (false, [.int .i64 0]), some (false, [.int .i64 4])], [])
noncomputable def q10_0 : Ab.Spec := runQh 0 e10 (lookT []) Go.Proofs.Try.f10
theorem q10_0_ok : SpecOk Go.Proofs.Try.prog 10 q10_0 := runQh_ok (runR_ok (e := e10) follows (allTI ti_ok _ _ _ _ _) (callsOk_cons s18_ok (callsOk_cons s19_ok (callsOk_cons s20_ok (callsOk_cons s23_ok (callsOk_nil))))) Go.Proofs.Try.func10 Go.Proofs.Try.call10) (fun c hc => by
  have hb : c = Go.Proofs.Try.f10.body.getD .skip := by rw [hc]; rfl
  subst hb
  exact tab_nil)
theorem g10_0_run (v : V10_0) : (q10_0 (hS10_0 v).tmps (hS10_0 v).heap).eval = (g10_0T v).ev (k10_0 v) := by kernel_rfl
noncomputable def sp10_0 (v : V10_0) : Res (AV × List Blk) := let r := g10_0 v; .val (k10_0 v r)
theorem sp10_0_ok (v : V10_0) (r : AV × List Blk) (h : (sp10_0 v).eval = some r) : (q10_0 (hS10_0 v).tmps (hS10_0 v).heap).eval = some r := by
  rw [g10_0_run, Tr.ev_get (d := default) (by kernel_rfl)]
  exact h
structure V10_1 where
  a0 : Int
  a1 : Int
  a2 : Int
  a3 : S3
structure Y10_1 where
  b0 : Int
  b1 : Int
  b2 : S3
  deriving Inhabited
def hS10_1 (v : V10_1) : St := ⟨[.c (.ptr 0 0), .c (.int .i64 v.a0), .c (.int .i64 v.a1), .c (.int .i64 v.a2)], [.cells [.int .i64 v.a3.f0, .int .i64 v.a3.f1, .int .i64 v.a3.f2, .int .i64 v.a3.f3, .bool v.a3.f4, .bool v.a3.f5, .int .i64 v.a3.f6, .int .i64 v.a3.f7, .int .i64 v.a3.f8, .bool v.a3.f9]]⟩
def iS10_1 (s : St) : V10_1 := ⟨iC (aC (s.tmps.getD 1 .top)), iC (aC (s.tmps.getD 2 .top)), iC (aC (s.tmps.getD 3 .top)), rd3 (bL (s.heap.getD 0 .dead))⟩
def aS10_1 : List PA := [.c (.ptr 0 0), .c (.int .i64), .c (.int .i64), .c (.int .i64)]
def bS10_1 : List PB := [.cells [.int .i64, .int .i64, .int .i64, .int .i64, .bool, .bool, .int .i64, .int .i64, .int .i64, .bool]]
def g10_1T (v : V10_1) : Tr Y10_1 :=
  .br (!v.a3.f9) (
   .leaf (⟨0, 4, v.a3⟩)) (
   .br (!(bif (decide (v.a0 ≥ v.a3.f8)) then (decide (v.a0 ≤ 1099511627776)) else false)) (
    .leaf (⟨0, 1, v.a3⟩)) (
    .br (bif (bif (bif (decide (v.a1 < 1)) then true else (decide (v.a1 > 2048))) then true else (decide (v.a2 < 1))) then true else (decide (v.a2 > 3))) (
     .leaf (⟨0, 310, v.a3⟩)) (
     .opt (g20_0 (V20_0.mk (v.a0) (v.a3))) fun z12 =>
      .br (!z12.b0.f5) (
       .br (decide (v.a1 ≤ z12.b0.f6)) (
        .leaf (⟨1, 0, { z12.b0 with f6 := (IntKind.i64.wrap (z12.b0.f6 - v.a1)) }⟩)) (
        .br (decide (v.a1 ≤ z12.b0.f7)) (
         .leaf (⟨2, 0, { z12.b0 with f7 := (IntKind.i64.wrap (z12.b0.f7 - v.a1)) }⟩)) (
         .leaf (⟨3, 0, z12.b0⟩)))) (
       .br (v.a2 == 1) (
        .br (decide (v.a1 ≤ z12.b0.f6)) (
         .leaf (⟨1, 0, { z12.b0 with f6 := (IntKind.i64.wrap (z12.b0.f6 - v.a1)) }⟩)) (
         .br (decide (v.a1 ≤ z12.b0.f7)) (
          .leaf (⟨2, 0, { z12.b0 with f7 := (IntKind.i64.wrap (z12.b0.f7 - v.a1)) }⟩)) (
          .leaf (⟨3, 0, z12.b0⟩)))) (
        .br (v.a2 == 2) (
         .br (decide (v.a1 ≤ z12.b0.f7)) (
          .leaf (⟨2, 0, { z12.b0 with f7 := (IntKind.i64.wrap (z12.b0.f7 - v.a1)) }⟩)) (
          .leaf (⟨3, 0, z12.b0⟩))) (
         .leaf (⟨3, 0, z12.b0⟩)))))))
def g10_1 (v : V10_1) : Option Y10_1 := (g10_1T v).get?
def k10_1 (v : V10_1) (r : Y10_1) : AV × List Blk := (.tup [some (false, [.int .i64 r.b0]), some (false, [.int .i64 r.b1])], [.cells [.int .i64 r.b2.f0, .int .i64 r.b2.f1, .int .i64 r.b2.f2, .int .i64 r.b2.f3, .bool r.b2.f4, .bool r.b2.f5, .int .i64 r.b2.f6, .int .i64 r.b2.f7, .int .i64 r.b2.f8, .bool r.b2.f9]])
noncomputable def q10_1 : Ab.Spec := runQh 1 e10 (lookT []) Go.Proofs.Try.f10
theorem q10_1_ok : SpecOk Go.Proofs.Try.prog 10 q10_1 := runQh_ok (runR_ok (e := e10) follows (allTI ti_ok _ _ _ _ _) (callsOk_cons s18_ok (callsOk_cons s19_ok (callsOk_cons s20_ok (callsOk_cons s23_ok (callsOk_nil))))) Go.Proofs.Try.func10 Go.Proofs.Try.call10) (fun c hc => by
  have hb : c = Go.Proofs.Try.f10.body.getD .skip := by rw [hc]; rfl
  subst hb
  exact tab_nil)
theorem g10_1_run (v : V10_1) : (q10_1 (hS10_1 v).tmps (hS10_1 v).heap).eval = (g10_1T v).ev (k10_1 v) := by kernel_rfl
noncomputable def sp10_1 (v : V10_1) : Res (AV × List Blk) := .opt (g10_1 v) fun r => .val (k10_1 v r)
theorem sp10_1_ok (v : V10_1) (r : AV × List Blk) (h : (sp10_1 v).eval = some r) : (q10_1 (hS10_1 v).tmps (hS10_1 v).heap).eval = some r := by
  rw [g10_1_run, Tr.ev_get?]
  unfold sp10_1 at h
  rw [eval_opt] at h
  obtain ⟨z, hz, h⟩ := Option.bind_eq_some_iff.mp h
  unfold g10_1 at hz
  rw [hz]; exact h
noncomputable def s10 : Ab.Spec := shapeS aS10_1 bS10_1 (fun args h => sp10_1 (iS10_1 ⟨args, h⟩)) (shapeS aS10_0 bS10_0 (fun args h => sp10_0 (iS10_0 ⟨args, h⟩)) (runR e10 Go.Proofs.Try.f10))
theorem s10_ok : SpecOk Go.Proofs.Try.prog 10 s10 := shape_ok hS10_1 iS10_1 q10_1_ok (shape_ok hS10_0 iS10_0 q10_0_ok ((runR_ok (e := e10) follows (allTI ti_ok _ _ _ _ _) (callsOk_cons s18_ok (callsOk_cons s19_ok (callsOk_cons s20_ok (callsOk_cons s23_ok (callsOk_nil))))) Go.Proofs.Try.func10 Go.Proofs.Try.call10)) (fun s => by kernel_rfl) sp10_0_ok) (fun s => by kernel_rfl) sp10_1_ok
/-- (*pontage/meter.Meter).Last -/
noncomputable def L17 : SL := [(18, .byHeap, s18)]
noncomputable def e17 : Env := ⟨ti, fun g => lookS g L17, 1000000, [], [], none⟩
structure V17_0 where

structure Y17_0 where

  deriving Inhabited
def hS17_0 (v : V17_0) : St := ⟨[.c (.nilp)], []⟩
def iS17_0 (s : St) : V17_0 := ⟨⟩
def aS17_0 : List PA := [.c (.nilp)]
def bS17_0 : List PB := []
def g17_0T (v : V17_0) : Tr Y17_0 :=
  .leaf (⟨⟩)
def g17_0 (v : V17_0) : Y17_0 := (g17_0T v).get default
def k17_0 (v : V17_0) (r : Y17_0) : AV × List Blk := (.c (.int .i64 0), [])
noncomputable def q17_0 : Ab.Spec := runQh 0 e17 (lookT []) Go.Proofs.Try.f17
theorem q17_0_ok : SpecOk Go.Proofs.Try.prog 17 q17_0 := runQh_ok (runR_ok (e := e17) follows (allTI ti_ok _ _ _ _ _) (callsOk_cons s18_ok (callsOk_nil)) Go.Proofs.Try.func17 Go.Proofs.Try.call17) (fun c hc => by
  have hb : c = Go.Proofs.Try.f17.body.getD .skip := by rw [hc]; rfl
  subst hb
  exact tab_nil)
theorem g17_0_run (v : V17_0) : (q17_0 (hS17_0 v).tmps (hS17_0 v).heap).eval = (g17_0T v).ev (k17_0 v) := by kernel_rfl
noncomputable def sp17_0 (v : V17_0) : Res (AV × List Blk) := let r := g17_0 v; .val (k17_0 v r)
theorem sp17_0_ok (v : V17_0) (r : AV × List Blk) (h : (sp17_0 v).eval = some r) : (q17_0 (hS17_0 v).tmps (hS17_0 v).heap).eval = some r := by
  rw [g17_0_run, Tr.ev_get (d := default) (by kernel_rfl)]
  exact h
structure V17_1 where
  a0 : S3
structure Y17_1 where
  b0 : Int
  deriving Inhabited
def hS17_1 (v : V17_1) : St := ⟨[.c (.rp 3 v.a0 0)], []⟩
def iS17_1 (s : St) : V17_1 := ⟨rpC 3 (aC (s.tmps.getD 0 .top))⟩
def aS17_1 : List PA := [.c (.rp 3 0)]
def bS17_1 : List PB := []
def g17_1T (v : V17_1) : Tr Y17_1 :=
  .br (!v.a0.f9) (
   .leaf (⟨0⟩)) (
   .leaf (⟨v.a0.f8⟩))
def g17_1 (v : V17_1) : Y17_1 := (g17_1T v).get default
def k17_1 (v : V17_1) (r : Y17_1) : AV × List Blk := (.c (.int .i64 r.b0), [])
noncomputable def q17_1 : Ab.Spec := runQh 0 e17 (lookT []) Go.Proofs.Try.f17
theorem q17_1_ok : SpecOk Go.Proofs.Try.prog 17 q17_1 := runQh_ok (runR_ok (e := e17) follows (allTI ti_ok _ _ _ _ _) (callsOk_cons s18_ok (callsOk_nil)) Go.Proofs.Try.func17 Go.Proofs.Try.call17) (fun c hc => by
  have hb : c = Go.Proofs.Try.f17.body.getD .skip := by rw [hc]; rfl
  subst hb
  exact tab_nil)
theorem g17_1_run (v : V17_1) : (q17_1 (hS17_1 v).tmps (hS17_1 v).heap).eval = (g17_1T v).ev (k17_1 v) := by kernel_rfl
noncomputable def sp17_1 (v : V17_1) : Res (AV × List Blk) := let r := g17_1 v; .val (k17_1 v r)
theorem sp17_1_ok (v : V17_1) (r : AV × List Blk) (h : (sp17_1 v).eval = some r) : (q17_1 (hS17_1 v).tmps (hS17_1 v).heap).eval = some r := by
  rw [g17_1_run, Tr.ev_get (d := default) (by kernel_rfl)]
  exact h
noncomputable def s17 : Ab.Spec := shapeS aS17_1 bS17_1 (fun args h => sp17_1 (iS17_1 ⟨args, h⟩)) (shapeS aS17_0 bS17_0 (fun args h => sp17_0 (iS17_0 ⟨args, h⟩)) (runR e17 Go.Proofs.Try.f17))
theorem s17_ok : SpecOk Go.Proofs.Try.prog 17 s17 := shape_ok hS17_1 iS17_1 q17_1_ok (shape_ok hS17_0 iS17_0 q17_0_ok ((runR_ok (e := e17) follows (allTI ti_ok _ _ _ _ _) (callsOk_cons s18_ok (callsOk_nil)) Go.Proofs.Try.func17 Go.Proofs.Try.call17)) (fun s => by kernel_rfl) sp17_0_ok) (fun s => by kernel_rfl) sp17_1_ok
/-- pontage/pontagelaw31.awake -/
noncomputable def L9 : SL := [(8, .byHeap, s8), (13, .byVal, s13), (10, .byHeap, s10), (18, .byHeap, s18), (19, .byHeap, s19), (20, .byHeap, s20), (23, .byRead [none, some 4], s23), (17, .byRead [some 3], s17)]
noncomputable def e9 : Env := ⟨ti, fun g => lookS g L9, 1000000, [], [], none⟩
def g9T  : Tr (Bool) :=
  let z1 := g13 (S7.mk 10 100 0 50 false false)
  .br (z1 != 0) (
   .br (bif (z1 != 0) then true else true) (
    .leaf (false)) (
    let z8 := g13 (S7.mk (-1) 0 0 0 false false)
    .leaf (false))) (
   .opt (g10_1 (V10_1.mk (0) (100) (1) ((S3.mk 10 100 0 50 false false 100 50 0 true)))) fun z13 =>
    .opt (g10_1 (V10_1.mk (0) (50) (1) (z13.b2))) fun z14 =>
     .opt (g10_1 (V10_1.mk (0) (1) (1) (z14.b2))) fun z15 =>
      .opt (g10_1 (V10_1.mk (1) (10) (1) (z15.b2))) fun z16 =>
       .opt (g10_1 (V10_1.mk (0) (1) (1) (z16.b2))) fun z17 =>
        let z18 := g17_1 (V17_1.mk (z17.b2))
        let z19 := g13 (S7.mk (-1) 0 0 0 false false)
        .leaf ((bif (bif (bif (bif (bif (bif (bif (z13.b0 == 1) then (z14.b0 == 2) else false) then (z15.b0 == 3) else false) then (z16.b0 == 1) else false) then (z16.b1 == 0) else false) then (z17.b1 == 1) else false) then (z18.b0 == 1) else false) then (z19 == 310) else false)))
def g9  : Option (Bool) := (g9T ).get?
noncomputable def T9 : TL := []
noncomputable def q9 : Ab.Spec := runQ0 e9 (lookT T9) Go.Proofs.Try.f9
theorem q9_ok : SpecOk Go.Proofs.Try.prog 9 q9 := (runQ0_ok (runR_ok (e := e9) follows (allTI ti_ok _ _ _ _ _) (callsOk_cons s8_ok (callsOk_cons s13_ok (callsOk_cons s10_ok (callsOk_cons s18_ok (callsOk_cons s19_ok (callsOk_cons s20_ok (callsOk_cons s23_ok (callsOk_cons s17_ok (callsOk_nil))))))))) Go.Proofs.Try.func9 Go.Proofs.Try.call9) (fun c hc => by
  have hb : c = Go.Proofs.Try.f9.body.getD .skip := by rw [hc]; rfl
  subst hb
  exact tab_nil))
theorem g9_run  : (q9 [] []).eval = (g9T ).ev fun r => ((.c (.bool r) : AV), ([] : List Blk)) := by kernel_rfl
noncomputable def s9 : Ab.Spec := fun args h =>
  dN h <| dN args <|
  .opt (g9) fun r => .val (.c (.bool r), [])
theorem s9_ok : SpecOk Go.Proofs.Try.prog 9 s9 :=
  q9_ok.less fun args hs r h => by
    unfold s9 at h
    obtain ⟨rfl, hh1⟩ := dN_inv h
    obtain ⟨rfl, hh2⟩ := dN_inv hh1
    rw [g9_run, Tr.ev_get?]
    change (Res.opt (g9) _).eval = some r at hh2
    rw [eval_opt] at hh2
    obtain ⟨z, hz, hh3⟩ := Option.bind_eq_some_iff.mp hh2
    unfold g9 at hz
    rw [hz]; exact hh3
/-- pontage/pontagelaw31.MeterKept -/
noncomputable def L3 : SL := [(7, .byVal, s7), (8, .byHeap, s8), (13, .byVal, s13), (9, .byVal, s9), (10, .byHeap, s10), (18, .byHeap, s18), (19, .byHeap, s19), (20, .byHeap, s20), (23, .byRead [none, some 4], s23)]
noncomputable def e3 : Env := ⟨ti, fun g => lookS g L3, 1000000, [.drop 0, .drop 3, .drop 6, .drop 11, .drop 12, .drop 13, .drop 14, .drop 15, .drop 16, .drop 17, .drop 18, .drop 19, .drop 20, .drop 21, .drop 22, .drop 23, .drop 24, .drop 25, .drop 26, .drop 27, .drop 28, .drop 29, .drop 30, .drop 31, .drop 32, .drop 33, .drop 34, .drop 35, .drop 36, .drop 37, .drop 38, .drop 39, .drop 40, .drop 41, .drop 42, .drop 43, .drop 44, .drop 45, .drop 46, .drop 47, .drop 48, .drop 49, .drop 50, .drop 51, .drop 52, .drop 53, .drop 54, .drop 55, .drop 56, .drop 57, .drop 58, .drop 59, .drop 60, .drop 61, .drop 62, .drop 63, .drop 64, .drop 65, .drop 66, .drop 67, .drop 68, .drop 69, .drop 70, .drop 71, .drop 72, .drop 73, .drop 74, .drop 75, .drop 76, .drop 77, .drop 78, .drop 79, .drop 80, .drop 81, .drop 82, .drop 83], [], some [4]⟩
structure W3_2 where
  a0 : List S0
  a1 : Bool
  a2 : Int
  a3 : Int
  a4 : Int
  a5 : Int
  a6 : S7
def hd3_2 (v : W3_2) : St := ⟨[.top, .c (.rs 0 v.a0), .c (.ptr 0 0), .top, .c (.bool v.a1), .c (.nilp), .top, .c (.int .i64 v.a2), .c (.int .i64 v.a3), .c (.int .i64 v.a4), .c (.int .i64 v.a5), .top, .top, .top, .top, .top, .top, .top, .top, .top, .top, .top, .top, .top, .top, .top, .top, .top, .top, .top, .top, .top, .top, .top, .top, .top, .top, .top, .top, .top, .top, .top, .top, .top, .top, .top, .top, .top, .top, .top, .top, .top, .top, .top, .top, .top, .top, .top, .top, .top, .top, .top, .top, .top, .top, .top, .top, .top, .top, .top, .top, .top, .top, .top, .top, .top, .top, .top, .top, .top, .top, .top, .top, .top], [.cells [.int .i64 v.a6.f0, .int .i64 v.a6.f1, .int .i64 v.a6.f2, .int .i64 v.a6.f3, .bool v.a6.f4, .bool v.a6.f5]]⟩
def gR3_2 (v : W3_2) : Tr (W3_2 ⊕ (Bool × W3_2)) :=
  .br (decide ((IntKind.i64.wrap (v.a3 + v.a5)) > v.a6.f1)) (
   .leaf (.inl ({ v with a2 := (IntKind.i64.wrap (v.a2 + 1)), a3 := (mxI 0 (IntKind.i64.wrap (v.a3 - v.a6.f0))) }))) (
   .leaf (.inr (false, v)))
structure W3_2v1 where
  a0 : List S0
  a1 : Bool
  a2 : Int
  a3 : Int
  a4 : Int
  a5 : Int
  a6 : S7
  a7 : S3
def hd3_2v1 (v : W3_2v1) : St := ⟨[.top, .c (.rs 0 v.a0), .c (.ptr 0 0), .top, .c (.bool v.a1), .c (.ptr 1 0), .top, .c (.int .i64 v.a2), .c (.int .i64 v.a3), .c (.int .i64 v.a4), .c (.int .i64 v.a5), .top, .top, .top, .top, .top, .top, .top, .top, .top, .top, .top, .top, .top, .top, .top, .top, .top, .top, .top, .top, .top, .top, .top, .top, .top, .top, .top, .top, .top, .top, .top, .top, .top, .top, .top, .top, .top, .top, .top, .top, .top, .top, .top, .top, .top, .top, .top, .top, .top, .top, .top, .top, .top, .top, .top, .top, .top, .top, .top, .top, .top, .top, .top, .top, .top, .top, .top, .top, .top, .top, .top, .top, .top], [.cells [.int .i64 v.a6.f0, .int .i64 v.a6.f1, .int .i64 v.a6.f2, .int .i64 v.a6.f3, .bool v.a6.f4, .bool v.a6.f5], .cells [.int .i64 v.a7.f0, .int .i64 v.a7.f1, .int .i64 v.a7.f2, .int .i64 v.a7.f3, .bool v.a7.f4, .bool v.a7.f5, .int .i64 v.a7.f6, .int .i64 v.a7.f7, .int .i64 v.a7.f8, .bool v.a7.f9]]⟩
def gR3_2v1 (v : W3_2v1) : Tr (W3_2v1 ⊕ (Bool × W3_2v1)) :=
  .br (decide ((IntKind.i64.wrap (v.a3 + v.a5)) > v.a6.f1)) (
   .leaf (.inl ({ v with a2 := (IntKind.i64.wrap (v.a2 + 1)), a3 := (mxI 0 (IntKind.i64.wrap (v.a3 - v.a6.f0))) }))) (
   .leaf (.inr (false, v)))
noncomputable def lb3_2 : Code := match findB 2 (Go.Proofs.Try.f3.body.getD .skip) with | [.loop b] => b | _ => .skip
def pa3_2x0 : List PA := [.any, .c (.rs 0), .c (.ptr 0 0), .any, .c (.bool), .c (.nilp), .any, .c (.int .i64), .c (.int .i64), .c (.int .i64), .c (.int .i64), .any, .any, .any, .any, .any, .any, .any, .any, .any, .any, .any, .any, .any, .any, .any, .any, .any, .any, .any, .any, .any, .any, .any, .any, .any, .any, .any, .any, .any, .any, .any, .any, .any, .any, .any, .any, .any, .any, .any, .any, .any, .any, .any, .any, .any, .any, .any, .any, .any, .any, .any, .any, .any, .any, .any, .any, .any, .any, .any, .any, .any, .any, .any, .any, .any, .any, .any, .any, .any, .any, .any, .any, .any]
def pb3_2x0 : List PB := [.cells [.int .i64, .int .i64, .int .i64, .int .i64, .bool, .bool]]
def ini3_2x0 (s : St) : W3_2 := ⟨rC 0 (aC (s.tmps.getD 1 .top)), bC (aC (s.tmps.getD 4 .top)), iC (aC (s.tmps.getD 7 .top)), iC (aC (s.tmps.getD 8 .top)), iC (aC (s.tmps.getD 9 .top)), iC (aC (s.tmps.getD 10 .top)), rd7 (bL (s.heap.getD 0 .dead))⟩
noncomputable def F3_2x0 : St → Res (Ex × St) := loopF pa3_2x0 pb3_2x0 1000000 hd3_2 gR3_2 ini3_2x0 false
theorem F3_2x0_ok (s : St) (r : Ex × St) (h : (F3_2x0 s).eval = some r) : (codeR e3 0 (.block 2 (.loop lb3_2)) s).eval = some r :=
  blk_ok (e := e3) (T := lookT []) (fun s v => by kernel_rfl) (fun s => by kernel_rfl) (tab_nil) s r h
def pa3_2x1 : List PA := [.any, .c (.rs 0), .c (.ptr 0 0), .any, .c (.bool), .c (.ptr 1 0), .any, .c (.int .i64), .c (.int .i64), .c (.int .i64), .c (.int .i64), .any, .any, .any, .any, .any, .any, .any, .any, .any, .any, .any, .any, .any, .any, .any, .any, .any, .any, .any, .any, .any, .any, .any, .any, .any, .any, .any, .any, .any, .any, .any, .any, .any, .any, .any, .any, .any, .any, .any, .any, .any, .any, .any, .any, .any, .any, .any, .any, .any, .any, .any, .any, .any, .any, .any, .any, .any, .any, .any, .any, .any, .any, .any, .any, .any, .any, .any, .any, .any, .any, .any, .any, .any]
def pb3_2x1 : List PB := [.cells [.int .i64, .int .i64, .int .i64, .int .i64, .bool, .bool], .cells [.int .i64, .int .i64, .int .i64, .int .i64, .bool, .bool, .int .i64, .int .i64, .int .i64, .bool]]
def ini3_2x1 (s : St) : W3_2v1 := ⟨rC 0 (aC (s.tmps.getD 1 .top)), bC (aC (s.tmps.getD 4 .top)), iC (aC (s.tmps.getD 7 .top)), iC (aC (s.tmps.getD 8 .top)), iC (aC (s.tmps.getD 9 .top)), iC (aC (s.tmps.getD 10 .top)), rd7 (bL (s.heap.getD 0 .dead)), rd3 (bL (s.heap.getD 1 .dead))⟩
noncomputable def F3_2x1 : St → Res (Ex × St) := loopF pa3_2x1 pb3_2x1 1000000 hd3_2v1 gR3_2v1 ini3_2x1 false
theorem F3_2x1_ok (s : St) (r : Ex × St) (h : (F3_2x1 s).eval = some r) : (codeR e3 0 (.block 2 (.loop lb3_2)) s).eval = some r :=
  blk_ok (e := e3) (T := lookT []) (fun s v => by kernel_rfl) (fun s => by kernel_rfl) (tab_nil) s r h
noncomputable def F3_2 : St → Res (Ex × St) := (orF pa3_2x0 pb3_2x0 F3_2x0 F3_2x1)
theorem F3_2_ok (s : St) (r : Ex × St) (h : (F3_2 s).eval = some r) : (codeR e3 0 (.block 2 (.loop lb3_2)) s).eval = some r := (orF_ok F3_2x0_ok F3_2x1_ok) s r h
structure W3_0 where
  a0 : List S0
  a1 : Bool
  a2 : Int
  a3 : Int
  a4 : Int
  a5 : S7
def hd3_0 (v : W3_0) : St := ⟨[.top, .c (.rs 0 v.a0), .c (.ptr 0 0), .top, .c (.bool v.a1), .c (.nilp), .top, .c (.int .i64 v.a2), .c (.int .i64 v.a3), .c (.int .i64 v.a4), .top, .top, .top, .top, .top, .top, .top, .top, .top, .top, .top, .top, .top, .top, .top, .top, .top, .top, .top, .top, .top, .top, .top, .top, .top, .top, .top, .top, .top, .top, .top, .top, .top, .top, .top, .top, .top, .top, .top, .top, .top, .top, .top, .top, .top, .top, .top, .top, .top, .top, .top, .top, .top, .top, .top, .top, .top, .top, .top, .top, .top, .top, .top, .top, .top, .top, .top, .top, .top, .top, .top, .top, .top, .top], [.cells [.int .i64 v.a5.f0, .int .i64 v.a5.f1, .int .i64 v.a5.f2, .int .i64 v.a5.f3, .bool v.a5.f4, .bool v.a5.f5]]⟩
structure U3_0 where
  a0 : Bool
def hu3_0 (u : U3_0) : St := ⟨[.top, .top, .top, .top, .c (.bool u.a0), .top, .top, .top, .top, .top, .top, .top, .top, .top, .top, .top, .top, .top, .top, .top, .top, .top, .top, .top, .top, .top, .top, .top, .top, .top, .top, .top, .top, .top, .top, .top, .top, .top, .top, .top, .top, .top, .top, .top, .top, .top, .top, .top, .top, .top, .top, .top, .top, .top, .top, .top, .top, .top, .top, .top, .top, .top, .top, .top, .top, .top, .top, .top, .top, .top, .top, .top, .top, .top, .top, .top, .top, .top, .top, .top, .top, .top, .top, .top], []⟩
def gR3_0 (v : W3_0) : Tr (W3_0 ⊕ (W3_0 ⊕ U3_0)) :=
  .br (bif (decide (v.a4 < (v.a0.length : Int))) then (decide (v.a4 < 100)) else false) (
   .br (decide (0 ≤ v.a4)) (
    .opt (v.a0[Int.toNat v.a4]?) fun y24 =>
     .opt (iter gR3_2 1000000 (W3_2.mk (v.a0) (v.a1) (v.a2) (v.a3) (v.a4) ((IntKind.i64.wrap (1 + (remI (IntKind.i64.wrap y24.f0) 2048)))) (v.a5))) fun r25 =>
      .br r25.1 (
       .fail) (
       .leaf (.inr (.inr ⟨false⟩)))) (
    .fail)) (
   .leaf (.inr (.inl (v))))
structure W3_0v1 where
  a0 : List S0
  a1 : Bool
  a2 : Int
  a3 : Int
  a4 : Int
  a5 : S7
  a6 : S3
def hd3_0v1 (v : W3_0v1) : St := ⟨[.top, .c (.rs 0 v.a0), .c (.ptr 0 0), .top, .c (.bool v.a1), .c (.ptr 1 0), .top, .c (.int .i64 v.a2), .c (.int .i64 v.a3), .c (.int .i64 v.a4), .top, .top, .top, .top, .top, .top, .top, .top, .top, .top, .top, .top, .top, .top, .top, .top, .top, .top, .top, .top, .top, .top, .top, .top, .top, .top, .top, .top, .top, .top, .top, .top, .top, .top, .top, .top, .top, .top, .top, .top, .top, .top, .top, .top, .top, .top, .top, .top, .top, .top, .top, .top, .top, .top, .top, .top, .top, .top, .top, .top, .top, .top, .top, .top, .top, .top, .top, .top, .top, .top, .top, .top, .top, .top], [.cells [.int .i64 v.a5.f0, .int .i64 v.a5.f1, .int .i64 v.a5.f2, .int .i64 v.a5.f3, .bool v.a5.f4, .bool v.a5.f5], .cells [.int .i64 v.a6.f0, .int .i64 v.a6.f1, .int .i64 v.a6.f2, .int .i64 v.a6.f3, .bool v.a6.f4, .bool v.a6.f5, .int .i64 v.a6.f6, .int .i64 v.a6.f7, .int .i64 v.a6.f8, .bool v.a6.f9]]⟩
structure U3_0v1 where
  a0 : Bool
def hu3_0v1 (u : U3_0v1) : St := ⟨[.top, .top, .top, .top, .c (.bool u.a0), .top, .top, .top, .top, .top, .top, .top, .top, .top, .top, .top, .top, .top, .top, .top, .top, .top, .top, .top, .top, .top, .top, .top, .top, .top, .top, .top, .top, .top, .top, .top, .top, .top, .top, .top, .top, .top, .top, .top, .top, .top, .top, .top, .top, .top, .top, .top, .top, .top, .top, .top, .top, .top, .top, .top, .top, .top, .top, .top, .top, .top, .top, .top, .top, .top, .top, .top, .top, .top, .top, .top, .top, .top, .top, .top, .top, .top, .top, .top], []⟩
def gR3_0v1 (v : W3_0v1) : Tr (W3_0v1 ⊕ (W3_0v1 ⊕ U3_0v1)) :=
  .br (bif (decide (v.a4 < (v.a0.length : Int))) then (decide (v.a4 < 100)) else false) (
   .br (decide (0 ≤ v.a4)) (
    .opt (v.a0[Int.toNat v.a4]?) fun y32 =>
     .opt (iter gR3_2v1 1000000 (W3_2v1.mk (v.a0) (v.a1) (v.a2) (v.a3) (v.a4) ((IntKind.i64.wrap (1 + (remI (IntKind.i64.wrap y32.f0) 2048)))) (v.a5) ((S3.mk v.a6.f0 v.a6.f1 v.a6.f2 v.a6.f3 v.a6.f4 v.a6.f5 v.a6.f6 v.a6.f7 v.a6.f8 v.a6.f9)))) fun r33 =>
      .br r33.1 (
       .fail) (
       .opt (g10_1 (V10_1.mk (r33.2.a2) (r33.2.a5) (1) (r33.2.a7))) fun z34 =>
        .br (bif (z34.b0 != 1) then true else (z34.b1 != 0)) (
         .leaf (.inr (.inr ⟨false⟩))) (
         .leaf (.inl (W3_0v1.mk (r33.2.a0) (r33.2.a1) (r33.2.a2) ((IntKind.i64.wrap (r33.2.a3 + r33.2.a5))) ((IntKind.i64.wrap (r33.2.a4 + 1))) (r33.2.a6) (z34.b2)))))) (
    .fail)) (
   .leaf (.inr (.inl ({ v with a6 := (S3.mk v.a6.f0 v.a6.f1 v.a6.f2 v.a6.f3 v.a6.f4 v.a6.f5 v.a6.f6 v.a6.f7 v.a6.f8 v.a6.f9) }))))
noncomputable def lb3_0 : Code := match findB 0 (Go.Proofs.Try.f3.body.getD .skip) with | [.loop b] => b | _ => .skip
def pa3_0x0 : List PA := [.any, .c (.rs 0), .c (.ptr 0 0), .any, .c (.bool), .c (.nilp), .any, .c (.int .i64), .c (.int .i64), .c (.int .i64), .top, .any, .any, .any, .any, .any, .any, .any, .any, .any, .any, .any, .any, .any, .any, .any, .any, .any, .any, .any, .any, .any, .any, .any, .any, .any, .any, .any, .any, .any, .any, .any, .any, .any, .any, .any, .any, .any, .any, .any, .any, .any, .any, .any, .any, .any, .any, .any, .any, .any, .any, .any, .any, .any, .any, .any, .any, .any, .any, .any, .any, .any, .any, .any, .any, .any, .any, .any, .any, .any, .any, .any, .any, .any]
def pb3_0x0 : List PB := [.cells [.int .i64, .int .i64, .int .i64, .int .i64, .bool, .bool]]
def ini3_0x0 (s : St) : W3_0 := ⟨rC 0 (aC (s.tmps.getD 1 .top)), bC (aC (s.tmps.getD 4 .top)), iC (aC (s.tmps.getD 7 .top)), iC (aC (s.tmps.getD 8 .top)), iC (aC (s.tmps.getD 9 .top)), rd7 (bL (s.heap.getD 0 .dead))⟩
noncomputable def F3_0x0 : St → Res (Ex × St) := loopF2 pa3_0x0 pb3_0x0 1000000 hd3_0 hu3_0 gR3_0 ini3_0x0
theorem F3_0x0_ok (s : St) (r : Ex × St) (h : (F3_0x0 s).eval = some r) : (codeR e3 0 (.block 0 (.loop lb3_0)) s).eval = some r :=
  blk_ok2 (e := e3) (T := lookT [(2, F3_2)]) (fun s v => by kernel_rfl) (fun s => by kernel_rfl) (tab_cons (by kernel_rfl) F3_2_ok (tab_nil)) s r h
def pa3_0x1 : List PA := [.any, .c (.rs 0), .c (.ptr 0 0), .any, .c (.bool), .c (.ptr 1 0), .any, .c (.int .i64), .c (.int .i64), .c (.int .i64), .top, .any, .any, .any, .any, .any, .any, .any, .any, .any, .any, .any, .any, .any, .any, .any, .any, .any, .any, .any, .any, .any, .any, .any, .any, .any, .any, .any, .any, .any, .any, .any, .any, .any, .any, .any, .any, .any, .any, .any, .any, .any, .any, .any, .any, .any, .any, .any, .any, .any, .any, .any, .any, .any, .any, .any, .any, .any, .any, .any, .any, .any, .any, .any, .any, .any, .any, .any, .any, .any, .any, .any, .any, .any]
def pb3_0x1 : List PB := [.cells [.int .i64, .int .i64, .int .i64, .int .i64, .bool, .bool], .cells [.int .i64, .int .i64, .int .i64, .int .i64, .bool, .bool, .int .i64, .int .i64, .int .i64, .bool]]
def ini3_0x1 (s : St) : W3_0v1 := ⟨rC 0 (aC (s.tmps.getD 1 .top)), bC (aC (s.tmps.getD 4 .top)), iC (aC (s.tmps.getD 7 .top)), iC (aC (s.tmps.getD 8 .top)), iC (aC (s.tmps.getD 9 .top)), rd7 (bL (s.heap.getD 0 .dead)), rd3 (bL (s.heap.getD 1 .dead))⟩
noncomputable def F3_0x1 : St → Res (Ex × St) := loopF2 pa3_0x1 pb3_0x1 1000000 hd3_0v1 hu3_0v1 gR3_0v1 ini3_0x1
theorem F3_0x1_ok (s : St) (r : Ex × St) (h : (F3_0x1 s).eval = some r) : (codeR e3 0 (.block 0 (.loop lb3_0)) s).eval = some r :=
  blk_ok2 (e := e3) (T := lookT [(2, F3_2)]) (fun s v => by kernel_rfl) (fun s => by kernel_rfl) (tab_cons (by kernel_rfl) F3_2_ok (tab_nil)) s r h
noncomputable def F3_0 : St → Res (Ex × St) := (orF pa3_0x0 pb3_0x0 F3_0x0 F3_0x1)
theorem F3_0_ok (s : St) (r : Ex × St) (h : (F3_0 s).eval = some r) : (codeR e3 0 (.block 0 (.loop lb3_0)) s).eval = some r := (orF_ok F3_0x0_ok F3_0x1_ok) s r h
def g3T (x0 : S7) (x1 : List S0) : Tr (Bool) :=
  let z20 := g7 x0
  let z21 := g13 { z20 with f0 := (IntKind.i64.wrap (1 + z20.f0)), f1 := (IntKind.i64.wrap (z20.f1 + 2048)) }
  .br (z21 != 0) (
   .br (!(bif (z21 != 0) then true else true)) (
    .opt (g9 ) fun z23 =>
     .br (!z23) (
      .leaf (false)) (
      .opt (iter2 gR3_0 1000000 (W3_0.mk (x1) (false) (0) (0) (0) ({ z20 with f0 := (IntKind.i64.wrap (1 + z20.f0)), f1 := (IntKind.i64.wrap (z20.f1 + 2048)) }))) fun r27 =>
       .br r27.isRight (
        .opt (r27.getRight?) fun u28 =>
         .leaf (u28.a0)) (
        .opt (r27.getLeft?) fun w29 =>
         .leaf (true)))) (
    .leaf (false))) (
   .opt (g9 ) fun z31 =>
    .br (!z31) (
     .leaf (false)) (
     .opt (iter2 gR3_0v1 1000000 (W3_0v1.mk (x1) (false) (0) (0) (0) ({ z20 with f0 := (IntKind.i64.wrap (1 + z20.f0)), f1 := (IntKind.i64.wrap (z20.f1 + 2048)) }) ((S3.mk (IntKind.i64.wrap (1 + z20.f0)) (IntKind.i64.wrap (z20.f1 + 2048)) z20.f2 z20.f3 z20.f4 z20.f5 (IntKind.i64.wrap (z20.f1 + 2048)) z20.f3 0 true)))) fun r35 =>
      .br r35.isRight (
       .opt (r35.getRight?) fun u36 =>
        .leaf (u36.a0)) (
       .opt (r35.getLeft?) fun w37 =>
        .leaf (true))))
def g3 (x0 : S7) (x1 : List S0) : Option (Bool) := (g3T x0 x1).get?
noncomputable def T3 : TL := [(2, F3_2), (0, F3_0)]
noncomputable def q3 : Ab.Spec := runQ0 e3 (lookT T3) Go.Proofs.Try.f3
theorem q3_ok : SpecOk Go.Proofs.Try.prog 3 q3 := (runQ0_ok (runR_ok (e := e3) follows (allTI ti_ok _ _ _ _ _) (callsOk_cons s7_ok (callsOk_cons s8_ok (callsOk_cons s13_ok (callsOk_cons s9_ok (callsOk_cons s10_ok (callsOk_cons s18_ok (callsOk_cons s19_ok (callsOk_cons s20_ok (callsOk_cons s23_ok (callsOk_nil)))))))))) Go.Proofs.Try.func3 Go.Proofs.Try.call3) (fun c hc => by
  have hb : c = Go.Proofs.Try.f3.body.getD .skip := by rw [hc]; rfl
  subst hb
  exact tab_cons (by kernel_rfl) F3_2_ok (tab_cons (by kernel_rfl) F3_0_ok (tab_nil))))
theorem g3_run (x0 : S7) (x1 : List S0) : (q3 [.agg (Cod.enc 7 x0), .c (.rs 0 x1)] []).eval = (g3T x0 x1).ev fun r => ((.c (.bool r) : AV), ([] : List Blk)) := by kernel_rfl
noncomputable def s3_0 : Ab.Spec := fun args h =>
  dN h <| dL args fun v0 a0 => dG v0 fun l0 => dE 7 l0 fun x0 => dL a0 fun v1 a1 => dC v1 fun c0 => dR0 0 c0 fun x1 => dN a1 <|
  .opt (g3 x0 x1) fun r => .val (.c (.bool r), [])
theorem s3_0_ok : SpecOk Go.Proofs.Try.prog 3 s3_0 :=
  q3_ok.less fun args hs r h => by
    unfold s3_0 at h
    obtain ⟨rfl, hh1⟩ := dN_inv h
    obtain ⟨v0, a0, rfl, hh2⟩ := dL_inv hh1
    obtain ⟨l0, rfl, hh3⟩ := dG_inv hh2
    obtain ⟨x0, rfl, hh4⟩ := dE_inv hh3
    obtain ⟨v1, a1, rfl, hh5⟩ := dL_inv hh4
    obtain ⟨c0, rfl, hh6⟩ := dC_inv hh5
    obtain ⟨x1, rfl, hh7⟩ := dR0_inv hh6
    obtain ⟨rfl, hh8⟩ := dN_inv hh7
    rw [g3_run, Tr.ev_get?]
    change (Res.opt (g3 x0 x1) _).eval = some r at hh8
    rw [eval_opt] at hh8
    obtain ⟨z, hz, hh9⟩ := Option.bind_eq_some_iff.mp hh8
    unfold g3 at hz
    rw [hz]; exact hh9
noncomputable def s3 : Ab.Spec := fun args h => s3_0 (coeA [[], [some 0]] args) h
theorem s3_ok : SpecOk Go.Proofs.Try.prog 3 s3 := s3_0_ok.pre [[], [some 0]]
/-- (*pontage/meter.Meter).Levels -/
noncomputable def L11 : SL := [(18, .byHeap, s18), (19, .byHeap, s19), (20, .byHeap, s20), (23, .byRead [none, some 4], s23)]
noncomputable def e11 : Env := ⟨ti, fun g => lookS g L11, 1000000, [], [], none⟩
structure V11_0 where
  a0 : Int
structure Y11_0 where

  deriving Inhabited
def hS11_0 (v : V11_0) : St := ⟨[.c (.nilp), .c (.int .i64 v.a0)], []⟩
def iS11_0 (s : St) : V11_0 := ⟨iC (aC (s.tmps.getD 1 .top))⟩
def aS11_0 : List PA := [.c (.nilp), .c (.int .i64)]
def bS11_0 : List PB := []
def g11_0T (v : V11_0) : Tr Y11_0 :=
  .leaf (⟨⟩)
def g11_0 (v : V11_0) : Y11_0 := (g11_0T v).get default
def k11_0 (v : V11_0) (r : Y11_0) : AV × List Blk := (.tup [some (false, [.int .i64 0]), some (false, [.int .i64 0])], [])
noncomputable def q11_0 : Ab.Spec := runQh 0 e11 (lookT []) Go.Proofs.Try.f11
theorem q11_0_ok : SpecOk Go.Proofs.Try.prog 11 q11_0 := runQh_ok (runR_ok (e := e11) follows (allTI ti_ok _ _ _ _ _) (callsOk_cons s18_ok (callsOk_cons s19_ok (callsOk_cons s20_ok (callsOk_cons s23_ok (callsOk_nil))))) Go.Proofs.Try.func11 Go.Proofs.Try.call11) (fun c hc => by
  have hb : c = Go.Proofs.Try.f11.body.getD .skip := by rw [hc]; rfl
  subst hb
  exact tab_nil)
theorem g11_0_run (v : V11_0) : (q11_0 (hS11_0 v).tmps (hS11_0 v).heap).eval = (g11_0T v).ev (k11_0 v) := by kernel_rfl
noncomputable def sp11_0 (v : V11_0) : Res (AV × List Blk) := let r := g11_0 v; .val (k11_0 v r)
theorem sp11_0_ok (v : V11_0) (r : AV × List Blk) (h : (sp11_0 v).eval = some r) : (q11_0 (hS11_0 v).tmps (hS11_0 v).heap).eval = some r := by
  rw [g11_0_run, Tr.ev_get (d := default) (by kernel_rfl)]
  exact h
structure V11_1 where
  a0 : S3
  a1 : Int
structure Y11_1 where
  b0 : Int
  b1 : Int
  deriving Inhabited
def hS11_1 (v : V11_1) : St := ⟨[.c (.rp 3 v.a0 0), .c (.int .i64 v.a1)], []⟩
def iS11_1 (s : St) : V11_1 := ⟨rpC 3 (aC (s.tmps.getD 0 .top)), iC (aC (s.tmps.getD 1 .top))⟩
def aS11_1 : List PA := [.c (.rp 3 0), .c (.int .i64)]
def bS11_1 : List PB := []
def g11_1T (v : V11_1) : Tr Y11_1 :=
  .br (!v.a0.f9) (
   .leaf (⟨0, 0⟩)) (
   .br (bif (decide (v.a1 ≥ v.a0.f8)) then (decide (v.a1 ≤ 1099511627776)) else false) (
    .opt (g20_1 (V20_1.mk (v.a0) (v.a1))) fun z56 =>
     .leaf (⟨z56.b0.f6, z56.b0.f7⟩)) (
    .leaf (⟨v.a0.f6, v.a0.f7⟩)))
def g11_1 (v : V11_1) : Option Y11_1 := (g11_1T v).get?
def k11_1 (v : V11_1) (r : Y11_1) : AV × List Blk := (.tup [some (false, [.int .i64 r.b0]), some (false, [.int .i64 r.b1])], [])
noncomputable def q11_1 : Ab.Spec := runQh 0 e11 (lookT []) Go.Proofs.Try.f11
theorem q11_1_ok : SpecOk Go.Proofs.Try.prog 11 q11_1 := runQh_ok (runR_ok (e := e11) follows (allTI ti_ok _ _ _ _ _) (callsOk_cons s18_ok (callsOk_cons s19_ok (callsOk_cons s20_ok (callsOk_cons s23_ok (callsOk_nil))))) Go.Proofs.Try.func11 Go.Proofs.Try.call11) (fun c hc => by
  have hb : c = Go.Proofs.Try.f11.body.getD .skip := by rw [hc]; rfl
  subst hb
  exact tab_nil)
theorem g11_1_run (v : V11_1) : (q11_1 (hS11_1 v).tmps (hS11_1 v).heap).eval = (g11_1T v).ev (k11_1 v) := by kernel_rfl
noncomputable def sp11_1 (v : V11_1) : Res (AV × List Blk) := .opt (g11_1 v) fun r => .val (k11_1 v r)
theorem sp11_1_ok (v : V11_1) (r : AV × List Blk) (h : (sp11_1 v).eval = some r) : (q11_1 (hS11_1 v).tmps (hS11_1 v).heap).eval = some r := by
  rw [g11_1_run, Tr.ev_get?]
  unfold sp11_1 at h
  rw [eval_opt] at h
  obtain ⟨z, hz, h⟩ := Option.bind_eq_some_iff.mp h
  unfold g11_1 at hz
  rw [hz]; exact h
noncomputable def s11 : Ab.Spec := shapeS aS11_1 bS11_1 (fun args h => sp11_1 (iS11_1 ⟨args, h⟩)) (shapeS aS11_0 bS11_0 (fun args h => sp11_0 (iS11_0 ⟨args, h⟩)) (runR e11 Go.Proofs.Try.f11))
theorem s11_ok : SpecOk Go.Proofs.Try.prog 11 s11 := shape_ok hS11_1 iS11_1 q11_1_ok (shape_ok hS11_0 iS11_0 q11_0_ok ((runR_ok (e := e11) follows (allTI ti_ok _ _ _ _ _) (callsOk_cons s18_ok (callsOk_cons s19_ok (callsOk_cons s20_ok (callsOk_cons s23_ok (callsOk_nil))))) Go.Proofs.Try.func11 Go.Proofs.Try.call11)) (fun s => by kernel_rfl) sp11_0_ok) (fun s => by kernel_rfl) sp11_1_ok
/-- pontage/pontagelaw31.MeterBound -/
noncomputable def L4 : SL := [(7, .byVal, s7), (8, .byHeap, s8), (13, .byVal, s13), (9, .byVal, s9), (11, .byRead [some 3, none], s11), (10, .byHeap, s10), (18, .byHeap, s18), (19, .byHeap, s19), (20, .byHeap, s20), (23, .byRead [none, some 4], s23)]
noncomputable def e4 : Env := ⟨ti, fun g => lookS g L4, 1000000, [.drop 0, .drop 3, .drop 6, .drop 10, .drop 11, .drop 12, .drop 13, .drop 14, .drop 15, .drop 20, .drop 21, .drop 22, .drop 23, .drop 24, .drop 25, .drop 26, .drop 27, .drop 28, .drop 29, .drop 30, .drop 31, .drop 32, .drop 33, .drop 34, .drop 35, .drop 36, .drop 37, .drop 38, .drop 39, .drop 40, .drop 41, .drop 42, .drop 43, .drop 44, .drop 45, .drop 46, .drop 47, .drop 48, .drop 49, .drop 50, .drop 51, .drop 52, .drop 53, .drop 54, .drop 55, .drop 56, .drop 57, .drop 58, .drop 59, .drop 60, .drop 61, .drop 62, .drop 63, .drop 64, .drop 65, .drop 66, .drop 67, .drop 68, .drop 69, .drop 70, .drop 71, .drop 72, .drop 73, .drop 74, .drop 75, .drop 76, .drop 77, .drop 78, .drop 79, .drop 80, .drop 81, .drop 82, .drop 83, .drop 84, .drop 85, .drop 86, .drop 87, .drop 88, .drop 89, .drop 90, .drop 91, .drop 92, .drop 93, .drop 94, .drop 95, .drop 96, .drop 97, .drop 98, .drop 99, .drop 100, .drop 101, .drop 102, .drop 103, .drop 104, .drop 105, .drop 106, .drop 107, .drop 108, .drop 109, .drop 110, .drop 111, .drop 112, .drop 113, .drop 114, .drop 115, .drop 116, .drop 117, .drop 118, .drop 119, .drop 120, .drop 121, .drop 122, .drop 123, .drop 124, .drop 125, .drop 126, .drop 127, .drop 128, .drop 129, .drop 130, .drop 131, .drop 132, .drop 133, .drop 134, .drop 135, .drop 136, .drop 137, .drop 138, .drop 139, .drop 140, .drop 141, .drop 142, .drop 143, .drop 144, .drop 145, .drop 146, .drop 147, .drop 148, .drop 149, .drop 150, .drop 151, .drop 152, .drop 153, .drop 154, .drop 155, .drop 156, .drop 157, .drop 158, .drop 159, .drop 160, .drop 161, .drop 162, .drop 163, .drop 164, .drop 165, .drop 166, .drop 167, .drop 168, .drop 169, .drop 170, .drop 171, .drop 172, .drop 173, .drop 174, .drop 175, .drop 176, .drop 177, .drop 178, .drop 179, .drop 180, .drop 181, .drop 182, .drop 183, .drop 184, .drop 185, .drop 186, .tmp 7 2], [], some [4]⟩
structure W4_0 where
  a0 : List S1
  a1 : Bool
  a2 : Int
  a3 : Int
  a4 : S7
  a5 : List S2
def hd4_0 (v : W4_0) : St := ⟨[.top, .c (.rs 1 v.a0), .c (.ptr 0 0), .top, .c (.bool v.a1), .c (.nilp), .top, .c (.slw 1), .c (.int .i64 v.a2), .c (.int .i64 v.a3), .top, .top, .top, .top, .top, .top, .top, .top, .top, .top, .top, .top, .top, .top, .top, .top, .top, .top, .top, .top, .top, .top, .top, .top, .top, .top, .top, .top, .top, .top, .top, .top, .top, .top, .top, .top, .top, .top, .top, .top, .top, .top, .top, .top, .top, .top, .top, .top, .top, .top, .top, .top, .top, .top, .top, .top, .top, .top, .top, .top, .top, .top, .top, .top, .top, .top, .top, .top, .top, .top, .top, .top, .top, .top, .top, .top, .top, .top, .top, .top, .top, .top, .top, .top, .top, .top, .top, .top, .top, .top, .top, .top, .top, .top, .top, .top, .top, .top, .top, .top, .top, .top, .top, .top, .top, .top, .top, .top, .top, .top, .top, .top, .top, .top, .top, .top, .top, .top, .top, .top, .top, .top, .top, .top, .top, .top, .top, .top, .top, .top, .top, .top, .top, .top, .top, .top, .top, .top, .top, .top, .top, .top, .top, .top, .top, .top, .top, .top, .top, .top, .top, .top, .top, .top, .top, .top, .top, .top, .top, .top, .top, .top, .top, .top, .top, .top, .top, .top, .top, .top, .top, .top, .top, .top, .top, .top, .top], [.cells [.int .i64 v.a4.f0, .int .i64 v.a4.f1, .int .i64 v.a4.f2, .int .i64 v.a4.f3, .bool v.a4.f4, .bool v.a4.f5], .row 2 v.a5]⟩
def gR4_0 (v : W4_0) : Tr (W4_0 ⊕ (Bool × W4_0)) :=
  .br (bif (decide (v.a3 < (v.a0.length : Int))) then (decide (v.a3 < 40)) else false) (
   .br (decide (0 ≤ v.a3)) (
    .opt (v.a0[Int.toNat v.a3]?) fun y67 =>
     .br (decide (0 ≤ v.a3)) (
      .opt (v.a0[Int.toNat v.a3]?) fun y69 =>
       .br (decide (0 ≤ v.a3)) (
        .opt (v.a0[Int.toNat v.a3]?) fun y70 =>
         .leaf (.inl ({ v with a2 := (IntKind.i64.wrap (v.a2 + (IntKind.i64.wrap (remI (IntKind.u64.wrap y67.f0) 8)))), a3 := (IntKind.i64.wrap (v.a3 + 1)) }))) (
        .fail)) (
      .fail)) (
    .fail)) (
   .leaf (.inr (false, v)))
structure W4_0v1 where
  a0 : List S1
  a1 : Bool
  a2 : Int
  a3 : Int
  a4 : S7
  a5 : S3
  a6 : List S2
def hd4_0v1 (v : W4_0v1) : St := ⟨[.top, .c (.rs 1 v.a0), .c (.ptr 0 0), .top, .c (.bool v.a1), .c (.ptr 1 0), .top, .c (.slw 2), .c (.int .i64 v.a2), .c (.int .i64 v.a3), .top, .top, .top, .top, .top, .top, .top, .top, .top, .top, .top, .top, .top, .top, .top, .top, .top, .top, .top, .top, .top, .top, .top, .top, .top, .top, .top, .top, .top, .top, .top, .top, .top, .top, .top, .top, .top, .top, .top, .top, .top, .top, .top, .top, .top, .top, .top, .top, .top, .top, .top, .top, .top, .top, .top, .top, .top, .top, .top, .top, .top, .top, .top, .top, .top, .top, .top, .top, .top, .top, .top, .top, .top, .top, .top, .top, .top, .top, .top, .top, .top, .top, .top, .top, .top, .top, .top, .top, .top, .top, .top, .top, .top, .top, .top, .top, .top, .top, .top, .top, .top, .top, .top, .top, .top, .top, .top, .top, .top, .top, .top, .top, .top, .top, .top, .top, .top, .top, .top, .top, .top, .top, .top, .top, .top, .top, .top, .top, .top, .top, .top, .top, .top, .top, .top, .top, .top, .top, .top, .top, .top, .top, .top, .top, .top, .top, .top, .top, .top, .top, .top, .top, .top, .top, .top, .top, .top, .top, .top, .top, .top, .top, .top, .top, .top, .top, .top, .top, .top, .top, .top, .top, .top, .top, .top, .top, .top], [.cells [.int .i64 v.a4.f0, .int .i64 v.a4.f1, .int .i64 v.a4.f2, .int .i64 v.a4.f3, .bool v.a4.f4, .bool v.a4.f5], .cells [.int .i64 v.a5.f0, .int .i64 v.a5.f1, .int .i64 v.a5.f2, .int .i64 v.a5.f3, .bool v.a5.f4, .bool v.a5.f5, .int .i64 v.a5.f6, .int .i64 v.a5.f7, .int .i64 v.a5.f8, .bool v.a5.f9], .row 2 v.a6]⟩
structure U4_0v1 where
  a0 : Bool
def hu4_0v1 (u : U4_0v1) : St := ⟨[.top, .top, .top, .top, .c (.bool u.a0), .top, .top, .top, .top, .top, .top, .top, .top, .top, .top, .top, .top, .top, .top, .top, .top, .top, .top, .top, .top, .top, .top, .top, .top, .top, .top, .top, .top, .top, .top, .top, .top, .top, .top, .top, .top, .top, .top, .top, .top, .top, .top, .top, .top, .top, .top, .top, .top, .top, .top, .top, .top, .top, .top, .top, .top, .top, .top, .top, .top, .top, .top, .top, .top, .top, .top, .top, .top, .top, .top, .top, .top, .top, .top, .top, .top, .top, .top, .top, .top, .top, .top, .top, .top, .top, .top, .top, .top, .top, .top, .top, .top, .top, .top, .top, .top, .top, .top, .top, .top, .top, .top, .top, .top, .top, .top, .top, .top, .top, .top, .top, .top, .top, .top, .top, .top, .top, .top, .top, .top, .top, .top, .top, .top, .top, .top, .top, .top, .top, .top, .top, .top, .top, .top, .top, .top, .top, .top, .top, .top, .top, .top, .top, .top, .top, .top, .top, .top, .top, .top, .top, .top, .top, .top, .top, .top, .top, .top, .top, .top, .top, .top, .top, .top, .top, .top, .top, .top, .top, .top, .top, .top, .top, .top, .top, .top, .top, .top, .top, .top, .top, .top], []⟩
def gR4_0v1 (v : W4_0v1) : Tr (W4_0v1 ⊕ (W4_0v1 ⊕ U4_0v1)) :=
  .br (bif (decide (v.a3 < (v.a0.length : Int))) then (decide (v.a3 < 40)) else false) (
   .br (decide (0 ≤ v.a3)) (
    .opt (v.a0[Int.toNat v.a3]?) fun y95 =>
     .opt (g11_1 (V11_1.mk (v.a5) ((IntKind.i64.wrap (v.a2 + (IntKind.i64.wrap (remI (IntKind.u64.wrap y95.f0) 8))))))) fun z96 =>
      .br (decide (0 ≤ v.a3)) (
       .opt (v.a0[Int.toNat v.a3]?) fun y97 =>
        .br (decide (0 ≤ v.a3)) (
         .opt (v.a0[Int.toNat v.a3]?) fun y98 =>
          .opt (g10_1 (V10_1.mk ((IntKind.i64.wrap (v.a2 + (IntKind.i64.wrap (remI (IntKind.u64.wrap y95.f0) 8))))) (y97.f1) (y98.f2) (v.a5))) fun z99 =>
           .br (z99.b1 != 0) (
            .leaf (.inl ({ v with a2 := (IntKind.i64.wrap (v.a2 + (IntKind.i64.wrap (remI (IntKind.u64.wrap y95.f0) 8)))), a3 := (IntKind.i64.wrap (v.a3 + 1)), a5 := z99.b2 }))) (
            .opt (g11_1 (V11_1.mk (z99.b2) ((IntKind.i64.wrap (v.a2 + (IntKind.i64.wrap (remI (IntKind.u64.wrap y95.f0) 8))))))) fun z100 =>
             .br (bif (z99.b0 == 3) then (bif (z96.b0 != z100.b0) then true else (z96.b1 != z100.b1)) else false) (
              .leaf (.inr (.inr ⟨false⟩))) (
              .br (decide (0 ≤ v.a3)) (
               .opt (v.a0[Int.toNat v.a3]?) fun y101 =>
                .br (Nat.ble (v.a6.length + 1) 140737488355328 && Nat.ble ((v.a6.length + 1) * 24) 140737488355328) (
                 .leaf (.inl ({ v with a2 := (IntKind.i64.wrap (v.a2 + (IntKind.i64.wrap (remI (IntKind.u64.wrap y95.f0) 8)))), a3 := (IntKind.i64.wrap (v.a3 + 1)), a5 := z99.b2, a6 := (v.a6 ++ [(S2.mk (IntKind.i64.wrap (v.a2 + (IntKind.i64.wrap (remI (IntKind.u64.wrap y95.f0) 8)))) y101.f1 z99.b0)]) }))) (
                 .fail)) (
               .fail)))) (
         .fail)) (
       .fail)) (
    .fail)) (
   .leaf (.inr (.inl (v))))
noncomputable def lb4_0 : Code := match findB 0 (Go.Proofs.Try.f4.body.getD .skip) with | [.loop b] => b | _ => .skip
def pa4_0x0 : List PA := [.any, .c (.rs 1), .c (.ptr 0 0), .any, .c (.bool), .c (.nilp), .any, .c (.nils), .c (.int .i64), .c (.int .i64), .any, .any, .any, .any, .any, .any, .top, .top, .top, .top, .any, .any, .any, .any, .any, .any, .any, .any, .any, .any, .any, .any, .any, .any, .any, .any, .any, .any, .any, .any, .any, .any, .any, .any, .any, .any, .any, .any, .any, .any, .any, .any, .any, .any, .any, .any, .any, .any, .any, .any, .any, .any, .any, .any, .any, .any, .any, .any, .any, .any, .any, .any, .any, .any, .any, .any, .any, .any, .any, .any, .any, .any, .any, .any, .any, .any, .any, .any, .any, .any, .any, .any, .any, .any, .any, .any, .any, .any, .any, .any, .any, .any, .any, .any, .any, .any, .any, .any, .any, .any, .any, .any, .any, .any, .any, .any, .any, .any, .any, .any, .any, .any, .any, .any, .any, .any, .any, .any, .any, .any, .any, .any, .any, .any, .any, .any, .any, .any, .any, .any, .any, .any, .any, .any, .any, .any, .any, .any, .any, .any, .any, .any, .any, .any, .any, .any, .any, .any, .any, .any, .any, .any, .any, .any, .any, .any, .any, .any, .any, .any, .any, .any, .any, .any, .any, .any, .any, .any, .any, .any, .any, .any, .any, .any, .any, .any, .any]
def pb4_0x0 : List PB := [.cells [.int .i64, .int .i64, .int .i64, .int .i64, .bool, .bool]]
def ini4_0x0 (s : St) : W4_0 := ⟨rC 1 (aC (s.tmps.getD 1 .top)), bC (aC (s.tmps.getD 4 .top)), iC (aC (s.tmps.getD 8 .top)), iC (aC (s.tmps.getD 9 .top)), rd7 (bL (s.heap.getD 0 .dead)), []⟩
noncomputable def F4_0x0 : St → Res (Ex × St) := loopF pa4_0x0 pb4_0x0 1000000 hd4_0 gR4_0 ini4_0x0 false
theorem F4_0x0_ok (s : St) (r : Ex × St) (h : (F4_0x0 s).eval = some r) : (codeR e4 0 (.block 0 (.loop lb4_0)) s).eval = some r :=
  blk_ok (e := e4) (T := lookT []) (fun s v => by kernel_rfl) (fun s => by kernel_rfl) (tab_nil) s r h
def pa4_0x1 : List PA := [.any, .c (.rs 1), .c (.ptr 0 0), .any, .c (.bool), .c (.ptr 1 0), .any, .c (.nils), .c (.int .i64), .c (.int .i64), .any, .any, .any, .any, .any, .any, .top, .top, .top, .top, .any, .any, .any, .any, .any, .any, .any, .any, .any, .any, .any, .any, .any, .any, .any, .any, .any, .any, .any, .any, .any, .any, .any, .any, .any, .any, .any, .any, .any, .any, .any, .any, .any, .any, .any, .any, .any, .any, .any, .any, .any, .any, .any, .any, .any, .any, .any, .any, .any, .any, .any, .any, .any, .any, .any, .any, .any, .any, .any, .any, .any, .any, .any, .any, .any, .any, .any, .any, .any, .any, .any, .any, .any, .any, .any, .any, .any, .any, .any, .any, .any, .any, .any, .any, .any, .any, .any, .any, .any, .any, .any, .any, .any, .any, .any, .any, .any, .any, .any, .any, .any, .any, .any, .any, .any, .any, .any, .any, .any, .any, .any, .any, .any, .any, .any, .any, .any, .any, .any, .any, .any, .any, .any, .any, .any, .any, .any, .any, .any, .any, .any, .any, .any, .any, .any, .any, .any, .any, .any, .any, .any, .any, .any, .any, .any, .any, .any, .any, .any, .any, .any, .any, .any, .any, .any, .any, .any, .any, .any, .any, .any, .any, .any, .any, .any, .any, .any]
def pb4_0x1 : List PB := [.cells [.int .i64, .int .i64, .int .i64, .int .i64, .bool, .bool], .cells [.int .i64, .int .i64, .int .i64, .int .i64, .bool, .bool, .int .i64, .int .i64, .int .i64, .bool]]
def ini4_0x1 (s : St) : W4_0v1 := ⟨rC 1 (aC (s.tmps.getD 1 .top)), bC (aC (s.tmps.getD 4 .top)), iC (aC (s.tmps.getD 8 .top)), iC (aC (s.tmps.getD 9 .top)), rd7 (bL (s.heap.getD 0 .dead)), rd3 (bL (s.heap.getD 1 .dead)), []⟩
noncomputable def F4_0x1 : St → Res (Ex × St) := loopF2 pa4_0x1 pb4_0x1 1000000 hd4_0v1 hu4_0v1 gR4_0v1 ini4_0x1
theorem F4_0x1_ok (s : St) (r : Ex × St) (h : (F4_0x1 s).eval = some r) : (codeR e4 0 (.block 0 (.loop lb4_0)) s).eval = some r :=
  blk_ok2 (e := e4) (T := lookT []) (fun s v => by kernel_rfl) (fun s => by kernel_rfl) (tab_nil) s r h
noncomputable def F4_0 : St → Res (Ex × St) := (orF pa4_0x0 pb4_0x0 F4_0x0 F4_0x1)
theorem F4_0_ok (s : St) (r : Ex × St) (h : (F4_0 s).eval = some r) : (codeR e4 0 (.block 0 (.loop lb4_0)) s).eval = some r := (orF_ok F4_0x0_ok F4_0x1_ok) s r h
structure W4_4 where
  a0 : List S1
  a1 : Bool
  a2 : Int
  a3 : Int
  a4 : Int
  a5 : Int
  a6 : Int
  a7 : Int
  a8 : S7
  a9 : List S2
def hd4_4 (v : W4_4) : St := ⟨[.top, .c (.rs 1 v.a0), .c (.ptr 0 0), .top, .c (.bool v.a1), .c (.nilp), .top, .c (.slw 1), .c (.int .i64 v.a2), .c (.int .i64 v.a3), .top, .top, .top, .top, .top, .top, .c (.int .i64 v.a4), .c (.int .i64 v.a5), .c (.int .i64 v.a6), .c (.int .i64 v.a7), .top, .top, .top, .top, .top, .top, .top, .top, .top, .top, .top, .top, .top, .top, .top, .top, .top, .top, .top, .top, .top, .top, .top, .top, .top, .top, .top, .top, .top, .top, .top, .top, .top, .top, .top, .top, .top, .top, .top, .top, .top, .top, .top, .top, .top, .top, .top, .top, .top, .top, .top, .top, .top, .top, .top, .top, .top, .top, .top, .top, .top, .top, .top, .top, .top, .top, .top, .top, .top, .top, .top, .top, .top, .top, .top, .top, .top, .top, .top, .top, .top, .top, .top, .top, .top, .top, .top, .top, .top, .top, .top, .top, .top, .top, .top, .top, .top, .top, .top, .top, .top, .top, .top, .top, .top, .top, .top, .top, .top, .top, .top, .top, .top, .top, .top, .top, .top, .top, .top, .top, .top, .top, .top, .top, .top, .top, .top, .top, .top, .top, .top, .top, .top, .top, .top, .top, .top, .top, .top, .top, .top, .top, .top, .top, .top, .top, .top, .top, .top, .top, .top, .top, .top, .top, .top, .top, .top, .top, .top, .top, .top, .top, .top, .top, .top, .top, .top], [.cells [.int .i64 v.a8.f0, .int .i64 v.a8.f1, .int .i64 v.a8.f2, .int .i64 v.a8.f3, .bool v.a8.f4, .bool v.a8.f5], .row 2 v.a9]⟩
structure U4_4 where
  a0 : Bool
def hu4_4 (u : U4_4) : St := ⟨[.top, .top, .top, .top, .c (.bool u.a0), .top, .top, .top, .top, .top, .top, .top, .top, .top, .top, .top, .top, .top, .top, .top, .top, .top, .top, .top, .top, .top, .top, .top, .top, .top, .top, .top, .top, .top, .top, .top, .top, .top, .top, .top, .top, .top, .top, .top, .top, .top, .top, .top, .top, .top, .top, .top, .top, .top, .top, .top, .top, .top, .top, .top, .top, .top, .top, .top, .top, .top, .top, .top, .top, .top, .top, .top, .top, .top, .top, .top, .top, .top, .top, .top, .top, .top, .top, .top, .top, .top, .top, .top, .top, .top, .top, .top, .top, .top, .top, .top, .top, .top, .top, .top, .top, .top, .top, .top, .top, .top, .top, .top, .top, .top, .top, .top, .top, .top, .top, .top, .top, .top, .top, .top, .top, .top, .top, .top, .top, .top, .top, .top, .top, .top, .top, .top, .top, .top, .top, .top, .top, .top, .top, .top, .top, .top, .top, .top, .top, .top, .top, .top, .top, .top, .top, .top, .top, .top, .top, .top, .top, .top, .top, .top, .top, .top, .top, .top, .top, .top, .top, .top, .top, .top, .top, .top, .top, .top, .top, .top, .top, .top, .top, .top, .top, .top, .top, .top, .top, .top, .top], []⟩
def gR4_4 (v : W4_4) : Tr (W4_4 ⊕ (W4_4 ⊕ U4_4)) :=
  .br (decide (v.a7 < (v.a9.length : Int))) (
   .br (decide (0 ≤ v.a7) && decide (v.a7 < (v.a9.length : Int))) (
    .opt (v.a9[(Int.toNat v.a7)]?) fun y73 =>
     .br (y73.f2 == 1) (
      .br (decide (0 ≤ v.a7) && decide (v.a7 < (v.a9.length : Int))) (
       .opt (v.a9[(Int.toNat v.a7)]?) fun y74 =>
        .br (decide (0 ≤ v.a7) && decide (v.a7 < (v.a9.length : Int))) (
         .opt (v.a9[(Int.toNat v.a7)]?) fun y75 =>
          .br (y75.f2 != 3) (
           .br (decide (0 ≤ v.a7) && decide (v.a7 < (v.a9.length : Int))) (
            .opt (v.a9[(Int.toNat v.a7)]?) fun y76 =>
             .br (decide (0 ≤ v.a7) && decide (v.a7 < (v.a9.length : Int))) (
              .opt (v.a9[(Int.toNat v.a7)]?) fun y77 =>
               .br (decide (0 ≤ v.a4) && decide (v.a4 < (v.a9.length : Int))) (
                .opt (v.a9[(Int.toNat v.a4)]?) fun y78 =>
                 .br (bif (decide ((IntKind.i64.wrap (v.a5 + y74.f1)) > (IntKind.i64.wrap (v.a8.f1 + (IntKind.i64.wrap (v.a8.f0 * (IntKind.i64.wrap (y77.f0 - y78.f0)))))))) then true else (decide ((IntKind.i64.wrap (v.a6 + y76.f1)) > (IntKind.i64.wrap ((IntKind.i64.wrap (v.a8.f1 + v.a8.f3)) + (IntKind.i64.wrap ((IntKind.i64.wrap (v.a8.f0 + v.a8.f2)) * (IntKind.i64.wrap (y77.f0 - y78.f0))))))))) (
                  .leaf (.inr (.inr ⟨false⟩))) (
                  .leaf (.inl ({ v with a5 := (IntKind.i64.wrap (v.a5 + y74.f1)), a6 := (IntKind.i64.wrap (v.a6 + y76.f1)), a7 := (IntKind.i64.wrap (v.a7 + 1)) })))) (
                .fail)) (
              .fail)) (
            .fail)) (
           .br (decide (0 ≤ v.a7) && decide (v.a7 < (v.a9.length : Int))) (
            .opt (v.a9[(Int.toNat v.a7)]?) fun y79 =>
             .br (decide (0 ≤ v.a4) && decide (v.a4 < (v.a9.length : Int))) (
              .opt (v.a9[(Int.toNat v.a4)]?) fun y80 =>
               .br (bif (decide ((IntKind.i64.wrap (v.a5 + y74.f1)) > (IntKind.i64.wrap (v.a8.f1 + (IntKind.i64.wrap (v.a8.f0 * (IntKind.i64.wrap (y79.f0 - y80.f0)))))))) then true else (decide (v.a6 > (IntKind.i64.wrap ((IntKind.i64.wrap (v.a8.f1 + v.a8.f3)) + (IntKind.i64.wrap ((IntKind.i64.wrap (v.a8.f0 + v.a8.f2)) * (IntKind.i64.wrap (y79.f0 - y80.f0))))))))) (
                .leaf (.inr (.inr ⟨false⟩))) (
                .leaf (.inl ({ v with a5 := (IntKind.i64.wrap (v.a5 + y74.f1)), a7 := (IntKind.i64.wrap (v.a7 + 1)) })))) (
              .fail)) (
            .fail))) (
         .fail)) (
       .fail)) (
      .br (decide (0 ≤ v.a7) && decide (v.a7 < (v.a9.length : Int))) (
       .opt (v.a9[(Int.toNat v.a7)]?) fun y81 =>
        .br (y81.f2 != 3) (
         .br (decide (0 ≤ v.a7) && decide (v.a7 < (v.a9.length : Int))) (
          .opt (v.a9[(Int.toNat v.a7)]?) fun y82 =>
           .br (decide (0 ≤ v.a7) && decide (v.a7 < (v.a9.length : Int))) (
            .opt (v.a9[(Int.toNat v.a7)]?) fun y83 =>
             .br (decide (0 ≤ v.a4) && decide (v.a4 < (v.a9.length : Int))) (
              .opt (v.a9[(Int.toNat v.a4)]?) fun y84 =>
               .br (bif (decide (v.a5 > (IntKind.i64.wrap (v.a8.f1 + (IntKind.i64.wrap (v.a8.f0 * (IntKind.i64.wrap (y83.f0 - y84.f0)))))))) then true else (decide ((IntKind.i64.wrap (v.a6 + y82.f1)) > (IntKind.i64.wrap ((IntKind.i64.wrap (v.a8.f1 + v.a8.f3)) + (IntKind.i64.wrap ((IntKind.i64.wrap (v.a8.f0 + v.a8.f2)) * (IntKind.i64.wrap (y83.f0 - y84.f0))))))))) (
                .leaf (.inr (.inr ⟨false⟩))) (
                .leaf (.inl ({ v with a6 := (IntKind.i64.wrap (v.a6 + y82.f1)), a7 := (IntKind.i64.wrap (v.a7 + 1)) })))) (
              .fail)) (
            .fail)) (
          .fail)) (
         .br (decide (0 ≤ v.a7) && decide (v.a7 < (v.a9.length : Int))) (
          .opt (v.a9[(Int.toNat v.a7)]?) fun y85 =>
           .br (decide (0 ≤ v.a4) && decide (v.a4 < (v.a9.length : Int))) (
            .opt (v.a9[(Int.toNat v.a4)]?) fun y86 =>
             .br (bif (decide (v.a5 > (IntKind.i64.wrap (v.a8.f1 + (IntKind.i64.wrap (v.a8.f0 * (IntKind.i64.wrap (y85.f0 - y86.f0)))))))) then true else (decide (v.a6 > (IntKind.i64.wrap ((IntKind.i64.wrap (v.a8.f1 + v.a8.f3)) + (IntKind.i64.wrap ((IntKind.i64.wrap (v.a8.f0 + v.a8.f2)) * (IntKind.i64.wrap (y85.f0 - y86.f0))))))))) (
              .leaf (.inr (.inr ⟨false⟩))) (
              .leaf (.inl ({ v with a7 := (IntKind.i64.wrap (v.a7 + 1)) })))) (
            .fail)) (
          .fail))) (
       .fail))) (
    .fail)) (
   .leaf (.inr (.inl (v))))
structure W4_4v1 where
  a0 : List S1
  a1 : Bool
  a2 : Int
  a3 : Int
  a4 : Int
  a5 : Int
  a6 : Int
  a7 : Int
  a8 : S7
  a9 : S3
  a10 : List S2
def hd4_4v1 (v : W4_4v1) : St := ⟨[.top, .c (.rs 1 v.a0), .c (.ptr 0 0), .top, .c (.bool v.a1), .c (.ptr 1 0), .top, .c (.slw 2), .c (.int .i64 v.a2), .c (.int .i64 v.a3), .top, .top, .top, .top, .top, .top, .c (.int .i64 v.a4), .c (.int .i64 v.a5), .c (.int .i64 v.a6), .c (.int .i64 v.a7), .top, .top, .top, .top, .top, .top, .top, .top, .top, .top, .top, .top, .top, .top, .top, .top, .top, .top, .top, .top, .top, .top, .top, .top, .top, .top, .top, .top, .top, .top, .top, .top, .top, .top, .top, .top, .top, .top, .top, .top, .top, .top, .top, .top, .top, .top, .top, .top, .top, .top, .top, .top, .top, .top, .top, .top, .top, .top, .top, .top, .top, .top, .top, .top, .top, .top, .top, .top, .top, .top, .top, .top, .top, .top, .top, .top, .top, .top, .top, .top, .top, .top, .top, .top, .top, .top, .top, .top, .top, .top, .top, .top, .top, .top, .top, .top, .top, .top, .top, .top, .top, .top, .top, .top, .top, .top, .top, .top, .top, .top, .top, .top, .top, .top, .top, .top, .top, .top, .top, .top, .top, .top, .top, .top, .top, .top, .top, .top, .top, .top, .top, .top, .top, .top, .top, .top, .top, .top, .top, .top, .top, .top, .top, .top, .top, .top, .top, .top, .top, .top, .top, .top, .top, .top, .top, .top, .top, .top, .top, .top, .top, .top, .top, .top, .top, .top, .top], [.cells [.int .i64 v.a8.f0, .int .i64 v.a8.f1, .int .i64 v.a8.f2, .int .i64 v.a8.f3, .bool v.a8.f4, .bool v.a8.f5], .cells [.int .i64 v.a9.f0, .int .i64 v.a9.f1, .int .i64 v.a9.f2, .int .i64 v.a9.f3, .bool v.a9.f4, .bool v.a9.f5, .int .i64 v.a9.f6, .int .i64 v.a9.f7, .int .i64 v.a9.f8, .bool v.a9.f9], .row 2 v.a10]⟩
structure U4_4v1 where
  a0 : Bool
def hu4_4v1 (u : U4_4v1) : St := ⟨[.top, .top, .top, .top, .c (.bool u.a0), .top, .top, .top, .top, .top, .top, .top, .top, .top, .top, .top, .top, .top, .top, .top, .top, .top, .top, .top, .top, .top, .top, .top, .top, .top, .top, .top, .top, .top, .top, .top, .top, .top, .top, .top, .top, .top, .top, .top, .top, .top, .top, .top, .top, .top, .top, .top, .top, .top, .top, .top, .top, .top, .top, .top, .top, .top, .top, .top, .top, .top, .top, .top, .top, .top, .top, .top, .top, .top, .top, .top, .top, .top, .top, .top, .top, .top, .top, .top, .top, .top, .top, .top, .top, .top, .top, .top, .top, .top, .top, .top, .top, .top, .top, .top, .top, .top, .top, .top, .top, .top, .top, .top, .top, .top, .top, .top, .top, .top, .top, .top, .top, .top, .top, .top, .top, .top, .top, .top, .top, .top, .top, .top, .top, .top, .top, .top, .top, .top, .top, .top, .top, .top, .top, .top, .top, .top, .top, .top, .top, .top, .top, .top, .top, .top, .top, .top, .top, .top, .top, .top, .top, .top, .top, .top, .top, .top, .top, .top, .top, .top, .top, .top, .top, .top, .top, .top, .top, .top, .top, .top, .top, .top, .top, .top, .top, .top, .top, .top, .top, .top, .top], []⟩
def gR4_4v1 (v : W4_4v1) : Tr (W4_4v1 ⊕ (W4_4v1 ⊕ U4_4v1)) :=
  .br (decide (v.a7 < (v.a10.length : Int))) (
   .br (decide (0 ≤ v.a7) && decide (v.a7 < (v.a10.length : Int))) (
    .opt (v.a10[(Int.toNat v.a7)]?) fun y105 =>
     .br (y105.f2 == 1) (
      .br (decide (0 ≤ v.a7) && decide (v.a7 < (v.a10.length : Int))) (
       .opt (v.a10[(Int.toNat v.a7)]?) fun y106 =>
        .br (decide (0 ≤ v.a7) && decide (v.a7 < (v.a10.length : Int))) (
         .opt (v.a10[(Int.toNat v.a7)]?) fun y107 =>
          .br (y107.f2 != 3) (
           .br (decide (0 ≤ v.a7) && decide (v.a7 < (v.a10.length : Int))) (
            .opt (v.a10[(Int.toNat v.a7)]?) fun y108 =>
             .br (decide (0 ≤ v.a7) && decide (v.a7 < (v.a10.length : Int))) (
              .opt (v.a10[(Int.toNat v.a7)]?) fun y109 =>
               .br (decide (0 ≤ v.a4) && decide (v.a4 < (v.a10.length : Int))) (
                .opt (v.a10[(Int.toNat v.a4)]?) fun y110 =>
                 .br (bif (decide ((IntKind.i64.wrap (v.a5 + y106.f1)) > (IntKind.i64.wrap (v.a8.f1 + (IntKind.i64.wrap (v.a8.f0 * (IntKind.i64.wrap (y109.f0 - y110.f0)))))))) then true else (decide ((IntKind.i64.wrap (v.a6 + y108.f1)) > (IntKind.i64.wrap ((IntKind.i64.wrap (v.a8.f1 + v.a8.f3)) + (IntKind.i64.wrap ((IntKind.i64.wrap (v.a8.f0 + v.a8.f2)) * (IntKind.i64.wrap (y109.f0 - y110.f0))))))))) (
                  .leaf (.inr (.inr ⟨false⟩))) (
                  .leaf (.inl ({ v with a5 := (IntKind.i64.wrap (v.a5 + y106.f1)), a6 := (IntKind.i64.wrap (v.a6 + y108.f1)), a7 := (IntKind.i64.wrap (v.a7 + 1)) })))) (
                .fail)) (
              .fail)) (
            .fail)) (
           .br (decide (0 ≤ v.a7) && decide (v.a7 < (v.a10.length : Int))) (
            .opt (v.a10[(Int.toNat v.a7)]?) fun y111 =>
             .br (decide (0 ≤ v.a4) && decide (v.a4 < (v.a10.length : Int))) (
              .opt (v.a10[(Int.toNat v.a4)]?) fun y112 =>
               .br (bif (decide ((IntKind.i64.wrap (v.a5 + y106.f1)) > (IntKind.i64.wrap (v.a8.f1 + (IntKind.i64.wrap (v.a8.f0 * (IntKind.i64.wrap (y111.f0 - y112.f0)))))))) then true else (decide (v.a6 > (IntKind.i64.wrap ((IntKind.i64.wrap (v.a8.f1 + v.a8.f3)) + (IntKind.i64.wrap ((IntKind.i64.wrap (v.a8.f0 + v.a8.f2)) * (IntKind.i64.wrap (y111.f0 - y112.f0))))))))) (
                .leaf (.inr (.inr ⟨false⟩))) (
                .leaf (.inl ({ v with a5 := (IntKind.i64.wrap (v.a5 + y106.f1)), a7 := (IntKind.i64.wrap (v.a7 + 1)) })))) (
              .fail)) (
            .fail))) (
         .fail)) (
       .fail)) (
      .br (decide (0 ≤ v.a7) && decide (v.a7 < (v.a10.length : Int))) (
       .opt (v.a10[(Int.toNat v.a7)]?) fun y113 =>
        .br (y113.f2 != 3) (
         .br (decide (0 ≤ v.a7) && decide (v.a7 < (v.a10.length : Int))) (
          .opt (v.a10[(Int.toNat v.a7)]?) fun y114 =>
           .br (decide (0 ≤ v.a7) && decide (v.a7 < (v.a10.length : Int))) (
            .opt (v.a10[(Int.toNat v.a7)]?) fun y115 =>
             .br (decide (0 ≤ v.a4) && decide (v.a4 < (v.a10.length : Int))) (
              .opt (v.a10[(Int.toNat v.a4)]?) fun y116 =>
               .br (bif (decide (v.a5 > (IntKind.i64.wrap (v.a8.f1 + (IntKind.i64.wrap (v.a8.f0 * (IntKind.i64.wrap (y115.f0 - y116.f0)))))))) then true else (decide ((IntKind.i64.wrap (v.a6 + y114.f1)) > (IntKind.i64.wrap ((IntKind.i64.wrap (v.a8.f1 + v.a8.f3)) + (IntKind.i64.wrap ((IntKind.i64.wrap (v.a8.f0 + v.a8.f2)) * (IntKind.i64.wrap (y115.f0 - y116.f0))))))))) (
                .leaf (.inr (.inr ⟨false⟩))) (
                .leaf (.inl ({ v with a6 := (IntKind.i64.wrap (v.a6 + y114.f1)), a7 := (IntKind.i64.wrap (v.a7 + 1)) })))) (
              .fail)) (
            .fail)) (
          .fail)) (
         .br (decide (0 ≤ v.a7) && decide (v.a7 < (v.a10.length : Int))) (
          .opt (v.a10[(Int.toNat v.a7)]?) fun y117 =>
           .br (decide (0 ≤ v.a4) && decide (v.a4 < (v.a10.length : Int))) (
            .opt (v.a10[(Int.toNat v.a4)]?) fun y118 =>
             .br (bif (decide (v.a5 > (IntKind.i64.wrap (v.a8.f1 + (IntKind.i64.wrap (v.a8.f0 * (IntKind.i64.wrap (y117.f0 - y118.f0)))))))) then true else (decide (v.a6 > (IntKind.i64.wrap ((IntKind.i64.wrap (v.a8.f1 + v.a8.f3)) + (IntKind.i64.wrap ((IntKind.i64.wrap (v.a8.f0 + v.a8.f2)) * (IntKind.i64.wrap (y117.f0 - y118.f0))))))))) (
              .leaf (.inr (.inr ⟨false⟩))) (
              .leaf (.inl ({ v with a7 := (IntKind.i64.wrap (v.a7 + 1)) })))) (
            .fail)) (
          .fail))) (
       .fail))) (
    .fail)) (
   .leaf (.inr (.inl (v))))
noncomputable def lb4_4 : Code := match findB 4 (Go.Proofs.Try.f4.body.getD .skip) with | [.loop b] => b | _ => .skip
def pa4_4x0 : List PA := [.any, .c (.rs 1), .c (.ptr 0 0), .any, .c (.bool), .c (.nilp), .any, .c (.slw 1), .c (.int .i64), .c (.int .i64), .any, .any, .any, .any, .any, .any, .c (.int .i64), .c (.int .i64), .c (.int .i64), .c (.int .i64), .any, .any, .any, .any, .any, .any, .any, .any, .any, .any, .any, .any, .any, .any, .any, .any, .any, .any, .any, .any, .any, .any, .any, .any, .any, .any, .any, .any, .any, .any, .any, .any, .any, .any, .any, .any, .any, .any, .any, .any, .any, .any, .any, .any, .any, .any, .any, .any, .any, .any, .any, .any, .any, .any, .any, .any, .any, .any, .any, .any, .any, .any, .any, .any, .any, .any, .any, .any, .any, .any, .any, .any, .any, .any, .any, .any, .any, .any, .any, .any, .any, .any, .any, .any, .any, .any, .any, .any, .any, .any, .any, .any, .any, .any, .any, .any, .any, .any, .any, .any, .any, .any, .any, .any, .any, .any, .any, .any, .any, .any, .any, .any, .any, .any, .any, .any, .any, .any, .any, .any, .any, .any, .any, .any, .any, .any, .any, .any, .any, .any, .any, .any, .any, .any, .any, .any, .any, .any, .any, .any, .any, .any, .any, .any, .any, .any, .any, .any, .any, .any, .any, .any, .any, .any, .any, .any, .any, .any, .any, .any, .any, .any, .any, .any, .any, .any, .any]
def pb4_4x0 : List PB := [.cells [.int .i64, .int .i64, .int .i64, .int .i64, .bool, .bool], .row 2]
def ini4_4x0 (s : St) : W4_4 := ⟨rC 1 (aC (s.tmps.getD 1 .top)), bC (aC (s.tmps.getD 4 .top)), iC (aC (s.tmps.getD 8 .top)), iC (aC (s.tmps.getD 9 .top)), iC (aC (s.tmps.getD 16 .top)), iC (aC (s.tmps.getD 17 .top)), iC (aC (s.tmps.getD 18 .top)), iC (aC (s.tmps.getD 19 .top)), rd7 (bL (s.heap.getD 0 .dead)), bR 2 (s.heap.getD 1 .dead)⟩
noncomputable def F4_4x0 : St → Res (Ex × St) := loopF2 pa4_4x0 pb4_4x0 1000000 hd4_4 hu4_4 gR4_4 ini4_4x0
theorem F4_4x0_ok (s : St) (r : Ex × St) (h : (F4_4x0 s).eval = some r) : (codeR e4 0 (.block 4 (.loop lb4_4)) s).eval = some r :=
  blk_ok2 (e := e4) (T := lookT []) (fun s v => by kernel_rfl) (fun s => by kernel_rfl) (tab_nil) s r h
def pa4_4x1 : List PA := [.any, .c (.rs 1), .c (.ptr 0 0), .any, .c (.bool), .c (.ptr 1 0), .any, .c (.slw 2), .c (.int .i64), .c (.int .i64), .any, .any, .any, .any, .any, .any, .c (.int .i64), .c (.int .i64), .c (.int .i64), .c (.int .i64), .any, .any, .any, .any, .any, .any, .any, .any, .any, .any, .any, .any, .any, .any, .any, .any, .any, .any, .any, .any, .any, .any, .any, .any, .any, .any, .any, .any, .any, .any, .any, .any, .any, .any, .any, .any, .any, .any, .any, .any, .any, .any, .any, .any, .any, .any, .any, .any, .any, .any, .any, .any, .any, .any, .any, .any, .any, .any, .any, .any, .any, .any, .any, .any, .any, .any, .any, .any, .any, .any, .any, .any, .any, .any, .any, .any, .any, .any, .any, .any, .any, .any, .any, .any, .any, .any, .any, .any, .any, .any, .any, .any, .any, .any, .any, .any, .any, .any, .any, .any, .any, .any, .any, .any, .any, .any, .any, .any, .any, .any, .any, .any, .any, .any, .any, .any, .any, .any, .any, .any, .any, .any, .any, .any, .any, .any, .any, .any, .any, .any, .any, .any, .any, .any, .any, .any, .any, .any, .any, .any, .any, .any, .any, .any, .any, .any, .any, .any, .any, .any, .any, .any, .any, .any, .any, .any, .any, .any, .any, .any, .any, .any, .any, .any, .any, .any, .any]
def pb4_4x1 : List PB := [.cells [.int .i64, .int .i64, .int .i64, .int .i64, .bool, .bool], .cells [.int .i64, .int .i64, .int .i64, .int .i64, .bool, .bool, .int .i64, .int .i64, .int .i64, .bool], .row 2]
def ini4_4x1 (s : St) : W4_4v1 := ⟨rC 1 (aC (s.tmps.getD 1 .top)), bC (aC (s.tmps.getD 4 .top)), iC (aC (s.tmps.getD 8 .top)), iC (aC (s.tmps.getD 9 .top)), iC (aC (s.tmps.getD 16 .top)), iC (aC (s.tmps.getD 17 .top)), iC (aC (s.tmps.getD 18 .top)), iC (aC (s.tmps.getD 19 .top)), rd7 (bL (s.heap.getD 0 .dead)), rd3 (bL (s.heap.getD 1 .dead)), bR 2 (s.heap.getD 2 .dead)⟩
noncomputable def F4_4x1 : St → Res (Ex × St) := loopF2 pa4_4x1 pb4_4x1 1000000 hd4_4v1 hu4_4v1 gR4_4v1 ini4_4x1
theorem F4_4x1_ok (s : St) (r : Ex × St) (h : (F4_4x1 s).eval = some r) : (codeR e4 0 (.block 4 (.loop lb4_4)) s).eval = some r :=
  blk_ok2 (e := e4) (T := lookT []) (fun s v => by kernel_rfl) (fun s => by kernel_rfl) (tab_nil) s r h
noncomputable def F4_4 : St → Res (Ex × St) := (orF pa4_4x0 pb4_4x0 F4_4x0 F4_4x1)
theorem F4_4_ok (s : St) (r : Ex × St) (h : (F4_4 s).eval = some r) : (codeR e4 0 (.block 4 (.loop lb4_4)) s).eval = some r := (orF_ok F4_4x0_ok F4_4x1_ok) s r h
structure W4_2 where
  a0 : List S1
  a1 : Bool
  a2 : Int
  a3 : Int
  a4 : Int
  a5 : S7
  a6 : List S2
def hd4_2 (v : W4_2) : St := ⟨[.top, .c (.rs 1 v.a0), .c (.ptr 0 0), .top, .c (.bool v.a1), .c (.nilp), .top, .c (.slw 1), .c (.int .i64 v.a2), .c (.int .i64 v.a3), .top, .top, .top, .top, .top, .top, .c (.int .i64 v.a4), .top, .top, .top, .top, .top, .top, .top, .top, .top, .top, .top, .top, .top, .top, .top, .top, .top, .top, .top, .top, .top, .top, .top, .top, .top, .top, .top, .top, .top, .top, .top, .top, .top, .top, .top, .top, .top, .top, .top, .top, .top, .top, .top, .top, .top, .top, .top, .top, .top, .top, .top, .top, .top, .top, .top, .top, .top, .top, .top, .top, .top, .top, .top, .top, .top, .top, .top, .top, .top, .top, .top, .top, .top, .top, .top, .top, .top, .top, .top, .top, .top, .top, .top, .top, .top, .top, .top, .top, .top, .top, .top, .top, .top, .top, .top, .top, .top, .top, .top, .top, .top, .top, .top, .top, .top, .top, .top, .top, .top, .top, .top, .top, .top, .top, .top, .top, .top, .top, .top, .top, .top, .top, .top, .top, .top, .top, .top, .top, .top, .top, .top, .top, .top, .top, .top, .top, .top, .top, .top, .top, .top, .top, .top, .top, .top, .top, .top, .top, .top, .top, .top, .top, .top, .top, .top, .top, .top, .top, .top, .top, .top, .top, .top, .top, .top, .top, .top, .top, .top, .top], [.cells [.int .i64 v.a5.f0, .int .i64 v.a5.f1, .int .i64 v.a5.f2, .int .i64 v.a5.f3, .bool v.a5.f4, .bool v.a5.f5], .row 2 v.a6]⟩
structure U4_2 where
  a0 : Bool
def hu4_2 (u : U4_2) : St := ⟨[.top, .top, .top, .top, .c (.bool u.a0), .top, .top, .top, .top, .top, .top, .top, .top, .top, .top, .top, .top, .top, .top, .top, .top, .top, .top, .top, .top, .top, .top, .top, .top, .top, .top, .top, .top, .top, .top, .top, .top, .top, .top, .top, .top, .top, .top, .top, .top, .top, .top, .top, .top, .top, .top, .top, .top, .top, .top, .top, .top, .top, .top, .top, .top, .top, .top, .top, .top, .top, .top, .top, .top, .top, .top, .top, .top, .top, .top, .top, .top, .top, .top, .top, .top, .top, .top, .top, .top, .top, .top, .top, .top, .top, .top, .top, .top, .top, .top, .top, .top, .top, .top, .top, .top, .top, .top, .top, .top, .top, .top, .top, .top, .top, .top, .top, .top, .top, .top, .top, .top, .top, .top, .top, .top, .top, .top, .top, .top, .top, .top, .top, .top, .top, .top, .top, .top, .top, .top, .top, .top, .top, .top, .top, .top, .top, .top, .top, .top, .top, .top, .top, .top, .top, .top, .top, .top, .top, .top, .top, .top, .top, .top, .top, .top, .top, .top, .top, .top, .top, .top, .top, .top, .top, .top, .top, .top, .top, .top, .top, .top, .top, .top, .top, .top, .top, .top, .top, .top, .top, .top], []⟩
def gR4_2 (v : W4_2) : Tr (W4_2 ⊕ (W4_2 ⊕ U4_2)) :=
  .br (decide (v.a4 < (v.a6.length : Int))) (
   .opt (iter2 gR4_4 1000000 (W4_4.mk (v.a0) (v.a1) (v.a2) (v.a3) (v.a4) (0) (0) (v.a4) (v.a5) (v.a6))) fun r87 =>
    .br r87.isRight (
     .opt (r87.getRight?) fun u88 =>
      .leaf (.inr (.inr ⟨u88.a0⟩))) (
     .opt (r87.getLeft?) fun w89 =>
      .leaf (.inl (W4_2.mk (w89.a0) (w89.a1) (w89.a2) (w89.a3) ((IntKind.i64.wrap (w89.a4 + 1))) (w89.a8) (w89.a9))))) (
   .leaf (.inr (.inl (v))))
structure W4_2v1 where
  a0 : List S1
  a1 : Bool
  a2 : Int
  a3 : Int
  a4 : Int
  a5 : S7
  a6 : S3
  a7 : List S2
def hd4_2v1 (v : W4_2v1) : St := ⟨[.top, .c (.rs 1 v.a0), .c (.ptr 0 0), .top, .c (.bool v.a1), .c (.ptr 1 0), .top, .c (.slw 2), .c (.int .i64 v.a2), .c (.int .i64 v.a3), .top, .top, .top, .top, .top, .top, .c (.int .i64 v.a4), .top, .top, .top, .top, .top, .top, .top, .top, .top, .top, .top, .top, .top, .top, .top, .top, .top, .top, .top, .top, .top, .top, .top, .top, .top, .top, .top, .top, .top, .top, .top, .top, .top, .top, .top, .top, .top, .top, .top, .top, .top, .top, .top, .top, .top, .top, .top, .top, .top, .top, .top, .top, .top, .top, .top, .top, .top, .top, .top, .top, .top, .top, .top, .top, .top, .top, .top, .top, .top, .top, .top, .top, .top, .top, .top, .top, .top, .top, .top, .top, .top, .top, .top, .top, .top, .top, .top, .top, .top, .top, .top, .top, .top, .top, .top, .top, .top, .top, .top, .top, .top, .top, .top, .top, .top, .top, .top, .top, .top, .top, .top, .top, .top, .top, .top, .top, .top, .top, .top, .top, .top, .top, .top, .top, .top, .top, .top, .top, .top, .top, .top, .top, .top, .top, .top, .top, .top, .top, .top, .top, .top, .top, .top, .top, .top, .top, .top, .top, .top, .top, .top, .top, .top, .top, .top, .top, .top, .top, .top, .top, .top, .top, .top, .top, .top, .top, .top, .top, .top, .top], [.cells [.int .i64 v.a5.f0, .int .i64 v.a5.f1, .int .i64 v.a5.f2, .int .i64 v.a5.f3, .bool v.a5.f4, .bool v.a5.f5], .cells [.int .i64 v.a6.f0, .int .i64 v.a6.f1, .int .i64 v.a6.f2, .int .i64 v.a6.f3, .bool v.a6.f4, .bool v.a6.f5, .int .i64 v.a6.f6, .int .i64 v.a6.f7, .int .i64 v.a6.f8, .bool v.a6.f9], .row 2 v.a7]⟩
structure U4_2v1 where
  a0 : Bool
def hu4_2v1 (u : U4_2v1) : St := ⟨[.top, .top, .top, .top, .c (.bool u.a0), .top, .top, .top, .top, .top, .top, .top, .top, .top, .top, .top, .top, .top, .top, .top, .top, .top, .top, .top, .top, .top, .top, .top, .top, .top, .top, .top, .top, .top, .top, .top, .top, .top, .top, .top, .top, .top, .top, .top, .top, .top, .top, .top, .top, .top, .top, .top, .top, .top, .top, .top, .top, .top, .top, .top, .top, .top, .top, .top, .top, .top, .top, .top, .top, .top, .top, .top, .top, .top, .top, .top, .top, .top, .top, .top, .top, .top, .top, .top, .top, .top, .top, .top, .top, .top, .top, .top, .top, .top, .top, .top, .top, .top, .top, .top, .top, .top, .top, .top, .top, .top, .top, .top, .top, .top, .top, .top, .top, .top, .top, .top, .top, .top, .top, .top, .top, .top, .top, .top, .top, .top, .top, .top, .top, .top, .top, .top, .top, .top, .top, .top, .top, .top, .top, .top, .top, .top, .top, .top, .top, .top, .top, .top, .top, .top, .top, .top, .top, .top, .top, .top, .top, .top, .top, .top, .top, .top, .top, .top, .top, .top, .top, .top, .top, .top, .top, .top, .top, .top, .top, .top, .top, .top, .top, .top, .top, .top, .top, .top, .top, .top, .top], []⟩
def gR4_2v1 (v : W4_2v1) : Tr (W4_2v1 ⊕ (W4_2v1 ⊕ U4_2v1)) :=
  .br (decide (v.a4 < (v.a7.length : Int))) (
   .opt (iter2 gR4_4v1 1000000 (W4_4v1.mk (v.a0) (v.a1) (v.a2) (v.a3) (v.a4) (0) (0) (v.a4) (v.a5) (v.a6) (v.a7))) fun r119 =>
    .br r119.isRight (
     .opt (r119.getRight?) fun u120 =>
      .leaf (.inr (.inr ⟨u120.a0⟩))) (
     .opt (r119.getLeft?) fun w121 =>
      .leaf (.inl (W4_2v1.mk (w121.a0) (w121.a1) (w121.a2) (w121.a3) ((IntKind.i64.wrap (w121.a4 + 1))) (w121.a8) (w121.a9) (w121.a10))))) (
   .leaf (.inr (.inl (v))))
noncomputable def lb4_2 : Code := match findB 2 (Go.Proofs.Try.f4.body.getD .skip) with | [.loop b] => b | _ => .skip
def pa4_2x0 : List PA := [.any, .c (.rs 1), .c (.ptr 0 0), .any, .c (.bool), .c (.nilp), .any, .c (.slw 1), .c (.int .i64), .c (.int .i64), .any, .any, .any, .any, .any, .any, .c (.int .i64), .top, .top, .top, .any, .any, .any, .any, .any, .any, .any, .any, .any, .any, .any, .any, .any, .any, .any, .any, .any, .any, .any, .any, .any, .any, .any, .any, .any, .any, .any, .any, .any, .any, .any, .any, .any, .any, .any, .any, .any, .any, .any, .any, .any, .any, .any, .any, .any, .any, .any, .any, .any, .any, .any, .any, .any, .any, .any, .any, .any, .any, .any, .any, .any, .any, .any, .any, .any, .any, .any, .any, .any, .any, .any, .any, .any, .any, .any, .any, .any, .any, .any, .any, .any, .any, .any, .any, .any, .any, .any, .any, .any, .any, .any, .any, .any, .any, .any, .any, .any, .any, .any, .any, .any, .any, .any, .any, .any, .any, .any, .any, .any, .any, .any, .any, .any, .any, .any, .any, .any, .any, .any, .any, .any, .any, .any, .any, .any, .any, .any, .any, .any, .any, .any, .any, .any, .any, .any, .any, .any, .any, .any, .any, .any, .any, .any, .any, .any, .any, .any, .any, .any, .any, .any, .any, .any, .any, .any, .any, .any, .any, .any, .any, .any, .any, .any, .any, .any, .any, .any]
def pb4_2x0 : List PB := [.cells [.int .i64, .int .i64, .int .i64, .int .i64, .bool, .bool], .row 2]
def ini4_2x0 (s : St) : W4_2 := ⟨rC 1 (aC (s.tmps.getD 1 .top)), bC (aC (s.tmps.getD 4 .top)), iC (aC (s.tmps.getD 8 .top)), iC (aC (s.tmps.getD 9 .top)), iC (aC (s.tmps.getD 16 .top)), rd7 (bL (s.heap.getD 0 .dead)), bR 2 (s.heap.getD 1 .dead)⟩
noncomputable def F4_2x0 : St → Res (Ex × St) := loopF2 pa4_2x0 pb4_2x0 1000000 hd4_2 hu4_2 gR4_2 ini4_2x0
theorem F4_2x0_ok (s : St) (r : Ex × St) (h : (F4_2x0 s).eval = some r) : (codeR e4 0 (.block 2 (.loop lb4_2)) s).eval = some r :=
  blk_ok2 (e := e4) (T := lookT [(4, F4_4)]) (fun s v => by kernel_rfl) (fun s => by kernel_rfl) (tab_cons (by kernel_rfl) F4_4_ok (tab_nil)) s r h
def pa4_2x1 : List PA := [.any, .c (.rs 1), .c (.ptr 0 0), .any, .c (.bool), .c (.ptr 1 0), .any, .c (.slw 2), .c (.int .i64), .c (.int .i64), .any, .any, .any, .any, .any, .any, .c (.int .i64), .top, .top, .top, .any, .any, .any, .any, .any, .any, .any, .any, .any, .any, .any, .any, .any, .any, .any, .any, .any, .any, .any, .any, .any, .any, .any, .any, .any, .any, .any, .any, .any, .any, .any, .any, .any, .any, .any, .any, .any, .any, .any, .any, .any, .any, .any, .any, .any, .any, .any, .any, .any, .any, .any, .any, .any, .any, .any, .any, .any, .any, .any, .any, .any, .any, .any, .any, .any, .any, .any, .any, .any, .any, .any, .any, .any, .any, .any, .any, .any, .any, .any, .any, .any, .any, .any, .any, .any, .any, .any, .any, .any, .any, .any, .any, .any, .any, .any, .any, .any, .any, .any, .any, .any, .any, .any, .any, .any, .any, .any, .any, .any, .any, .any, .any, .any, .any, .any, .any, .any, .any, .any, .any, .any, .any, .any, .any, .any, .any, .any, .any, .any, .any, .any, .any, .any, .any, .any, .any, .any, .any, .any, .any, .any, .any, .any, .any, .any, .any, .any, .any, .any, .any, .any, .any, .any, .any, .any, .any, .any, .any, .any, .any, .any, .any, .any, .any, .any, .any, .any]
def pb4_2x1 : List PB := [.cells [.int .i64, .int .i64, .int .i64, .int .i64, .bool, .bool], .cells [.int .i64, .int .i64, .int .i64, .int .i64, .bool, .bool, .int .i64, .int .i64, .int .i64, .bool], .row 2]
def ini4_2x1 (s : St) : W4_2v1 := ⟨rC 1 (aC (s.tmps.getD 1 .top)), bC (aC (s.tmps.getD 4 .top)), iC (aC (s.tmps.getD 8 .top)), iC (aC (s.tmps.getD 9 .top)), iC (aC (s.tmps.getD 16 .top)), rd7 (bL (s.heap.getD 0 .dead)), rd3 (bL (s.heap.getD 1 .dead)), bR 2 (s.heap.getD 2 .dead)⟩
noncomputable def F4_2x1 : St → Res (Ex × St) := loopF2 pa4_2x1 pb4_2x1 1000000 hd4_2v1 hu4_2v1 gR4_2v1 ini4_2x1
theorem F4_2x1_ok (s : St) (r : Ex × St) (h : (F4_2x1 s).eval = some r) : (codeR e4 0 (.block 2 (.loop lb4_2)) s).eval = some r :=
  blk_ok2 (e := e4) (T := lookT [(4, F4_4)]) (fun s v => by kernel_rfl) (fun s => by kernel_rfl) (tab_cons (by kernel_rfl) F4_4_ok (tab_nil)) s r h
noncomputable def F4_2 : St → Res (Ex × St) := (orF pa4_2x0 pb4_2x0 F4_2x0 F4_2x1)
theorem F4_2_ok (s : St) (r : Ex × St) (h : (F4_2 s).eval = some r) : (codeR e4 0 (.block 2 (.loop lb4_2)) s).eval = some r := (orF_ok F4_2x0_ok F4_2x1_ok) s r h
def g4T (x0 : S7) (x1 : List S1) : Tr (Bool) :=
  let z63 := g7 x0
  let z64 := g13 z63
  .br (z64 != 0) (
   .br (!(bif (z64 != 0) then true else true)) (
    .opt (g9 ) fun z66 =>
     .br (!z66) (
      .leaf (false)) (
      .opt (iter gR4_0 1000000 (W4_0.mk (x1) (false) (0) (0) (z63) ([]))) fun r72 =>
       .br r72.1 (
        .fail) (
        .opt (iter2 gR4_2 1000000 (W4_2.mk (r72.2.a0) (r72.2.a1) (r72.2.a2) (r72.2.a3) (0) (r72.2.a4) (r72.2.a5))) fun r90 =>
         .br r90.isRight (
          .opt (r90.getRight?) fun u91 =>
           .leaf (u91.a0)) (
          .opt (r90.getLeft?) fun w92 =>
           .leaf (true))))) (
    .leaf (false))) (
   .opt (g9 ) fun z94 =>
    .br (!z94) (
     .leaf (false)) (
     .opt (iter2 gR4_0v1 1000000 (W4_0v1.mk (x1) (false) (0) (0) (z63) ((S3.mk z63.f0 z63.f1 z63.f2 z63.f3 z63.f4 z63.f5 z63.f1 z63.f3 0 true)) ([]))) fun r102 =>
      .br r102.isRight (
       .opt (r102.getRight?) fun u103 =>
        .leaf (u103.a0)) (
       .opt (r102.getLeft?) fun w104 =>
        .opt (iter2 gR4_2v1 1000000 (W4_2v1.mk (w104.a0) (w104.a1) (w104.a2) (w104.a3) (0) (w104.a4) (w104.a5) (w104.a6))) fun r122 =>
         .br r122.isRight (
          .opt (r122.getRight?) fun u123 =>
           .leaf (u123.a0)) (
          .opt (r122.getLeft?) fun w124 =>
           .leaf (true)))))
def g4 (x0 : S7) (x1 : List S1) : Option (Bool) := (g4T x0 x1).get?
noncomputable def T4 : TL := [(0, F4_0), (4, F4_4), (2, F4_2)]
noncomputable def q4 : Ab.Spec := runQ0 e4 (lookT T4) Go.Proofs.Try.f4
theorem q4_ok : SpecOk Go.Proofs.Try.prog 4 q4 := (runQ0_ok (runR_ok (e := e4) follows (allTI ti_ok _ _ _ _ _) (callsOk_cons s7_ok (callsOk_cons s8_ok (callsOk_cons s13_ok (callsOk_cons s9_ok (callsOk_cons s11_ok (callsOk_cons s10_ok (callsOk_cons s18_ok (callsOk_cons s19_ok (callsOk_cons s20_ok (callsOk_cons s23_ok (callsOk_nil))))))))))) Go.Proofs.Try.func4 Go.Proofs.Try.call4) (fun c hc => by
  have hb : c = Go.Proofs.Try.f4.body.getD .skip := by rw [hc]; rfl
  subst hb
  exact tab_cons (by kernel_rfl) F4_0_ok (tab_cons (by kernel_rfl) F4_4_ok (tab_cons (by kernel_rfl) F4_2_ok (tab_nil)))))
theorem g4_run (x0 : S7) (x1 : List S1) : (q4 [.agg (Cod.enc 7 x0), .c (.rs 1 x1)] []).eval = (g4T x0 x1).ev fun r => ((.c (.bool r) : AV), ([] : List Blk)) := by kernel_rfl
noncomputable def s4_0 : Ab.Spec := fun args h =>
  dN h <| dL args fun v0 a0 => dG v0 fun l0 => dE 7 l0 fun x0 => dL a0 fun v1 a1 => dC v1 fun c0 => dR0 1 c0 fun x1 => dN a1 <|
  .opt (g4 x0 x1) fun r => .val (.c (.bool r), [])
theorem s4_0_ok : SpecOk Go.Proofs.Try.prog 4 s4_0 :=
  q4_ok.less fun args hs r h => by
    unfold s4_0 at h
    obtain ⟨rfl, hh1⟩ := dN_inv h
    obtain ⟨v0, a0, rfl, hh2⟩ := dL_inv hh1
    obtain ⟨l0, rfl, hh3⟩ := dG_inv hh2
    obtain ⟨x0, rfl, hh4⟩ := dE_inv hh3
    obtain ⟨v1, a1, rfl, hh5⟩ := dL_inv hh4
    obtain ⟨c0, rfl, hh6⟩ := dC_inv hh5
    obtain ⟨x1, rfl, hh7⟩ := dR0_inv hh6
    obtain ⟨rfl, hh8⟩ := dN_inv hh7
    rw [g4_run, Tr.ev_get?]
    change (Res.opt (g4 x0 x1) _).eval = some r at hh8
    rw [eval_opt] at hh8
    obtain ⟨z, hz, hh9⟩ := Option.bind_eq_some_iff.mp hh8
    unfold g4 at hz
    rw [hz]; exact hh9
noncomputable def s4 : Ab.Spec := fun args h => s4_0 (coeA [[], [some 1]] args) h
theorem s4_ok : SpecOk Go.Proofs.Try.prog 4 s4 := s4_0_ok.pre [[], [some 1]]
/-- pontage/pontageref31.Is -/
noncomputable def L21 : SL := []
noncomputable def e21 : Env := ⟨ti, fun g => lookS g L21, 1000000, [], [], none⟩
def g21T (x0 : S7) : Tr (Bool) :=
  .leaf ((bif (bif (bif (bif (bif (bif (bif (decide (x0.f0 ≥ 0)) then (decide (x0.f0 ≤ 1073741824)) else false) then (decide (x0.f1 ≥ 0)) else false) then (decide (x0.f1 ≤ 1073741824)) else false) then (decide (x0.f2 ≥ 0)) else false) then (decide (x0.f2 ≤ 1073741824)) else false) then (decide (x0.f3 ≥ 0)) else false) then (decide (x0.f3 ≤ 1073741824)) else false))
def g21 (x0 : S7) : Bool := (g21T x0).get default
noncomputable def T21 : TL := []
noncomputable def q21 : Ab.Spec := runQ0 e21 (lookT T21) Go.Proofs.Try.f21
theorem q21_ok : SpecOk Go.Proofs.Try.prog 21 q21 := (runQ0_ok (runR_ok (e := e21) follows (allTI ti_ok _ _ _ _ _) (callsOk_nil) Go.Proofs.Try.func21 Go.Proofs.Try.call21) (fun c hc => by
  have hb : c = Go.Proofs.Try.f21.body.getD .skip := by rw [hc]; rfl
  subst hb
  exact tab_nil))
theorem g21_run (x0 : S7) : (q21 [.agg (Cod.enc 7 x0)] []).eval = (g21T x0).ev fun r => ((.c (.bool r) : AV), ([] : List Blk)) := by kernel_rfl
noncomputable def s21 : Ab.Spec := fun args h =>
  dN h <| dL args fun v0 a0 => dG v0 fun l0 => dE 7 l0 fun x0 => dN a0 <|
  let r := g21 x0; .val (.c (.bool r), [])
theorem s21_ok : SpecOk Go.Proofs.Try.prog 21 s21 :=
  q21_ok.less fun args hs r h => by
    unfold s21 at h
    obtain ⟨rfl, hh1⟩ := dN_inv h
    obtain ⟨v0, a0, rfl, hh2⟩ := dL_inv hh1
    obtain ⟨l0, rfl, hh3⟩ := dG_inv hh2
    obtain ⟨x0, rfl, hh4⟩ := dE_inv hh3
    obtain ⟨rfl, hh5⟩ := dN_inv hh4
    rw [g21_run, Tr.ev_get (d := default) (by kernel_rfl)]
    exact hh5
/-- pontage/pontageref31.New -/
noncomputable def L12 : SL := [(21, .byVal, s21)]
noncomputable def e12 : Env := ⟨ti, fun g => lookS g L12, 1000000, [], [], none⟩
def g12T (x0 : S7) : Tr (S8 × Int) :=
  let z125 := g21 x0
  .br (!z125) (
   .leaf ((S8.mk 0 0 0 0 false false 0 0 0), 310)) (
   .leaf ((S8.mk x0.f0 x0.f1 x0.f2 x0.f3 x0.f4 x0.f5 x0.f1 x0.f3 0), 0))
def g12 (x0 : S7) : S8 × Int := (g12T x0).get default
noncomputable def T12 : TL := []
noncomputable def q12 : Ab.Spec := runQ0 e12 (lookT T12) Go.Proofs.Try.f12
theorem q12_ok : SpecOk Go.Proofs.Try.prog 12 q12 := (runQ0_ok (runR_ok (e := e12) follows (allTI ti_ok _ _ _ _ _) (callsOk_cons s21_ok (callsOk_nil)) Go.Proofs.Try.func12 Go.Proofs.Try.call12) (fun c hc => by
  have hb : c = Go.Proofs.Try.f12.body.getD .skip := by rw [hc]; rfl
  subst hb
  exact tab_nil))
theorem g12_run (x0 : S7) : (q12 [.agg (Cod.enc 7 x0)] []).eval = (g12T x0).ev fun r => ((.tup [some (true, Cod.enc 8 r.1), some (false, [.int .i64 r.2])] : AV), ([] : List Blk)) := by kernel_rfl
noncomputable def s12 : Ab.Spec := fun args h =>
  dN h <| dL args fun v0 a0 => dG v0 fun l0 => dE 7 l0 fun x0 => dN a0 <|
  let r := g12 x0; .val (.tup [some (true, Cod.enc 8 r.1), some (false, [.int .i64 r.2])], [])
theorem s12_ok : SpecOk Go.Proofs.Try.prog 12 s12 :=
  q12_ok.less fun args hs r h => by
    unfold s12 at h
    obtain ⟨rfl, hh1⟩ := dN_inv h
    obtain ⟨v0, a0, rfl, hh2⟩ := dL_inv hh1
    obtain ⟨l0, rfl, hh3⟩ := dG_inv hh2
    obtain ⟨x0, rfl, hh4⟩ := dE_inv hh3
    obtain ⟨rfl, hh5⟩ := dN_inv hh4
    rw [g12_run, Tr.ev_get (d := default) (by kernel_rfl)]
    exact hh5
/-- (*pontage/meter.Meter).Fork -/
noncomputable def L14 : SL := [(18, .byHeap, s18)]
noncomputable def e14 : Env := ⟨ti, fun g => lookS g L14, 1000000, [], [], none⟩
noncomputable def s14 : Ab.Spec := runR e14 Go.Proofs.Try.f14
theorem s14_ok : SpecOk Go.Proofs.Try.prog 14 s14 := runR_ok (e := e14) follows (allTI ti_ok _ _ _ _ _) (callsOk_cons s18_ok (callsOk_nil)) Go.Proofs.Try.func14 Go.Proofs.Try.call14
/-- pontage/pontageref31.comes -/
noncomputable def L24 : SL := []
noncomputable def e24 : Env := ⟨ti, fun g => lookS g L24, 1000000, [], [], none⟩
def g24T (x0 : Int) (x1 : Int) : Tr (Int) :=
  .br (bif (x0 == 0) then true else (x1 == 0)) (
   .leaf (0)) (
   .br (x0 == 0) (
    .fail) (
    .br (decide (x1 > (quoI .i64 8589934592 x0))) (
     .leaf (8589934592)) (
     .leaf ((IntKind.i64.wrap (x0 * x1))))))
def g24 (x0 : Int) (x1 : Int) : Option (Int) := (g24T x0 x1).get?
noncomputable def T24 : TL := []
noncomputable def q24 : Ab.Spec := runQ0 e24 (lookT T24) Go.Proofs.Try.f24
theorem q24_ok : SpecOk Go.Proofs.Try.prog 24 q24 := (runQ0_ok (runR_ok (e := e24) follows (allTI ti_ok _ _ _ _ _) (callsOk_nil) Go.Proofs.Try.func24 Go.Proofs.Try.call24) (fun c hc => by
  have hb : c = Go.Proofs.Try.f24.body.getD .skip := by rw [hc]; rfl
  subst hb
  exact tab_nil))
theorem g24_run (x0 : Int) (x1 : Int) : (q24 [.c (.int .i64 x0), .c (.int .i64 x1)] []).eval = (g24T x0 x1).ev fun r => ((.c (.int .i64 r) : AV), ([] : List Blk)) := by kernel_rfl
noncomputable def s24 : Ab.Spec := fun args h =>
  dN h <| dL args fun v0 a0 => dC v0 fun c0 => dI .i64 c0 fun x0 => dL a0 fun v1 a1 => dC v1 fun c1 => dI .i64 c1 fun x1 => dN a1 <|
  .opt (g24 x0 x1) fun r => .val (.c (.int .i64 r), [])
theorem s24_ok : SpecOk Go.Proofs.Try.prog 24 s24 :=
  q24_ok.less fun args hs r h => by
    unfold s24 at h
    obtain ⟨rfl, hh1⟩ := dN_inv h
    obtain ⟨v0, a0, rfl, hh2⟩ := dL_inv hh1
    obtain ⟨c0, rfl, hh3⟩ := dC_inv hh2
    obtain ⟨x0, rfl, hh4⟩ := dI_inv hh3
    obtain ⟨v1, a1, rfl, hh5⟩ := dL_inv hh4
    obtain ⟨c1, rfl, hh6⟩ := dC_inv hh5
    obtain ⟨x1, rfl, hh7⟩ := dI_inv hh6
    obtain ⟨rfl, hh8⟩ := dN_inv hh7
    rw [g24_run, Tr.ev_get?]
    change (Res.opt (g24 x0 x1) _).eval = some r at hh8
    rw [eval_opt] at hh8
    obtain ⟨z, hz, hh9⟩ := Option.bind_eq_some_iff.mp hh8
    unfold g24 at hz
    rw [hz]; exact hh9
/-- pontage/pontageref31.Fill -/
noncomputable def L22 : SL := [(24, .byVal, s24)]
noncomputable def e22 : Env := ⟨ti, fun g => lookS g L22, 1000000, [], [], none⟩
def g22T (x0 : S8) (x1 : Int) : Tr (S8) :=
  .opt (g24 x0.f0 (IntKind.i64.wrap (x1 - x0.f8))) fun z126 =>
   .opt (g24 x0.f2 (IntKind.i64.wrap (x1 - x0.f8))) fun z127 =>
    .br x0.f4 (
     .leaf ({ x0 with f6 := (mnI (IntKind.i64.wrap (x0.f6 + z126)) x0.f1), f7 := (mnI (IntKind.i64.wrap ((IntKind.i64.wrap ((IntKind.i64.wrap (x0.f7 + z127)) + (IntKind.i64.wrap (x0.f6 + z126)))) - (mnI (IntKind.i64.wrap (x0.f6 + z126)) x0.f1))) x0.f3), f8 := x1 })) (
     .leaf ({ x0 with f6 := (mnI (IntKind.i64.wrap (x0.f6 + z126)) x0.f1), f7 := (mnI (IntKind.i64.wrap (x0.f7 + z127)) x0.f3), f8 := x1 }))
def g22 (x0 : S8) (x1 : Int) : Option (S8) := (g22T x0 x1).get?
noncomputable def T22 : TL := []
noncomputable def q22 : Ab.Spec := runQ0 e22 (lookT T22) Go.Proofs.Try.f22
theorem q22_ok : SpecOk Go.Proofs.Try.prog 22 q22 := (runQ0_ok (runR_ok (e := e22) follows (allTI ti_ok _ _ _ _ _) (callsOk_cons s24_ok (callsOk_nil)) Go.Proofs.Try.func22 Go.Proofs.Try.call22) (fun c hc => by
  have hb : c = Go.Proofs.Try.f22.body.getD .skip := by rw [hc]; rfl
  subst hb
  exact tab_nil))
theorem g22_run (x0 : S8) (x1 : Int) : (q22 [.agg (Cod.enc 8 x0), .c (.int .i64 x1)] []).eval = (g22T x0 x1).ev fun r => ((.agg (Cod.enc 8 r) : AV), ([] : List Blk)) := by kernel_rfl
noncomputable def s22 : Ab.Spec := fun args h =>
  dN h <| dL args fun v0 a0 => dG v0 fun l0 => dE 8 l0 fun x0 => dL a0 fun v1 a1 => dC v1 fun c0 => dI .i64 c0 fun x1 => dN a1 <|
  .opt (g22 x0 x1) fun r => .val (.agg (Cod.enc 8 r), [])
theorem s22_ok : SpecOk Go.Proofs.Try.prog 22 s22 :=
  q22_ok.less fun args hs r h => by
    unfold s22 at h
    obtain ⟨rfl, hh1⟩ := dN_inv h
    obtain ⟨v0, a0, rfl, hh2⟩ := dL_inv hh1
    obtain ⟨l0, rfl, hh3⟩ := dG_inv hh2
    obtain ⟨x0, rfl, hh4⟩ := dE_inv hh3
    obtain ⟨v1, a1, rfl, hh5⟩ := dL_inv hh4
    obtain ⟨c0, rfl, hh6⟩ := dC_inv hh5
    obtain ⟨x1, rfl, hh7⟩ := dI_inv hh6
    obtain ⟨rfl, hh8⟩ := dN_inv hh7
    rw [g22_run, Tr.ev_get?]
    change (Res.opt (g22 x0 x1) _).eval = some r at hh8
    rw [eval_opt] at hh8
    obtain ⟨z, hz, hh9⟩ := Option.bind_eq_some_iff.mp hh8
    unfold g22 at hz
    rw [hz]; exact hh9
/-- pontage/pontageref31.Mark -/
noncomputable def L15 : SL := [(22, .byVal, s22)]
noncomputable def e15 : Env := ⟨ti, fun g => lookS g L15, 1000000, [], [], none⟩
def g15T (x0 : S8) (x1 : Int) (x2 : Int) (x3 : Int) : Tr (S8 × Int × Int) :=
  .br (bif (decide (x1 < x0.f8)) then true else (decide (x1 > 1099511627776))) (
   .leaf (x0, 0, 1)) (
   .br (bif (bif (decide (x2 < 1)) then true else (decide (x2 > 2048))) then true else (bif (bif (x3 != 1) then (x3 != 2) else false) then (x3 != 3) else false)) (
    .leaf (x0, 0, 310)) (
    .opt (g22 x0 x1) fun z128 =>
     .br (!z128.f5) (
      .br (decide (x2 ≤ z128.f6)) (
       .leaf ({ z128 with f6 := (IntKind.i64.wrap (z128.f6 - x2)) }, 1, 0)) (
       .br (decide (x2 ≤ z128.f7)) (
        .leaf ({ z128 with f7 := (IntKind.i64.wrap (z128.f7 - x2)) }, 2, 0)) (
        .leaf (z128, 3, 0)))) (
      .br (bif (x3 == 1) then (decide (x2 ≤ z128.f6)) else false) (
       .leaf ({ z128 with f6 := (IntKind.i64.wrap (z128.f6 - x2)) }, 1, 0)) (
       .br (bif (x3 != 3) then (decide (x2 ≤ z128.f7)) else false) (
        .leaf ({ z128 with f7 := (IntKind.i64.wrap (z128.f7 - x2)) }, 2, 0)) (
        .leaf (z128, 3, 0))))))
def g15 (x0 : S8) (x1 : Int) (x2 : Int) (x3 : Int) : Option (S8 × Int × Int) := (g15T x0 x1 x2 x3).get?
noncomputable def T15 : TL := []
noncomputable def q15 : Ab.Spec := runQ0 e15 (lookT T15) Go.Proofs.Try.f15
theorem q15_ok : SpecOk Go.Proofs.Try.prog 15 q15 := (runQ0_ok (runR_ok (e := e15) follows (allTI ti_ok _ _ _ _ _) (callsOk_cons s22_ok (callsOk_nil)) Go.Proofs.Try.func15 Go.Proofs.Try.call15) (fun c hc => by
  have hb : c = Go.Proofs.Try.f15.body.getD .skip := by rw [hc]; rfl
  subst hb
  exact tab_nil))
theorem g15_run (x0 : S8) (x1 : Int) (x2 : Int) (x3 : Int) : (q15 [.agg (Cod.enc 8 x0), .c (.int .i64 x1), .c (.int .i64 x2), .c (.int .i64 x3)] []).eval = (g15T x0 x1 x2 x3).ev fun r => ((.tup [some (true, Cod.enc 8 r.1), some (false, [.int .i64 r.2.1]), some (false, [.int .i64 r.2.2])] : AV), ([] : List Blk)) := by kernel_rfl
noncomputable def s15 : Ab.Spec := fun args h =>
  dN h <| dL args fun v0 a0 => dG v0 fun l0 => dE 8 l0 fun x0 => dL a0 fun v1 a1 => dC v1 fun c0 => dI .i64 c0 fun x1 => dL a1 fun v2 a2 => dC v2 fun c1 => dI .i64 c1 fun x2 => dL a2 fun v3 a3 => dC v3 fun c2 => dI .i64 c2 fun x3 => dN a3 <|
  .opt (g15 x0 x1 x2 x3) fun r => .val (.tup [some (true, Cod.enc 8 r.1), some (false, [.int .i64 r.2.1]), some (false, [.int .i64 r.2.2])], [])
theorem s15_ok : SpecOk Go.Proofs.Try.prog 15 s15 :=
  q15_ok.less fun args hs r h => by
    unfold s15 at h
    obtain ⟨rfl, hh1⟩ := dN_inv h
    obtain ⟨v0, a0, rfl, hh2⟩ := dL_inv hh1
    obtain ⟨l0, rfl, hh3⟩ := dG_inv hh2
    obtain ⟨x0, rfl, hh4⟩ := dE_inv hh3
    obtain ⟨v1, a1, rfl, hh5⟩ := dL_inv hh4
    obtain ⟨c0, rfl, hh6⟩ := dC_inv hh5
    obtain ⟨x1, rfl, hh7⟩ := dI_inv hh6
    obtain ⟨v2, a2, rfl, hh8⟩ := dL_inv hh7
    obtain ⟨c1, rfl, hh9⟩ := dC_inv hh8
    obtain ⟨x2, rfl, hh10⟩ := dI_inv hh9
    obtain ⟨v3, a3, rfl, hh11⟩ := dL_inv hh10
    obtain ⟨c2, rfl, hh12⟩ := dC_inv hh11
    obtain ⟨x3, rfl, hh13⟩ := dI_inv hh12
    obtain ⟨rfl, hh14⟩ := dN_inv hh13
    rw [g15_run, Tr.ev_get?]
    change (Res.opt (g15 x0 x1 x2 x3) _).eval = some r at hh14
    rw [eval_opt] at hh14
    obtain ⟨z, hz, hh15⟩ := Option.bind_eq_some_iff.mp hh14
    unfold g15 at hz
    rw [hz]; exact hh15
/-- pontage/pontageref31.Levels -/
noncomputable def L16 : SL := [(22, .byVal, s22)]
noncomputable def e16 : Env := ⟨ti, fun g => lookS g L16, 1000000, [], [], none⟩
def g16T (x0 : S8) (x1 : Int) : Tr (Int × Int) :=
  .br (bif (decide (x1 ≥ x0.f8)) then (decide (x1 ≤ 1099511627776)) else false) (
   .opt (g22 x0 x1) fun z129 =>
    .leaf (z129.f6, z129.f7)) (
   .leaf (x0.f6, x0.f7))
def g16 (x0 : S8) (x1 : Int) : Option (Int × Int) := (g16T x0 x1).get?
noncomputable def T16 : TL := []
noncomputable def q16 : Ab.Spec := runQ0 e16 (lookT T16) Go.Proofs.Try.f16
theorem q16_ok : SpecOk Go.Proofs.Try.prog 16 q16 := (runQ0_ok (runR_ok (e := e16) follows (allTI ti_ok _ _ _ _ _) (callsOk_cons s22_ok (callsOk_nil)) Go.Proofs.Try.func16 Go.Proofs.Try.call16) (fun c hc => by
  have hb : c = Go.Proofs.Try.f16.body.getD .skip := by rw [hc]; rfl
  subst hb
  exact tab_nil))
theorem g16_run (x0 : S8) (x1 : Int) : (q16 [.agg (Cod.enc 8 x0), .c (.int .i64 x1)] []).eval = (g16T x0 x1).ev fun r => ((.tup [some (false, [.int .i64 r.1]), some (false, [.int .i64 r.2])] : AV), ([] : List Blk)) := by kernel_rfl
noncomputable def s16 : Ab.Spec := fun args h =>
  dN h <| dL args fun v0 a0 => dG v0 fun l0 => dE 8 l0 fun x0 => dL a0 fun v1 a1 => dC v1 fun c0 => dI .i64 c0 fun x1 => dN a1 <|
  .opt (g16 x0 x1) fun r => .val (.tup [some (false, [.int .i64 r.1]), some (false, [.int .i64 r.2])], [])
theorem s16_ok : SpecOk Go.Proofs.Try.prog 16 s16 :=
  q16_ok.less fun args hs r h => by
    unfold s16 at h
    obtain ⟨rfl, hh1⟩ := dN_inv h
    obtain ⟨v0, a0, rfl, hh2⟩ := dL_inv hh1
    obtain ⟨l0, rfl, hh3⟩ := dG_inv hh2
    obtain ⟨x0, rfl, hh4⟩ := dE_inv hh3
    obtain ⟨v1, a1, rfl, hh5⟩ := dL_inv hh4
    obtain ⟨c0, rfl, hh6⟩ := dC_inv hh5
    obtain ⟨x1, rfl, hh7⟩ := dI_inv hh6
    obtain ⟨rfl, hh8⟩ := dN_inv hh7
    rw [g16_run, Tr.ev_get?]
    change (Res.opt (g16 x0 x1) _).eval = some r at hh8
    rw [eval_opt] at hh8
    obtain ⟨z, hz, hh9⟩ := Option.bind_eq_some_iff.mp hh8
    unfold g16 at hz
    rw [hz]; exact hh9
/-- pontage/pontagelaw31.MeterRuns -/
noncomputable def L5 : SL := [(8, .byHeap, s8), (13, .byVal, s13), (12, .byVal, s12), (9, .byVal, s9), (14, .byHeap, s14), (18, .byHeap, s18), (10, .byHeap, s10), (19, .byHeap, s19), (20, .byHeap, s20), (23, .byRead [none, some 4], s23), (15, .byVal, s15), (11, .byRead [some 3, none], s11), (16, .byVal, s16), (17, .byRead [some 3], s17)]
noncomputable def e5 : Env := ⟨ti, fun g => lookS g L5, 1000000, [.drop 0, .drop 3, .drop 4, .drop 5, .drop 8, .drop 10, .drop 13, .drop 14, .drop 15, .drop 16, .drop 17, .drop 18, .drop 19, .drop 20, .drop 21, .drop 22, .drop 23, .drop 24, .drop 25, .drop 26, .drop 27, .drop 28, .drop 29, .drop 30, .drop 31, .drop 32, .drop 33, .drop 34, .drop 35, .drop 36, .drop 37, .drop 38, .drop 39, .drop 40, .drop 41, .drop 42, .drop 43, .drop 44, .drop 45, .drop 46, .drop 47, .drop 48, .drop 49, .drop 50, .drop 51, .drop 52, .drop 53, .drop 54, .drop 55, .drop 56, .drop 57, .drop 58, .drop 59, .drop 60, .drop 61, .drop 62, .drop 63, .drop 64, .drop 65, .drop 66, .drop 67, .drop 68, .drop 69, .drop 70, .drop 71, .drop 72, .drop 73, .drop 74, .drop 75, .drop 76, .drop 77, .drop 78, .drop 79, .drop 80, .drop 81, .drop 82, .drop 83, .drop 84, .drop 85, .drop 86, .drop 87, .drop 88, .drop 89, .drop 90, .drop 91, .drop 92, .drop 93, .drop 94, .drop 95, .drop 96, .drop 97, .drop 98, .drop 99, .drop 100, .drop 101, .drop 102, .drop 103, .drop 104, .drop 105, .drop 106, .drop 107, .drop 108, .drop 109, .drop 110, .drop 111, .drop 112, .drop 113, .drop 114, .drop 115, .drop 116, .drop 117, .drop 118, .drop 119, .drop 120, .drop 121, .drop 122, .drop 123, .drop 124, .drop 125, .drop 126, .drop 127, .drop 128, .drop 129, .drop 130, .drop 131, .drop 132, .drop 133, .drop 134, .drop 135, .drop 136, .drop 137, .drop 138, .drop 139, .drop 140, .drop 141, .drop 142, .drop 143, .drop 144, .drop 145, .drop 146, .drop 147, .drop 148, .drop 149, .drop 150, .drop 151, .drop 152, .drop 153, .drop 154, .drop 155, .drop 156, .drop 157, .drop 158, .drop 159, .drop 160, .drop 161, .drop 162, .drop 163, .drop 164, .drop 165, .drop 166, .drop 167, .drop 168, .drop 169, .drop 170, .drop 171, .drop 172, .drop 173, .drop 174, .drop 175], [], some [6]⟩
structure W5_0 where
  a0 : List S1
  a1 : Int
  a2 : Bool
  a3 : Int
  a4 : Int
  a5 : S8
def hd5_0 (v : W5_0) : St := ⟨[.top, .c (.rs 1 v.a0), .c (.int .i64 v.a1), .top, .top, .top, .c (.bool v.a2), .c (.nilp), .top, .c (.ptr 0 0), .top, .c (.int .i64 v.a3), .c (.int .i64 v.a4), .top, .top, .top, .top, .top, .top, .top, .top, .top, .top, .top, .top, .top, .top, .top, .top, .top, .top, .top, .top, .top, .top, .top, .top, .top, .top, .top, .top, .top, .top, .top, .top, .top, .top, .top, .top, .top, .top, .top, .top, .top, .top, .top, .top, .top, .top, .top, .top, .top, .top, .top, .top, .top, .top, .top, .top, .top, .top, .top, .top, .top, .top, .top, .top, .top, .top, .top, .top, .top, .top, .top, .top, .top, .top, .top, .top, .top, .top, .top, .top, .top, .top, .top, .top, .top, .top, .top, .top, .top, .top, .top, .top, .top, .top, .top, .top, .top, .top, .top, .top, .top, .top, .top, .top, .top, .top, .top, .top, .top, .top, .top, .top, .top, .top, .top, .top, .top, .top, .top, .top, .top, .top, .top, .top, .top, .top, .top, .top, .top, .top, .top, .top, .top, .top, .top, .top, .top, .top, .top, .top, .top, .top, .top, .top, .top, .top, .top, .top, .top, .top, .top, .top, .top, .top, .top, .top, .top, .top, .top, .top, .top, .top, .top], [.cells [.int .i64 v.a5.f0, .int .i64 v.a5.f1, .int .i64 v.a5.f2, .int .i64 v.a5.f3, .bool v.a5.f4, .bool v.a5.f5, .int .i64 v.a5.f6, .int .i64 v.a5.f7, .int .i64 v.a5.f8]]⟩
structure U5_0 where
  a0 : Bool
def hu5_0 (u : U5_0) : St := ⟨[.top, .top, .top, .top, .top, .top, .c (.bool u.a0), .top, .top, .top, .top, .top, .top, .top, .top, .top, .top, .top, .top, .top, .top, .top, .top, .top, .top, .top, .top, .top, .top, .top, .top, .top, .top, .top, .top, .top, .top, .top, .top, .top, .top, .top, .top, .top, .top, .top, .top, .top, .top, .top, .top, .top, .top, .top, .top, .top, .top, .top, .top, .top, .top, .top, .top, .top, .top, .top, .top, .top, .top, .top, .top, .top, .top, .top, .top, .top, .top, .top, .top, .top, .top, .top, .top, .top, .top, .top, .top, .top, .top, .top, .top, .top, .top, .top, .top, .top, .top, .top, .top, .top, .top, .top, .top, .top, .top, .top, .top, .top, .top, .top, .top, .top, .top, .top, .top, .top, .top, .top, .top, .top, .top, .top, .top, .top, .top, .top, .top, .top, .top, .top, .top, .top, .top, .top, .top, .top, .top, .top, .top, .top, .top, .top, .top, .top, .top, .top, .top, .top, .top, .top, .top, .top, .top, .top, .top, .top, .top, .top, .top, .top, .top, .top, .top, .top, .top, .top, .top, .top, .top, .top, .top, .top, .top, .top, .top, .top], []⟩
def gR5_0 (v : W5_0) : Tr (W5_0 ⊕ (W5_0 ⊕ U5_0)) :=
  .br (bif (bif (decide (v.a4 < (v.a0.length : Int))) then (decide (v.a4 < 100)) else false) then false else false) (
   .br (decide (0 ≤ v.a4)) (
    .opt (v.a0[Int.toNat v.a4]?) fun y135 =>
     .br (decide (y135.f0 ≥ 0)) (
      .br y135.f3 (
       .leaf (.inr (.inr ⟨false⟩))) (
       .opt (g15 v.a5 (IntKind.i64.wrap (v.a3 + (IntKind.i64.wrap (remI (IntKind.u64.wrap y135.f0) 1073741824)))) y135.f1 y135.f2) fun z137 =>
        .opt (g16 z137.1 v.a1) fun z139 =>
         .br (bif (bif (bif (bif (bif (bif (0 != z137.2.1) then true else (4 != z137.2.2)) then true else (0 != z139.1)) then true else (0 != z139.2)) then true else (0 != z137.1.f6)) then true else (0 != z137.1.f7)) then true else (0 != z137.1.f8)) (
          .leaf (.inr (.inr ⟨false⟩))) (
          .leaf (.inl ({ v with a3 := (mxI (IntKind.i64.wrap (v.a3 + (IntKind.i64.wrap (remI (IntKind.u64.wrap y135.f0) 1073741824)))) z137.1.f8), a4 := (IntKind.i64.wrap (v.a4 + 1)), a5 := z137.1 }))))) (
      .br y135.f3 (
       .leaf (.inr (.inr ⟨false⟩))) (
       .opt (g15 v.a5 v.a1 y135.f1 y135.f2) fun z143 =>
        .opt (g16 z143.1 v.a1) fun z145 =>
         .br (bif (bif (bif (bif (bif (bif (0 != z143.2.1) then true else (4 != z143.2.2)) then true else (0 != z145.1)) then true else (0 != z145.2)) then true else (0 != z143.1.f6)) then true else (0 != z143.1.f7)) then true else (0 != z143.1.f8)) (
          .leaf (.inr (.inr ⟨false⟩))) (
          .leaf (.inl ({ v with a3 := (mxI v.a3 z143.1.f8), a4 := (IntKind.i64.wrap (v.a4 + 1)), a5 := z143.1 })))))) (
    .fail)) (
   .leaf (.inr (.inl (v))))
structure W5_0v1 where
  a0 : List S1
  a1 : Int
  a2 : Bool
  a3 : Int
  a4 : Int
  a5 : S3
  a6 : S8
def hd5_0v1 (v : W5_0v1) : St := ⟨[.top, .c (.rs 1 v.a0), .c (.int .i64 v.a1), .top, .top, .top, .c (.bool v.a2), .c (.ptr 0 0), .top, .c (.ptr 1 0), .top, .c (.int .i64 v.a3), .c (.int .i64 v.a4), .top, .top, .top, .top, .top, .top, .top, .top, .top, .top, .top, .top, .top, .top, .top, .top, .top, .top, .top, .top, .top, .top, .top, .top, .top, .top, .top, .top, .top, .top, .top, .top, .top, .top, .top, .top, .top, .top, .top, .top, .top, .top, .top, .top, .top, .top, .top, .top, .top, .top, .top, .top, .top, .top, .top, .top, .top, .top, .top, .top, .top, .top, .top, .top, .top, .top, .top, .top, .top, .top, .top, .top, .top, .top, .top, .top, .top, .top, .top, .top, .top, .top, .top, .top, .top, .top, .top, .top, .top, .top, .top, .top, .top, .top, .top, .top, .top, .top, .top, .top, .top, .top, .top, .top, .top, .top, .top, .top, .top, .top, .top, .top, .top, .top, .top, .top, .top, .top, .top, .top, .top, .top, .top, .top, .top, .top, .top, .top, .top, .top, .top, .top, .top, .top, .top, .top, .top, .top, .top, .top, .top, .top, .top, .top, .top, .top, .top, .top, .top, .top, .top, .top, .top, .top, .top, .top, .top, .top, .top, .top, .top, .top, .top], [.cells [.int .i64 v.a5.f0, .int .i64 v.a5.f1, .int .i64 v.a5.f2, .int .i64 v.a5.f3, .bool v.a5.f4, .bool v.a5.f5, .int .i64 v.a5.f6, .int .i64 v.a5.f7, .int .i64 v.a5.f8, .bool v.a5.f9], .cells [.int .i64 v.a6.f0, .int .i64 v.a6.f1, .int .i64 v.a6.f2, .int .i64 v.a6.f3, .bool v.a6.f4, .bool v.a6.f5, .int .i64 v.a6.f6, .int .i64 v.a6.f7, .int .i64 v.a6.f8]]⟩
structure U5_0v1 where
  a0 : Bool
def hu5_0v1 (u : U5_0v1) : St := ⟨[.top, .top, .top, .top, .top, .top, .c (.bool u.a0), .top, .top, .top, .top, .top, .top, .top, .top, .top, .top, .top, .top, .top, .top, .top, .top, .top, .top, .top, .top, .top, .top, .top, .top, .top, .top, .top, .top, .top, .top, .top, .top, .top, .top, .top, .top, .top, .top, .top, .top, .top, .top, .top, .top, .top, .top, .top, .top, .top, .top, .top, .top, .top, .top, .top, .top, .top, .top, .top, .top, .top, .top, .top, .top, .top, .top, .top, .top, .top, .top, .top, .top, .top, .top, .top, .top, .top, .top, .top, .top, .top, .top, .top, .top, .top, .top, .top, .top, .top, .top, .top, .top, .top, .top, .top, .top, .top, .top, .top, .top, .top, .top, .top, .top, .top, .top, .top, .top, .top, .top, .top, .top, .top, .top, .top, .top, .top, .top, .top, .top, .top, .top, .top, .top, .top, .top, .top, .top, .top, .top, .top, .top, .top, .top, .top, .top, .top, .top, .top, .top, .top, .top, .top, .top, .top, .top, .top, .top, .top, .top, .top, .top, .top, .top, .top, .top, .top, .top, .top, .top, .top, .top, .top, .top, .top, .top, .top, .top, .top], []⟩
def gR5_0v1 (v : W5_0v1) : Tr (W5_0v1 ⊕ (W5_0v1 ⊕ U5_0v1)) :=
  .br (bif (bif (decide (v.a4 < (v.a0.length : Int))) then (decide (v.a4 < 100)) else false) then true else false) (
   .br (decide (0 ≤ v.a4)) (
    .opt (v.a0[Int.toNat v.a4]?) fun y155 =>
     .br (decide (y155.f0 ≥ 0)) (
      .br y155.f3 (
       .br (!v.a5.f9) (
        .leaf (.inr (.inr ⟨false⟩))) (
        .opt (g10_1 (V10_1.mk (1099511627776) (1) (1) (v.a5))) fun z156 =>
         .opt (g10_1 (V10_1.mk ((IntKind.i64.wrap (v.a3 + (IntKind.i64.wrap (remI (IntKind.u64.wrap y155.f0) 1073741824))))) (y155.f1) (y155.f2) (v.a5))) fun z157 =>
          .opt (g15 v.a6 (IntKind.i64.wrap (v.a3 + (IntKind.i64.wrap (remI (IntKind.u64.wrap y155.f0) 1073741824)))) y155.f1 y155.f2) fun z158 =>
           .opt (g11_1 (V11_1.mk (z157.b2) (v.a1))) fun z159 =>
            .opt (g16 z158.1 v.a1) fun z160 =>
             .opt (g11_1 (V11_1.mk (z157.b2) ((-1)))) fun z161 =>
              let z162 := g17_1 (V17_1.mk (z157.b2))
              .br (bif (bif (bif (bif (bif (bif (z157.b0 != z158.2.1) then true else (z157.b1 != z158.2.2)) then true else (z159.b0 != z160.1)) then true else (z159.b1 != z160.2)) then true else (z161.b0 != z158.1.f6)) then true else (z161.b1 != z158.1.f7)) then true else (z162.b0 != z158.1.f8)) (
               .leaf (.inr (.inr ⟨false⟩))) (
               .leaf (.inl ({ v with a3 := (mxI (IntKind.i64.wrap (v.a3 + (IntKind.i64.wrap (remI (IntKind.u64.wrap y155.f0) 1073741824)))) z158.1.f8), a4 := (IntKind.i64.wrap (v.a4 + 1)), a5 := z157.b2, a6 := z158.1 }))))) (
       .opt (g10_1 (V10_1.mk ((IntKind.i64.wrap (v.a3 + (IntKind.i64.wrap (remI (IntKind.u64.wrap y155.f0) 1073741824))))) (y155.f1) (y155.f2) (v.a5))) fun z163 =>
        .opt (g15 v.a6 (IntKind.i64.wrap (v.a3 + (IntKind.i64.wrap (remI (IntKind.u64.wrap y155.f0) 1073741824)))) y155.f1 y155.f2) fun z164 =>
         .opt (g11_1 (V11_1.mk (z163.b2) (v.a1))) fun z165 =>
          .opt (g16 z164.1 v.a1) fun z166 =>
           .opt (g11_1 (V11_1.mk (z163.b2) ((-1)))) fun z167 =>
            let z168 := g17_1 (V17_1.mk (z163.b2))
            .br (bif (bif (bif (bif (bif (bif (z163.b0 != z164.2.1) then true else (z163.b1 != z164.2.2)) then true else (z165.b0 != z166.1)) then true else (z165.b1 != z166.2)) then true else (z167.b0 != z164.1.f6)) then true else (z167.b1 != z164.1.f7)) then true else (z168.b0 != z164.1.f8)) (
             .leaf (.inr (.inr ⟨false⟩))) (
             .leaf (.inl ({ v with a3 := (mxI (IntKind.i64.wrap (v.a3 + (IntKind.i64.wrap (remI (IntKind.u64.wrap y155.f0) 1073741824)))) z164.1.f8), a4 := (IntKind.i64.wrap (v.a4 + 1)), a5 := z163.b2, a6 := z164.1 }))))) (
      .br y155.f3 (
       .br (!v.a5.f9) (
        .leaf (.inr (.inr ⟨false⟩))) (
        .opt (g10_1 (V10_1.mk (1099511627776) (1) (1) (v.a5))) fun z169 =>
         .opt (g10_1 (V10_1.mk (v.a1) (y155.f1) (y155.f2) (v.a5))) fun z170 =>
          .opt (g15 v.a6 v.a1 y155.f1 y155.f2) fun z171 =>
           .opt (g11_1 (V11_1.mk (z170.b2) (v.a1))) fun z172 =>
            .opt (g16 z171.1 v.a1) fun z173 =>
             .opt (g11_1 (V11_1.mk (z170.b2) ((-1)))) fun z174 =>
              let z175 := g17_1 (V17_1.mk (z170.b2))
              .br (bif (bif (bif (bif (bif (bif (z170.b0 != z171.2.1) then true else (z170.b1 != z171.2.2)) then true else (z172.b0 != z173.1)) then true else (z172.b1 != z173.2)) then true else (z174.b0 != z171.1.f6)) then true else (z174.b1 != z171.1.f7)) then true else (z175.b0 != z171.1.f8)) (
               .leaf (.inr (.inr ⟨false⟩))) (
               .leaf (.inl ({ v with a3 := (mxI v.a3 z171.1.f8), a4 := (IntKind.i64.wrap (v.a4 + 1)), a5 := z170.b2, a6 := z171.1 }))))) (
       .opt (g10_1 (V10_1.mk (v.a1) (y155.f1) (y155.f2) (v.a5))) fun z176 =>
        .opt (g15 v.a6 v.a1 y155.f1 y155.f2) fun z177 =>
         .opt (g11_1 (V11_1.mk (z176.b2) (v.a1))) fun z178 =>
          .opt (g16 z177.1 v.a1) fun z179 =>
           .opt (g11_1 (V11_1.mk (z176.b2) ((-1)))) fun z180 =>
            let z181 := g17_1 (V17_1.mk (z176.b2))
            .br (bif (bif (bif (bif (bif (bif (z176.b0 != z177.2.1) then true else (z176.b1 != z177.2.2)) then true else (z178.b0 != z179.1)) then true else (z178.b1 != z179.2)) then true else (z180.b0 != z177.1.f6)) then true else (z180.b1 != z177.1.f7)) then true else (z181.b0 != z177.1.f8)) (
             .leaf (.inr (.inr ⟨false⟩))) (
             .leaf (.inl ({ v with a3 := (mxI v.a3 z177.1.f8), a4 := (IntKind.i64.wrap (v.a4 + 1)), a5 := z176.b2, a6 := z177.1 })))))) (
    .fail)) (
   .leaf (.inr (.inl (v))))
noncomputable def lb5_0 : Code := match findB 0 (Go.Proofs.Try.f5.body.getD .skip) with | [.loop b] => b | _ => .skip
def pa5_0x0 : List PA := [.any, .c (.rs 1), .c (.int .i64), .any, .any, .any, .c (.bool), .c (.nilp), .any, .c (.ptr 1 0), .any, .c (.int .i64), .c (.int .i64), .any, .any, .any, .any, .any, .any, .any, .any, .any, .any, .any, .any, .any, .any, .any, .any, .any, .any, .any, .any, .any, .any, .any, .any, .any, .any, .any, .any, .any, .any, .any, .any, .any, .any, .any, .any, .any, .any, .any, .any, .any, .any, .any, .any, .any, .any, .any, .any, .any, .any, .any, .any, .any, .any, .any, .any, .any, .any, .any, .any, .any, .any, .any, .any, .any, .any, .any, .any, .any, .any, .any, .any, .any, .any, .any, .any, .any, .any, .any, .any, .any, .any, .any, .any, .any, .any, .any, .any, .any, .any, .any, .any, .any, .any, .any, .any, .any, .any, .any, .any, .any, .any, .any, .any, .any, .any, .any, .any, .any, .any, .any, .any, .any, .any, .any, .any, .any, .any, .any, .any, .any, .any, .any, .any, .any, .any, .any, .any, .any, .any, .any, .any, .any, .any, .any, .any, .any, .any, .any, .any, .any, .any, .any, .any, .any, .any, .any, .any, .any, .any, .any, .any, .any, .any, .any, .any, .any, .any, .any, .any, .any, .any, .any]
def pb5_0x0 : List PB := [.cells [.int .i64, .int .i64, .int .i64, .int .i64, .bool, .bool], .cells [.int .i64, .int .i64, .int .i64, .int .i64, .bool, .bool, .int .i64, .int .i64, .int .i64]]
def ini5_0x0 (s : St) : W5_0 := ⟨rC 1 (aC (s.tmps.getD 1 .top)), iC (aC (s.tmps.getD 2 .top)), bC (aC (s.tmps.getD 6 .top)), iC (aC (s.tmps.getD 11 .top)), iC (aC (s.tmps.getD 12 .top)), rd8 (bL (s.heap.getD 1 .dead))⟩
noncomputable def F5_0x0 : St → Res (Ex × St) := loopF2 pa5_0x0 pb5_0x0 1000000 hd5_0 hu5_0 gR5_0 ini5_0x0
theorem F5_0x0_ok (s : St) (r : Ex × St) (h : (F5_0x0 s).eval = some r) : (codeR e5 0 (.block 0 (.loop lb5_0)) s).eval = some r :=
  blk_ok2 (e := e5) (T := lookT []) (fun s v => by kernel_rfl) (fun s => by kernel_rfl) (tab_nil) s r h
def pa5_0x1 : List PA := [.any, .c (.rs 1), .c (.int .i64), .any, .any, .any, .c (.bool), .c (.ptr 1 0), .any, .c (.ptr 2 0), .any, .c (.int .i64), .c (.int .i64), .any, .any, .any, .any, .any, .any, .any, .any, .any, .any, .any, .any, .any, .any, .any, .any, .any, .any, .any, .any, .any, .any, .any, .any, .any, .any, .any, .any, .any, .any, .any, .any, .any, .any, .any, .any, .any, .any, .any, .any, .any, .any, .any, .any, .any, .any, .any, .any, .any, .any, .any, .any, .any, .any, .any, .any, .any, .any, .any, .any, .any, .any, .any, .any, .any, .any, .any, .any, .any, .any, .any, .any, .any, .any, .any, .any, .any, .any, .any, .any, .any, .any, .any, .any, .any, .any, .any, .any, .any, .any, .any, .any, .any, .any, .any, .any, .any, .any, .any, .any, .any, .any, .any, .any, .any, .any, .any, .any, .any, .any, .any, .any, .any, .any, .any, .any, .any, .any, .any, .any, .any, .any, .any, .any, .any, .any, .any, .any, .any, .any, .any, .any, .any, .any, .any, .any, .any, .any, .any, .any, .any, .any, .any, .any, .any, .any, .any, .any, .any, .any, .any, .any, .any, .any, .any, .any, .any, .any, .any, .any, .any, .any, .any]
def pb5_0x1 : List PB := [.cells [.int .i64, .int .i64, .int .i64, .int .i64, .bool, .bool], .cells [.int .i64, .int .i64, .int .i64, .int .i64, .bool, .bool, .int .i64, .int .i64, .int .i64, .bool], .cells [.int .i64, .int .i64, .int .i64, .int .i64, .bool, .bool, .int .i64, .int .i64, .int .i64]]
def ini5_0x1 (s : St) : W5_0v1 := ⟨rC 1 (aC (s.tmps.getD 1 .top)), iC (aC (s.tmps.getD 2 .top)), bC (aC (s.tmps.getD 6 .top)), iC (aC (s.tmps.getD 11 .top)), iC (aC (s.tmps.getD 12 .top)), rd3 (bL (s.heap.getD 1 .dead)), rd8 (bL (s.heap.getD 2 .dead))⟩
noncomputable def F5_0x1 : St → Res (Ex × St) := loopF2 pa5_0x1 pb5_0x1 1000000 hd5_0v1 hu5_0v1 gR5_0v1 ini5_0x1
theorem F5_0x1_ok (s : St) (r : Ex × St) (h : (F5_0x1 s).eval = some r) : (codeR e5 0 (.block 0 (.loop lb5_0)) s).eval = some r :=
  blk_ok2 (e := e5) (T := lookT []) (fun s v => by kernel_rfl) (fun s => by kernel_rfl) (tab_nil) s r h
noncomputable def F5_0 : St → Res (Ex × St) := (orF pa5_0x0 pb5_0x0 F5_0x0 F5_0x1)
theorem F5_0_ok (s : St) (r : Ex × St) (h : (F5_0 s).eval = some r) : (codeR e5 0 (.block 0 (.loop lb5_0)) s).eval = some r := (orF_ok F5_0x0_ok F5_0x1_ok) s r h
def g5T (x0 : S7) (x1 : List S1) (x2 : Int) : Tr (Bool) :=
  let z130 := g13 x0
  .br (z130 != 0) (
   let z131 := g12 x0
   let z132 := g13 x0
   .br (!(bif (bif (z130 != z131.2) then true else (z132 != z131.2)) then true else (!(false == (z131.2 == 0))))) (
    .opt (g9 ) fun z134 =>
     .br (!z134) (
      .leaf (false)) (
      .opt (iter2 gR5_0 1000000 (W5_0.mk (x1) (x2) (false) (0) (0) (z131.1))) fun r148 =>
       .br r148.isRight (
        .opt (r148.getRight?) fun u149 =>
         .leaf (u149.a0)) (
        .opt (r148.getLeft?) fun w150 =>
         .leaf (true)))) (
    .leaf (false))) (
   let z151 := g12 x0
   let z152 := g13 x0
   .br (!(bif (bif (0 != z151.2) then true else (z152 != z151.2)) then true else (!(true == (z151.2 == 0))))) (
    .opt (g9 ) fun z154 =>
     .br (!z154) (
      .leaf (false)) (
      .opt (iter2 gR5_0v1 1000000 (W5_0v1.mk (x1) (x2) (false) (0) (0) ((S3.mk x0.f0 x0.f1 x0.f2 x0.f3 x0.f4 x0.f5 x0.f1 x0.f3 0 true)) (z151.1))) fun r182 =>
       .br r182.isRight (
        .opt (r182.getRight?) fun u183 =>
         .leaf (u183.a0)) (
        .opt (r182.getLeft?) fun w184 =>
         .leaf (true)))) (
    .leaf (false)))
def g5 (x0 : S7) (x1 : List S1) (x2 : Int) : Option (Bool) := (g5T x0 x1 x2).get?
noncomputable def T5 : TL := [(0, F5_0)]
noncomputable def q5 : Ab.Spec := runQ0 e5 (lookT T5) Go.Proofs.Try.f5
theorem q5_ok : SpecOk Go.Proofs.Try.prog 5 q5 := (runQ0_ok (runR_ok (e := e5) follows (allTI ti_ok _ _ _ _ _) (callsOk_cons s8_ok (callsOk_cons s13_ok (callsOk_cons s12_ok (callsOk_cons s9_ok (callsOk_cons s14_ok (callsOk_cons s18_ok (callsOk_cons s10_ok (callsOk_cons s19_ok (callsOk_cons s20_ok (callsOk_cons s23_ok (callsOk_cons s15_ok (callsOk_cons s11_ok (callsOk_cons s16_ok (callsOk_cons s17_ok (callsOk_nil))))))))))))))) Go.Proofs.Try.func5 Go.Proofs.Try.call5) (fun c hc => by
  have hb : c = Go.Proofs.Try.f5.body.getD .skip := by rw [hc]; rfl
  subst hb
  exact tab_cons (by kernel_rfl) F5_0_ok (tab_nil)))
theorem g5_run (x0 : S7) (x1 : List S1) (x2 : Int) : (q5 [.agg (Cod.enc 7 x0), .c (.rs 1 x1), .c (.int .i64 x2)] []).eval = (g5T x0 x1 x2).ev fun r => ((.c (.bool r) : AV), ([] : List Blk)) := by kernel_rfl
noncomputable def s5_0 : Ab.Spec := fun args h =>
  dN h <| dL args fun v0 a0 => dG v0 fun l0 => dE 7 l0 fun x0 => dL a0 fun v1 a1 => dC v1 fun c0 => dR0 1 c0 fun x1 => dL a1 fun v2 a2 => dC v2 fun c1 => dI .i64 c1 fun x2 => dN a2 <|
  .opt (g5 x0 x1 x2) fun r => .val (.c (.bool r), [])
theorem s5_0_ok : SpecOk Go.Proofs.Try.prog 5 s5_0 :=
  q5_ok.less fun args hs r h => by
    unfold s5_0 at h
    obtain ⟨rfl, hh1⟩ := dN_inv h
    obtain ⟨v0, a0, rfl, hh2⟩ := dL_inv hh1
    obtain ⟨l0, rfl, hh3⟩ := dG_inv hh2
    obtain ⟨x0, rfl, hh4⟩ := dE_inv hh3
    obtain ⟨v1, a1, rfl, hh5⟩ := dL_inv hh4
    obtain ⟨c0, rfl, hh6⟩ := dC_inv hh5
    obtain ⟨x1, rfl, hh7⟩ := dR0_inv hh6
    obtain ⟨v2, a2, rfl, hh8⟩ := dL_inv hh7
    obtain ⟨c1, rfl, hh9⟩ := dC_inv hh8
    obtain ⟨x2, rfl, hh10⟩ := dI_inv hh9
    obtain ⟨rfl, hh11⟩ := dN_inv hh10
    rw [g5_run, Tr.ev_get?]
    change (Res.opt (g5 x0 x1 x2) _).eval = some r at hh11
    rw [eval_opt] at hh11
    obtain ⟨z, hz, hh12⟩ := Option.bind_eq_some_iff.mp hh11
    unfold g5 at hz
    rw [hz]; exact hh12
noncomputable def s5 : Ab.Spec := fun args h => s5_0 (coeA [[], [some 1], []] args) h
theorem s5_ok : SpecOk Go.Proofs.Try.prog 5 s5 := s5_0_ok.pre [[], [some 1], []]
/-- pontage/pontagelaw31.MeterNobody -/
noncomputable def L6 : SL := [(10, .byHeap, s10), (18, .byHeap, s18), (19, .byHeap, s19), (20, .byHeap, s20), (23, .byRead [none, some 4], s23), (11, .byRead [some 3, none], s11), (17, .byRead [some 3], s17), (14, .byHeap, s14), (9, .byVal, s9)]
noncomputable def e6 : Env := ⟨ti, fun g => lookS g L6, 1000000, [.drop 3, .drop 4, .drop 5, .drop 7, .drop 8, .drop 9, .drop 10, .drop 11, .drop 12, .drop 13, .drop 14, .drop 15, .drop 16, .drop 20, .drop 21, .drop 22, .drop 23, .drop 24, .drop 25, .drop 26, .drop 27, .drop 28, .drop 29, .drop 30, .drop 31, .drop 32, .drop 33, .drop 34, .drop 35, .drop 36, .drop 37, .drop 38, .drop 39, .drop 40, .drop 41, .drop 42, .drop 43, .drop 44, .drop 45, .drop 46, .drop 47, .drop 48, .drop 49, .drop 50, .drop 51, .drop 52, .drop 53, .drop 54, .drop 55, .drop 56, .drop 57, .drop 58], [], some [6]⟩
def g6T (x0 : Int) (x1 : Int) (x2 : Int) : Tr (Bool) :=
  .opt (g10_1 (V10_1.mk (x0) (x1) (x2) ((S3.mk 0 0 0 0 false false 0 0 0 false)))) fun z188 =>
   .opt (g11_1 (V11_1.mk (z188.b2) (x0))) fun z189 =>
    let z190 := g17_1 (V17_1.mk (z188.b2))
    .br (!(bif (bif (z188.b1 != 4) then true else (z188.b0 != 0)) then true else ((IntKind.i64.wrap ((IntKind.i64.wrap (z189.b0 + z189.b1)) + z190.b0)) != 0))) (
     .br (!z188.b2.f9) (
      .opt (g9 ) fun z191 =>
       .leaf (z191)) (
      .leaf (false))) (
     .leaf (false))
def g6 (x0 : Int) (x1 : Int) (x2 : Int) : Option (Bool) := (g6T x0 x1 x2).get?
noncomputable def T6 : TL := []
noncomputable def q6 : Ab.Spec := runQ0 e6 (lookT T6) Go.Proofs.Try.f6
theorem q6_ok : SpecOk Go.Proofs.Try.prog 6 q6 := (runQ0_ok (runR_ok (e := e6) follows (allTI ti_ok _ _ _ _ _) (callsOk_cons s10_ok (callsOk_cons s18_ok (callsOk_cons s19_ok (callsOk_cons s20_ok (callsOk_cons s23_ok (callsOk_cons s11_ok (callsOk_cons s17_ok (callsOk_cons s14_ok (callsOk_cons s9_ok (callsOk_nil)))))))))) Go.Proofs.Try.func6 Go.Proofs.Try.call6) (fun c hc => by
  have hb : c = Go.Proofs.Try.f6.body.getD .skip := by rw [hc]; rfl
  subst hb
  exact tab_nil))
theorem g6_run (x0 : Int) (x1 : Int) (x2 : Int) : (q6 [.c (.int .i64 x0), .c (.int .i64 x1), .c (.int .i64 x2)] []).eval = (g6T x0 x1 x2).ev fun r => ((.c (.bool r) : AV), ([] : List Blk)) := by kernel_rfl
noncomputable def s6 : Ab.Spec := fun args h =>
  dN h <| dL args fun v0 a0 => dC v0 fun c0 => dI .i64 c0 fun x0 => dL a0 fun v1 a1 => dC v1 fun c1 => dI .i64 c1 fun x1 => dL a1 fun v2 a2 => dC v2 fun c2 => dI .i64 c2 fun x2 => dN a2 <|
  .opt (g6 x0 x1 x2) fun r => .val (.c (.bool r), [])
theorem s6_ok : SpecOk Go.Proofs.Try.prog 6 s6 :=
  q6_ok.less fun args hs r h => by
    unfold s6 at h
    obtain ⟨rfl, hh1⟩ := dN_inv h
    obtain ⟨v0, a0, rfl, hh2⟩ := dL_inv hh1
    obtain ⟨c0, rfl, hh3⟩ := dC_inv hh2
    obtain ⟨x0, rfl, hh4⟩ := dI_inv hh3
    obtain ⟨v1, a1, rfl, hh5⟩ := dL_inv hh4
    obtain ⟨c1, rfl, hh6⟩ := dC_inv hh5
    obtain ⟨x1, rfl, hh7⟩ := dI_inv hh6
    obtain ⟨v2, a2, rfl, hh8⟩ := dL_inv hh7
    obtain ⟨c2, rfl, hh9⟩ := dC_inv hh8
    obtain ⟨x2, rfl, hh10⟩ := dI_inv hh9
    obtain ⟨rfl, hh11⟩ := dN_inv hh10
    rw [g6_run, Tr.ev_get?]
    change (Res.opt (g6 x0 x1 x2) _).eval = some r at hh11
    rw [eval_opt] at hh11
    obtain ⟨z, hz, hh12⟩ := Option.bind_eq_some_iff.mp hh11
    unfold g6 at hz
    rw [hz]; exact hh12
end Ab31
