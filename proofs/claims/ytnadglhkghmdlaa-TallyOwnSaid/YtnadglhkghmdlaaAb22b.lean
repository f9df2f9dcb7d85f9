/- Seat 22: the functions. -/
import Derived.Test.YtnadglhkghmdlaaAb22a
set_option maxRecDepth 100000
set_option maxHeartbeats 4000000
set_option linter.unusedVariables false
set_option linter.unusedSimpArgs false
namespace Ab22
open Go Ab
/-- pontage/tally.New -/
noncomputable def L8 : SL := []
noncomputable def e8 : Env := ⟨ti, fun g => lookS g L8, 2000000, [], [], none⟩
noncomputable def s8 : Ab.Spec := runR e8 Go.Proofs.Try.f8
theorem s8_ok : SpecOk Go.Proofs.Try.prog 8 s8 := runR_ok (e := e8) follows (allTI ti_ok _ _ _ _ _) (callsOk_nil) Go.Proofs.Try.func8 Go.Proofs.Try.call8
/-- (*pontage/tally.Tally).none -/
noncomputable def L26 : SL := []
noncomputable def e26 : Env := ⟨ti, fun g => lookS g L26, 2000000, [], [], none⟩
noncomputable def s26 : Ab.Spec := runR e26 Go.Proofs.Try.f26
theorem s26_ok : SpecOk Go.Proofs.Try.prog 26 s26 := runR_ok (e := e26) follows (allTI ti_ok _ _ _ _ _) (callsOk_nil) Go.Proofs.Try.func26 Go.Proofs.Try.call26
/-- pontage/tally.is -/
noncomputable def L27 : SL := []
noncomputable def e27 : Env := ⟨ti, fun g => lookS g L27, 2000000, [], [], none⟩
def g27T (x0 : Int) : Tr (Bool) :=
  .leaf ((bif (decide (x0 ≥ 1)) then (decide (x0 ≤ 14)) else false))
def g27 (x0 : Int) : Bool := (g27T x0).get default
noncomputable def T27 : TL := []
noncomputable def q27 : Ab.Spec := runQ0 e27 (lookT T27) Go.Proofs.Try.f27
theorem q27_ok : SpecOk Go.Proofs.Try.prog 27 q27 := (runQ0_ok (runR_ok (e := e27) follows (allTI ti_ok _ _ _ _ _) (callsOk_nil) Go.Proofs.Try.func27 Go.Proofs.Try.call27) (fun c hc => by
  have hb : c = Go.Proofs.Try.f27.body.getD .skip := by rw [hc]; rfl
  subst hb
  exact tab_nil))
theorem g27_run (x0 : Int) : (q27 [.c (.int .i64 x0)] []).eval = (g27T x0).ev fun r => ((.c (.bool r) : AV), ([] : List Blk)) := by kernel_rfl
noncomputable def s27 : Ab.Spec := fun args h =>
  dN h <| dL args fun v0 a0 => dC v0 fun c0 => dI .i64 c0 fun x0 => dN a0 <|
  let r := g27 x0; .val (.c (.bool r), [])
theorem s27_ok : SpecOk Go.Proofs.Try.prog 27 s27 :=
  q27_ok.less fun args hs r h => by
    unfold s27 at h
    obtain ⟨rfl, hh1⟩ := dN_inv h
    obtain ⟨v0, a0, rfl, hh2⟩ := dL_inv hh1
    obtain ⟨c0, rfl, hh3⟩ := dC_inv hh2
    obtain ⟨x0, rfl, hh4⟩ := dI_inv hh3
    obtain ⟨rfl, hh5⟩ := dN_inv hh4
    rw [g27_run, Tr.ev_get (d := default) (by kernel_rfl)]
    exact hh5
/-- (*pontage/tally.Tally).Add -/
noncomputable def L10 : SL := [(26, .byHeap, s26), (27, .byVal, s27)]
noncomputable def e10 : Env := ⟨ti, fun g => lookS g L10, 2000000, [], [], none⟩
structure V10_0 where
  a0 : Int
  a1 : Int
  a2 : S3
structure Y10_0 where
  b0 : Int
  b1 : S3
  deriving Inhabited
def hS10_0 (v : V10_0) : St := ⟨[.c (.ptr 0 0), .c (.int .i64 v.a0), .c (.int .i64 v.a1)], [.cells [.int .i64 v.a2.f0, .int .i64 v.a2.f1, .int .i64 v.a2.f2, .int .i64 v.a2.f3, .int .i64 v.a2.f4, .int .i64 v.a2.f5, .int .i64 v.a2.f6, .int .i64 v.a2.f7, .int .i64 v.a2.f8, .int .i64 v.a2.f9, .int .i64 v.a2.f10, .int .i64 v.a2.f11, .int .i64 v.a2.f12, .int .i64 v.a2.f13, .int .i64 v.a2.f14, .bool v.a2.f15]]⟩
def iS10_0 (s : St) : V10_0 := ⟨iC (aC (s.tmps.getD 1 .top)), iC (aC (s.tmps.getD 2 .top)), rd3 (bL (s.heap.getD 0 .dead))⟩
def aS10_0 : List PA := [.c (.ptr 0 0), .c (.int .i64), .c (.int .i64)]
def bS10_0 : List PB := [.cells [.int .i64, .int .i64, .int .i64, .int .i64, .int .i64, .int .i64, .int .i64, .int .i64, .int .i64, .int .i64, .int .i64, .int .i64, .int .i64, .int .i64, .int .i64, .bool]]
def g10_0T (v : V10_0) : Tr Y10_0 :=
  .br (!v.a2.f15) (
   .leaf (⟨4, v.a2⟩)) (
   let z6 := g27 v.a0
   .br (bif (bif (!z6) then true else (decide (v.a1 < 0))) then true else (decide (v.a1 > 1073741824))) (
    .leaf (⟨220, v.a2⟩)) (
    .br (decide (0 ≤ v.a0) && decide (v.a0 < 15)) (
     .br (Nat.blt (Int.toNat v.a0) 15) (
      .br (decide ((selI (enc3 v.a2) (Int.toNat v.a0)) > (IntKind.i64.wrap (1125899906842624 - v.a1)))) (
       .leaf (⟨3, v.a2⟩)) (
       .br (decide (0 ≤ v.a0) && decide (v.a0 < 15)) (
        .br (Nat.blt (Int.toNat v.a0) 15) (
         .br (decide (0 ≤ v.a0) && decide (v.a0 < 15)) (
          .br (Nat.blt (Int.toNat v.a0) 15) (
           .leaf (⟨0, (S3.mk (bif (Nat.beq (Int.toNat v.a0) 0) then (IntKind.i64.wrap ((selI (enc3 v.a2) (Int.toNat v.a0)) + v.a1)) else v.a2.f0) (bif (Nat.beq (Int.toNat v.a0) 1) then (IntKind.i64.wrap ((selI (enc3 v.a2) (Int.toNat v.a0)) + v.a1)) else v.a2.f1) (bif (Nat.beq (Int.toNat v.a0) 2) then (IntKind.i64.wrap ((selI (enc3 v.a2) (Int.toNat v.a0)) + v.a1)) else v.a2.f2) (bif (Nat.beq (Int.toNat v.a0) 3) then (IntKind.i64.wrap ((selI (enc3 v.a2) (Int.toNat v.a0)) + v.a1)) else v.a2.f3) (bif (Nat.beq (Int.toNat v.a0) 4) then (IntKind.i64.wrap ((selI (enc3 v.a2) (Int.toNat v.a0)) + v.a1)) else v.a2.f4) (bif (Nat.beq (Int.toNat v.a0) 5) then (IntKind.i64.wrap ((selI (enc3 v.a2) (Int.toNat v.a0)) + v.a1)) else v.a2.f5) (bif (Nat.beq (Int.toNat v.a0) 6) then (IntKind.i64.wrap ((selI (enc3 v.a2) (Int.toNat v.a0)) + v.a1)) else v.a2.f6) (bif (Nat.beq (Int.toNat v.a0) 7) then (IntKind.i64.wrap ((selI (enc3 v.a2) (Int.toNat v.a0)) + v.a1)) else v.a2.f7) (bif (Nat.beq (Int.toNat v.a0) 8) then (IntKind.i64.wrap ((selI (enc3 v.a2) (Int.toNat v.a0)) + v.a1)) else v.a2.f8) (bif (Nat.beq (Int.toNat v.a0) 9) then (IntKind.i64.wrap ((selI (enc3 v.a2) (Int.toNat v.a0)) + v.a1)) else v.a2.f9) (bif (Nat.beq (Int.toNat v.a0) 10) then (IntKind.i64.wrap ((selI (enc3 v.a2) (Int.toNat v.a0)) + v.a1)) else v.a2.f10) (bif (Nat.beq (Int.toNat v.a0) 11) then (IntKind.i64.wrap ((selI (enc3 v.a2) (Int.toNat v.a0)) + v.a1)) else v.a2.f11) (bif (Nat.beq (Int.toNat v.a0) 12) then (IntKind.i64.wrap ((selI (enc3 v.a2) (Int.toNat v.a0)) + v.a1)) else v.a2.f12) (bif (Nat.beq (Int.toNat v.a0) 13) then (IntKind.i64.wrap ((selI (enc3 v.a2) (Int.toNat v.a0)) + v.a1)) else v.a2.f13) (bif (Nat.beq (Int.toNat v.a0) 14) then (IntKind.i64.wrap ((selI (enc3 v.a2) (Int.toNat v.a0)) + v.a1)) else v.a2.f14) v.a2.f15)⟩)) (
           .fail)) (
          .fail)) (
         .fail)) (
        .fail))) (
      .fail)) (
     .fail)))
def g10_0 (v : V10_0) : Option Y10_0 := (g10_0T v).get?
def k10_0 (v : V10_0) (r : Y10_0) : AV × List Blk := (.c (.int .i64 r.b0), [.cells [.int .i64 r.b1.f0, .int .i64 r.b1.f1, .int .i64 r.b1.f2, .int .i64 r.b1.f3, .int .i64 r.b1.f4, .int .i64 r.b1.f5, .int .i64 r.b1.f6, .int .i64 r.b1.f7, .int .i64 r.b1.f8, .int .i64 r.b1.f9, .int .i64 r.b1.f10, .int .i64 r.b1.f11, .int .i64 r.b1.f12, .int .i64 r.b1.f13, .int .i64 r.b1.f14, .bool r.b1.f15]])
noncomputable def q10_0 : Ab.Spec := runQh 1 e10 (lookT []) Go.Proofs.Try.f10
theorem q10_0_ok : SpecOk Go.Proofs.Try.prog 10 q10_0 := runQh_ok (runR_ok (e := e10) follows (allTI ti_ok _ _ _ _ _) (callsOk_cons s26_ok (callsOk_cons s27_ok (callsOk_nil))) Go.Proofs.Try.func10 Go.Proofs.Try.call10) (fun c hc => by
  have hb : c = Go.Proofs.Try.f10.body.getD .skip := by rw [hc]; rfl
  subst hb
  exact tab_nil)
theorem g10_0_run (v : V10_0) : (q10_0 (hS10_0 v).tmps (hS10_0 v).heap).eval = (g10_0T v).ev (k10_0 v) := by kernel_rfl
noncomputable def sp10_0 (v : V10_0) : Res (AV × List Blk) := .opt (g10_0 v) fun r => .val (k10_0 v r)
theorem sp10_0_ok (v : V10_0) (r : AV × List Blk) (h : (sp10_0 v).eval = some r) : (q10_0 (hS10_0 v).tmps (hS10_0 v).heap).eval = some r := by
  rw [g10_0_run, Tr.ev_get?]
  unfold sp10_0 at h
  rw [eval_opt] at h
  obtain ⟨z, hz, h⟩ := Option.bind_eq_some_iff.mp h
  unfold g10_0 at hz
  rw [hz]; exact h
structure V10_1 where
  a0 : Int
  a1 : Int
structure Y10_1 where

  deriving Inhabited
def hS10_1 (v : V10_1) : St := ⟨[.c (.nilp), .c (.int .i64 v.a0), .c (.int .i64 v.a1)], []⟩
def iS10_1 (s : St) : V10_1 := ⟨iC (aC (s.tmps.getD 1 .top)), iC (aC (s.tmps.getD 2 .top))⟩
def aS10_1 : List PA := [.c (.nilp), .c (.int .i64), .c (.int .i64)]
def bS10_1 : List PB := []
def g10_1T (v : V10_1) : Tr Y10_1 :=
  .leaf (⟨⟩)
def g10_1 (v : V10_1) : Y10_1 := (g10_1T v).get default
def k10_1 (v : V10_1) (r : Y10_1) : AV × List Blk := (.c (.int .i64 4), [])
noncomputable def q10_1 : Ab.Spec := runQh 0 e10 (lookT []) Go.Proofs.Try.f10
theorem q10_1_ok : SpecOk Go.Proofs.Try.prog 10 q10_1 := runQh_ok (runR_ok (e := e10) follows (allTI ti_ok _ _ _ _ _) (callsOk_cons s26_ok (callsOk_cons s27_ok (callsOk_nil))) Go.Proofs.Try.func10 Go.Proofs.Try.call10) (fun c hc => by
  have hb : c = Go.Proofs.Try.f10.body.getD .skip := by rw [hc]; rfl
  subst hb
  exact tab_nil)
theorem g10_1_run (v : V10_1) : (q10_1 (hS10_1 v).tmps (hS10_1 v).heap).eval = (g10_1T v).ev (k10_1 v) := by kernel_rfl
noncomputable def sp10_1 (v : V10_1) : Res (AV × List Blk) := let r := g10_1 v; .val (k10_1 v r)
theorem sp10_1_ok (v : V10_1) (r : AV × List Blk) (h : (sp10_1 v).eval = some r) : (q10_1 (hS10_1 v).tmps (hS10_1 v).heap).eval = some r := by
  rw [g10_1_run, Tr.ev_get (d := default) (by kernel_rfl)]
  exact h
noncomputable def s10 : Ab.Spec := shapeS aS10_1 bS10_1 (fun args h => sp10_1 (iS10_1 ⟨args, h⟩)) (shapeS aS10_0 bS10_0 (fun args h => sp10_0 (iS10_0 ⟨args, h⟩)) (runR e10 Go.Proofs.Try.f10))
theorem s10_ok : SpecOk Go.Proofs.Try.prog 10 s10 := shape_ok hS10_1 iS10_1 q10_1_ok (shape_ok hS10_0 iS10_0 q10_0_ok ((runR_ok (e := e10) follows (allTI ti_ok _ _ _ _ _) (callsOk_cons s26_ok (callsOk_cons s27_ok (callsOk_nil))) Go.Proofs.Try.func10 Go.Proofs.Try.call10)) (fun s => by kernel_rfl) sp10_0_ok) (fun s => by kernel_rfl) sp10_1_ok
/-- (*pontage/tally.Tally).Get -/
noncomputable def L11 : SL := [(26, .byHeap, s26), (27, .byVal, s27)]
noncomputable def e11 : Env := ⟨ti, fun g => lookS g L11, 2000000, [], [], none⟩
structure V11_0 where
  a0 : S3
  a1 : Int
structure Y11_0 where
  b0 : Int
  deriving Inhabited
def hS11_0 (v : V11_0) : St := ⟨[.c (.rp 3 v.a0 0), .c (.int .i64 v.a1)], []⟩
def iS11_0 (s : St) : V11_0 := ⟨rpC 3 (aC (s.tmps.getD 0 .top)), iC (aC (s.tmps.getD 1 .top))⟩
def aS11_0 : List PA := [.c (.rp 3 0), .c (.int .i64)]
def bS11_0 : List PB := []
def g11_0T (v : V11_0) : Tr Y11_0 :=
  let z8 := g27 v.a1
  .br (bif (!v.a0.f15) then true else (!z8)) (
   .leaf (⟨0⟩)) (
   .br (decide (0 ≤ v.a1) && decide (v.a1 < 15)) (
    .br (v.a1 == 0) (
     .leaf (⟨v.a0.f0⟩)) (
     .br (v.a1 == 1) (
      .leaf (⟨v.a0.f1⟩)) (
      .br (v.a1 == 2) (
       .leaf (⟨v.a0.f2⟩)) (
       .br (v.a1 == 3) (
        .leaf (⟨v.a0.f3⟩)) (
        .br (v.a1 == 4) (
         .leaf (⟨v.a0.f4⟩)) (
         .br (v.a1 == 5) (
          .leaf (⟨v.a0.f5⟩)) (
          .br (v.a1 == 6) (
           .leaf (⟨v.a0.f6⟩)) (
           .br (v.a1 == 7) (
            .leaf (⟨v.a0.f7⟩)) (
            .br (v.a1 == 8) (
             .leaf (⟨v.a0.f8⟩)) (
             .br (v.a1 == 9) (
              .leaf (⟨v.a0.f9⟩)) (
              .br (v.a1 == 10) (
               .leaf (⟨v.a0.f10⟩)) (
               .br (v.a1 == 11) (
                .leaf (⟨v.a0.f11⟩)) (
                .br (v.a1 == 12) (
                 .leaf (⟨v.a0.f12⟩)) (
                 .br (v.a1 == 13) (
                  .leaf (⟨v.a0.f13⟩)) (
                  .br (v.a1 == 14) (
                   .leaf (⟨v.a0.f14⟩)) (
                   .fail)))))))))))))))) (
    .fail))
def g11_0 (v : V11_0) : Option Y11_0 := (g11_0T v).get?
def k11_0 (v : V11_0) (r : Y11_0) : AV × List Blk := (.c (.int .i64 r.b0), [])
noncomputable def q11_0 : Ab.Spec := runQh 0 e11 (lookT []) Go.Proofs.Try.f11
theorem q11_0_ok : SpecOk Go.Proofs.Try.prog 11 q11_0 := runQh_ok (runR_ok (e := e11) follows (allTI ti_ok _ _ _ _ _) (callsOk_cons s26_ok (callsOk_cons s27_ok (callsOk_nil))) Go.Proofs.Try.func11 Go.Proofs.Try.call11) (fun c hc => by
  have hb : c = Go.Proofs.Try.f11.body.getD .skip := by rw [hc]; rfl
  subst hb
  exact tab_nil)
theorem g11_0_run (v : V11_0) : (q11_0 (hS11_0 v).tmps (hS11_0 v).heap).eval = (g11_0T v).ev (k11_0 v) := by kernel_rfl
noncomputable def sp11_0 (v : V11_0) : Res (AV × List Blk) := .opt (g11_0 v) fun r => .val (k11_0 v r)
theorem sp11_0_ok (v : V11_0) (r : AV × List Blk) (h : (sp11_0 v).eval = some r) : (q11_0 (hS11_0 v).tmps (hS11_0 v).heap).eval = some r := by
  rw [g11_0_run, Tr.ev_get?]
  unfold sp11_0 at h
  rw [eval_opt] at h
  obtain ⟨z, hz, h⟩ := Option.bind_eq_some_iff.mp h
  unfold g11_0 at hz
  rw [hz]; exact h
structure V11_1 where
  a0 : Int
structure Y11_1 where

  deriving Inhabited
def hS11_1 (v : V11_1) : St := ⟨[.c (.nilp), .c (.int .i64 v.a0)], []⟩
def iS11_1 (s : St) : V11_1 := ⟨iC (aC (s.tmps.getD 1 .top))⟩
def aS11_1 : List PA := [.c (.nilp), .c (.int .i64)]
def bS11_1 : List PB := []
def g11_1T (v : V11_1) : Tr Y11_1 :=
  let z108 := g27 v.a0
  .leaf (⟨⟩)
def g11_1 (v : V11_1) : Y11_1 := (g11_1T v).get default
def k11_1 (v : V11_1) (r : Y11_1) : AV × List Blk := (.c (.int .i64 0), [])
noncomputable def q11_1 : Ab.Spec := runQh 0 e11 (lookT []) Go.Proofs.Try.f11
theorem q11_1_ok : SpecOk Go.Proofs.Try.prog 11 q11_1 := runQh_ok (runR_ok (e := e11) follows (allTI ti_ok _ _ _ _ _) (callsOk_cons s26_ok (callsOk_cons s27_ok (callsOk_nil))) Go.Proofs.Try.func11 Go.Proofs.Try.call11) (fun c hc => by
  have hb : c = Go.Proofs.Try.f11.body.getD .skip := by rw [hc]; rfl
  subst hb
  exact tab_nil)
theorem g11_1_run (v : V11_1) : (q11_1 (hS11_1 v).tmps (hS11_1 v).heap).eval = (g11_1T v).ev (k11_1 v) := by kernel_rfl
noncomputable def sp11_1 (v : V11_1) : Res (AV × List Blk) := let r := g11_1 v; .val (k11_1 v r)
theorem sp11_1_ok (v : V11_1) (r : AV × List Blk) (h : (sp11_1 v).eval = some r) : (q11_1 (hS11_1 v).tmps (hS11_1 v).heap).eval = some r := by
  rw [g11_1_run, Tr.ev_get (d := default) (by kernel_rfl)]
  exact h
noncomputable def s11 : Ab.Spec := shapeS aS11_1 bS11_1 (fun args h => sp11_1 (iS11_1 ⟨args, h⟩)) (shapeS aS11_0 bS11_0 (fun args h => sp11_0 (iS11_0 ⟨args, h⟩)) (runR e11 Go.Proofs.Try.f11))
theorem s11_ok : SpecOk Go.Proofs.Try.prog 11 s11 := shape_ok hS11_1 iS11_1 q11_1_ok (shape_ok hS11_0 iS11_0 q11_0_ok ((runR_ok (e := e11) follows (allTI ti_ok _ _ _ _ _) (callsOk_cons s26_ok (callsOk_cons s27_ok (callsOk_nil))) Go.Proofs.Try.func11 Go.Proofs.Try.call11)) (fun s => by kernel_rfl) sp11_0_ok) (fun s => by kernel_rfl) sp11_1_ok
/-- slices.Index[[]pontage/api.Why,pontage/api.Why] -/
noncomputable def L33 : SL := []
noncomputable def e33 : Env := ⟨ti, fun g => lookS g L33, 2000000, [.drop 2, .drop 3, .drop 5, .drop 6, .drop 9, .drop 10, .drop 11, .drop 12, .drop 13, .drop 14, .drop 15, .drop 16, .drop 17, .drop 18], [], some [4]⟩
structure W33_0 where
  a0 : List S1
  a1 : Int
  a2 : Int
  a3 : Int
  a4 : Int
def hd33_0 (v : W33_0) : St := ⟨[.c (.rs 1 v.a0), .c (.int .i64 v.a1), .top, .top, .c (.int .i64 v.a2), .top, .top, .c (.int .i64 v.a3), .c (.int .i64 v.a4), .top, .top, .top, .top, .top, .top, .top, .top, .top, .top], []⟩
structure U33_0 where
  a0 : Int
def hu33_0 (u : U33_0) : St := ⟨[.top, .top, .top, .top, .c (.int .i64 u.a0), .top, .top, .top, .top, .top, .top, .top, .top, .top, .top, .top, .top, .top, .top], []⟩
def gR33_0 (v : W33_0) : Tr (W33_0 ⊕ (W33_0 ⊕ U33_0)) :=
  .br (decide (v.a4 < v.a3)) (
   .br (decide (0 ≤ v.a4)) (
    .opt (v.a0[Int.toNat v.a4]?) fun y1 =>
     .br (v.a1 == y1.f0) (
      .leaf (.inr (.inr ⟨v.a4⟩))) (
      .leaf (.inl ({ v with a4 := (IntKind.i64.wrap (v.a4 + 1)) })))) (
    .fail)) (
   .leaf (.inr (.inl (v))))
noncomputable def lb33_0 : Code := match findB 0 (Go.Proofs.Try.f33.body.getD .skip) with | [.loop b] => b | _ => .skip
def pa33_0 : List PA := [.c (.rs 1), .c (.int .i64), .any, .any, .c (.int .i64), .any, .any, .c (.int .i64), .c (.int .i64), .any, .any, .any, .any, .any, .any, .any, .any, .any, .any]
def pb33_0 : List PB := []
def ini33_0 (s : St) : W33_0 := ⟨rC 1 (aC (s.tmps.getD 0 .top)), iC (aC (s.tmps.getD 1 .top)), iC (aC (s.tmps.getD 4 .top)), iC (aC (s.tmps.getD 7 .top)), iC (aC (s.tmps.getD 8 .top))⟩
noncomputable def F33_0 : St → Res (Ex × St) := loopF2 pa33_0 pb33_0 2000000 hd33_0 hu33_0 gR33_0 ini33_0
theorem F33_0_ok (s : St) (r : Ex × St) (h : (F33_0 s).eval = some r) : (codeR e33 0 (.block 0 (.loop lb33_0)) s).eval = some r :=
  blk_ok2 (e := e33) (T := lookT []) (fun s v => by kernel_rfl) (fun s => by kernel_rfl) (tab_nil) s r h
def g33T (x0 : List S1) (x1 : Int) : Tr (Int) :=
  .opt (iter2 gR33_0 2000000 (W33_0.mk (x0) (x1) (0) ((x0.length : Int)) (0))) fun r2 =>
   .br r2.isRight (
    .opt (r2.getRight?) fun u3 =>
     .leaf (u3.a0)) (
    .opt (r2.getLeft?) fun w4 =>
     .leaf ((-1)))
def g33 (x0 : List S1) (x1 : Int) : Option (Int) := (g33T x0 x1).get?
noncomputable def T33 : TL := [(0, F33_0)]
noncomputable def q33 : Ab.Spec := runQ0 e33 (lookT T33) Go.Proofs.Try.f33
theorem q33_ok : SpecOk Go.Proofs.Try.prog 33 q33 := (runQ0_ok (runR_ok (e := e33) follows (allTI ti_ok _ _ _ _ _) (callsOk_nil) Go.Proofs.Try.func33 Go.Proofs.Try.call33) (fun c hc => by
  have hb : c = Go.Proofs.Try.f33.body.getD .skip := by rw [hc]; rfl
  subst hb
  exact tab_cons (by kernel_rfl) F33_0_ok (tab_nil)))
theorem g33_run (x0 : List S1) (x1 : Int) : (q33 [.c (.rs 1 x0), .c (.int .i64 x1)] []).eval = (g33T x0 x1).ev fun r => ((.c (.int .i64 r) : AV), ([] : List Blk)) := by kernel_rfl
noncomputable def s33_0 : Ab.Spec := fun args h =>
  dN h <| dL args fun v0 a0 => dC v0 fun c0 => dR0 1 c0 fun x0 => dL a0 fun v1 a1 => dC v1 fun c1 => dI .i64 c1 fun x1 => dN a1 <|
  .opt (g33 x0 x1) fun r => .val (.c (.int .i64 r), [])
theorem s33_0_ok : SpecOk Go.Proofs.Try.prog 33 s33_0 :=
  q33_ok.less fun args hs r h => by
    unfold s33_0 at h
    obtain ⟨rfl, hh1⟩ := dN_inv h
    obtain ⟨v0, a0, rfl, hh2⟩ := dL_inv hh1
    obtain ⟨c0, rfl, hh3⟩ := dC_inv hh2
    obtain ⟨x0, rfl, hh4⟩ := dR0_inv hh3
    obtain ⟨v1, a1, rfl, hh5⟩ := dL_inv hh4
    obtain ⟨c1, rfl, hh6⟩ := dC_inv hh5
    obtain ⟨x1, rfl, hh7⟩ := dI_inv hh6
    obtain ⟨rfl, hh8⟩ := dN_inv hh7
    rw [g33_run, Tr.ev_get?]
    change (Res.opt (g33 x0 x1) _).eval = some r at hh8
    rw [eval_opt] at hh8
    obtain ⟨z, hz, hh9⟩ := Option.bind_eq_some_iff.mp hh8
    unfold g33 at hz
    rw [hz]; exact hh9
noncomputable def s33 : Ab.Spec := fun args h => s33_0 (coeA [[some 1], []] args) h
theorem s33_ok : SpecOk Go.Proofs.Try.prog 33 s33 := s33_0_ok.pre [[some 1], []]
/-- slices.Contains[[]pontage/api.Why,pontage/api.Why] -/
noncomputable def L32 : SL := [(33, .byVal, s33)]
noncomputable def e32 : Env := ⟨ti, fun g => lookS g L32, 2000000, [], [], none⟩
def g32T (x0 : List S1) (x1 : Int) : Tr (Bool) :=
  .opt (g33 x0 x1) fun z5 =>
   .leaf ((decide (z5 ≥ 0)))
def g32 (x0 : List S1) (x1 : Int) : Option (Bool) := (g32T x0 x1).get?
noncomputable def T32 : TL := []
noncomputable def q32 : Ab.Spec := runQ0 e32 (lookT T32) Go.Proofs.Try.f32
theorem q32_ok : SpecOk Go.Proofs.Try.prog 32 q32 := (runQ0_ok (runR_ok (e := e32) follows (allTI ti_ok _ _ _ _ _) (callsOk_cons s33_ok (callsOk_nil)) Go.Proofs.Try.func32 Go.Proofs.Try.call32) (fun c hc => by
  have hb : c = Go.Proofs.Try.f32.body.getD .skip := by rw [hc]; rfl
  subst hb
  exact tab_nil))
theorem g32_run (x0 : List S1) (x1 : Int) : (q32 [.c (.rs 1 x0), .c (.int .i64 x1)] []).eval = (g32T x0 x1).ev fun r => ((.c (.bool r) : AV), ([] : List Blk)) := by kernel_rfl
noncomputable def s32_0 : Ab.Spec := fun args h =>
  dN h <| dL args fun v0 a0 => dC v0 fun c0 => dR0 1 c0 fun x0 => dL a0 fun v1 a1 => dC v1 fun c1 => dI .i64 c1 fun x1 => dN a1 <|
  .opt (g32 x0 x1) fun r => .val (.c (.bool r), [])
theorem s32_0_ok : SpecOk Go.Proofs.Try.prog 32 s32_0 :=
  q32_ok.less fun args hs r h => by
    unfold s32_0 at h
    obtain ⟨rfl, hh1⟩ := dN_inv h
    obtain ⟨v0, a0, rfl, hh2⟩ := dL_inv hh1
    obtain ⟨c0, rfl, hh3⟩ := dC_inv hh2
    obtain ⟨x0, rfl, hh4⟩ := dR0_inv hh3
    obtain ⟨v1, a1, rfl, hh5⟩ := dL_inv hh4
    obtain ⟨c1, rfl, hh6⟩ := dC_inv hh5
    obtain ⟨x1, rfl, hh7⟩ := dI_inv hh6
    obtain ⟨rfl, hh8⟩ := dN_inv hh7
    rw [g32_run, Tr.ev_get?]
    change (Res.opt (g32 x0 x1) _).eval = some r at hh8
    rw [eval_opt] at hh8
    obtain ⟨z, hz, hh9⟩ := Option.bind_eq_some_iff.mp hh8
    unfold g32 at hz
    rw [hz]; exact hh9
noncomputable def s32 : Ab.Spec := fun args h => s32_0 (coeA [[some 1], []] args) h
theorem s32_ok : SpecOk Go.Proofs.Try.prog 32 s32 := s32_0_ok.pre [[some 1], []]
/-- (*pontage/tally.Tally).Sum -/
noncomputable def L23 : SL := [(32, .byVal, s32), (11, .byRead [some 3, none], s11)]
noncomputable def e23 : Env := ⟨ti, fun g => lookS g L23, 2000000, [.drop 2, .drop 3, .drop 7, .drop 8, .drop 9, .drop 10, .drop 11, .drop 12, .drop 13, .drop 14, .drop 15, .drop 16, .drop 17, .drop 18, .drop 19], [], some [4]⟩
structure W23_0 where
  a0 : S3
  a1 : List S1
  a2 : Int
  a3 : Int
  a4 : Int
def hd23_0 (v : W23_0) : St := ⟨[.c (.rp 3 v.a0 0), .c (.rs 1 v.a1), .top, .top, .c (.int .i64 v.a2), .c (.int .i64 v.a3), .c (.int .i64 v.a4), .top, .top, .top, .top, .top, .top, .top, .top, .top, .top, .top, .top, .top], []⟩
def gR23_0 (v : W23_0) : Tr (W23_0 ⊕ (Bool × W23_0)) :=
  .br (decide (v.a4 ≤ 14)) (
   .opt (g32 v.a1 v.a4) fun z11 =>
    .br z11 (
     .opt (g11_0 (V11_0.mk (v.a0) (v.a4))) fun z12 =>
      .leaf (.inl ({ v with a3 := (IntKind.i64.wrap (v.a3 + z12.b0)), a4 := (IntKind.i64.wrap (v.a4 + 1)) }))) (
     .leaf (.inl ({ v with a4 := (IntKind.i64.wrap (v.a4 + 1)) })))) (
   .leaf (.inr (false, v)))
structure W23_0v1 where
  a0 : List S1
  a1 : Int
  a2 : Int
  a3 : Int
def hd23_0v1 (v : W23_0v1) : St := ⟨[.c (.nilp), .c (.rs 1 v.a0), .top, .top, .c (.int .i64 v.a1), .c (.int .i64 v.a2), .c (.int .i64 v.a3), .top, .top, .top, .top, .top, .top, .top, .top, .top, .top, .top, .top, .top], []⟩
def gR23_0v1 (v : W23_0v1) : Tr (W23_0v1 ⊕ (Bool × W23_0v1)) :=
  .br (decide (v.a3 ≤ 14)) (
   .opt (g32 v.a0 v.a3) fun z194 =>
    .br z194 (
     .leaf (.inl ({ v with a2 := (IntKind.i64.wrap (v.a2 + 0)), a3 := (IntKind.i64.wrap (v.a3 + 1)) }))) (
     .leaf (.inl ({ v with a3 := (IntKind.i64.wrap (v.a3 + 1)) })))) (
   .leaf (.inr (false, v)))
noncomputable def lb23_0 : Code := match findB 0 (Go.Proofs.Try.f23.body.getD .skip) with | [.loop b] => b | _ => .skip
def pa23_0x0 : List PA := [.c (.rp 3 0), .c (.rs 1), .any, .any, .c (.int .i64), .c (.int .i64), .c (.int .i64), .any, .any, .any, .any, .any, .any, .any, .any, .any, .any, .any, .any, .any]
def pb23_0x0 : List PB := []
def ini23_0x0 (s : St) : W23_0 := ⟨rpC 3 (aC (s.tmps.getD 0 .top)), rC 1 (aC (s.tmps.getD 1 .top)), iC (aC (s.tmps.getD 4 .top)), iC (aC (s.tmps.getD 5 .top)), iC (aC (s.tmps.getD 6 .top))⟩
noncomputable def F23_0x0 : St → Res (Ex × St) := loopF pa23_0x0 pb23_0x0 2000000 hd23_0 gR23_0 ini23_0x0 false
theorem F23_0x0_ok (s : St) (r : Ex × St) (h : (F23_0x0 s).eval = some r) : (codeR e23 0 (.block 0 (.loop lb23_0)) s).eval = some r :=
  blk_ok (e := e23) (T := lookT []) (fun s v => by kernel_rfl) (fun s => by kernel_rfl) (tab_nil) s r h
def pa23_0x1 : List PA := [.c (.nilp), .c (.rs 1), .any, .any, .c (.int .i64), .c (.int .i64), .c (.int .i64), .any, .any, .any, .any, .any, .any, .any, .any, .any, .any, .any, .any, .any]
def pb23_0x1 : List PB := []
def ini23_0x1 (s : St) : W23_0v1 := ⟨rC 1 (aC (s.tmps.getD 1 .top)), iC (aC (s.tmps.getD 4 .top)), iC (aC (s.tmps.getD 5 .top)), iC (aC (s.tmps.getD 6 .top))⟩
noncomputable def F23_0x1 : St → Res (Ex × St) := loopF pa23_0x1 pb23_0x1 2000000 hd23_0v1 gR23_0v1 ini23_0x1 false
theorem F23_0x1_ok (s : St) (r : Ex × St) (h : (F23_0x1 s).eval = some r) : (codeR e23 0 (.block 0 (.loop lb23_0)) s).eval = some r :=
  blk_ok (e := e23) (T := lookT []) (fun s v => by kernel_rfl) (fun s => by kernel_rfl) (tab_nil) s r h
noncomputable def F23_0 : St → Res (Ex × St) := (orF pa23_0x0 pb23_0x0 F23_0x0 F23_0x1)
theorem F23_0_ok (s : St) (r : Ex × St) (h : (F23_0 s).eval = some r) : (codeR e23 0 (.block 0 (.loop lb23_0)) s).eval = some r := (orF_ok F23_0x0_ok F23_0x1_ok) s r h
structure V23_0 where
  a0 : S3
  a1 : List S1
structure Y23_0 where
  b0 : Int
  deriving Inhabited
def hS23_0 (v : V23_0) : St := ⟨[.c (.rp 3 v.a0 0), .c (.rs 1 v.a1)], []⟩
def iS23_0 (s : St) : V23_0 := ⟨rpC 3 (aC (s.tmps.getD 0 .top)), rC 1 (aC (s.tmps.getD 1 .top))⟩
def aS23_0 : List PA := [.c (.rp 3 0), .c (.rs 1)]
def bS23_0 : List PB := []
def g23_0T (v : V23_0) : Tr Y23_0 :=
  .opt (iter gR23_0 2000000 (W23_0.mk (v.a0) (v.a1) (0) (0) (1))) fun r13 =>
   .br r13.1 (
    .fail) (
    .leaf (⟨r13.2.a3⟩))
def g23_0 (v : V23_0) : Option Y23_0 := (g23_0T v).get?
def k23_0 (v : V23_0) (r : Y23_0) : AV × List Blk := (.c (.int .i64 r.b0), [])
noncomputable def q23_0 : Ab.Spec := runQh 0 e23 (lookT [(0, F23_0)]) Go.Proofs.Try.f23
theorem q23_0_ok : SpecOk Go.Proofs.Try.prog 23 q23_0 := runQh_ok (runR_ok (e := e23) follows (allTI ti_ok _ _ _ _ _) (callsOk_cons s32_ok (callsOk_cons s11_ok (callsOk_nil))) Go.Proofs.Try.func23 Go.Proofs.Try.call23) (fun c hc => by
  have hb : c = Go.Proofs.Try.f23.body.getD .skip := by rw [hc]; rfl
  subst hb
  exact tab_cons (by kernel_rfl) F23_0_ok (tab_nil))
theorem g23_0_run (v : V23_0) : (q23_0 (hS23_0 v).tmps (hS23_0 v).heap).eval = (g23_0T v).ev (k23_0 v) := by kernel_rfl
noncomputable def sp23_0 (v : V23_0) : Res (AV × List Blk) := .opt (g23_0 v) fun r => .val (k23_0 v r)
theorem sp23_0_ok (v : V23_0) (r : AV × List Blk) (h : (sp23_0 v).eval = some r) : (q23_0 (hS23_0 v).tmps (hS23_0 v).heap).eval = some r := by
  rw [g23_0_run, Tr.ev_get?]
  unfold sp23_0 at h
  rw [eval_opt] at h
  obtain ⟨z, hz, h⟩ := Option.bind_eq_some_iff.mp h
  unfold g23_0 at hz
  rw [hz]; exact h
structure V23_1 where
  a0 : List S1
structure Y23_1 where
  b0 : Int
  deriving Inhabited
def hS23_1 (v : V23_1) : St := ⟨[.c (.nilp), .c (.rs 1 v.a0)], []⟩
def iS23_1 (s : St) : V23_1 := ⟨rC 1 (aC (s.tmps.getD 1 .top))⟩
def aS23_1 : List PA := [.c (.nilp), .c (.rs 1)]
def bS23_1 : List PB := []
def g23_1T (v : V23_1) : Tr Y23_1 :=
  .opt (iter gR23_0v1 2000000 (W23_0v1.mk (v.a0) (0) (0) (1))) fun r196 =>
   .br r196.1 (
    .fail) (
    .leaf (⟨r196.2.a2⟩))
def g23_1 (v : V23_1) : Option Y23_1 := (g23_1T v).get?
def k23_1 (v : V23_1) (r : Y23_1) : AV × List Blk := (.c (.int .i64 r.b0), [])
noncomputable def q23_1 : Ab.Spec := runQh 0 e23 (lookT [(0, F23_0)]) Go.Proofs.Try.f23
theorem q23_1_ok : SpecOk Go.Proofs.Try.prog 23 q23_1 := runQh_ok (runR_ok (e := e23) follows (allTI ti_ok _ _ _ _ _) (callsOk_cons s32_ok (callsOk_cons s11_ok (callsOk_nil))) Go.Proofs.Try.func23 Go.Proofs.Try.call23) (fun c hc => by
  have hb : c = Go.Proofs.Try.f23.body.getD .skip := by rw [hc]; rfl
  subst hb
  exact tab_cons (by kernel_rfl) F23_0_ok (tab_nil))
theorem g23_1_run (v : V23_1) : (q23_1 (hS23_1 v).tmps (hS23_1 v).heap).eval = (g23_1T v).ev (k23_1 v) := by kernel_rfl
noncomputable def sp23_1 (v : V23_1) : Res (AV × List Blk) := .opt (g23_1 v) fun r => .val (k23_1 v r)
theorem sp23_1_ok (v : V23_1) (r : AV × List Blk) (h : (sp23_1 v).eval = some r) : (q23_1 (hS23_1 v).tmps (hS23_1 v).heap).eval = some r := by
  rw [g23_1_run, Tr.ev_get?]
  unfold sp23_1 at h
  rw [eval_opt] at h
  obtain ⟨z, hz, h⟩ := Option.bind_eq_some_iff.mp h
  unfold g23_1 at hz
  rw [hz]; exact h
noncomputable def s23 : Ab.Spec := shapeS aS23_1 bS23_1 (fun args h => sp23_1 (iS23_1 ⟨args, h⟩)) (shapeS aS23_0 bS23_0 (fun args h => sp23_0 (iS23_0 ⟨args, h⟩)) (runR e23 Go.Proofs.Try.f23))
theorem s23_ok : SpecOk Go.Proofs.Try.prog 23 s23 := shape_ok hS23_1 iS23_1 q23_1_ok (shape_ok hS23_0 iS23_0 q23_0_ok ((runR_ok (e := e23) follows (allTI ti_ok _ _ _ _ _) (callsOk_cons s32_ok (callsOk_cons s11_ok (callsOk_nil))) Go.Proofs.Try.func23 Go.Proofs.Try.call23)) (fun s => by kernel_rfl) sp23_0_ok) (fun s => by kernel_rfl) sp23_1_ok
/-- pontage/pontagelaw22.awake -/
noncomputable def L9 : SL := [(8, .byHeap, s8), (10, .byHeap, s10), (26, .byHeap, s26), (27, .byVal, s27), (11, .byRead [some 3, none], s11), (23, .byRead [some 3, none], s23)]
noncomputable def e9 : Env := ⟨ti, fun g => lookS g L9, 2000000, [], [], none⟩
def g9T  : Tr (Bool) :=
  .opt (g10_0 (V10_0.mk (5) (2) ((S3.mk 0 0 0 0 0 0 0 0 0 0 0 0 0 0 0 true)))) fun z7 =>
   .br (z7.b0 == 0) (
    .opt (g11_0 (V11_0.mk (z7.b1) (5))) fun z10 =>
     .br (z10.b0 == 2) (
      .opt (g23_0 (V23_0.mk (z7.b1) ([(S1.mk 5), (S1.mk 5), (S1.mk 6)]))) fun z14 =>
       .leaf ((z14.b0 == 2))) (
      .leaf (false))) (
    .leaf (false))
def g9  : Option (Bool) := (g9T ).get?
noncomputable def T9 : TL := []
noncomputable def q9 : Ab.Spec := runQ0 e9 (lookT T9) Go.Proofs.Try.f9
theorem q9_ok : SpecOk Go.Proofs.Try.prog 9 q9 := (runQ0_ok (runR_ok (e := e9) follows (allTI ti_ok _ _ _ _ _) (callsOk_cons s8_ok (callsOk_cons s10_ok (callsOk_cons s26_ok (callsOk_cons s27_ok (callsOk_cons s11_ok (callsOk_cons s23_ok (callsOk_nil))))))) Go.Proofs.Try.func9 Go.Proofs.Try.call9) (fun c hc => by
  have hb : c = Go.Proofs.Try.f9.body.getD .skip := by rw [hc]; rfl
  subst hb
  exact tab_nil))
theorem g9_run  : (q9 [] []).eval = (g9T ).ev fun r => ((.c (.bool r) : AV), ([] : List Blk)) := by kernel_rfl
noncomputable def s9 : Ab.Spec := fun args h =>
  dN h <| dN args <|
  .opt (g9) fun r => .val (.c (.bool r), [])
theorem s9_ok : SpecOk Go.Proofs.Try.prog 9 s9 :=
  q9_ok.less fun args hs r h => by
    unfold s9 at h
    obtain ⟨rfl, hh1⟩ := dN_inv h
    obtain ⟨rfl, hh2⟩ := dN_inv hh1
    rw [g9_run, Tr.ev_get?]
    change (Res.opt (g9) _).eval = some r at hh2
    rw [eval_opt] at hh2
    obtain ⟨z, hz, hh3⟩ := Option.bind_eq_some_iff.mp hh2
    unfold g9 at hz
    rw [hz]; exact hh3
/-- pontage/pontagelaw22.TallyMany -/
noncomputable def L3 : SL := [(8, .byHeap, s8), (9, .byVal, s9), (10, .byHeap, s10), (26, .byHeap, s26), (27, .byVal, s27), (11, .byRead [some 3, none], s11)]
noncomputable def e3 : Env := ⟨ti, fun g => lookS g L3, 2000000, [.drop 0, .drop 1, .drop 6, .drop 7, .drop 8, .drop 9, .drop 10, .drop 11, .drop 12, .drop 13, .drop 14, .drop 15, .drop 16, .drop 17, .drop 18, .drop 19, .drop 20, .drop 21, .drop 22, .drop 23, .drop 24, .drop 25, .drop 26, .drop 27, .drop 28, .drop 29, .drop 30, .drop 31, .drop 32, .drop 33, .drop 34, .drop 35, .drop 36, .drop 37, .drop 38, .drop 39, .drop 40], [], some [2]⟩
structure W3_0 where
  a0 : Bool
  a1 : Int
  a2 : Int
  a3 : S3
def hd3_0 (v : W3_0) : St := ⟨[.top, .top, .c (.bool v.a0), .c (.int .i64 v.a1), .c (.ptr 0 0), .c (.int .i64 v.a2), .top, .top, .top, .top, .top, .top, .top, .top, .top, .top, .top, .top, .top, .top, .top, .top, .top, .top, .top, .top, .top, .top, .top, .top, .top, .top, .top, .top, .top, .top, .top, .top, .top, .top, .top], [.cells [.int .i64 v.a3.f0, .int .i64 v.a3.f1, .int .i64 v.a3.f2, .int .i64 v.a3.f3, .int .i64 v.a3.f4, .int .i64 v.a3.f5, .int .i64 v.a3.f6, .int .i64 v.a3.f7, .int .i64 v.a3.f8, .int .i64 v.a3.f9, .int .i64 v.a3.f10, .int .i64 v.a3.f11, .int .i64 v.a3.f12, .int .i64 v.a3.f13, .int .i64 v.a3.f14, .bool v.a3.f15]]⟩
structure U3_0 where
  a0 : Bool
def hu3_0 (u : U3_0) : St := ⟨[.top, .top, .c (.bool u.a0), .top, .top, .top, .top, .top, .top, .top, .top, .top, .top, .top, .top, .top, .top, .top, .top, .top, .top, .top, .top, .top, .top, .top, .top, .top, .top, .top, .top, .top, .top, .top, .top, .top, .top, .top, .top, .top, .top], []⟩
def gR3_0 (v : W3_0) : Tr (W3_0 ⊕ (W3_0 ⊕ U3_0)) :=
  .br (decide (v.a2 < 1048576)) (
   .opt (g10_0 (V10_0.mk (v.a1) (1073741824) (v.a3))) fun z17 =>
    .br (z17.b0 != 0) (
     .leaf (.inr (.inr ⟨false⟩))) (
     .leaf (.inl ({ v with a2 := (IntKind.i64.wrap (v.a2 + 1)), a3 := z17.b1 })))) (
   .leaf (.inr (.inl (v))))
noncomputable def lb3_0 : Code := match findB 0 (Go.Proofs.Try.f3.body.getD .skip) with | [.loop b] => b | _ => .skip
def pa3_0 : List PA := [.any, .any, .c (.bool), .c (.int .i64), .c (.ptr 0 0), .c (.int .i64), .any, .any, .any, .any, .any, .any, .any, .any, .any, .any, .any, .any, .any, .any, .any, .any, .any, .any, .any, .any, .any, .any, .any, .any, .any, .any, .any, .any, .any, .any, .any, .any, .any, .any, .any]
def pb3_0 : List PB := [.cells [.int .i64, .int .i64, .int .i64, .int .i64, .int .i64, .int .i64, .int .i64, .int .i64, .int .i64, .int .i64, .int .i64, .int .i64, .int .i64, .int .i64, .int .i64, .bool]]
def ini3_0 (s : St) : W3_0 := ⟨bC (aC (s.tmps.getD 2 .top)), iC (aC (s.tmps.getD 3 .top)), iC (aC (s.tmps.getD 5 .top)), rd3 (bL (s.heap.getD 0 .dead))⟩
noncomputable def F3_0 : St → Res (Ex × St) := loopF2 pa3_0 pb3_0 2000000 hd3_0 hu3_0 gR3_0 ini3_0
theorem F3_0_ok (s : St) (r : Ex × St) (h : (F3_0 s).eval = some r) : (codeR e3 0 (.block 0 (.loop lb3_0)) s).eval = some r :=
  blk_ok2 (e := e3) (T := lookT []) (fun s v => by kernel_rfl) (fun s => by kernel_rfl) (tab_nil) s r h
def g3T (x0 : Int) : Tr (Bool) :=
  .opt (g9 ) fun z16 =>
   .br (!z16) (
    .leaf (false)) (
    .opt (iter2 gR3_0 2000000 (W3_0.mk (false) ((IntKind.i64.wrap (1 + (remI (IntKind.i64.wrap x0) 14)))) (0) ((S3.mk 0 0 0 0 0 0 0 0 0 0 0 0 0 0 0 true)))) fun r18 =>
     .br r18.isRight (
      .opt (r18.getRight?) fun u19 =>
       .leaf (u19.a0)) (
      .opt (r18.getLeft?) fun w20 =>
       .opt (g10_0 (V10_0.mk (w20.a1) (1) (w20.a3))) fun z21 =>
        .br (z21.b0 == 3) (
         .opt (g10_0 (V10_0.mk (w20.a1) (0) (z21.b1))) fun z22 =>
          .br (z22.b0 == 0) (
           .opt (g11_0 (V11_0.mk (z22.b1) (w20.a1))) fun z24 =>
            .leaf ((z24.b0 == 1125899906842624))) (
           .leaf (false))) (
         .leaf (false))))
def g3 (x0 : Int) : Option (Bool) := (g3T x0).get?
noncomputable def T3 : TL := [(0, F3_0)]
noncomputable def q3 : Ab.Spec := runQ0 e3 (lookT T3) Go.Proofs.Try.f3
theorem q3_ok : SpecOk Go.Proofs.Try.prog 3 q3 := (runQ0_ok (runR_ok (e := e3) follows (allTI ti_ok _ _ _ _ _) (callsOk_cons s8_ok (callsOk_cons s9_ok (callsOk_cons s10_ok (callsOk_cons s26_ok (callsOk_cons s27_ok (callsOk_cons s11_ok (callsOk_nil))))))) Go.Proofs.Try.func3 Go.Proofs.Try.call3) (fun c hc => by
  have hb : c = Go.Proofs.Try.f3.body.getD .skip := by rw [hc]; rfl
  subst hb
  exact tab_cons (by kernel_rfl) F3_0_ok (tab_nil)))
theorem g3_run (x0 : Int) : (q3 [.c (.int .u8 x0)] []).eval = (g3T x0).ev fun r => ((.c (.bool r) : AV), ([] : List Blk)) := by kernel_rfl
noncomputable def s3 : Ab.Spec := fun args h =>
  dN h <| dL args fun v0 a0 => dC v0 fun c0 => dI .u8 c0 fun x0 => dN a0 <|
  .opt (g3 x0) fun r => .val (.c (.bool r), [])
theorem s3_ok : SpecOk Go.Proofs.Try.prog 3 s3 :=
  q3_ok.less fun args hs r h => by
    unfold s3 at h
    obtain ⟨rfl, hh1⟩ := dN_inv h
    obtain ⟨v0, a0, rfl, hh2⟩ := dL_inv hh1
    obtain ⟨c0, rfl, hh3⟩ := dC_inv hh2
    obtain ⟨x0, rfl, hh4⟩ := dI_inv hh3
    obtain ⟨rfl, hh5⟩ := dN_inv hh4
    rw [g3_run, Tr.ev_get?]
    change (Res.opt (g3 x0) _).eval = some r at hh5
    rw [eval_opt] at hh5
    obtain ⟨z, hz, hh6⟩ := Option.bind_eq_some_iff.mp hh5
    unfold g3 at hz
    rw [hz]; exact hh6
/-- pontage/tally.names -/
noncomputable def L28 : SL := []
noncomputable def e28 : Env := ⟨ti, fun g => lookS g L28, 2000000, [], [], none⟩
def g28T  : Tr (S8) :=
  .leaf ((S8.mk ⟨#[]⟩ ⟨#[105, 110, 32, 99, 117, 115, 116, 111, 109, 101, 114]⟩ ⟨#[105, 110, 32, 98, 97, 99, 107, 98, 111, 110, 101]⟩ ⟨#[111, 117, 116, 32, 99, 117, 115, 116, 111, 109, 101, 114]⟩ ⟨#[111, 117, 116, 32, 98, 97, 99, 107, 98, 111, 110, 101]⟩ ⟨#[98, 97, 100, 32, 102, 114, 97, 109, 101]⟩ ⟨#[98, 105, 103, 32, 102, 114, 97, 109, 101]⟩ ⟨#[110, 111, 32, 115, 101, 114, 118, 105, 99, 101]⟩ ⟨#[110, 111, 32, 109, 101, 109, 98, 101, 114]⟩ ⟨#[98, 108, 111, 99, 107, 101, 100]⟩ ⟨#[97, 119, 97, 121]⟩ ⟨#[111, 119, 110, 32, 102, 114, 97, 109, 101]⟩ ⟨#[113, 117, 101, 117, 101, 32, 102, 117, 108, 108]⟩ ⟨#[112, 111, 114, 116, 32, 100, 111, 119, 110]⟩ ⟨#[110, 111, 98, 111, 100, 121]⟩))
def g28  : S8 := (g28T ).get default
noncomputable def T28 : TL := []
noncomputable def q28 : Ab.Spec := runQ0 e28 (lookT T28) Go.Proofs.Try.f28
theorem q28_ok : SpecOk Go.Proofs.Try.prog 28 q28 := (runQ0_ok (runR_ok (e := e28) follows (allTI ti_ok _ _ _ _ _) (callsOk_nil) Go.Proofs.Try.func28 Go.Proofs.Try.call28) (fun c hc => by
  have hb : c = Go.Proofs.Try.f28.body.getD .skip := by rw [hc]; rfl
  subst hb
  exact tab_nil))
theorem g28_run  : (q28 [] []).eval = (g28T ).ev fun r => ((.agg (Cod.enc 8 r) : AV), ([] : List Blk)) := by kernel_rfl
noncomputable def s28 : Ab.Spec := fun args h =>
  dN h <| dN args <|
  let r := g28; .val (.agg (Cod.enc 8 r), [])
theorem s28_ok : SpecOk Go.Proofs.Try.prog 28 s28 :=
  q28_ok.less fun args hs r h => by
    unfold s28 at h
    obtain ⟨rfl, hh1⟩ := dN_inv h
    obtain ⟨rfl, hh2⟩ := dN_inv hh1
    rw [g28_run, Tr.ev_get (d := default) (by kernel_rfl)]
    exact hh2
/-- pontage/tally.Parse -/
noncomputable def L12 : SL := [(28, .byVal, s28)]
noncomputable def e12 : Env := ⟨ti, fun g => lookS g L12, 2000000, [.drop 1, .drop 4, .drop 5, .drop 8, .drop 9, .drop 10, .drop 11, .drop 12, .drop 13, .drop 14, .drop 15, .drop 16, .drop 17, .drop 18, .drop 19], [], some [2, 3]⟩
structure W12_0 where
  a0 : ByteArray
  a1 : Int
  a2 : Bool
  a3 : S8
  a4 : Int
def hd12_0 (v : W12_0) : St := ⟨[.c (.str v.a0), .top, .c (.int .i64 v.a1), .c (.bool v.a2), .top, .top, .agg [.str v.a3.f0, .str v.a3.f1, .str v.a3.f2, .str v.a3.f3, .str v.a3.f4, .str v.a3.f5, .str v.a3.f6, .str v.a3.f7, .str v.a3.f8, .str v.a3.f9, .str v.a3.f10, .str v.a3.f11, .str v.a3.f12, .str v.a3.f13, .str v.a3.f14], .c (.int .i64 v.a4), .top, .top, .top, .top, .top, .top, .top, .top, .top, .top, .top, .top], []⟩
structure U12_0 where
  a0 : Int
  a1 : Bool
def hu12_0 (u : U12_0) : St := ⟨[.top, .top, .c (.int .i64 u.a0), .c (.bool u.a1), .top, .top, .top, .top, .top, .top, .top, .top, .top, .top, .top, .top, .top, .top, .top, .top], []⟩
def gR12_0 (v : W12_0) : Tr (W12_0 ⊕ (W12_0 ⊕ U12_0)) :=
  .br (decide (v.a4 < 15)) (
   .br (decide (0 ≤ v.a4) && decide (v.a4 < 15)) (
    .br (v.a4 == 0) (
     .br (bif (decide (v.a4 > 0)) then (v.a3.f0 == v.a0) else false) (
      .leaf (.inr (.inr ⟨v.a4, true⟩))) (
      .leaf (.inl ({ v with a4 := (IntKind.i64.wrap (v.a4 + 1)) })))) (
     .br (v.a4 == 1) (
      .br (bif (decide (v.a4 > 0)) then (v.a3.f1 == v.a0) else false) (
       .leaf (.inr (.inr ⟨v.a4, true⟩))) (
       .leaf (.inl ({ v with a4 := (IntKind.i64.wrap (v.a4 + 1)) })))) (
      .br (v.a4 == 2) (
       .br (bif (decide (v.a4 > 0)) then (v.a3.f2 == v.a0) else false) (
        .leaf (.inr (.inr ⟨v.a4, true⟩))) (
        .leaf (.inl ({ v with a4 := (IntKind.i64.wrap (v.a4 + 1)) })))) (
       .br (v.a4 == 3) (
        .br (bif (decide (v.a4 > 0)) then (v.a3.f3 == v.a0) else false) (
         .leaf (.inr (.inr ⟨v.a4, true⟩))) (
         .leaf (.inl ({ v with a4 := (IntKind.i64.wrap (v.a4 + 1)) })))) (
        .br (v.a4 == 4) (
         .br (bif (decide (v.a4 > 0)) then (v.a3.f4 == v.a0) else false) (
          .leaf (.inr (.inr ⟨v.a4, true⟩))) (
          .leaf (.inl ({ v with a4 := (IntKind.i64.wrap (v.a4 + 1)) })))) (
         .br (v.a4 == 5) (
          .br (bif (decide (v.a4 > 0)) then (v.a3.f5 == v.a0) else false) (
           .leaf (.inr (.inr ⟨v.a4, true⟩))) (
           .leaf (.inl ({ v with a4 := (IntKind.i64.wrap (v.a4 + 1)) })))) (
          .br (v.a4 == 6) (
           .br (bif (decide (v.a4 > 0)) then (v.a3.f6 == v.a0) else false) (
            .leaf (.inr (.inr ⟨v.a4, true⟩))) (
            .leaf (.inl ({ v with a4 := (IntKind.i64.wrap (v.a4 + 1)) })))) (
           .br (v.a4 == 7) (
            .br (bif (decide (v.a4 > 0)) then (v.a3.f7 == v.a0) else false) (
             .leaf (.inr (.inr ⟨v.a4, true⟩))) (
             .leaf (.inl ({ v with a4 := (IntKind.i64.wrap (v.a4 + 1)) })))) (
            .br (v.a4 == 8) (
             .br (bif (decide (v.a4 > 0)) then (v.a3.f8 == v.a0) else false) (
              .leaf (.inr (.inr ⟨v.a4, true⟩))) (
              .leaf (.inl ({ v with a4 := (IntKind.i64.wrap (v.a4 + 1)) })))) (
             .br (v.a4 == 9) (
              .br (bif (decide (v.a4 > 0)) then (v.a3.f9 == v.a0) else false) (
               .leaf (.inr (.inr ⟨v.a4, true⟩))) (
               .leaf (.inl ({ v with a4 := (IntKind.i64.wrap (v.a4 + 1)) })))) (
              .br (v.a4 == 10) (
               .br (bif (decide (v.a4 > 0)) then (v.a3.f10 == v.a0) else false) (
                .leaf (.inr (.inr ⟨v.a4, true⟩))) (
                .leaf (.inl ({ v with a4 := (IntKind.i64.wrap (v.a4 + 1)) })))) (
               .br (v.a4 == 11) (
                .br (bif (decide (v.a4 > 0)) then (v.a3.f11 == v.a0) else false) (
                 .leaf (.inr (.inr ⟨v.a4, true⟩))) (
                 .leaf (.inl ({ v with a4 := (IntKind.i64.wrap (v.a4 + 1)) })))) (
                .br (v.a4 == 12) (
                 .br (bif (decide (v.a4 > 0)) then (v.a3.f12 == v.a0) else false) (
                  .leaf (.inr (.inr ⟨v.a4, true⟩))) (
                  .leaf (.inl ({ v with a4 := (IntKind.i64.wrap (v.a4 + 1)) })))) (
                 .br (v.a4 == 13) (
                  .br (bif (decide (v.a4 > 0)) then (v.a3.f13 == v.a0) else false) (
                   .leaf (.inr (.inr ⟨v.a4, true⟩))) (
                   .leaf (.inl ({ v with a4 := (IntKind.i64.wrap (v.a4 + 1)) })))) (
                  .br (v.a4 == 14) (
                   .br (bif (decide (v.a4 > 0)) then (v.a3.f14 == v.a0) else false) (
                    .leaf (.inr (.inr ⟨v.a4, true⟩))) (
                    .leaf (.inl ({ v with a4 := (IntKind.i64.wrap (v.a4 + 1)) })))) (
                   .fail)))))))))))))))) (
    .fail)) (
   .leaf (.inr (.inl (v))))
noncomputable def lb12_0 : Code := match findB 0 (Go.Proofs.Try.f12.body.getD .skip) with | [.loop b] => b | _ => .skip
def pa12_0 : List PA := [.c (.str), .any, .c (.int .i64), .c (.bool), .any, .any, .agg [.str, .str, .str, .str, .str, .str, .str, .str, .str, .str, .str, .str, .str, .str, .str], .c (.int .i64), .any, .any, .any, .any, .any, .any, .any, .any, .any, .any, .any, .any]
def pb12_0 : List PB := []
def ini12_0 (s : St) : W12_0 := ⟨sC (aC (s.tmps.getD 0 .top)), iC (aC (s.tmps.getD 2 .top)), bC (aC (s.tmps.getD 3 .top)), rd8 (aL (s.tmps.getD 6 .top)), iC (aC (s.tmps.getD 7 .top))⟩
noncomputable def F12_0 : St → Res (Ex × St) := loopF2 pa12_0 pb12_0 2000000 hd12_0 hu12_0 gR12_0 ini12_0
theorem F12_0_ok (s : St) (r : Ex × St) (h : (F12_0 s).eval = some r) : (codeR e12 0 (.block 0 (.loop lb12_0)) s).eval = some r :=
  blk_ok2 (e := e12) (T := lookT []) (fun s v => by kernel_rfl) (fun s => by kernel_rfl) (tab_nil) s r h
def g12T (x0 : ByteArray) : Tr (Int × Bool) :=
  let z26 := g28 
  .opt (iter2 gR12_0 2000000 (W12_0.mk (x0) (0) (false) (z26) (0))) fun r27 =>
   .br r27.isRight (
    .opt (r27.getRight?) fun u28 =>
     .leaf (u28.a0, u28.a1)) (
    .opt (r27.getLeft?) fun w29 =>
     .leaf (0, false))
def g12 (x0 : ByteArray) : Option (Int × Bool) := (g12T x0).get?
noncomputable def T12 : TL := [(0, F12_0)]
noncomputable def q12 : Ab.Spec := runQ0 e12 (lookT T12) Go.Proofs.Try.f12
theorem q12_ok : SpecOk Go.Proofs.Try.prog 12 q12 := (runQ0_ok (runR_ok (e := e12) follows (allTI ti_ok _ _ _ _ _) (callsOk_cons s28_ok (callsOk_nil)) Go.Proofs.Try.func12 Go.Proofs.Try.call12) (fun c hc => by
  have hb : c = Go.Proofs.Try.f12.body.getD .skip := by rw [hc]; rfl
  subst hb
  exact tab_cons (by kernel_rfl) F12_0_ok (tab_nil)))
theorem g12_run (x0 : ByteArray) : (q12 [.c (.str x0)] []).eval = (g12T x0).ev fun r => ((.tup [some (false, [.int .i64 r.1]), some (false, [.bool r.2])] : AV), ([] : List Blk)) := by kernel_rfl
noncomputable def s12 : Ab.Spec := fun args h =>
  dN h <| dL args fun v0 a0 => dC v0 fun c0 => dS c0 fun x0 => dN a0 <|
  .opt (g12 x0) fun r => .val (.tup [some (false, [.int .i64 r.1]), some (false, [.bool r.2])], [])
theorem s12_ok : SpecOk Go.Proofs.Try.prog 12 s12 :=
  q12_ok.less fun args hs r h => by
    unfold s12 at h
    obtain ⟨rfl, hh1⟩ := dN_inv h
    obtain ⟨v0, a0, rfl, hh2⟩ := dL_inv hh1
    obtain ⟨c0, rfl, hh3⟩ := dC_inv hh2
    obtain ⟨x0, rfl, hh4⟩ := dS_inv hh3
    obtain ⟨rfl, hh5⟩ := dN_inv hh4
    rw [g12_run, Tr.ev_get?]
    change (Res.opt (g12 x0) _).eval = some r at hh5
    rw [eval_opt] at hh5
    obtain ⟨z, hz, hh6⟩ := Option.bind_eq_some_iff.mp hh5
    unfold g12 at hz
    rw [hz]; exact hh6
/-- pontage/pontageref22.Names -/
noncomputable def L29 : SL := []
noncomputable def e29 : Env := ⟨ti, fun g => lookS g L29, 2000000, [], [], none⟩
def g29T  : Tr (List S2) :=
  .leaf ([(S2.mk ⟨#[]⟩), (S2.mk ⟨#[105, 110, 32, 99, 117, 115, 116, 111, 109, 101, 114]⟩), (S2.mk ⟨#[105, 110, 32, 98, 97, 99, 107, 98, 111, 110, 101]⟩), (S2.mk ⟨#[111, 117, 116, 32, 99, 117, 115, 116, 111, 109, 101, 114]⟩), (S2.mk ⟨#[111, 117, 116, 32, 98, 97, 99, 107, 98, 111, 110, 101]⟩), (S2.mk ⟨#[98, 97, 100, 32, 102, 114, 97, 109, 101]⟩), (S2.mk ⟨#[98, 105, 103, 32, 102, 114, 97, 109, 101]⟩), (S2.mk ⟨#[110, 111, 32, 115, 101, 114, 118, 105, 99, 101]⟩), (S2.mk ⟨#[110, 111, 32, 109, 101, 109, 98, 101, 114]⟩), (S2.mk ⟨#[98, 108, 111, 99, 107, 101, 100]⟩), (S2.mk ⟨#[97, 119, 97, 121]⟩), (S2.mk ⟨#[111, 119, 110, 32, 102, 114, 97, 109, 101]⟩), (S2.mk ⟨#[113, 117, 101, 117, 101, 32, 102, 117, 108, 108]⟩), (S2.mk ⟨#[112, 111, 114, 116, 32, 100, 111, 119, 110]⟩), (S2.mk ⟨#[110, 111, 98, 111, 100, 121]⟩)])
def g29  : List S2 := (g29T ).get default
noncomputable def T29 : TL := []
noncomputable def q29 : Ab.Spec := frzR [[some 2]] (runQ0 e29 (lookT T29) Go.Proofs.Try.f29)
theorem q29_ok : SpecOk Go.Proofs.Try.prog 29 q29 := (runQ0_ok (runR_ok (e := e29) follows (allTI ti_ok _ _ _ _ _) (callsOk_nil) Go.Proofs.Try.func29 Go.Proofs.Try.call29) (fun c hc => by
  have hb : c = Go.Proofs.Try.f29.body.getD .skip := by rw [hc]; rfl
  subst hb
  exact tab_nil)).froze [[some 2]]
theorem g29_run  : (q29 [] []).eval = (g29T ).ev fun r => ((.c (.rs 2 r) : AV), ([] : List Blk)) := by kernel_rfl
noncomputable def s29 : Ab.Spec := fun args h =>
  dN h <| dN args <|
  let r := g29; .val (.c (.rs 2 r), [])
theorem s29_ok : SpecOk Go.Proofs.Try.prog 29 s29 :=
  q29_ok.less fun args hs r h => by
    unfold s29 at h
    obtain ⟨rfl, hh1⟩ := dN_inv h
    obtain ⟨rfl, hh2⟩ := dN_inv hh1
    rw [g29_run, Tr.ev_get (d := default) (by kernel_rfl)]
    exact hh2
/-- pontage/pontageref22.Parse -/
noncomputable def L13 : SL := [(29, .byNew, s29)]
noncomputable def e13 : Env := ⟨ti, fun g => lookS g L13, 2000000, [.drop 1, .drop 6, .drop 7, .drop 8, .drop 9, .drop 10, .drop 11, .drop 12, .drop 13, .drop 14, .drop 15, .drop 16, .drop 17, .drop 18, .drop 19], [], some [2, 3]⟩
structure W13_0 where
  a0 : ByteArray
  a1 : Int
  a2 : Bool
  a3 : List S2
  a4 : Int
def hd13_0 (v : W13_0) : St := ⟨[.c (.str v.a0), .top, .c (.int .i64 v.a1), .c (.bool v.a2), .c (.rs 2 v.a3), .c (.int .i64 v.a4), .top, .top, .top, .top, .top, .top, .top, .top, .top, .top, .top, .top, .top, .top], []⟩
structure U13_0 where
  a0 : Int
  a1 : Bool
def hu13_0 (u : U13_0) : St := ⟨[.top, .top, .c (.int .i64 u.a0), .c (.bool u.a1), .top, .top, .top, .top, .top, .top, .top, .top, .top, .top, .top, .top, .top, .top, .top, .top], []⟩
def gR13_0 (v : W13_0) : Tr (W13_0 ⊕ (W13_0 ⊕ U13_0)) :=
  .br (decide (v.a4 < (v.a3.length : Int))) (
   .br (decide (0 ≤ v.a4)) (
    .opt (v.a3[Int.toNat v.a4]?) fun y31 =>
     .br (y31.f0 == v.a0) (
      .leaf (.inr (.inr ⟨v.a4, true⟩))) (
      .leaf (.inl ({ v with a4 := (IntKind.i64.wrap (v.a4 + 1)) })))) (
    .fail)) (
   .leaf (.inr (.inl (v))))
noncomputable def lb13_0 : Code := match findB 0 (Go.Proofs.Try.f13.body.getD .skip) with | [.loop b] => b | _ => .skip
def pa13_0 : List PA := [.c (.str), .any, .c (.int .i64), .c (.bool), .c (.rs 2), .c (.int .i64), .any, .any, .any, .any, .any, .any, .any, .any, .any, .any, .any, .any, .any, .any]
def pb13_0 : List PB := []
def ini13_0 (s : St) : W13_0 := ⟨sC (aC (s.tmps.getD 0 .top)), iC (aC (s.tmps.getD 2 .top)), bC (aC (s.tmps.getD 3 .top)), rC 2 (aC (s.tmps.getD 4 .top)), iC (aC (s.tmps.getD 5 .top))⟩
noncomputable def F13_0 : St → Res (Ex × St) := loopF2 pa13_0 pb13_0 2000000 hd13_0 hu13_0 gR13_0 ini13_0
theorem F13_0_ok (s : St) (r : Ex × St) (h : (F13_0 s).eval = some r) : (codeR e13 0 (.block 0 (.loop lb13_0)) s).eval = some r :=
  blk_ok2 (e := e13) (T := lookT []) (fun s v => by kernel_rfl) (fun s => by kernel_rfl) (tab_nil) s r h
def g13T (x0 : ByteArray) : Tr (Int × Bool) :=
  let z30 := g29 
  .opt (iter2 gR13_0 2000000 (W13_0.mk (x0) (0) (false) (z30) (1))) fun r32 =>
   .br r32.isRight (
    .opt (r32.getRight?) fun u33 =>
     .leaf (u33.a0, u33.a1)) (
    .opt (r32.getLeft?) fun w34 =>
     .leaf (0, false))
def g13 (x0 : ByteArray) : Option (Int × Bool) := (g13T x0).get?
noncomputable def T13 : TL := [(0, F13_0)]
noncomputable def q13 : Ab.Spec := runQ0 e13 (lookT T13) Go.Proofs.Try.f13
theorem q13_ok : SpecOk Go.Proofs.Try.prog 13 q13 := (runQ0_ok (runR_ok (e := e13) follows (allTI ti_ok _ _ _ _ _) (callsOk_cons s29_ok (callsOk_nil)) Go.Proofs.Try.func13 Go.Proofs.Try.call13) (fun c hc => by
  have hb : c = Go.Proofs.Try.f13.body.getD .skip := by rw [hc]; rfl
  subst hb
  exact tab_cons (by kernel_rfl) F13_0_ok (tab_nil)))
theorem g13_run (x0 : ByteArray) : (q13 [.c (.str x0)] []).eval = (g13T x0).ev fun r => ((.tup [some (false, [.int .i64 r.1]), some (false, [.bool r.2])] : AV), ([] : List Blk)) := by kernel_rfl
noncomputable def s13 : Ab.Spec := fun args h =>
  dN h <| dL args fun v0 a0 => dC v0 fun c0 => dS c0 fun x0 => dN a0 <|
  .opt (g13 x0) fun r => .val (.tup [some (false, [.int .i64 r.1]), some (false, [.bool r.2])], [])
theorem s13_ok : SpecOk Go.Proofs.Try.prog 13 s13 :=
  q13_ok.less fun args hs r h => by
    unfold s13 at h
    obtain ⟨rfl, hh1⟩ := dN_inv h
    obtain ⟨v0, a0, rfl, hh2⟩ := dL_inv hh1
    obtain ⟨c0, rfl, hh3⟩ := dC_inv hh2
    obtain ⟨x0, rfl, hh4⟩ := dS_inv hh3
    obtain ⟨rfl, hh5⟩ := dN_inv hh4
    rw [g13_run, Tr.ev_get?]
    change (Res.opt (g13 x0) _).eval = some r at hh5
    rw [eval_opt] at hh5
    obtain ⟨z, hz, hh6⟩ := Option.bind_eq_some_iff.mp hh5
    unfold g13 at hz
    rw [hz]; exact hh6
/-- pontage/tally.Name -/
noncomputable def L14 : SL := [(27, .byVal, s27), (28, .byVal, s28)]
noncomputable def e14 : Env := ⟨ti, fun g => lookS g L14, 2000000, [], [], none⟩
def g14T (x0 : Int) : Tr (ByteArray) :=
  let z35 := g27 x0
  .br (!z35) (
   .leaf (⟨#[]⟩)) (
   let z36 := g28 
   .br (decide (0 ≤ x0) && decide (x0 < 15)) (
    .br (x0 == 0) (
     .leaf (z36.f0)) (
     .br (x0 == 1) (
      .leaf (z36.f1)) (
      .br (x0 == 2) (
       .leaf (z36.f2)) (
       .br (x0 == 3) (
        .leaf (z36.f3)) (
        .br (x0 == 4) (
         .leaf (z36.f4)) (
         .br (x0 == 5) (
          .leaf (z36.f5)) (
          .br (x0 == 6) (
           .leaf (z36.f6)) (
           .br (x0 == 7) (
            .leaf (z36.f7)) (
            .br (x0 == 8) (
             .leaf (z36.f8)) (
             .br (x0 == 9) (
              .leaf (z36.f9)) (
              .br (x0 == 10) (
               .leaf (z36.f10)) (
               .br (x0 == 11) (
                .leaf (z36.f11)) (
                .br (x0 == 12) (
                 .leaf (z36.f12)) (
                 .br (x0 == 13) (
                  .leaf (z36.f13)) (
                  .br (x0 == 14) (
                   .leaf (z36.f14)) (
                   .fail)))))))))))))))) (
    .fail))
def g14 (x0 : Int) : Option (ByteArray) := (g14T x0).get?
theorem t14 (x0 : Int) : ∃ r, g14 x0 = some r := by
  by_cases h : 1 ≤ x0 ∧ x0 ≤ 14
  · have : x0 = 1 ∨ x0 = 2 ∨ x0 = 3 ∨ x0 = 4 ∨ x0 = 5 ∨ x0 = 6 ∨ x0 = 7 ∨ x0 = 8 ∨ x0 = 9 ∨ x0 = 10 ∨ x0 = 11 ∨ x0 = 12 ∨ x0 = 13 ∨ x0 = 14 := by omega
    rcases this with rfl | rfl | rfl | rfl | rfl | rfl | rfl | rfl | rfl | rfl | rfl | rfl | rfl | rfl <;> exact Option.isSome_iff_exists.mp (by kernel_rfl)
  · refine ⟨⟨#[]⟩, ?_⟩
    have h1 : (bif (decide (x0 ≥ 1)) then (decide (x0 ≤ 14)) else false) = false := by
      by_cases a : x0 ≥ 1
      · have b : ¬ x0 ≤ 14 := fun b => h ⟨a, b⟩
        simp [a, b]
      · simp [a]
    unfold g14 g14T g27 g27T
    simp only [Tr.get, get_br, get_leaf, h1]
    rfl
def h14 (x0 : Int) : ByteArray := (g14 x0).getD default
noncomputable def T14 : TL := []
noncomputable def q14 : Ab.Spec := runQ0 e14 (lookT T14) Go.Proofs.Try.f14
theorem q14_ok : SpecOk Go.Proofs.Try.prog 14 q14 := (runQ0_ok (runR_ok (e := e14) follows (allTI ti_ok _ _ _ _ _) (callsOk_cons s27_ok (callsOk_cons s28_ok (callsOk_nil))) Go.Proofs.Try.func14 Go.Proofs.Try.call14) (fun c hc => by
  have hb : c = Go.Proofs.Try.f14.body.getD .skip := by rw [hc]; rfl
  subst hb
  exact tab_nil))
theorem g14_run (x0 : Int) : (q14 [.c (.int .i64 x0)] []).eval = (g14T x0).ev fun r => ((.c (.str r) : AV), ([] : List Blk)) := by kernel_rfl
noncomputable def s14 : Ab.Spec := fun args h =>
  dN h <| dL args fun v0 a0 => dC v0 fun c0 => dI .i64 c0 fun x0 => dN a0 <|
  let r := h14 x0; .val (.c (.str r), [])
theorem s14_ok : SpecOk Go.Proofs.Try.prog 14 s14 :=
  q14_ok.less fun args hs r h => by
    unfold s14 at h
    obtain ⟨rfl, hh1⟩ := dN_inv h
    obtain ⟨v0, a0, rfl, hh2⟩ := dL_inv hh1
    obtain ⟨c0, rfl, hh3⟩ := dC_inv hh2
    obtain ⟨x0, rfl, hh4⟩ := dI_inv hh3
    obtain ⟨rfl, hh5⟩ := dN_inv hh4
    rw [g14_run, Tr.ev_get?]
    obtain ⟨z, hz⟩ := t14 x0
    have e : h14 x0 = z := by unfold h14; rw [hz]; rfl
    unfold g14 at hz
    rw [hz]
    subst e
    exact hh5
/-- pontage/pontageref22.is -/
noncomputable def L30 : SL := []
noncomputable def e30 : Env := ⟨ti, fun g => lookS g L30, 2000000, [], [], none⟩
def g30T (x0 : Int) : Tr (Bool) :=
  .leaf ((bif (decide (x0 ≥ 1)) then (decide (x0 ≤ 14)) else false))
def g30 (x0 : Int) : Bool := (g30T x0).get default
noncomputable def T30 : TL := []
noncomputable def q30 : Ab.Spec := runQ0 e30 (lookT T30) Go.Proofs.Try.f30
theorem q30_ok : SpecOk Go.Proofs.Try.prog 30 q30 := (runQ0_ok (runR_ok (e := e30) follows (allTI ti_ok _ _ _ _ _) (callsOk_nil) Go.Proofs.Try.func30 Go.Proofs.Try.call30) (fun c hc => by
  have hb : c = Go.Proofs.Try.f30.body.getD .skip := by rw [hc]; rfl
  subst hb
  exact tab_nil))
theorem g30_run (x0 : Int) : (q30 [.c (.int .i64 x0)] []).eval = (g30T x0).ev fun r => ((.c (.bool r) : AV), ([] : List Blk)) := by kernel_rfl
noncomputable def s30 : Ab.Spec := fun args h =>
  dN h <| dL args fun v0 a0 => dC v0 fun c0 => dI .i64 c0 fun x0 => dN a0 <|
  let r := g30 x0; .val (.c (.bool r), [])
theorem s30_ok : SpecOk Go.Proofs.Try.prog 30 s30 :=
  q30_ok.less fun args hs r h => by
    unfold s30 at h
    obtain ⟨rfl, hh1⟩ := dN_inv h
    obtain ⟨v0, a0, rfl, hh2⟩ := dL_inv hh1
    obtain ⟨c0, rfl, hh3⟩ := dC_inv hh2
    obtain ⟨x0, rfl, hh4⟩ := dI_inv hh3
    obtain ⟨rfl, hh5⟩ := dN_inv hh4
    rw [g30_run, Tr.ev_get (d := default) (by kernel_rfl)]
    exact hh5
/-- pontage/pontageref22.Name -/
noncomputable def L15 : SL := [(30, .byVal, s30), (29, .byNew, s29)]
noncomputable def e15 : Env := ⟨ti, fun g => lookS g L15, 2000000, [], [], none⟩
def g15T (x0 : Int) : Tr (ByteArray) :=
  let z37 := g30 x0
  .br (!z37) (
   .leaf (⟨#[]⟩)) (
   let z38 := g29 
   .br (decide (0 ≤ x0)) (
    .opt (z38[Int.toNat x0]?) fun y39 =>
     .leaf (y39.f0)) (
    .fail))
def g15 (x0 : Int) : Option (ByteArray) := (g15T x0).get?
theorem t15 (x0 : Int) : ∃ r, g15 x0 = some r := by
  by_cases h : 1 ≤ x0 ∧ x0 ≤ 14
  · have : x0 = 1 ∨ x0 = 2 ∨ x0 = 3 ∨ x0 = 4 ∨ x0 = 5 ∨ x0 = 6 ∨ x0 = 7 ∨ x0 = 8 ∨ x0 = 9 ∨ x0 = 10 ∨ x0 = 11 ∨ x0 = 12 ∨ x0 = 13 ∨ x0 = 14 := by omega
    rcases this with rfl | rfl | rfl | rfl | rfl | rfl | rfl | rfl | rfl | rfl | rfl | rfl | rfl | rfl <;> exact Option.isSome_iff_exists.mp (by kernel_rfl)
  · refine ⟨⟨#[]⟩, ?_⟩
    have h1 : (bif (decide (x0 ≥ 1)) then (decide (x0 ≤ 14)) else false) = false := by
      by_cases a : x0 ≥ 1
      · have b : ¬ x0 ≤ 14 := fun b => h ⟨a, b⟩
        simp [a, b]
      · simp [a]
    unfold g15 g15T g30 g30T
    simp only [Tr.get, get_br, get_leaf, h1]
    rfl
def h15 (x0 : Int) : ByteArray := (g15 x0).getD default
noncomputable def T15 : TL := []
noncomputable def q15 : Ab.Spec := runQ0 e15 (lookT T15) Go.Proofs.Try.f15
theorem q15_ok : SpecOk Go.Proofs.Try.prog 15 q15 := (runQ0_ok (runR_ok (e := e15) follows (allTI ti_ok _ _ _ _ _) (callsOk_cons s30_ok (callsOk_cons s29_ok (callsOk_nil))) Go.Proofs.Try.func15 Go.Proofs.Try.call15) (fun c hc => by
  have hb : c = Go.Proofs.Try.f15.body.getD .skip := by rw [hc]; rfl
  subst hb
  exact tab_nil))
theorem g15_run (x0 : Int) : (q15 [.c (.int .i64 x0)] []).eval = (g15T x0).ev fun r => ((.c (.str r) : AV), ([] : List Blk)) := by kernel_rfl
noncomputable def s15 : Ab.Spec := fun args h =>
  dN h <| dL args fun v0 a0 => dC v0 fun c0 => dI .i64 c0 fun x0 => dN a0 <|
  let r := h15 x0; .val (.c (.str r), [])
theorem s15_ok : SpecOk Go.Proofs.Try.prog 15 s15 :=
  q15_ok.less fun args hs r h => by
    unfold s15 at h
    obtain ⟨rfl, hh1⟩ := dN_inv h
    obtain ⟨v0, a0, rfl, hh2⟩ := dL_inv hh1
    obtain ⟨c0, rfl, hh3⟩ := dC_inv hh2
    obtain ⟨x0, rfl, hh4⟩ := dI_inv hh3
    obtain ⟨rfl, hh5⟩ := dN_inv hh4
    rw [g15_run, Tr.ev_get?]
    obtain ⟨z, hz⟩ := t15 x0
    have e : h15 x0 = z := by unfold h15; rw [hz]; rfl
    unfold g15 at hz
    rw [hz]
    subst e
    exact hh5
/-- pontage/pontagelaw22.TallyNames -/
noncomputable def L4 : SL := [(12, .byVal, s12), (13, .byVal, s13), (14, .byVal, s14), (15, .byVal, s15), (9, .byVal, s9)]
noncomputable def e4 : Env := ⟨ti, fun g => lookS g L4, 2000000, [], [], none⟩
def g4T (x0 : Int) (x1 : ByteArray) : Tr (Bool) :=
  .br (decide ((x1.size : Int) > 60)) (
   .br (decide (0 ≤ 60) && decide (60 ≤ (x1.size : Int))) (
    .opt (g12 (ByteArray.extract x1 0 (Int.toNat 60))) fun z40 =>
     .opt (g13 (ByteArray.extract x1 0 (Int.toNat 60))) fun z41 =>
      let z42 := h14 x0
      .opt (g12 z42) fun z43 =>
       let z44 := h15 x0
       let z45 := h14 z40.1
       .br (bif (bif (bif (bif (bif (z40.1 == z41.1) then (z40.2 == z41.2) else false) then (z42 == z44) else false) then (z43.2 == (bif (decide (x0 ≥ 1)) then (decide (x0 ≤ 14)) else false)) else false) then (bif (!z43.2) then true else (z43.1 == x0)) else false) then (bif (!z40.2) then true else (z45 == (ByteArray.extract x1 0 (Int.toNat 60)))) else false) (
        .opt (g9 ) fun z47 =>
         .leaf (z47)) (
        .leaf (false))) (
    .fail)) (
   .opt (g12 x1) fun z48 =>
    .opt (g13 x1) fun z49 =>
     let z50 := h14 x0
     .opt (g12 z50) fun z51 =>
      let z52 := h15 x0
      let z53 := h14 z48.1
      .br (bif (bif (bif (bif (bif (z48.1 == z49.1) then (z48.2 == z49.2) else false) then (z50 == z52) else false) then (z51.2 == (bif (decide (x0 ≥ 1)) then (decide (x0 ≤ 14)) else false)) else false) then (bif (!z51.2) then true else (z51.1 == x0)) else false) then (bif (!z48.2) then true else (z53 == x1)) else false) (
       .opt (g9 ) fun z55 =>
        .leaf (z55)) (
       .leaf (false)))
def g4 (x0 : Int) (x1 : ByteArray) : Option (Bool) := (g4T x0 x1).get?
noncomputable def T4 : TL := []
noncomputable def q4 : Ab.Spec := runQ0 e4 (lookT T4) Go.Proofs.Try.f4
theorem q4_ok : SpecOk Go.Proofs.Try.prog 4 q4 := (runQ0_ok (runR_ok (e := e4) follows (allTI ti_ok _ _ _ _ _) (callsOk_cons s12_ok (callsOk_cons s13_ok (callsOk_cons s14_ok (callsOk_cons s15_ok (callsOk_cons s9_ok (callsOk_nil)))))) Go.Proofs.Try.func4 Go.Proofs.Try.call4) (fun c hc => by
  have hb : c = Go.Proofs.Try.f4.body.getD .skip := by rw [hc]; rfl
  subst hb
  exact tab_nil))
theorem g4_run (x0 : Int) (x1 : ByteArray) : (q4 [.c (.int .i64 x0), .c (.str x1)] []).eval = (g4T x0 x1).ev fun r => ((.c (.bool r) : AV), ([] : List Blk)) := by kernel_rfl
noncomputable def s4 : Ab.Spec := fun args h =>
  dN h <| dL args fun v0 a0 => dC v0 fun c0 => dI .i64 c0 fun x0 => dL a0 fun v1 a1 => dC v1 fun c1 => dS c1 fun x1 => dN a1 <|
  .opt (g4 x0 x1) fun r => .val (.c (.bool r), [])
theorem s4_ok : SpecOk Go.Proofs.Try.prog 4 s4 :=
  q4_ok.less fun args hs r h => by
    unfold s4 at h
    obtain ⟨rfl, hh1⟩ := dN_inv h
    obtain ⟨v0, a0, rfl, hh2⟩ := dL_inv hh1
    obtain ⟨c0, rfl, hh3⟩ := dC_inv hh2
    obtain ⟨x0, rfl, hh4⟩ := dI_inv hh3
    obtain ⟨v1, a1, rfl, hh5⟩ := dL_inv hh4
    obtain ⟨c1, rfl, hh6⟩ := dC_inv hh5
    obtain ⟨x1, rfl, hh7⟩ := dS_inv hh6
    obtain ⟨rfl, hh8⟩ := dN_inv hh7
    rw [g4_run, Tr.ev_get?]
    change (Res.opt (g4 x0 x1) _).eval = some r at hh8
    rw [eval_opt] at hh8
    obtain ⟨z, hz, hh9⟩ := Option.bind_eq_some_iff.mp hh8
    unfold g4 at hz
    rw [hz]; exact hh9
/-- pontage/pontagelaw22.few -/
noncomputable def L16 : SL := []
noncomputable def e16 : Env := ⟨ti, fun g => lookS g L16, 2000000, [], [], none⟩
def g16T (x0 : List S1) : Tr (List S1) :=
  .br (decide ((x0.length : Int) > 30)) (
   .br (decide (0 ≤ 30) && decide (30 ≤ (x0.length : Int))) (
    .leaf ((List.take (Int.toNat 30) x0))) (
    .fail)) (
   .leaf (x0))
def g16 (x0 : List S1) : Option (List S1) := (g16T x0).get?
noncomputable def T16 : TL := []
noncomputable def q16 : Ab.Spec := frzR [[some 1]] (runQ0 e16 (lookT T16) Go.Proofs.Try.f16)
theorem q16_ok : SpecOk Go.Proofs.Try.prog 16 q16 := (runQ0_ok (runR_ok (e := e16) follows (allTI ti_ok _ _ _ _ _) (callsOk_nil) Go.Proofs.Try.func16 Go.Proofs.Try.call16) (fun c hc => by
  have hb : c = Go.Proofs.Try.f16.body.getD .skip := by rw [hc]; rfl
  subst hb
  exact tab_nil)).froze [[some 1]]
theorem g16_run (x0 : List S1) : (q16 [.c (.rs 1 x0)] []).eval = (g16T x0).ev fun r => ((.c (.rs 1 r) : AV), ([] : List Blk)) := by kernel_rfl
noncomputable def s16_0 : Ab.Spec := fun args h =>
  dN h <| dL args fun v0 a0 => dC v0 fun c0 => dR0 1 c0 fun x0 => dN a0 <|
  .opt (g16 x0) fun r => .val (.c (.rs 1 r), [])
theorem s16_0_ok : SpecOk Go.Proofs.Try.prog 16 s16_0 :=
  q16_ok.less fun args hs r h => by
    unfold s16_0 at h
    obtain ⟨rfl, hh1⟩ := dN_inv h
    obtain ⟨v0, a0, rfl, hh2⟩ := dL_inv hh1
    obtain ⟨c0, rfl, hh3⟩ := dC_inv hh2
    obtain ⟨x0, rfl, hh4⟩ := dR0_inv hh3
    obtain ⟨rfl, hh5⟩ := dN_inv hh4
    rw [g16_run, Tr.ev_get?]
    change (Res.opt (g16 x0) _).eval = some r at hh5
    rw [eval_opt] at hh5
    obtain ⟨z, hz, hh6⟩ := Option.bind_eq_some_iff.mp hh5
    unfold g16 at hz
    rw [hz]; exact hh6
noncomputable def s16 : Ab.Spec := fun args h => s16_0 (coeA [[some 1]] args) h
theorem s16_ok : SpecOk Go.Proofs.Try.prog 16 s16 := s16_0_ok.pre [[some 1]]
/-- pontage/pontageref22.New -/
noncomputable def L17 : SL := []
noncomputable def e17 : Env := ⟨ti, fun g => lookS g L17, 2000000, [], [], none⟩
def g17T  : Tr (S6) :=
  .leaf ((S6.mk [(S1.mk 0), (S1.mk 0), (S1.mk 0), (S1.mk 0), (S1.mk 0), (S1.mk 0), (S1.mk 0), (S1.mk 0), (S1.mk 0), (S1.mk 0), (S1.mk 0), (S1.mk 0), (S1.mk 0), (S1.mk 0), (S1.mk 0)]))
def g17  : S6 := (g17T ).get default
noncomputable def T17 : TL := []
noncomputable def q17 : Ab.Spec := frzR [[some 1]] (runQ0 e17 (lookT T17) Go.Proofs.Try.f17)
theorem q17_ok : SpecOk Go.Proofs.Try.prog 17 q17 := (runQ0_ok (runR_ok (e := e17) follows (allTI ti_ok _ _ _ _ _) (callsOk_nil) Go.Proofs.Try.func17 Go.Proofs.Try.call17) (fun c hc => by
  have hb : c = Go.Proofs.Try.f17.body.getD .skip := by rw [hc]; rfl
  subst hb
  exact tab_nil)).froze [[some 1]]
theorem g17_run  : (q17 [] []).eval = (g17T ).ev fun r => ((.agg (Cod.enc 6 r) : AV), ([] : List Blk)) := by kernel_rfl
noncomputable def s17 : Ab.Spec := fun args h =>
  dN h <| dN args <|
  let r := g17; .val (.agg (Cod.enc 6 r), [])
theorem s17_ok : SpecOk Go.Proofs.Try.prog 17 s17 :=
  q17_ok.less fun args hs r h => by
    unfold s17 at h
    obtain ⟨rfl, hh1⟩ := dN_inv h
    obtain ⟨rfl, hh2⟩ := dN_inv hh1
    rw [g17_run, Tr.ev_get (d := default) (by kernel_rfl)]
    exact hh2
/-- (*pontage/tally.Tally).Fork -/
noncomputable def L18 : SL := [(26, .byHeap, s26)]
noncomputable def e18 : Env := ⟨ti, fun g => lookS g L18, 2000000, [], [], none⟩
noncomputable def s18 : Ab.Spec := runR e18 Go.Proofs.Try.f18
theorem s18_ok : SpecOk Go.Proofs.Try.prog 18 s18 := runR_ok (e := e18) follows (allTI ti_ok _ _ _ _ _) (callsOk_cons s26_ok (callsOk_nil)) Go.Proofs.Try.func18 Go.Proofs.Try.call18
/-- pontage/pontageref22.Add -/
noncomputable def L19 : SL := [(30, .byVal, s30)]
noncomputable def e19 : Env := ⟨ti, fun g => lookS g L19, 2000000, [], [], none⟩
def g19T (x0 : S6) (x1 : Int) (x2 : Int) : Tr (S6 × Int) :=
  let z56 := g30 x1
  .br (bif (bif (!z56) then true else (decide (x2 < 0))) then true else (decide (x2 > 1073741824))) (
   .leaf (x0, 220)) (
   .br (decide (0 ≤ x1)) (
    .opt (x0.f0[Int.toNat x1]?) fun y57 =>
     .br (decide ((IntKind.i64.wrap (y57.f0 + x2)) > 1125899906842624)) (
      .leaf (x0, 3)) (
      .br (x0.f0.isEmpty) (
       .fail) (
       .br (Nat.ble (0 + x0.f0.length) 140737488355328 && Nat.ble ((0 + x0.f0.length) * 8) 140737488355328) (
        .br (decide (0 ≤ x1) && decide (x1 < (x0.f0.length : Int))) (
         .opt (x0.f0[(Int.toNat x1)]?) fun y58 =>
          .br (decide (0 ≤ x1) && decide (x1 < (x0.f0.length : Int))) (
           .opt (x0.f0[(Int.toNat x1)]?) fun y59 =>
            .leaf ((S6.mk (List.set x0.f0 (Int.toNat x1) (S1.mk (IntKind.i64.wrap (y58.f0 + x2))))), 0)) (
           .fail)) (
         .fail)) (
        .fail)))) (
    .fail))
def g19 (x0 : S6) (x1 : Int) (x2 : Int) : Option (S6 × Int) := (g19T x0 x1 x2).get?
noncomputable def T19 : TL := []
noncomputable def q19 : Ab.Spec := frzR [[some 1], []] (runQ0 e19 (lookT T19) Go.Proofs.Try.f19)
theorem q19_ok : SpecOk Go.Proofs.Try.prog 19 q19 := (runQ0_ok (runR_ok (e := e19) follows (allTI ti_ok _ _ _ _ _) (callsOk_cons s30_ok (callsOk_nil)) Go.Proofs.Try.func19 Go.Proofs.Try.call19) (fun c hc => by
  have hb : c = Go.Proofs.Try.f19.body.getD .skip := by rw [hc]; rfl
  subst hb
  exact tab_nil)).froze [[some 1], []]
theorem g19_run (x0 : S6) (x1 : Int) (x2 : Int) : (q19 [.agg (Cod.enc 6 x0), .c (.int .i64 x1), .c (.int .i64 x2)] []).eval = (g19T x0 x1 x2).ev fun r => ((.tup [some (true, Cod.enc 6 r.1), some (false, [.int .i64 r.2])] : AV), ([] : List Blk)) := by kernel_rfl
noncomputable def s19_0 : Ab.Spec := fun args h =>
  dN h <| dL args fun v0 a0 => dG v0 fun l0 => dE 6 l0 fun x0 => dL a0 fun v1 a1 => dC v1 fun c0 => dI .i64 c0 fun x1 => dL a1 fun v2 a2 => dC v2 fun c1 => dI .i64 c1 fun x2 => dN a2 <|
  .opt (g19 x0 x1 x2) fun r => .val (.tup [some (true, Cod.enc 6 r.1), some (false, [.int .i64 r.2])], [])
theorem s19_0_ok : SpecOk Go.Proofs.Try.prog 19 s19_0 :=
  q19_ok.less fun args hs r h => by
    unfold s19_0 at h
    obtain ⟨rfl, hh1⟩ := dN_inv h
    obtain ⟨v0, a0, rfl, hh2⟩ := dL_inv hh1
    obtain ⟨l0, rfl, hh3⟩ := dG_inv hh2
    obtain ⟨x0, rfl, hh4⟩ := dE_inv hh3
    obtain ⟨v1, a1, rfl, hh5⟩ := dL_inv hh4
    obtain ⟨c0, rfl, hh6⟩ := dC_inv hh5
    obtain ⟨x1, rfl, hh7⟩ := dI_inv hh6
    obtain ⟨v2, a2, rfl, hh8⟩ := dL_inv hh7
    obtain ⟨c1, rfl, hh9⟩ := dC_inv hh8
    obtain ⟨x2, rfl, hh10⟩ := dI_inv hh9
    obtain ⟨rfl, hh11⟩ := dN_inv hh10
    rw [g19_run, Tr.ev_get?]
    change (Res.opt (g19 x0 x1 x2) _).eval = some r at hh11
    rw [eval_opt] at hh11
    obtain ⟨z, hz, hh12⟩ := Option.bind_eq_some_iff.mp hh11
    unfold g19 at hz
    rw [hz]; exact hh12
noncomputable def s19 : Ab.Spec := fun args h => s19_0 (coeA [[some 1], [], []] args) h
theorem s19_ok : SpecOk Go.Proofs.Try.prog 19 s19 := s19_0_ok.pre [[some 1], [], []]
/-- pontage/pontageref22.Get -/
noncomputable def L20 : SL := [(30, .byVal, s30)]
noncomputable def e20 : Env := ⟨ti, fun g => lookS g L20, 2000000, [], [], none⟩
def g20T (x0 : S6) (x1 : Int) : Tr (Int) :=
  let z60 := g30 x1
  .br (!z60) (
   .leaf (0)) (
   .br (decide (0 ≤ x1)) (
    .opt (x0.f0[Int.toNat x1]?) fun y61 =>
     .leaf (y61.f0)) (
    .fail))
def g20 (x0 : S6) (x1 : Int) : Option (Int) := (g20T x0 x1).get?
noncomputable def T20 : TL := []
noncomputable def q20 : Ab.Spec := runQ0 e20 (lookT T20) Go.Proofs.Try.f20
theorem q20_ok : SpecOk Go.Proofs.Try.prog 20 q20 := (runQ0_ok (runR_ok (e := e20) follows (allTI ti_ok _ _ _ _ _) (callsOk_cons s30_ok (callsOk_nil)) Go.Proofs.Try.func20 Go.Proofs.Try.call20) (fun c hc => by
  have hb : c = Go.Proofs.Try.f20.body.getD .skip := by rw [hc]; rfl
  subst hb
  exact tab_nil))
theorem g20_run (x0 : S6) (x1 : Int) : (q20 [.agg (Cod.enc 6 x0), .c (.int .i64 x1)] []).eval = (g20T x0 x1).ev fun r => ((.c (.int .i64 r) : AV), ([] : List Blk)) := by kernel_rfl
noncomputable def s20_0 : Ab.Spec := fun args h =>
  dN h <| dL args fun v0 a0 => dG v0 fun l0 => dE 6 l0 fun x0 => dL a0 fun v1 a1 => dC v1 fun c0 => dI .i64 c0 fun x1 => dN a1 <|
  .opt (g20 x0 x1) fun r => .val (.c (.int .i64 r), [])
theorem s20_0_ok : SpecOk Go.Proofs.Try.prog 20 s20_0 :=
  q20_ok.less fun args hs r h => by
    unfold s20_0 at h
    obtain ⟨rfl, hh1⟩ := dN_inv h
    obtain ⟨v0, a0, rfl, hh2⟩ := dL_inv hh1
    obtain ⟨l0, rfl, hh3⟩ := dG_inv hh2
    obtain ⟨x0, rfl, hh4⟩ := dE_inv hh3
    obtain ⟨v1, a1, rfl, hh5⟩ := dL_inv hh4
    obtain ⟨c0, rfl, hh6⟩ := dC_inv hh5
    obtain ⟨x1, rfl, hh7⟩ := dI_inv hh6
    obtain ⟨rfl, hh8⟩ := dN_inv hh7
    rw [g20_run, Tr.ev_get?]
    change (Res.opt (g20 x0 x1) _).eval = some r at hh8
    rw [eval_opt] at hh8
    obtain ⟨z, hz, hh9⟩ := Option.bind_eq_some_iff.mp hh8
    unfold g20 at hz
    rw [hz]; exact hh9
noncomputable def s20 : Ab.Spec := fun args h => s20_0 (coeA [[some 1], []] args) h
theorem s20_ok : SpecOk Go.Proofs.Try.prog 20 s20 := s20_0_ok.pre [[some 1], []]
/-- slices.Clone[[]int,int] -/
noncomputable def L31 : SL := []
noncomputable def e31 : Env := ⟨ti, fun g => lookS g L31, 2000000, [], [], none⟩
theorem s31_a : (runR e31 Go.Proofs.Try.f31 [.c (.rn true 1 [])] []).eval = some (.c .nils, []) := by kernel_rfl
theorem s31_b (L : List S1) : (runR e31 Go.Proofs.Try.f31 [.c (.rn false 1 L)] []).eval = bif L.isEmpty then some (.c .ez, []) else bif cloneB 1 8 L then some (.c (.slw 0), [.row 1 L]) else none := by
  cases L with
  | nil => kernel_rfl
  | cons x L => kernel_rfl
noncomputable def s31 : Ab.Spec := fun args h => cloneS 1 8 (coeA [[some 1]] args) h
theorem s31_ok : SpecOk Go.Proofs.Try.prog 31 s31 := (clone_ok (e := e31) (c := 1) (bytes := 8) (runR_ok (e := e31) follows (allTI ti_ok _ _ _ _ _) (callsOk_nil) Go.Proofs.Try.func31 Go.Proofs.Try.call31) s31_a s31_b).pre [[some 1]]
/-- (*pontage/tally.Tally).All -/
noncomputable def L22 : SL := [(26, .byHeap, s26), (31, .byCopy [], s31)]
noncomputable def e22 : Env := ⟨ti, fun g => lookS g L22, 2000000, [], [], none⟩
structure V22_0 where

structure Y22_0 where

  deriving Inhabited
def hS22_0 (v : V22_0) : St := ⟨[.c (.nilp)], []⟩
def iS22_0 (s : St) : V22_0 := ⟨⟩
def aS22_0 : List PA := [.c (.nilp)]
def bS22_0 : List PB := []
def g22_0T (v : V22_0) : Tr Y22_0 :=
  .leaf (⟨⟩)
def g22_0 (v : V22_0) : Y22_0 := (g22_0T v).get default
def k22_0 (v : V22_0) (r : Y22_0) : AV × List Blk := (.c (.nils), [])
noncomputable def q22_0 : Ab.Spec := runQh 0 e22 (lookT []) Go.Proofs.Try.f22
theorem q22_0_ok : SpecOk Go.Proofs.Try.prog 22 q22_0 := runQh_ok (runR_ok (e := e22) follows (allTI ti_ok _ _ _ _ _) (callsOk_cons s26_ok (callsOk_cons s31_ok (callsOk_nil))) Go.Proofs.Try.func22 Go.Proofs.Try.call22) (fun c hc => by
  have hb : c = Go.Proofs.Try.f22.body.getD .skip := by rw [hc]; rfl
  subst hb
  exact tab_nil)
theorem g22_0_run (v : V22_0) : (q22_0 (hS22_0 v).tmps (hS22_0 v).heap).eval = (g22_0T v).ev (k22_0 v) := by kernel_rfl
noncomputable def sp22_0 (v : V22_0) : Res (AV × List Blk) := let r := g22_0 v; .val (k22_0 v r)
theorem sp22_0_ok (v : V22_0) (r : AV × List Blk) (h : (sp22_0 v).eval = some r) : (q22_0 (hS22_0 v).tmps (hS22_0 v).heap).eval = some r := by
  rw [g22_0_run, Tr.ev_get (d := default) (by kernel_rfl)]
  exact h
noncomputable def s22 : Ab.Spec := shapeS aS22_0 bS22_0 (fun args h => sp22_0 (iS22_0 ⟨args, h⟩)) (runR e22 Go.Proofs.Try.f22)
theorem s22_ok : SpecOk Go.Proofs.Try.prog 22 s22 := shape_ok hS22_0 iS22_0 q22_0_ok ((runR_ok (e := e22) follows (allTI ti_ok _ _ _ _ _) (callsOk_cons s26_ok (callsOk_cons s31_ok (callsOk_nil))) Go.Proofs.Try.func22 Go.Proofs.Try.call22)) (fun s => by kernel_rfl) sp22_0_ok
/-- pontage/pontageref22.Same -/
noncomputable def L21 : SL := []
noncomputable def e21 : Env := ⟨ti, fun g => lookS g L21, 2000000, [.drop 2, .drop 3, .drop 6, .drop 7, .drop 8, .drop 9, .drop 10, .drop 11, .drop 12, .drop 13, .drop 14, .drop 15, .drop 16, .drop 17, .drop 18, .drop 19, .drop 20, .drop 21, .drop 22, .drop 23, .drop 24, .drop 25], [], some [4]⟩
structure W21_0 where
  a0 : List S1
  a1 : List S1
  a2 : Bool
  a3 : Int
def hd21_0 (v : W21_0) : St := ⟨[.c (.rs 1 v.a0), .c (.rs 1 v.a1), .top, .top, .c (.bool v.a2), .c (.int .i64 v.a3), .top, .top, .top, .top, .top, .top, .top, .top, .top, .top, .top, .top, .top, .top, .top, .top, .top, .top, .top, .top], []⟩
structure U21_0 where
  a0 : Bool
def hu21_0 (u : U21_0) : St := ⟨[.top, .top, .top, .top, .c (.bool u.a0), .top, .top, .top, .top, .top, .top, .top, .top, .top, .top, .top, .top, .top, .top, .top, .top, .top, .top, .top, .top, .top], []⟩
def gR21_0 (v : W21_0) : Tr (W21_0 ⊕ (W21_0 ⊕ U21_0)) :=
  .br (decide (v.a3 < (v.a0.length : Int))) (
   .br (decide (0 ≤ v.a3)) (
    .opt (v.a0[Int.toNat v.a3]?) fun y62 =>
     .br (decide (0 ≤ v.a3)) (
      .opt (v.a1[Int.toNat v.a3]?) fun y63 =>
       .br (y62.f0 != y63.f0) (
        .leaf (.inr (.inr ⟨false⟩))) (
        .leaf (.inl ({ v with a3 := (IntKind.i64.wrap (v.a3 + 1)) })))) (
      .fail)) (
    .fail)) (
   .leaf (.inr (.inl (v))))
noncomputable def lb21_0 : Code := match findB 0 (Go.Proofs.Try.f21.body.getD .skip) with | [.loop b] => b | _ => .skip
def pa21_0 : List PA := [.c (.rs 1), .c (.rs 1), .any, .any, .c (.bool), .c (.int .i64), .any, .any, .any, .any, .any, .any, .any, .any, .any, .any, .any, .any, .any, .any, .any, .any, .any, .any, .any, .any]
def pb21_0 : List PB := []
def ini21_0 (s : St) : W21_0 := ⟨rC 1 (aC (s.tmps.getD 0 .top)), rC 1 (aC (s.tmps.getD 1 .top)), bC (aC (s.tmps.getD 4 .top)), iC (aC (s.tmps.getD 5 .top))⟩
noncomputable def F21_0 : St → Res (Ex × St) := loopF2 pa21_0 pb21_0 2000000 hd21_0 hu21_0 gR21_0 ini21_0
theorem F21_0_ok (s : St) (r : Ex × St) (h : (F21_0 s).eval = some r) : (codeR e21 0 (.block 0 (.loop lb21_0)) s).eval = some r :=
  blk_ok2 (e := e21) (T := lookT []) (fun s v => by kernel_rfl) (fun s => by kernel_rfl) (tab_nil) s r h
def g21T (x0 : List S1) (x1 : List S1) : Tr (Bool) :=
  .br ((x0.length : Int) != (x1.length : Int)) (
   .leaf (false)) (
   .opt (iter2 gR21_0 2000000 (W21_0.mk (x0) (x1) (false) (0))) fun r64 =>
    .br r64.isRight (
     .opt (r64.getRight?) fun u65 =>
      .leaf (u65.a0)) (
     .opt (r64.getLeft?) fun w66 =>
      .leaf (true)))
def g21 (x0 : List S1) (x1 : List S1) : Option (Bool) := (g21T x0 x1).get?
noncomputable def T21 : TL := [(0, F21_0)]
noncomputable def q21 : Ab.Spec := runQ0 e21 (lookT T21) Go.Proofs.Try.f21
theorem q21_ok : SpecOk Go.Proofs.Try.prog 21 q21 := (runQ0_ok (runR_ok (e := e21) follows (allTI ti_ok _ _ _ _ _) (callsOk_nil) Go.Proofs.Try.func21 Go.Proofs.Try.call21) (fun c hc => by
  have hb : c = Go.Proofs.Try.f21.body.getD .skip := by rw [hc]; rfl
  subst hb
  exact tab_cons (by kernel_rfl) F21_0_ok (tab_nil)))
theorem g21_run (x0 : List S1) (x1 : List S1) : (q21 [.c (.rs 1 x0), .c (.rs 1 x1)] []).eval = (g21T x0 x1).ev fun r => ((.c (.bool r) : AV), ([] : List Blk)) := by kernel_rfl
noncomputable def s21_0 : Ab.Spec := fun args h =>
  dN h <| dL args fun v0 a0 => dC v0 fun c0 => dR0 1 c0 fun x0 => dL a0 fun v1 a1 => dC v1 fun c1 => dR0 1 c1 fun x1 => dN a1 <|
  .opt (g21 x0 x1) fun r => .val (.c (.bool r), [])
theorem s21_0_ok : SpecOk Go.Proofs.Try.prog 21 s21_0 :=
  q21_ok.less fun args hs r h => by
    unfold s21_0 at h
    obtain ⟨rfl, hh1⟩ := dN_inv h
    obtain ⟨v0, a0, rfl, hh2⟩ := dL_inv hh1
    obtain ⟨c0, rfl, hh3⟩ := dC_inv hh2
    obtain ⟨x0, rfl, hh4⟩ := dR0_inv hh3
    obtain ⟨v1, a1, rfl, hh5⟩ := dL_inv hh4
    obtain ⟨c1, rfl, hh6⟩ := dC_inv hh5
    obtain ⟨x1, rfl, hh7⟩ := dR0_inv hh6
    obtain ⟨rfl, hh8⟩ := dN_inv hh7
    rw [g21_run, Tr.ev_get?]
    change (Res.opt (g21 x0 x1) _).eval = some r at hh8
    rw [eval_opt] at hh8
    obtain ⟨z, hz, hh9⟩ := Option.bind_eq_some_iff.mp hh8
    unfold g21 at hz
    rw [hz]; exact hh9
noncomputable def s21 : Ab.Spec := fun args h => s21_0 (coeA [[some 1], [some 1]] args) h
theorem s21_ok : SpecOk Go.Proofs.Try.prog 21 s21 := s21_0_ok.pre [[some 1], [some 1]]
/-- pontage/pontageref22.Sum -/
noncomputable def L24 : SL := [(20, .byVal, s20)]
noncomputable def e24 : Env := ⟨ti, fun g => lookS g L24, 2000000, [.drop 0, .drop 3, .drop 9, .drop 10, .drop 11, .drop 12, .drop 13, .drop 14, .drop 15, .drop 16, .drop 17, .drop 18, .drop 19, .drop 20, .drop 21, .drop 22, .drop 23, .drop 24, .drop 25, .drop 26, .drop 27, .drop 28, .drop 29, .drop 30, .drop 31, .drop 32, .drop 33, .drop 34, .drop 35, .drop 36, .drop 37, .drop 38, .drop 39, .drop 40, .drop 41, .drop 42], [], some [4]⟩
structure W24_2 where
  a0 : List S1
  a1 : Int
  a2 : Int
  a3 : Int
  a4 : Bool
  a5 : Int
  a6 : List S1
def hd24_2 (v : W24_2) : St := ⟨[.top, .c (.rs 1 v.a0), .c (.ptr 0 0), .top, .c (.int .i64 v.a1), .c (.int .i64 v.a2), .c (.int .i64 v.a3), .c (.bool v.a4), .c (.int .i64 v.a5), .top, .top, .top, .top, .top, .top, .top, .top, .top, .top, .top, .top, .top, .top, .top, .top, .top, .top, .top, .top, .top, .top, .top, .top, .top, .top, .top, .top, .top, .top, .top, .top, .top, .top], [.cells [.rs 1 v.a6]]⟩
def gR24_2 (v : W24_2) : Tr (W24_2 ⊕ (Bool × W24_2)) :=
  .br (decide (v.a5 < v.a3)) (
   .br (!v.a4) (
    .br (decide (0 ≤ v.a5)) (
     .opt (v.a0[Int.toNat v.a5]?) fun y68 =>
      .br (decide (0 ≤ v.a3)) (
       .opt (v.a0[Int.toNat v.a3]?) fun y69 =>
        .leaf (.inl ({ v with a4 := (y68.f0 == y69.f0), a5 := (IntKind.i64.wrap (v.a5 + 1)) }))) (
       .fail)) (
     .fail)) (
    .leaf (.inl ({ v with a4 := true, a5 := (IntKind.i64.wrap (v.a5 + 1)) })))) (
   .leaf (.inr (false, v)))
noncomputable def lb24_2 : Code := match findB 2 (Go.Proofs.Try.f24.body.getD .skip) with | [.loop b] => b | _ => .skip
def pa24_2 : List PA := [.any, .c (.rs 1), .c (.ptr 0 0), .any, .c (.int .i64), .c (.int .i64), .c (.int .i64), .c (.bool), .c (.int .i64), .any, .any, .any, .any, .any, .any, .any, .any, .any, .any, .any, .any, .any, .any, .any, .any, .any, .any, .any, .any, .any, .any, .any, .any, .any, .any, .any, .any, .any, .any, .any, .any, .any, .any]
def pb24_2 : List PB := [.cells [.rs 1]]
def ini24_2 (s : St) : W24_2 := ⟨rC 1 (aC (s.tmps.getD 1 .top)), iC (aC (s.tmps.getD 4 .top)), iC (aC (s.tmps.getD 5 .top)), iC (aC (s.tmps.getD 6 .top)), bC (aC (s.tmps.getD 7 .top)), iC (aC (s.tmps.getD 8 .top)), rC 1 ((bL (s.heap.getD 0 .dead)).getD 0 .top)⟩
noncomputable def F24_2 : St → Res (Ex × St) := loopF pa24_2 pb24_2 2000000 hd24_2 gR24_2 ini24_2 false
theorem F24_2_ok (s : St) (r : Ex × St) (h : (F24_2 s).eval = some r) : (codeR e24 0 (.block 2 (.loop lb24_2)) s).eval = some r :=
  blk_ok (e := e24) (T := lookT []) (fun s v => by kernel_rfl) (fun s => by kernel_rfl) (tab_nil) s r h
structure W24_0 where
  a0 : List S1
  a1 : Int
  a2 : Int
  a3 : Int
  a4 : List S1
def hd24_0 (v : W24_0) : St := ⟨[.top, .c (.rs 1 v.a0), .c (.ptr 0 0), .top, .c (.int .i64 v.a1), .c (.int .i64 v.a2), .c (.int .i64 v.a3), .top, .top, .top, .top, .top, .top, .top, .top, .top, .top, .top, .top, .top, .top, .top, .top, .top, .top, .top, .top, .top, .top, .top, .top, .top, .top, .top, .top, .top, .top, .top, .top, .top, .top, .top, .top], [.cells [.rs 1 v.a4]]⟩
def gR24_0 (v : W24_0) : Tr (W24_0 ⊕ (Bool × W24_0)) :=
  .br (decide (v.a3 < (v.a0.length : Int))) (
   .opt (iter gR24_2 2000000 (W24_2.mk (v.a0) (v.a1) (v.a2) (v.a3) (false) (0) (v.a4))) fun r70 =>
    .br r70.1 (
     .fail) (
     .br (!r70.2.a4) (
      .br (decide (0 ≤ r70.2.a3)) (
       .opt (r70.2.a0[Int.toNat r70.2.a3]?) fun y71 =>
        .opt (g20 (S6.mk r70.2.a6) y71.f0) fun z72 =>
         .leaf (.inl (W24_0.mk (r70.2.a0) (r70.2.a1) ((IntKind.i64.wrap (r70.2.a2 + z72))) ((IntKind.i64.wrap (r70.2.a3 + 1))) (r70.2.a6)))) (
       .fail)) (
      .leaf (.inl (W24_0.mk (r70.2.a0) (r70.2.a1) (r70.2.a2) ((IntKind.i64.wrap (r70.2.a3 + 1))) (r70.2.a6)))))) (
   .leaf (.inr (false, v)))
noncomputable def lb24_0 : Code := match findB 0 (Go.Proofs.Try.f24.body.getD .skip) with | [.loop b] => b | _ => .skip
def pa24_0 : List PA := [.any, .c (.rs 1), .c (.ptr 0 0), .any, .c (.int .i64), .c (.int .i64), .c (.int .i64), .top, .top, .any, .any, .any, .any, .any, .any, .any, .any, .any, .any, .any, .any, .any, .any, .any, .any, .any, .any, .any, .any, .any, .any, .any, .any, .any, .any, .any, .any, .any, .any, .any, .any, .any, .any]
def pb24_0 : List PB := [.cells [.rs 1]]
def ini24_0 (s : St) : W24_0 := ⟨rC 1 (aC (s.tmps.getD 1 .top)), iC (aC (s.tmps.getD 4 .top)), iC (aC (s.tmps.getD 5 .top)), iC (aC (s.tmps.getD 6 .top)), rC 1 ((bL (s.heap.getD 0 .dead)).getD 0 .top)⟩
noncomputable def F24_0 : St → Res (Ex × St) := loopF pa24_0 pb24_0 2000000 hd24_0 gR24_0 ini24_0 false
theorem F24_0_ok (s : St) (r : Ex × St) (h : (F24_0 s).eval = some r) : (codeR e24 0 (.block 0 (.loop lb24_0)) s).eval = some r :=
  blk_ok (e := e24) (T := lookT [(2, F24_2)]) (fun s v => by kernel_rfl) (fun s => by kernel_rfl) (tab_cons (by kernel_rfl) F24_2_ok (tab_nil)) s r h
def g24T (x0 : S6) (x1 : List S1) : Tr (Int) :=
  .opt (iter gR24_0 2000000 (W24_0.mk (x1) (0) (0) (0) (x0.f0))) fun r73 =>
   .br r73.1 (
    .fail) (
    .leaf (r73.2.a2))
def g24 (x0 : S6) (x1 : List S1) : Option (Int) := (g24T x0 x1).get?
noncomputable def T24 : TL := [(2, F24_2), (0, F24_0)]
noncomputable def q24 : Ab.Spec := runQ0 e24 (lookT T24) Go.Proofs.Try.f24
theorem q24_ok : SpecOk Go.Proofs.Try.prog 24 q24 := (runQ0_ok (runR_ok (e := e24) follows (allTI ti_ok _ _ _ _ _) (callsOk_cons s20_ok (callsOk_nil)) Go.Proofs.Try.func24 Go.Proofs.Try.call24) (fun c hc => by
  have hb : c = Go.Proofs.Try.f24.body.getD .skip := by rw [hc]; rfl
  subst hb
  exact tab_cons (by kernel_rfl) F24_2_ok (tab_cons (by kernel_rfl) F24_0_ok (tab_nil))))
theorem g24_run (x0 : S6) (x1 : List S1) : (q24 [.agg (Cod.enc 6 x0), .c (.rs 1 x1)] []).eval = (g24T x0 x1).ev fun r => ((.c (.int .i64 r) : AV), ([] : List Blk)) := by kernel_rfl
noncomputable def s24_0 : Ab.Spec := fun args h =>
  dN h <| dL args fun v0 a0 => dG v0 fun l0 => dE 6 l0 fun x0 => dL a0 fun v1 a1 => dC v1 fun c0 => dR0 1 c0 fun x1 => dN a1 <|
  .opt (g24 x0 x1) fun r => .val (.c (.int .i64 r), [])
theorem s24_0_ok : SpecOk Go.Proofs.Try.prog 24 s24_0 :=
  q24_ok.less fun args hs r h => by
    unfold s24_0 at h
    obtain ⟨rfl, hh1⟩ := dN_inv h
    obtain ⟨v0, a0, rfl, hh2⟩ := dL_inv hh1
    obtain ⟨l0, rfl, hh3⟩ := dG_inv hh2
    obtain ⟨x0, rfl, hh4⟩ := dE_inv hh3
    obtain ⟨v1, a1, rfl, hh5⟩ := dL_inv hh4
    obtain ⟨c0, rfl, hh6⟩ := dC_inv hh5
    obtain ⟨x1, rfl, hh7⟩ := dR0_inv hh6
    obtain ⟨rfl, hh8⟩ := dN_inv hh7
    rw [g24_run, Tr.ev_get?]
    change (Res.opt (g24 x0 x1) _).eval = some r at hh8
    rw [eval_opt] at hh8
    obtain ⟨z, hz, hh9⟩ := Option.bind_eq_some_iff.mp hh8
    unfold g24 at hz
    rw [hz]; exact hh9
noncomputable def s24 : Ab.Spec := fun args h => s24_0 (coeA [[some 1], [some 1]] args) h
theorem s24_ok : SpecOk Go.Proofs.Try.prog 24 s24 := s24_0_ok.pre [[some 1], [some 1]]
/-- pontage/pontagelaw22.TallyRuns -/
noncomputable def L5 : SL := [(16, .byNew, s16), (8, .byHeap, s8), (17, .byNew, s17), (9, .byVal, s9), (18, .byHeap, s18), (26, .byHeap, s26), (10, .byHeap, s10), (27, .byVal, s27), (19, .byNew, s19), (11, .byRead [some 3, none], s11), (20, .byVal, s20), (22, .byCopy [some 3], s22), (21, .byVal, s21), (23, .byRead [some 3, none], s23), (24, .byVal, s24)]
noncomputable def e5 : Env := ⟨ti, fun g => lookS g L5, 2000000, [.drop 2, .drop 3, .drop 8, .drop 9, .drop 10, .drop 11, .drop 12, .drop 13, .drop 14, .drop 15, .drop 16, .drop 17, .drop 18, .drop 19, .drop 20, .drop 21, .drop 22, .drop 23, .drop 24, .drop 25, .drop 26, .drop 27, .drop 28, .drop 29, .drop 30, .drop 31, .drop 32, .drop 33, .drop 34, .drop 35, .drop 36, .drop 37, .drop 38, .drop 39, .drop 40, .drop 41, .drop 42, .drop 43, .drop 44, .drop 45, .drop 46, .drop 47, .drop 48, .drop 49, .drop 50, .drop 51, .drop 52, .drop 53, .drop 54, .drop 55, .drop 56, .drop 57, .drop 58, .drop 59, .drop 60, .drop 61, .drop 62, .drop 63, .drop 64, .drop 65, .drop 66, .drop 67, .drop 68, .drop 69, .drop 70, .drop 71, .drop 72, .drop 73, .drop 74, .drop 75, .drop 76, .drop 77, .drop 78, .drop 79, .drop 80, .drop 81, .drop 82, .drop 83, .drop 84, .drop 85, .drop 86, .drop 87, .drop 88, .drop 89, .drop 90, .drop 91, .drop 92, .drop 93, .drop 94], [], some [4]⟩
structure W5_0 where
  a0 : List S0
  a1 : List S1
  a2 : Bool
  a3 : Int
  a4 : S3
  a5 : List S1
def hd5_0 (v : W5_0) : St := ⟨[.c (.rs 0 v.a0), .c (.rs 1 v.a1), .top, .top, .c (.bool v.a2), .c (.ptr 0 0), .c (.ptr 1 0), .c (.int .i64 v.a3), .top, .top, .top, .top, .top, .top, .top, .top, .top, .top, .top, .top, .top, .top, .top, .top, .top, .top, .top, .top, .top, .top, .top, .top, .top, .top, .top, .top, .top, .top, .top, .top, .top, .top, .top, .top, .top, .top, .top, .top, .top, .top, .top, .top, .top, .top, .top, .top, .top, .top, .top, .top, .top, .top, .top, .top, .top, .top, .top, .top, .top, .top, .top, .top, .top, .top, .top, .top, .top, .top, .top, .top, .top, .top, .top, .top, .top, .top, .top, .top, .top, .top, .top, .top, .top, .top, .top], [.cells [.int .i64 v.a4.f0, .int .i64 v.a4.f1, .int .i64 v.a4.f2, .int .i64 v.a4.f3, .int .i64 v.a4.f4, .int .i64 v.a4.f5, .int .i64 v.a4.f6, .int .i64 v.a4.f7, .int .i64 v.a4.f8, .int .i64 v.a4.f9, .int .i64 v.a4.f10, .int .i64 v.a4.f11, .int .i64 v.a4.f12, .int .i64 v.a4.f13, .int .i64 v.a4.f14, .bool v.a4.f15], .cells [.rs 1 v.a5]]⟩
structure U5_0 where
  a0 : Bool
def hu5_0 (u : U5_0) : St := ⟨[.top, .top, .top, .top, .c (.bool u.a0), .top, .top, .top, .top, .top, .top, .top, .top, .top, .top, .top, .top, .top, .top, .top, .top, .top, .top, .top, .top, .top, .top, .top, .top, .top, .top, .top, .top, .top, .top, .top, .top, .top, .top, .top, .top, .top, .top, .top, .top, .top, .top, .top, .top, .top, .top, .top, .top, .top, .top, .top, .top, .top, .top, .top, .top, .top, .top, .top, .top, .top, .top, .top, .top, .top, .top, .top, .top, .top, .top, .top, .top, .top, .top, .top, .top, .top, .top, .top, .top, .top, .top, .top, .top, .top, .top, .top, .top, .top, .top], []⟩
def gR5_0 (v : W5_0) : Tr (W5_0 ⊕ (W5_0 ⊕ U5_0)) :=
  .br (bif (decide (v.a3 < (v.a0.length : Int))) then (decide (v.a3 < 60)) else false) (
   .br (decide (0 ≤ v.a3)) (
    .opt (v.a0[Int.toNat v.a3]?) fun y78 =>
     .br ((remI y78.f0 6) == 5) (
      .br (!v.a4.f15) (
       .leaf (.inr (.inr ⟨false⟩))) (
       .opt (g10_0 (V10_0.mk (5) (1) (v.a4))) fun z79 =>
        .leaf (.inl ({ v with a3 := (IntKind.i64.wrap (v.a3 + 1)) })))) (
      .opt (g10_0 (V10_0.mk (y78.f1) (y78.f2) (v.a4))) fun z80 =>
       .opt (g19 (S6.mk v.a5) y78.f1 y78.f2) fun z81 =>
        .br (!(z80.b0 != z81.2)) (
         .opt (g11_0 (V11_0.mk (z80.b1) (y78.f1))) fun z83 =>
          .opt (g20 z81.1 y78.f1) fun z84 =>
           .br (!(z83.b0 != z84)) (
            .br (!z80.b1.f15) (
             .opt (g21 [] z81.1.f0) fun z87 =>
              .br (!(!z87)) (
               .opt (g23_0 (V23_0.mk (z80.b1) (v.a1))) fun z89 =>
                .opt (g24 z81.1 v.a1) fun z90 =>
                 .br (z89.b0 != z90) (
                  .leaf (.inr (.inr ⟨false⟩))) (
                  .leaf (.inl ({ v with a3 := (IntKind.i64.wrap (v.a3 + 1)), a4 := z80.b1, a5 := z81.1.f0 })))) (
               .leaf (.inr (.inr ⟨false⟩)))) (
             .br ([(S1.mk z80.b1.f0), (S1.mk z80.b1.f1), (S1.mk z80.b1.f2), (S1.mk z80.b1.f3), (S1.mk z80.b1.f4), (S1.mk z80.b1.f5), (S1.mk z80.b1.f6), (S1.mk z80.b1.f7), (S1.mk z80.b1.f8), (S1.mk z80.b1.f9), (S1.mk z80.b1.f10), (S1.mk z80.b1.f11), (S1.mk z80.b1.f12), (S1.mk z80.b1.f13), (S1.mk z80.b1.f14)].isEmpty || cloneB 1 8 [(S1.mk z80.b1.f0), (S1.mk z80.b1.f1), (S1.mk z80.b1.f2), (S1.mk z80.b1.f3), (S1.mk z80.b1.f4), (S1.mk z80.b1.f5), (S1.mk z80.b1.f6), (S1.mk z80.b1.f7), (S1.mk z80.b1.f8), (S1.mk z80.b1.f9), (S1.mk z80.b1.f10), (S1.mk z80.b1.f11), (S1.mk z80.b1.f12), (S1.mk z80.b1.f13), (S1.mk z80.b1.f14)]) (
              .opt (g21 [(S1.mk z80.b1.f0), (S1.mk z80.b1.f1), (S1.mk z80.b1.f2), (S1.mk z80.b1.f3), (S1.mk z80.b1.f4), (S1.mk z80.b1.f5), (S1.mk z80.b1.f6), (S1.mk z80.b1.f7), (S1.mk z80.b1.f8), (S1.mk z80.b1.f9), (S1.mk z80.b1.f10), (S1.mk z80.b1.f11), (S1.mk z80.b1.f12), (S1.mk z80.b1.f13), (S1.mk z80.b1.f14)] z81.1.f0) fun z91 =>
               .br (!(!z91)) (
                .opt (g23_0 (V23_0.mk (z80.b1) (v.a1))) fun z93 =>
                 .opt (g24 z81.1 v.a1) fun z94 =>
                  .br (z93.b0 != z94) (
                   .leaf (.inr (.inr ⟨false⟩))) (
                   .leaf (.inl ({ v with a3 := (IntKind.i64.wrap (v.a3 + 1)), a4 := z80.b1, a5 := z81.1.f0 })))) (
                .leaf (.inr (.inr ⟨false⟩)))) (
              .fail))) (
            .leaf (.inr (.inr ⟨false⟩)))) (
         .leaf (.inr (.inr ⟨false⟩))))) (
    .fail)) (
   .leaf (.inr (.inl (v))))
noncomputable def lb5_0 : Code := match findB 0 (Go.Proofs.Try.f5.body.getD .skip) with | [.loop b] => b | _ => .skip
def pa5_0 : List PA := [.c (.rs 0), .c (.rs 1), .any, .any, .c (.bool), .c (.ptr 0 0), .c (.ptr 1 0), .c (.int .i64), .any, .any, .any, .any, .any, .any, .any, .any, .any, .any, .any, .any, .any, .any, .any, .any, .any, .any, .any, .any, .any, .any, .any, .any, .any, .any, .any, .any, .any, .any, .any, .any, .any, .any, .any, .any, .any, .any, .any, .any, .any, .any, .any, .any, .any, .any, .any, .any, .any, .any, .any, .any, .any, .any, .any, .any, .any, .any, .any, .any, .any, .any, .any, .any, .any, .any, .any, .any, .any, .any, .any, .any, .any, .any, .any, .any, .any, .any, .any, .any, .any, .any, .any, .any, .any, .any, .any]
def pb5_0 : List PB := [.cells [.int .i64, .int .i64, .int .i64, .int .i64, .int .i64, .int .i64, .int .i64, .int .i64, .int .i64, .int .i64, .int .i64, .int .i64, .int .i64, .int .i64, .int .i64, .bool], .cells [.rs 1]]
def ini5_0 (s : St) : W5_0 := ⟨rC 0 (aC (s.tmps.getD 0 .top)), rC 1 (aC (s.tmps.getD 1 .top)), bC (aC (s.tmps.getD 4 .top)), iC (aC (s.tmps.getD 7 .top)), rd3 (bL (s.heap.getD 0 .dead)), rC 1 ((bL (s.heap.getD 1 .dead)).getD 0 .top)⟩
noncomputable def F5_0 : St → Res (Ex × St) := loopF2 pa5_0 pb5_0 2000000 hd5_0 hu5_0 gR5_0 ini5_0
theorem F5_0_ok (s : St) (r : Ex × St) (h : (F5_0 s).eval = some r) : (codeR e5 0 (.block 0 (.loop lb5_0)) s).eval = some r :=
  blk_ok2 (e := e5) (T := lookT []) (fun s v => by kernel_rfl) (fun s => by kernel_rfl) (tab_nil) s r h
def g5T (x0 : List S0) (x1 : List S1) : Tr (Bool) :=
  .opt (g16 x1) fun z74 =>
   let z75 := g17 
   .opt (g9 ) fun z77 =>
    .br (!z77) (
     .leaf (false)) (
     .opt (iter2 gR5_0 2000000 (W5_0.mk (x0) (z74) (false) (0) ((S3.mk 0 0 0 0 0 0 0 0 0 0 0 0 0 0 0 true)) (z75.f0))) fun r97 =>
      .br r97.isRight (
       .opt (r97.getRight?) fun u98 =>
        .leaf (u98.a0)) (
       .opt (r97.getLeft?) fun w99 =>
        .leaf (true)))
def g5 (x0 : List S0) (x1 : List S1) : Option (Bool) := (g5T x0 x1).get?
noncomputable def T5 : TL := [(0, F5_0)]
noncomputable def q5 : Ab.Spec := runQ0 e5 (lookT T5) Go.Proofs.Try.f5
theorem q5_ok : SpecOk Go.Proofs.Try.prog 5 q5 := (runQ0_ok (runR_ok (e := e5) follows (allTI ti_ok _ _ _ _ _) (callsOk_cons s16_ok (callsOk_cons s8_ok (callsOk_cons s17_ok (callsOk_cons s9_ok (callsOk_cons s18_ok (callsOk_cons s26_ok (callsOk_cons s10_ok (callsOk_cons s27_ok (callsOk_cons s19_ok (callsOk_cons s11_ok (callsOk_cons s20_ok (callsOk_cons s22_ok (callsOk_cons s21_ok (callsOk_cons s23_ok (callsOk_cons s24_ok (callsOk_nil)))))))))))))))) Go.Proofs.Try.func5 Go.Proofs.Try.call5) (fun c hc => by
  have hb : c = Go.Proofs.Try.f5.body.getD .skip := by rw [hc]; rfl
  subst hb
  exact tab_cons (by kernel_rfl) F5_0_ok (tab_nil)))
theorem g5_run (x0 : List S0) (x1 : List S1) : (q5 [.c (.rs 0 x0), .c (.rs 1 x1)] []).eval = (g5T x0 x1).ev fun r => ((.c (.bool r) : AV), ([] : List Blk)) := by kernel_rfl
noncomputable def s5_0 : Ab.Spec := fun args h =>
  dN h <| dL args fun v0 a0 => dC v0 fun c0 => dR0 0 c0 fun x0 => dL a0 fun v1 a1 => dC v1 fun c1 => dR0 1 c1 fun x1 => dN a1 <|
  .opt (g5 x0 x1) fun r => .val (.c (.bool r), [])
theorem s5_0_ok : SpecOk Go.Proofs.Try.prog 5 s5_0 :=
  q5_ok.less fun args hs r h => by
    unfold s5_0 at h
    obtain ⟨rfl, hh1⟩ := dN_inv h
    obtain ⟨v0, a0, rfl, hh2⟩ := dL_inv hh1
    obtain ⟨c0, rfl, hh3⟩ := dC_inv hh2
    obtain ⟨x0, rfl, hh4⟩ := dR0_inv hh3
    obtain ⟨v1, a1, rfl, hh5⟩ := dL_inv hh4
    obtain ⟨c1, rfl, hh6⟩ := dC_inv hh5
    obtain ⟨x1, rfl, hh7⟩ := dR0_inv hh6
    obtain ⟨rfl, hh8⟩ := dN_inv hh7
    rw [g5_run, Tr.ev_get?]
    change (Res.opt (g5 x0 x1) _).eval = some r at hh8
    rw [eval_opt] at hh8
    obtain ⟨z, hz, hh9⟩ := Option.bind_eq_some_iff.mp hh8
    unfold g5 at hz
    rw [hz]; exact hh9
noncomputable def s5 : Ab.Spec := fun args h => s5_0 (coeA [[some 0], [some 1]] args) h
theorem s5_ok : SpecOk Go.Proofs.Try.prog 5 s5 := s5_0_ok.pre [[some 0], [some 1]]
/-- pontage/tally.Diff -/
noncomputable def L25 : SL := [(11, .byRead [some 3, none], s11)]
noncomputable def e25 : Env := ⟨ti, fun g => lookS g L25, 2000000, [.drop 2, .drop 3, .drop 6, .drop 7, .drop 8, .drop 11, .drop 12, .drop 13, .drop 14, .drop 15, .drop 16, .drop 17, .drop 18, .drop 19, .drop 20, .drop 21, .drop 22, .drop 23, .drop 24], [], some [4]⟩
structure V25_0 where
  a0 : S3
structure Y25_0 where
  b0 : S7
  deriving Inhabited
def hS25_0 (v : V25_0) : St := ⟨[.c (.rp 3 v.a0 0), .c (.nilp)], []⟩
def iS25_0 (s : St) : V25_0 := ⟨rpC 3 (aC (s.tmps.getD 0 .top))⟩
def aS25_0 : List PA := [.c (.rp 3 0), .c (.nilp)]
def bS25_0 : List PB := []
def g25_0T (v : V25_0) : Tr Y25_0 :=
  .opt (g11_0 (V11_0.mk (v.a0) (0))) fun z107 =>
   .opt (g11_0 (V11_0.mk (v.a0) (1))) fun z110 =>
    .opt (g11_0 (V11_0.mk (v.a0) (2))) fun z112 =>
     .opt (g11_0 (V11_0.mk (v.a0) (3))) fun z114 =>
      .opt (g11_0 (V11_0.mk (v.a0) (4))) fun z116 =>
       .opt (g11_0 (V11_0.mk (v.a0) (5))) fun z118 =>
        .opt (g11_0 (V11_0.mk (v.a0) (6))) fun z120 =>
         .opt (g11_0 (V11_0.mk (v.a0) (7))) fun z122 =>
          .opt (g11_0 (V11_0.mk (v.a0) (8))) fun z124 =>
           .opt (g11_0 (V11_0.mk (v.a0) (9))) fun z126 =>
            .opt (g11_0 (V11_0.mk (v.a0) (10))) fun z128 =>
             .opt (g11_0 (V11_0.mk (v.a0) (11))) fun z130 =>
              .opt (g11_0 (V11_0.mk (v.a0) (12))) fun z132 =>
               .opt (g11_0 (V11_0.mk (v.a0) (13))) fun z134 =>
                .opt (g11_0 (V11_0.mk (v.a0) (14))) fun z136 =>
                 .leaf (⟨(S7.mk (IntKind.i64.wrap (z107.b0 - 0)) (IntKind.i64.wrap (z110.b0 - 0)) (IntKind.i64.wrap (z112.b0 - 0)) (IntKind.i64.wrap (z114.b0 - 0)) (IntKind.i64.wrap (z116.b0 - 0)) (IntKind.i64.wrap (z118.b0 - 0)) (IntKind.i64.wrap (z120.b0 - 0)) (IntKind.i64.wrap (z122.b0 - 0)) (IntKind.i64.wrap (z124.b0 - 0)) (IntKind.i64.wrap (z126.b0 - 0)) (IntKind.i64.wrap (z128.b0 - 0)) (IntKind.i64.wrap (z130.b0 - 0)) (IntKind.i64.wrap (z132.b0 - 0)) (IntKind.i64.wrap (z134.b0 - 0)) (IntKind.i64.wrap (z136.b0 - 0)))⟩)
def g25_0 (v : V25_0) : Option Y25_0 := (g25_0T v).get?
def k25_0 (v : V25_0) (r : Y25_0) : AV × List Blk := (.c (.sl 0 0 15 (some 1)), [.cells [.int .i64 r.b0.f0, .int .i64 r.b0.f1, .int .i64 r.b0.f2, .int .i64 r.b0.f3, .int .i64 r.b0.f4, .int .i64 r.b0.f5, .int .i64 r.b0.f6, .int .i64 r.b0.f7, .int .i64 r.b0.f8, .int .i64 r.b0.f9, .int .i64 r.b0.f10, .int .i64 r.b0.f11, .int .i64 r.b0.f12, .int .i64 r.b0.f13, .int .i64 r.b0.f14]])
noncomputable def q25_0 : Ab.Spec := runQh 0 e25 (lookT []) Go.Proofs.Try.f25
theorem q25_0_ok : SpecOk Go.Proofs.Try.prog 25 q25_0 := runQh_ok (runR_ok (e := e25) follows (allTI ti_ok _ _ _ _ _) (callsOk_cons s11_ok (callsOk_nil)) Go.Proofs.Try.func25 Go.Proofs.Try.call25) (fun c hc => by
  have hb : c = Go.Proofs.Try.f25.body.getD .skip := by rw [hc]; rfl
  subst hb
  exact tab_nil)
theorem g25_0_run (v : V25_0) : (q25_0 (hS25_0 v).tmps (hS25_0 v).heap).eval = (g25_0T v).ev (k25_0 v) := by kernel_rfl
noncomputable def sp25_0 (v : V25_0) : Res (AV × List Blk) := .opt (g25_0 v) fun r => .val (k25_0 v r)
theorem sp25_0_ok (v : V25_0) (r : AV × List Blk) (h : (sp25_0 v).eval = some r) : (q25_0 (hS25_0 v).tmps (hS25_0 v).heap).eval = some r := by
  rw [g25_0_run, Tr.ev_get?]
  unfold sp25_0 at h
  rw [eval_opt] at h
  obtain ⟨z, hz, h⟩ := Option.bind_eq_some_iff.mp h
  unfold g25_0 at hz
  rw [hz]; exact h
structure V25_1 where
  a0 : S3
  a1 : S3
structure Y25_1 where
  b0 : S7
  deriving Inhabited
def hS25_1 (v : V25_1) : St := ⟨[.c (.rp 3 v.a0 0), .c (.rp 3 v.a1 0)], []⟩
def iS25_1 (s : St) : V25_1 := ⟨rpC 3 (aC (s.tmps.getD 0 .top)), rpC 3 (aC (s.tmps.getD 1 .top))⟩
def aS25_1 : List PA := [.c (.rp 3 0), .c (.rp 3 0)]
def bS25_1 : List PB := []
def g25_1T (v : V25_1) : Tr Y25_1 :=
  .opt (g11_0 (V11_0.mk (v.a0) (0))) fun z150 =>
   .opt (g11_0 (V11_0.mk (v.a1) (0))) fun z151 =>
    .opt (g11_0 (V11_0.mk (v.a0) (1))) fun z152 =>
     .opt (g11_0 (V11_0.mk (v.a1) (1))) fun z153 =>
      .opt (g11_0 (V11_0.mk (v.a0) (2))) fun z154 =>
       .opt (g11_0 (V11_0.mk (v.a1) (2))) fun z155 =>
        .opt (g11_0 (V11_0.mk (v.a0) (3))) fun z156 =>
         .opt (g11_0 (V11_0.mk (v.a1) (3))) fun z157 =>
          .opt (g11_0 (V11_0.mk (v.a0) (4))) fun z158 =>
           .opt (g11_0 (V11_0.mk (v.a1) (4))) fun z159 =>
            .opt (g11_0 (V11_0.mk (v.a0) (5))) fun z160 =>
             .opt (g11_0 (V11_0.mk (v.a1) (5))) fun z161 =>
              .opt (g11_0 (V11_0.mk (v.a0) (6))) fun z162 =>
               .opt (g11_0 (V11_0.mk (v.a1) (6))) fun z163 =>
                .opt (g11_0 (V11_0.mk (v.a0) (7))) fun z164 =>
                 .opt (g11_0 (V11_0.mk (v.a1) (7))) fun z165 =>
                  .opt (g11_0 (V11_0.mk (v.a0) (8))) fun z166 =>
                   .opt (g11_0 (V11_0.mk (v.a1) (8))) fun z167 =>
                    .opt (g11_0 (V11_0.mk (v.a0) (9))) fun z168 =>
                     .opt (g11_0 (V11_0.mk (v.a1) (9))) fun z169 =>
                      .opt (g11_0 (V11_0.mk (v.a0) (10))) fun z170 =>
                       .opt (g11_0 (V11_0.mk (v.a1) (10))) fun z171 =>
                        .opt (g11_0 (V11_0.mk (v.a0) (11))) fun z172 =>
                         .opt (g11_0 (V11_0.mk (v.a1) (11))) fun z173 =>
                          .opt (g11_0 (V11_0.mk (v.a0) (12))) fun z174 =>
                           .opt (g11_0 (V11_0.mk (v.a1) (12))) fun z175 =>
                            .opt (g11_0 (V11_0.mk (v.a0) (13))) fun z176 =>
                             .opt (g11_0 (V11_0.mk (v.a1) (13))) fun z177 =>
                              .opt (g11_0 (V11_0.mk (v.a0) (14))) fun z178 =>
                               .opt (g11_0 (V11_0.mk (v.a1) (14))) fun z179 =>
                                .leaf (⟨(S7.mk (IntKind.i64.wrap (z150.b0 - z151.b0)) (IntKind.i64.wrap (z152.b0 - z153.b0)) (IntKind.i64.wrap (z154.b0 - z155.b0)) (IntKind.i64.wrap (z156.b0 - z157.b0)) (IntKind.i64.wrap (z158.b0 - z159.b0)) (IntKind.i64.wrap (z160.b0 - z161.b0)) (IntKind.i64.wrap (z162.b0 - z163.b0)) (IntKind.i64.wrap (z164.b0 - z165.b0)) (IntKind.i64.wrap (z166.b0 - z167.b0)) (IntKind.i64.wrap (z168.b0 - z169.b0)) (IntKind.i64.wrap (z170.b0 - z171.b0)) (IntKind.i64.wrap (z172.b0 - z173.b0)) (IntKind.i64.wrap (z174.b0 - z175.b0)) (IntKind.i64.wrap (z176.b0 - z177.b0)) (IntKind.i64.wrap (z178.b0 - z179.b0)))⟩)
def g25_1 (v : V25_1) : Option Y25_1 := (g25_1T v).get?
def k25_1 (v : V25_1) (r : Y25_1) : AV × List Blk := (.c (.sl 0 0 15 (some 1)), [.cells [.int .i64 r.b0.f0, .int .i64 r.b0.f1, .int .i64 r.b0.f2, .int .i64 r.b0.f3, .int .i64 r.b0.f4, .int .i64 r.b0.f5, .int .i64 r.b0.f6, .int .i64 r.b0.f7, .int .i64 r.b0.f8, .int .i64 r.b0.f9, .int .i64 r.b0.f10, .int .i64 r.b0.f11, .int .i64 r.b0.f12, .int .i64 r.b0.f13, .int .i64 r.b0.f14]])
noncomputable def q25_1 : Ab.Spec := runQh 0 e25 (lookT []) Go.Proofs.Try.f25
theorem q25_1_ok : SpecOk Go.Proofs.Try.prog 25 q25_1 := runQh_ok (runR_ok (e := e25) follows (allTI ti_ok _ _ _ _ _) (callsOk_cons s11_ok (callsOk_nil)) Go.Proofs.Try.func25 Go.Proofs.Try.call25) (fun c hc => by
  have hb : c = Go.Proofs.Try.f25.body.getD .skip := by rw [hc]; rfl
  subst hb
  exact tab_nil)
theorem g25_1_run (v : V25_1) : (q25_1 (hS25_1 v).tmps (hS25_1 v).heap).eval = (g25_1T v).ev (k25_1 v) := by kernel_rfl
noncomputable def sp25_1 (v : V25_1) : Res (AV × List Blk) := .opt (g25_1 v) fun r => .val (k25_1 v r)
theorem sp25_1_ok (v : V25_1) (r : AV × List Blk) (h : (sp25_1 v).eval = some r) : (q25_1 (hS25_1 v).tmps (hS25_1 v).heap).eval = some r := by
  rw [g25_1_run, Tr.ev_get?]
  unfold sp25_1 at h
  rw [eval_opt] at h
  obtain ⟨z, hz, h⟩ := Option.bind_eq_some_iff.mp h
  unfold g25_1 at hz
  rw [hz]; exact h
structure V25_2 where

structure Y25_2 where
  b0 : S7
  deriving Inhabited
def hS25_2 (v : V25_2) : St := ⟨[.c (.nilp), .c (.nilp)], []⟩
def iS25_2 (s : St) : V25_2 := ⟨⟩
def aS25_2 : List PA := [.c (.nilp), .c (.nilp)]
def bS25_2 : List PB := []
def g25_2T (v : V25_2) : Tr Y25_2 :=
  .leaf (⟨(S7.mk 0 0 0 0 0 0 0 0 0 0 0 0 0 0 0)⟩)
def g25_2 (v : V25_2) : Y25_2 := (g25_2T v).get default
def k25_2 (v : V25_2) (r : Y25_2) : AV × List Blk := (.c (.sl 0 0 15 (some 1)), [.cells [.int .i64 r.b0.f0, .int .i64 r.b0.f1, .int .i64 r.b0.f2, .int .i64 r.b0.f3, .int .i64 r.b0.f4, .int .i64 r.b0.f5, .int .i64 r.b0.f6, .int .i64 r.b0.f7, .int .i64 r.b0.f8, .int .i64 r.b0.f9, .int .i64 r.b0.f10, .int .i64 r.b0.f11, .int .i64 r.b0.f12, .int .i64 r.b0.f13, .int .i64 r.b0.f14]])
noncomputable def q25_2 : Ab.Spec := runQh 0 e25 (lookT []) Go.Proofs.Try.f25
theorem q25_2_ok : SpecOk Go.Proofs.Try.prog 25 q25_2 := runQh_ok (runR_ok (e := e25) follows (allTI ti_ok _ _ _ _ _) (callsOk_cons s11_ok (callsOk_nil)) Go.Proofs.Try.func25 Go.Proofs.Try.call25) (fun c hc => by
  have hb : c = Go.Proofs.Try.f25.body.getD .skip := by rw [hc]; rfl
  subst hb
  exact tab_nil)
theorem g25_2_run (v : V25_2) : (q25_2 (hS25_2 v).tmps (hS25_2 v).heap).eval = (g25_2T v).ev (k25_2 v) := by kernel_rfl
noncomputable def sp25_2 (v : V25_2) : Res (AV × List Blk) := let r := g25_2 v; .val (k25_2 v r)
theorem sp25_2_ok (v : V25_2) (r : AV × List Blk) (h : (sp25_2 v).eval = some r) : (q25_2 (hS25_2 v).tmps (hS25_2 v).heap).eval = some r := by
  rw [g25_2_run, Tr.ev_get (d := default) (by kernel_rfl)]
  exact h
noncomputable def s25 : Ab.Spec := shapeS aS25_2 bS25_2 (fun args h => sp25_2 (iS25_2 ⟨args, h⟩)) (shapeS aS25_1 bS25_1 (fun args h => sp25_1 (iS25_1 ⟨args, h⟩)) (shapeS aS25_0 bS25_0 (fun args h => sp25_0 (iS25_0 ⟨args, h⟩)) (runR e25 Go.Proofs.Try.f25)))
theorem s25_ok : SpecOk Go.Proofs.Try.prog 25 s25 := shape_ok hS25_2 iS25_2 q25_2_ok (shape_ok hS25_1 iS25_1 q25_1_ok (shape_ok hS25_0 iS25_0 q25_0_ok ((runR_ok (e := e25) follows (allTI ti_ok _ _ _ _ _) (callsOk_cons s11_ok (callsOk_nil)) Go.Proofs.Try.func25 Go.Proofs.Try.call25)) (fun s => by kernel_rfl) sp25_0_ok) (fun s => by kernel_rfl) sp25_1_ok) (fun s => by kernel_rfl) sp25_2_ok
/-- pontage/pontagelaw22.TallyDiffs -/
noncomputable def L6 : SL := [(8, .byHeap, s8), (9, .byVal, s9), (10, .byHeap, s10), (26, .byHeap, s26), (27, .byVal, s27), (18, .byHeap, s18), (25, .byCopy [some 3, some 3], s25), (22, .byCopy [some 3], s22), (21, .byVal, s21)]
noncomputable def e6 : Env := ⟨ti, fun g => lookS g L6, 2000000, [.drop 3, .drop 4, .drop 5, .drop 9, .drop 13, .drop 14, .drop 15, .drop 16, .drop 17, .drop 18, .drop 19, .drop 20, .drop 21, .drop 22, .drop 23, .drop 24, .drop 25, .drop 26, .drop 27, .drop 28, .drop 29, .drop 30, .drop 31, .drop 32, .drop 33, .drop 34, .drop 35, .drop 36, .drop 37, .drop 38, .drop 39, .drop 40, .drop 41, .drop 42, .drop 43, .drop 44, .drop 45, .drop 46, .drop 47, .drop 48, .drop 49, .drop 50, .drop 51, .drop 52, .drop 53, .drop 54, .drop 55, .drop 56, .drop 57, .drop 58, .drop 59, .drop 60, .drop 61, .drop 62, .drop 63, .drop 64, .drop 65, .drop 66, .drop 67, .drop 68, .drop 69, .drop 70, .drop 71, .drop 72, .drop 73, .drop 74, .drop 75, .drop 76, .drop 77, .drop 78, .drop 79, .drop 80, .drop 81, .drop 82, .drop 83, .drop 84, .drop 85, .drop 86, .drop 87, .drop 88, .drop 89], [], some [6]⟩
structure W6_0 where
  a0 : List S0
  a1 : Int
  a2 : Int
  a3 : Bool
  a4 : Int
  a5 : S3
def hd6_0 (v : W6_0) : St := ⟨[.c (.rs 0 v.a0), .c (.int .i64 v.a1), .c (.int .i64 v.a2), .top, .top, .top, .c (.bool v.a3), .c (.ptr 0 0), .c (.int .i64 v.a4), .top, .top, .top, .top, .top, .top, .top, .top, .top, .top, .top, .top, .top, .top, .top, .top, .top, .top, .top, .top, .top, .top, .top, .top, .top, .top, .top, .top, .top, .top, .top, .top, .top, .top, .top, .top, .top, .top, .top, .top, .top, .top, .top, .top, .top, .top, .top, .top, .top, .top, .top, .top, .top, .top, .top, .top, .top, .top, .top, .top, .top, .top, .top, .top, .top, .top, .top, .top, .top, .top, .top, .top, .top, .top, .top, .top, .top, .top, .top, .top, .top], [.cells [.int .i64 v.a5.f0, .int .i64 v.a5.f1, .int .i64 v.a5.f2, .int .i64 v.a5.f3, .int .i64 v.a5.f4, .int .i64 v.a5.f5, .int .i64 v.a5.f6, .int .i64 v.a5.f7, .int .i64 v.a5.f8, .int .i64 v.a5.f9, .int .i64 v.a5.f10, .int .i64 v.a5.f11, .int .i64 v.a5.f12, .int .i64 v.a5.f13, .int .i64 v.a5.f14, .bool v.a5.f15]]⟩
def gR6_0 (v : W6_0) : Tr (W6_0 ⊕ (Bool × W6_0)) :=
  .br (bif (decide (v.a4 < (v.a0.length : Int))) then (decide (v.a4 < 40)) else false) (
   .br (decide (0 ≤ v.a4)) (
    .opt (v.a0[Int.toNat v.a4]?) fun y102 =>
     .br (decide (0 ≤ v.a4)) (
      .opt (v.a0[Int.toNat v.a4]?) fun y103 =>
       .opt (g10_0 (V10_0.mk (y102.f1) (y103.f2) (v.a5))) fun z104 =>
        .leaf (.inl ({ v with a4 := (IntKind.i64.wrap (v.a4 + 1)), a5 := z104.b1 }))) (
      .fail)) (
    .fail)) (
   .leaf (.inr (false, v)))
noncomputable def lb6_0 : Code := match findB 0 (Go.Proofs.Try.f6.body.getD .skip) with | [.loop b] => b | _ => .skip
def pa6_0 : List PA := [.c (.rs 0), .c (.int .i64), .c (.int .i64), .any, .any, .any, .c (.bool), .c (.ptr 0 0), .c (.int .i64), .any, .top, .top, .top, .any, .any, .any, .any, .any, .any, .any, .any, .any, .any, .any, .any, .any, .any, .any, .any, .any, .any, .any, .any, .any, .any, .any, .any, .any, .any, .any, .any, .any, .any, .any, .any, .any, .any, .any, .any, .any, .any, .any, .any, .any, .any, .any, .any, .any, .any, .any, .any, .any, .any, .any, .any, .any, .any, .any, .any, .any, .any, .any, .any, .any, .any, .any, .any, .any, .any, .any, .any, .any, .any, .any, .any, .any, .any, .any, .any, .any]
def pb6_0 : List PB := [.cells [.int .i64, .int .i64, .int .i64, .int .i64, .int .i64, .int .i64, .int .i64, .int .i64, .int .i64, .int .i64, .int .i64, .int .i64, .int .i64, .int .i64, .int .i64, .bool]]
def ini6_0 (s : St) : W6_0 := ⟨rC 0 (aC (s.tmps.getD 0 .top)), iC (aC (s.tmps.getD 1 .top)), iC (aC (s.tmps.getD 2 .top)), bC (aC (s.tmps.getD 6 .top)), iC (aC (s.tmps.getD 8 .top)), rd3 (bL (s.heap.getD 0 .dead))⟩
noncomputable def F6_0 : St → Res (Ex × St) := loopF pa6_0 pb6_0 2000000 hd6_0 gR6_0 ini6_0 false
theorem F6_0_ok (s : St) (r : Ex × St) (h : (F6_0 s).eval = some r) : (codeR e6 0 (.block 0 (.loop lb6_0)) s).eval = some r :=
  blk_ok (e := e6) (T := lookT []) (fun s v => by kernel_rfl) (fun s => by kernel_rfl) (tab_nil) s r h
structure W6_2 where
  a0 : List S0
  a1 : Int
  a2 : Int
  a3 : Bool
  a4 : Int
  a5 : Int
  a6 : Int
  a7 : S3
  a8 : S7
def hd6_2 (v : W6_2) : St := ⟨[.c (.rs 0 v.a0), .c (.int .i64 v.a1), .c (.int .i64 v.a2), .top, .top, .top, .c (.bool v.a3), .c (.ptr 0 0), .c (.int .i64 v.a4), .top, .c (.int .i64 v.a5), .c (.sl 1 0 15 (some 1)), .c (.int .i64 v.a6), .top, .top, .top, .top, .top, .top, .top, .top, .top, .top, .top, .top, .top, .top, .top, .top, .top, .top, .top, .top, .top, .top, .top, .top, .top, .top, .top, .top, .top, .top, .top, .top, .top, .top, .top, .top, .top, .top, .top, .top, .top, .top, .top, .top, .top, .top, .top, .top, .top, .top, .top, .top, .top, .top, .top, .top, .top, .top, .top, .top, .top, .top, .top, .top, .top, .top, .top, .top, .top, .top, .top, .top, .top, .top, .top, .top, .top], [.cells [.int .i64 v.a7.f0, .int .i64 v.a7.f1, .int .i64 v.a7.f2, .int .i64 v.a7.f3, .int .i64 v.a7.f4, .int .i64 v.a7.f5, .int .i64 v.a7.f6, .int .i64 v.a7.f7, .int .i64 v.a7.f8, .int .i64 v.a7.f9, .int .i64 v.a7.f10, .int .i64 v.a7.f11, .int .i64 v.a7.f12, .int .i64 v.a7.f13, .int .i64 v.a7.f14, .bool v.a7.f15], .cells [.int .i64 v.a8.f0, .int .i64 v.a8.f1, .int .i64 v.a8.f2, .int .i64 v.a8.f3, .int .i64 v.a8.f4, .int .i64 v.a8.f5, .int .i64 v.a8.f6, .int .i64 v.a8.f7, .int .i64 v.a8.f8, .int .i64 v.a8.f9, .int .i64 v.a8.f10, .int .i64 v.a8.f11, .int .i64 v.a8.f12, .int .i64 v.a8.f13, .int .i64 v.a8.f14]]⟩
structure U6_2 where
  a0 : Bool
def hu6_2 (u : U6_2) : St := ⟨[.top, .top, .top, .top, .top, .top, .c (.bool u.a0), .top, .top, .top, .top, .top, .top, .top, .top, .top, .top, .top, .top, .top, .top, .top, .top, .top, .top, .top, .top, .top, .top, .top, .top, .top, .top, .top, .top, .top, .top, .top, .top, .top, .top, .top, .top, .top, .top, .top, .top, .top, .top, .top, .top, .top, .top, .top, .top, .top, .top, .top, .top, .top, .top, .top, .top, .top, .top, .top, .top, .top, .top, .top, .top, .top, .top, .top, .top, .top, .top, .top, .top, .top, .top, .top, .top, .top, .top, .top, .top, .top, .top, .top], []⟩
def gR6_2 (v : W6_2) : Tr (W6_2 ⊕ (W6_2 ⊕ U6_2)) :=
  .br (decide (v.a6 < 15)) (
   .br (bif (v.a5 == 0) then (v.a6 == v.a1) else false) (
    .br (decide (0 ≤ v.a6) && decide (v.a6 < 15)) (
     .br (Nat.blt (Int.toNat v.a6) 15) (
      .br (!((selI (enc7 v.a8) (Int.toNat v.a6)) != v.a2)) (
       .br (decide (0 ≤ v.a6) && decide (v.a6 < 15)) (
        .br (Nat.blt (Int.toNat v.a6) 15) (
         .br (decide ((selI (enc7 v.a8) (Int.toNat v.a6)) < 0)) (
          .leaf (.inr (.inr ⟨false⟩))) (
          .leaf (.inl ({ v with a6 := (IntKind.i64.wrap (v.a6 + 1)) })))) (
         .fail)) (
        .fail)) (
       .leaf (.inr (.inr ⟨false⟩)))) (
      .fail)) (
     .fail)) (
    .br (decide (0 ≤ v.a6) && decide (v.a6 < 15)) (
     .br (Nat.blt (Int.toNat v.a6) 15) (
      .br (!((selI (enc7 v.a8) (Int.toNat v.a6)) != 0)) (
       .br (decide (0 ≤ v.a6) && decide (v.a6 < 15)) (
        .br (Nat.blt (Int.toNat v.a6) 15) (
         .br (decide ((selI (enc7 v.a8) (Int.toNat v.a6)) < 0)) (
          .leaf (.inr (.inr ⟨false⟩))) (
          .leaf (.inl ({ v with a6 := (IntKind.i64.wrap (v.a6 + 1)) })))) (
         .fail)) (
        .fail)) (
       .leaf (.inr (.inr ⟨false⟩)))) (
      .fail)) (
     .fail))) (
   .leaf (.inr (.inl (v))))
noncomputable def lb6_2 : Code := match findB 2 (Go.Proofs.Try.f6.body.getD .skip) with | [.loop b] => b | _ => .skip
def pa6_2x0 : List PA := [.c (.rs 0), .c (.int .i64), .c (.int .i64), .any, .any, .any, .c (.bool), .c (.ptr 0 0), .c (.int .i64), .any, .c (.int .i64), .c (.sl 1 0 15 (some 1)), .c (.int .i64), .any, .any, .any, .any, .any, .any, .any, .any, .any, .any, .any, .any, .any, .any, .any, .any, .any, .any, .any, .any, .any, .any, .any, .any, .any, .any, .any, .any, .any, .any, .any, .any, .any, .any, .any, .any, .any, .any, .any, .any, .any, .any, .any, .any, .any, .any, .any, .any, .any, .any, .any, .any, .any, .any, .any, .any, .any, .any, .any, .any, .any, .any, .any, .any, .any, .any, .any, .any, .any, .any, .any, .any, .any, .any, .any, .any, .any]
def pb6_2x0 : List PB := [.cells [.int .i64, .int .i64, .int .i64, .int .i64, .int .i64, .int .i64, .int .i64, .int .i64, .int .i64, .int .i64, .int .i64, .int .i64, .int .i64, .int .i64, .int .i64, .bool], .cells [.int .i64, .int .i64, .int .i64, .int .i64, .int .i64, .int .i64, .int .i64, .int .i64, .int .i64, .int .i64, .int .i64, .int .i64, .int .i64, .int .i64, .int .i64], .cells [.int .i64, .int .i64, .int .i64, .int .i64, .int .i64, .int .i64, .int .i64, .int .i64, .int .i64, .int .i64, .int .i64, .int .i64, .int .i64, .int .i64, .int .i64]]
def ini6_2x0 (s : St) : W6_2 := ⟨rC 0 (aC (s.tmps.getD 0 .top)), iC (aC (s.tmps.getD 1 .top)), iC (aC (s.tmps.getD 2 .top)), bC (aC (s.tmps.getD 6 .top)), iC (aC (s.tmps.getD 8 .top)), iC (aC (s.tmps.getD 10 .top)), iC (aC (s.tmps.getD 12 .top)), rd3 (bL (s.heap.getD 0 .dead)), rd7 (bL (s.heap.getD 1 .dead))⟩
noncomputable def F6_2x0 : St → Res (Ex × St) := loopF2 pa6_2x0 pb6_2x0 2000000 hd6_2 hu6_2 gR6_2 ini6_2x0
theorem F6_2x0_ok (s : St) (r : Ex × St) (h : (F6_2x0 s).eval = some r) : (codeR e6 0 (.block 2 (.loop lb6_2)) s).eval = some r :=
  blk_ok2 (e := e6) (T := lookT []) (fun s v => by kernel_rfl) (fun s => by kernel_rfl) (tab_nil) s r h
def pa6_2x1 : List PA := [.c (.rs 0), .c (.int .i64), .c (.int .i64), .any, .any, .any, .c (.bool), .c (.ptr 0 0), .c (.int .i64), .any, .c (.int .i64), .c (.sl 1 0 15 (some 1)), .c (.int .i64), .any, .any, .any, .any, .any, .any, .any, .any, .any, .any, .any, .any, .any, .any, .any, .any, .any, .any, .any, .any, .any, .any, .any, .any, .any, .any, .any, .any, .any, .any, .any, .any, .any, .any, .any, .any, .any, .any, .any, .any, .any, .any, .any, .any, .any, .any, .any, .any, .any, .any, .any, .any, .any, .any, .any, .any, .any, .any, .any, .any, .any, .any, .any, .any, .any, .any, .any, .any, .any, .any, .any, .any, .any, .any, .any, .any, .any]
def pb6_2x1 : List PB := [.cells [.int .i64, .int .i64, .int .i64, .int .i64, .int .i64, .int .i64, .int .i64, .int .i64, .int .i64, .int .i64, .int .i64, .int .i64, .int .i64, .int .i64, .int .i64, .bool], .cells [.int .i64, .int .i64, .int .i64, .int .i64, .int .i64, .int .i64, .int .i64, .int .i64, .int .i64, .int .i64, .int .i64, .int .i64, .int .i64, .int .i64, .int .i64], .cells [.int .i64, .int .i64, .int .i64, .int .i64, .int .i64, .int .i64, .int .i64, .int .i64, .int .i64, .int .i64, .int .i64, .int .i64, .int .i64, .int .i64, .int .i64], .row 1]
def ini6_2x1 (s : St) : W6_2 := ⟨rC 0 (aC (s.tmps.getD 0 .top)), iC (aC (s.tmps.getD 1 .top)), iC (aC (s.tmps.getD 2 .top)), bC (aC (s.tmps.getD 6 .top)), iC (aC (s.tmps.getD 8 .top)), iC (aC (s.tmps.getD 10 .top)), iC (aC (s.tmps.getD 12 .top)), rd3 (bL (s.heap.getD 0 .dead)), rd7 (bL (s.heap.getD 1 .dead))⟩
noncomputable def F6_2x1 : St → Res (Ex × St) := loopF2 pa6_2x1 pb6_2x1 2000000 hd6_2 hu6_2 gR6_2 ini6_2x1
theorem F6_2x1_ok (s : St) (r : Ex × St) (h : (F6_2x1 s).eval = some r) : (codeR e6 0 (.block 2 (.loop lb6_2)) s).eval = some r :=
  blk_ok2 (e := e6) (T := lookT []) (fun s v => by kernel_rfl) (fun s => by kernel_rfl) (tab_nil) s r h
def pa6_2x2 : List PA := [.c (.rs 0), .c (.int .i64), .c (.int .i64), .any, .any, .any, .c (.bool), .c (.ptr 0 0), .c (.int .i64), .any, .c (.int .i64), .c (.sl 2 0 15 (some 1)), .c (.int .i64), .any, .any, .any, .any, .any, .any, .any, .any, .any, .any, .any, .any, .any, .any, .any, .any, .any, .any, .any, .any, .any, .any, .any, .any, .any, .any, .any, .any, .any, .any, .any, .any, .any, .any, .any, .any, .any, .any, .any, .any, .any, .any, .any, .any, .any, .any, .any, .any, .any, .any, .any, .any, .any, .any, .any, .any, .any, .any, .any, .any, .any, .any, .any, .any, .any, .any, .any, .any, .any, .any, .any, .any, .any, .any, .any, .any, .any]
def pb6_2x2 : List PB := [.cells [.int .i64, .int .i64, .int .i64, .int .i64, .int .i64, .int .i64, .int .i64, .int .i64, .int .i64, .int .i64, .int .i64, .int .i64, .int .i64, .int .i64, .int .i64, .bool], .cells [.int .i64, .int .i64, .int .i64, .int .i64, .int .i64, .int .i64, .int .i64, .int .i64, .int .i64, .int .i64, .int .i64, .int .i64, .int .i64, .int .i64, .int .i64, .bool], .cells [.int .i64, .int .i64, .int .i64, .int .i64, .int .i64, .int .i64, .int .i64, .int .i64, .int .i64, .int .i64, .int .i64, .int .i64, .int .i64, .int .i64, .int .i64], .cells [.int .i64, .int .i64, .int .i64, .int .i64, .int .i64, .int .i64, .int .i64, .int .i64, .int .i64, .int .i64, .int .i64, .int .i64, .int .i64, .int .i64, .int .i64]]
def ini6_2x2 (s : St) : W6_2 := ⟨rC 0 (aC (s.tmps.getD 0 .top)), iC (aC (s.tmps.getD 1 .top)), iC (aC (s.tmps.getD 2 .top)), bC (aC (s.tmps.getD 6 .top)), iC (aC (s.tmps.getD 8 .top)), iC (aC (s.tmps.getD 10 .top)), iC (aC (s.tmps.getD 12 .top)), rd3 (bL (s.heap.getD 0 .dead)), rd7 (bL (s.heap.getD 2 .dead))⟩
noncomputable def F6_2x2 : St → Res (Ex × St) := loopF2 pa6_2x2 pb6_2x2 2000000 hd6_2 hu6_2 gR6_2 ini6_2x2
theorem F6_2x2_ok (s : St) (r : Ex × St) (h : (F6_2x2 s).eval = some r) : (codeR e6 0 (.block 2 (.loop lb6_2)) s).eval = some r :=
  blk_ok2 (e := e6) (T := lookT []) (fun s v => by kernel_rfl) (fun s => by kernel_rfl) (tab_nil) s r h
def pa6_2x3 : List PA := [.c (.rs 0), .c (.int .i64), .c (.int .i64), .any, .any, .any, .c (.bool), .c (.ptr 0 0), .c (.int .i64), .any, .c (.int .i64), .c (.sl 2 0 15 (some 1)), .c (.int .i64), .any, .any, .any, .any, .any, .any, .any, .any, .any, .any, .any, .any, .any, .any, .any, .any, .any, .any, .any, .any, .any, .any, .any, .any, .any, .any, .any, .any, .any, .any, .any, .any, .any, .any, .any, .any, .any, .any, .any, .any, .any, .any, .any, .any, .any, .any, .any, .any, .any, .any, .any, .any, .any, .any, .any, .any, .any, .any, .any, .any, .any, .any, .any, .any, .any, .any, .any, .any, .any, .any, .any, .any, .any, .any, .any, .any, .any]
def pb6_2x3 : List PB := [.cells [.int .i64, .int .i64, .int .i64, .int .i64, .int .i64, .int .i64, .int .i64, .int .i64, .int .i64, .int .i64, .int .i64, .int .i64, .int .i64, .int .i64, .int .i64, .bool], .cells [.int .i64, .int .i64, .int .i64, .int .i64, .int .i64, .int .i64, .int .i64, .int .i64, .int .i64, .int .i64, .int .i64, .int .i64, .int .i64, .int .i64, .int .i64, .bool], .cells [.int .i64, .int .i64, .int .i64, .int .i64, .int .i64, .int .i64, .int .i64, .int .i64, .int .i64, .int .i64, .int .i64, .int .i64, .int .i64, .int .i64, .int .i64], .cells [.int .i64, .int .i64, .int .i64, .int .i64, .int .i64, .int .i64, .int .i64, .int .i64, .int .i64, .int .i64, .int .i64, .int .i64, .int .i64, .int .i64, .int .i64], .row 1]
def ini6_2x3 (s : St) : W6_2 := ⟨rC 0 (aC (s.tmps.getD 0 .top)), iC (aC (s.tmps.getD 1 .top)), iC (aC (s.tmps.getD 2 .top)), bC (aC (s.tmps.getD 6 .top)), iC (aC (s.tmps.getD 8 .top)), iC (aC (s.tmps.getD 10 .top)), iC (aC (s.tmps.getD 12 .top)), rd3 (bL (s.heap.getD 0 .dead)), rd7 (bL (s.heap.getD 2 .dead))⟩
noncomputable def F6_2x3 : St → Res (Ex × St) := loopF2 pa6_2x3 pb6_2x3 2000000 hd6_2 hu6_2 gR6_2 ini6_2x3
theorem F6_2x3_ok (s : St) (r : Ex × St) (h : (F6_2x3 s).eval = some r) : (codeR e6 0 (.block 2 (.loop lb6_2)) s).eval = some r :=
  blk_ok2 (e := e6) (T := lookT []) (fun s v => by kernel_rfl) (fun s => by kernel_rfl) (tab_nil) s r h
noncomputable def F6_2 : St → Res (Ex × St) := (orF pa6_2x0 pb6_2x0 F6_2x0 (orF pa6_2x1 pb6_2x1 F6_2x1 (orF pa6_2x2 pb6_2x2 F6_2x2 F6_2x3)))
theorem F6_2_ok (s : St) (r : Ex × St) (h : (F6_2 s).eval = some r) : (codeR e6 0 (.block 2 (.loop lb6_2)) s).eval = some r := (orF_ok F6_2x0_ok (orF_ok F6_2x1_ok (orF_ok F6_2x2_ok F6_2x3_ok))) s r h
def g6T (x0 : List S0) (x1 : Int) (x2 : Int) : Tr (Bool) :=
  .opt (g9 ) fun z101 =>
   .br (!z101) (
    .leaf (false)) (
    .opt (iter gR6_0 2000000 (W6_0.mk (x0) (x1) (x2) (false) (0) ((S3.mk 0 0 0 0 0 0 0 0 0 0 0 0 0 0 0 true)))) fun r105 =>
     .br r105.1 (
      .fail) (
      .br (!r105.2.a5.f15) (
       .opt (g10_0 (V10_0.mk (r105.2.a1) (r105.2.a2) (r105.2.a5))) fun z106 =>
        .opt (g25_0 (V25_0.mk (z106.b1))) fun z138 =>
         .opt (g25_0 (V25_0.mk (z106.b1))) fun z139 =>
          .br (!z106.b1.f15) (
           .opt (g21 [(S1.mk z139.b0.f0), (S1.mk z139.b0.f1), (S1.mk z139.b0.f2), (S1.mk z139.b0.f3), (S1.mk z139.b0.f4), (S1.mk z139.b0.f5), (S1.mk z139.b0.f6), (S1.mk z139.b0.f7), (S1.mk z139.b0.f8), (S1.mk z139.b0.f9), (S1.mk z139.b0.f10), (S1.mk z139.b0.f11), (S1.mk z139.b0.f12), (S1.mk z139.b0.f13), (S1.mk z139.b0.f14)] []) fun z141 =>
            .br (!z141) (
             .leaf (false)) (
             .opt (iter2 gR6_2 2000000 (W6_2.mk (r105.2.a0) (r105.2.a1) (r105.2.a2) (r105.2.a3) (r105.2.a4) (z106.b0) (0) (z106.b1) (z138.b0))) fun r142 =>
              .br r142.isRight (
               .opt (r142.getRight?) fun u143 =>
                .leaf (u143.a0)) (
               .opt (r142.getLeft?) fun w144 =>
                .leaf (true)))) (
           .br ([(S1.mk z106.b1.f0), (S1.mk z106.b1.f1), (S1.mk z106.b1.f2), (S1.mk z106.b1.f3), (S1.mk z106.b1.f4), (S1.mk z106.b1.f5), (S1.mk z106.b1.f6), (S1.mk z106.b1.f7), (S1.mk z106.b1.f8), (S1.mk z106.b1.f9), (S1.mk z106.b1.f10), (S1.mk z106.b1.f11), (S1.mk z106.b1.f12), (S1.mk z106.b1.f13), (S1.mk z106.b1.f14)].isEmpty || cloneB 1 8 [(S1.mk z106.b1.f0), (S1.mk z106.b1.f1), (S1.mk z106.b1.f2), (S1.mk z106.b1.f3), (S1.mk z106.b1.f4), (S1.mk z106.b1.f5), (S1.mk z106.b1.f6), (S1.mk z106.b1.f7), (S1.mk z106.b1.f8), (S1.mk z106.b1.f9), (S1.mk z106.b1.f10), (S1.mk z106.b1.f11), (S1.mk z106.b1.f12), (S1.mk z106.b1.f13), (S1.mk z106.b1.f14)]) (
            .opt (g21 [(S1.mk z139.b0.f0), (S1.mk z139.b0.f1), (S1.mk z139.b0.f2), (S1.mk z139.b0.f3), (S1.mk z139.b0.f4), (S1.mk z139.b0.f5), (S1.mk z139.b0.f6), (S1.mk z139.b0.f7), (S1.mk z139.b0.f8), (S1.mk z139.b0.f9), (S1.mk z139.b0.f10), (S1.mk z139.b0.f11), (S1.mk z139.b0.f12), (S1.mk z139.b0.f13), (S1.mk z139.b0.f14)] [(S1.mk z106.b1.f0), (S1.mk z106.b1.f1), (S1.mk z106.b1.f2), (S1.mk z106.b1.f3), (S1.mk z106.b1.f4), (S1.mk z106.b1.f5), (S1.mk z106.b1.f6), (S1.mk z106.b1.f7), (S1.mk z106.b1.f8), (S1.mk z106.b1.f9), (S1.mk z106.b1.f10), (S1.mk z106.b1.f11), (S1.mk z106.b1.f12), (S1.mk z106.b1.f13), (S1.mk z106.b1.f14)]) fun z145 =>
             .br (!z145) (
              .leaf (false)) (
              .opt (iter2 gR6_2 2000000 (W6_2.mk (r105.2.a0) (r105.2.a1) (r105.2.a2) (r105.2.a3) (r105.2.a4) (z106.b0) (0) (z106.b1) (z138.b0))) fun r146 =>
               .br r146.isRight (
                .opt (r146.getRight?) fun u147 =>
                 .leaf (u147.a0)) (
                .opt (r146.getLeft?) fun w148 =>
                 .leaf (true)))) (
            .fail))) (
       .opt (g10_0 (V10_0.mk (r105.2.a1) (r105.2.a2) (r105.2.a5))) fun z149 =>
        .opt (g25_1 (V25_1.mk (z149.b1) (r105.2.a5))) fun z180 =>
         .opt (g25_0 (V25_0.mk (z149.b1))) fun z181 =>
          .br (!z149.b1.f15) (
           .opt (g21 [(S1.mk z181.b0.f0), (S1.mk z181.b0.f1), (S1.mk z181.b0.f2), (S1.mk z181.b0.f3), (S1.mk z181.b0.f4), (S1.mk z181.b0.f5), (S1.mk z181.b0.f6), (S1.mk z181.b0.f7), (S1.mk z181.b0.f8), (S1.mk z181.b0.f9), (S1.mk z181.b0.f10), (S1.mk z181.b0.f11), (S1.mk z181.b0.f12), (S1.mk z181.b0.f13), (S1.mk z181.b0.f14)] []) fun z183 =>
            .br (!z183) (
             .leaf (false)) (
             .opt (iter2 gR6_2 2000000 (W6_2.mk (r105.2.a0) (r105.2.a1) (r105.2.a2) (r105.2.a3) (r105.2.a4) (z149.b0) (0) (z149.b1) (z180.b0))) fun r184 =>
              .br r184.isRight (
               .opt (r184.getRight?) fun u185 =>
                .leaf (u185.a0)) (
               .opt (r184.getLeft?) fun w186 =>
                .leaf (true)))) (
           .br ([(S1.mk z149.b1.f0), (S1.mk z149.b1.f1), (S1.mk z149.b1.f2), (S1.mk z149.b1.f3), (S1.mk z149.b1.f4), (S1.mk z149.b1.f5), (S1.mk z149.b1.f6), (S1.mk z149.b1.f7), (S1.mk z149.b1.f8), (S1.mk z149.b1.f9), (S1.mk z149.b1.f10), (S1.mk z149.b1.f11), (S1.mk z149.b1.f12), (S1.mk z149.b1.f13), (S1.mk z149.b1.f14)].isEmpty || cloneB 1 8 [(S1.mk z149.b1.f0), (S1.mk z149.b1.f1), (S1.mk z149.b1.f2), (S1.mk z149.b1.f3), (S1.mk z149.b1.f4), (S1.mk z149.b1.f5), (S1.mk z149.b1.f6), (S1.mk z149.b1.f7), (S1.mk z149.b1.f8), (S1.mk z149.b1.f9), (S1.mk z149.b1.f10), (S1.mk z149.b1.f11), (S1.mk z149.b1.f12), (S1.mk z149.b1.f13), (S1.mk z149.b1.f14)]) (
            .opt (g21 [(S1.mk z181.b0.f0), (S1.mk z181.b0.f1), (S1.mk z181.b0.f2), (S1.mk z181.b0.f3), (S1.mk z181.b0.f4), (S1.mk z181.b0.f5), (S1.mk z181.b0.f6), (S1.mk z181.b0.f7), (S1.mk z181.b0.f8), (S1.mk z181.b0.f9), (S1.mk z181.b0.f10), (S1.mk z181.b0.f11), (S1.mk z181.b0.f12), (S1.mk z181.b0.f13), (S1.mk z181.b0.f14)] [(S1.mk z149.b1.f0), (S1.mk z149.b1.f1), (S1.mk z149.b1.f2), (S1.mk z149.b1.f3), (S1.mk z149.b1.f4), (S1.mk z149.b1.f5), (S1.mk z149.b1.f6), (S1.mk z149.b1.f7), (S1.mk z149.b1.f8), (S1.mk z149.b1.f9), (S1.mk z149.b1.f10), (S1.mk z149.b1.f11), (S1.mk z149.b1.f12), (S1.mk z149.b1.f13), (S1.mk z149.b1.f14)]) fun z187 =>
             .br (!z187) (
              .leaf (false)) (
              .opt (iter2 gR6_2 2000000 (W6_2.mk (r105.2.a0) (r105.2.a1) (r105.2.a2) (r105.2.a3) (r105.2.a4) (z149.b0) (0) (z149.b1) (z180.b0))) fun r188 =>
               .br r188.isRight (
                .opt (r188.getRight?) fun u189 =>
                 .leaf (u189.a0)) (
                .opt (r188.getLeft?) fun w190 =>
                 .leaf (true)))) (
            .fail)))))
def g6 (x0 : List S0) (x1 : Int) (x2 : Int) : Option (Bool) := (g6T x0 x1 x2).get?
noncomputable def T6 : TL := [(0, F6_0), (2, F6_2)]
noncomputable def q6 : Ab.Spec := runQ0 e6 (lookT T6) Go.Proofs.Try.f6
theorem q6_ok : SpecOk Go.Proofs.Try.prog 6 q6 := (runQ0_ok (runR_ok (e := e6) follows (allTI ti_ok _ _ _ _ _) (callsOk_cons s8_ok (callsOk_cons s9_ok (callsOk_cons s10_ok (callsOk_cons s26_ok (callsOk_cons s27_ok (callsOk_cons s18_ok (callsOk_cons s25_ok (callsOk_cons s22_ok (callsOk_cons s21_ok (callsOk_nil)))))))))) Go.Proofs.Try.func6 Go.Proofs.Try.call6) (fun c hc => by
  have hb : c = Go.Proofs.Try.f6.body.getD .skip := by rw [hc]; rfl
  subst hb
  exact tab_cons (by kernel_rfl) F6_0_ok (tab_cons (by kernel_rfl) F6_2_ok (tab_nil))))
theorem g6_run (x0 : List S0) (x1 : Int) (x2 : Int) : (q6 [.c (.rs 0 x0), .c (.int .i64 x1), .c (.int .i64 x2)] []).eval = (g6T x0 x1 x2).ev fun r => ((.c (.bool r) : AV), ([] : List Blk)) := by kernel_rfl
noncomputable def s6_0 : Ab.Spec := fun args h =>
  dN h <| dL args fun v0 a0 => dC v0 fun c0 => dR0 0 c0 fun x0 => dL a0 fun v1 a1 => dC v1 fun c1 => dI .i64 c1 fun x1 => dL a1 fun v2 a2 => dC v2 fun c2 => dI .i64 c2 fun x2 => dN a2 <|
  .opt (g6 x0 x1 x2) fun r => .val (.c (.bool r), [])
theorem s6_0_ok : SpecOk Go.Proofs.Try.prog 6 s6_0 :=
  q6_ok.less fun args hs r h => by
    unfold s6_0 at h
    obtain ⟨rfl, hh1⟩ := dN_inv h
    obtain ⟨v0, a0, rfl, hh2⟩ := dL_inv hh1
    obtain ⟨c0, rfl, hh3⟩ := dC_inv hh2
    obtain ⟨x0, rfl, hh4⟩ := dR0_inv hh3
    obtain ⟨v1, a1, rfl, hh5⟩ := dL_inv hh4
    obtain ⟨c1, rfl, hh6⟩ := dC_inv hh5
    obtain ⟨x1, rfl, hh7⟩ := dI_inv hh6
    obtain ⟨v2, a2, rfl, hh8⟩ := dL_inv hh7
    obtain ⟨c2, rfl, hh9⟩ := dC_inv hh8
    obtain ⟨x2, rfl, hh10⟩ := dI_inv hh9
    obtain ⟨rfl, hh11⟩ := dN_inv hh10
    rw [g6_run, Tr.ev_get?]
    change (Res.opt (g6 x0 x1 x2) _).eval = some r at hh11
    rw [eval_opt] at hh11
    obtain ⟨z, hz, hh12⟩ := Option.bind_eq_some_iff.mp hh11
    unfold g6 at hz
    rw [hz]; exact hh12
noncomputable def s6 : Ab.Spec := fun args h => s6_0 (coeA [[some 0], [], []] args) h
theorem s6_ok : SpecOk Go.Proofs.Try.prog 6 s6 := s6_0_ok.pre [[some 0], [], []]
/-- pontage/pontagelaw22.TallyOwn -/
noncomputable def L7 : SL := [(10, .byHeap, s10), (26, .byHeap, s26), (27, .byVal, s27), (11, .byRead [some 3, none], s11), (22, .byCopy [some 3], s22), (23, .byRead [some 3, none], s23), (18, .byHeap, s18), (25, .byCopy [some 3, some 3], s25), (21, .byVal, s21), (8, .byHeap, s8), (9, .byVal, s9)]
noncomputable def e7 : Env := ⟨ti, fun g => lookS g L7, 2000000, [.drop 2, .drop 3, .drop 8, .drop 12, .drop 13, .drop 14, .drop 15, .drop 16, .drop 17, .drop 18, .drop 19, .drop 20, .drop 21, .drop 22, .drop 23, .drop 24, .drop 25, .drop 26, .drop 27, .drop 28, .drop 29, .drop 30, .drop 31, .drop 32, .drop 33, .drop 34, .drop 35, .drop 36, .drop 37, .drop 38, .drop 39, .drop 40, .drop 41, .drop 42, .drop 43, .drop 44, .drop 45, .drop 46, .drop 47, .drop 48, .drop 49, .drop 50, .drop 51, .drop 52, .drop 53, .drop 54, .drop 55, .drop 56, .drop 57, .drop 58, .drop 59, .drop 60, .drop 61, .drop 62, .drop 63, .drop 64, .drop 65, .drop 66, .drop 67, .drop 68, .drop 69, .drop 70, .drop 71, .drop 72, .drop 73, .drop 74, .drop 75, .drop 76, .drop 77, .drop 78, .drop 79, .drop 80, .drop 81, .drop 82, .drop 83, .drop 84, .drop 85, .drop 86, .drop 87, .drop 88, .drop 89], [3000036], some [4]⟩
structure W7_2 where
  a0 : Int
  a1 : Int
  a2 : Bool
  a3 : Int
  a4 : Int
  a5 : S3
  a6 : S3
def hd7_2 (v : W7_2) : St := ⟨[.c (.int .i64 v.a0), .c (.int .i64 v.a1), .top, .top, .c (.bool v.a2), .c (.nilp), .c (.sl 0 0 2 none), .c (.int .i64 v.a3), .top, .c (.ptr 1 0), .c (.nils), .c (.int .i64 v.a4), .top, .top, .top, .top, .top, .top, .top, .top, .top, .top, .top, .top, .top, .top, .top, .top, .top, .top, .top, .top, .top, .top, .top, .top, .top, .top, .top, .top, .top, .top, .top, .top, .top, .top, .top, .top, .top, .top, .top, .top, .top, .top, .top, .top, .top, .top, .top, .top, .top, .top, .top, .top, .top, .top, .top, .top, .top, .top, .top, .top, .top, .top, .top, .top, .top, .top, .top, .top, .top, .top, .top, .top, .top, .top, .top, .top, .top, .top], [.cells [.nilp, .ptr 2 0], .cells [.int .i64 v.a5.f0, .int .i64 v.a5.f1, .int .i64 v.a5.f2, .int .i64 v.a5.f3, .int .i64 v.a5.f4, .int .i64 v.a5.f5, .int .i64 v.a5.f6, .int .i64 v.a5.f7, .int .i64 v.a5.f8, .int .i64 v.a5.f9, .int .i64 v.a5.f10, .int .i64 v.a5.f11, .int .i64 v.a5.f12, .int .i64 v.a5.f13, .int .i64 v.a5.f14, .bool v.a5.f15], .cells [.int .i64 v.a6.f0, .int .i64 v.a6.f1, .int .i64 v.a6.f2, .int .i64 v.a6.f3, .int .i64 v.a6.f4, .int .i64 v.a6.f5, .int .i64 v.a6.f6, .int .i64 v.a6.f7, .int .i64 v.a6.f8, .int .i64 v.a6.f9, .int .i64 v.a6.f10, .int .i64 v.a6.f11, .int .i64 v.a6.f12, .int .i64 v.a6.f13, .int .i64 v.a6.f14, .bool v.a6.f15]]⟩
def gR7_2 (v : W7_2) : Tr (W7_2 ⊕ (Bool × W7_2)) :=
  .br (decide (v.a4 < 0)) (
   .fail) (
   .leaf (.inr (false, v)))
structure W7_2v1 where
  a0 : Int
  a1 : Int
  a2 : Bool
  a3 : Int
  a4 : Int
  a5 : S3
  a6 : List S1
  a7 : S3
def hd7_2v1 (v : W7_2v1) : St := ⟨[.c (.int .i64 v.a0), .c (.int .i64 v.a1), .top, .top, .c (.bool v.a2), .c (.nilp), .c (.sl 0 0 2 none), .c (.int .i64 v.a3), .top, .c (.ptr 1 0), .c (.slw 2), .c (.int .i64 v.a4), .top, .top, .top, .top, .top, .top, .top, .top, .top, .top, .top, .top, .top, .top, .top, .top, .top, .top, .top, .top, .top, .top, .top, .top, .top, .top, .top, .top, .top, .top, .top, .top, .top, .top, .top, .top, .top, .top, .top, .top, .top, .top, .top, .top, .top, .top, .top, .top, .top, .top, .top, .top, .top, .top, .top, .top, .top, .top, .top, .top, .top, .top, .top, .top, .top, .top, .top, .top, .top, .top, .top, .top, .top, .top, .top, .top, .top, .top], [.cells [.nilp, .ptr 3 0], .cells [.int .i64 v.a5.f0, .int .i64 v.a5.f1, .int .i64 v.a5.f2, .int .i64 v.a5.f3, .int .i64 v.a5.f4, .int .i64 v.a5.f5, .int .i64 v.a5.f6, .int .i64 v.a5.f7, .int .i64 v.a5.f8, .int .i64 v.a5.f9, .int .i64 v.a5.f10, .int .i64 v.a5.f11, .int .i64 v.a5.f12, .int .i64 v.a5.f13, .int .i64 v.a5.f14, .bool v.a5.f15], .row 1 v.a6, .cells [.int .i64 v.a7.f0, .int .i64 v.a7.f1, .int .i64 v.a7.f2, .int .i64 v.a7.f3, .int .i64 v.a7.f4, .int .i64 v.a7.f5, .int .i64 v.a7.f6, .int .i64 v.a7.f7, .int .i64 v.a7.f8, .int .i64 v.a7.f9, .int .i64 v.a7.f10, .int .i64 v.a7.f11, .int .i64 v.a7.f12, .int .i64 v.a7.f13, .int .i64 v.a7.f14, .bool v.a7.f15]]⟩
def gR7_2v1 (v : W7_2v1) : Tr (W7_2v1 ⊕ (Bool × W7_2v1)) :=
  .br (decide (v.a4 < (v.a6.length : Int))) (
   .br (decide (0 ≤ v.a4) && decide (v.a4 < (v.a6.length : Int))) (
    .opt (v.a6[(Int.toNat v.a4)]?) fun y245 =>
     .leaf (.inl ({ v with a4 := (IntKind.i64.wrap (v.a4 + 1)), a6 := (List.set v.a6 (Int.toNat v.a4) (S1.mk 99)) }))) (
    .fail)) (
   .leaf (.inr (false, v)))
noncomputable def lb7_2 : Code := match findB 2 (Go.Proofs.Try.f7.body.getD .skip) with | [.loop b] => b | _ => .skip
def pa7_2x0 : List PA := [.c (.int .i64), .c (.int .i64), .any, .any, .c (.bool), .c (.nilp), .c (.sl 0 0 2 none), .c (.int .i64), .any, .c (.ptr 2 0), .c (.nils), .c (.int .i64), .any, .any, .any, .any, .any, .any, .any, .any, .any, .any, .any, .any, .any, .any, .any, .any, .any, .any, .any, .any, .any, .any, .any, .any, .any, .any, .any, .any, .any, .any, .any, .any, .any, .any, .any, .any, .any, .any, .any, .any, .any, .any, .any, .any, .any, .any, .any, .any, .any, .any, .any, .any, .any, .any, .any, .any, .any, .any, .any, .any, .any, .any, .any, .any, .any, .any, .any, .any, .any, .any, .any, .any, .any, .any, .any, .any, .any, .any]
def pb7_2x0 : List PB := [.cells [.nilp, .ptr 1 0], .cells [.int .i64, .int .i64, .int .i64, .int .i64, .int .i64, .int .i64, .int .i64, .int .i64, .int .i64, .int .i64, .int .i64, .int .i64, .int .i64, .int .i64, .int .i64, .bool], .cells [.int .i64, .int .i64, .int .i64, .int .i64, .int .i64, .int .i64, .int .i64, .int .i64, .int .i64, .int .i64, .int .i64, .int .i64, .int .i64, .int .i64, .int .i64, .bool]]
def ini7_2x0 (s : St) : W7_2 := ⟨iC (aC (s.tmps.getD 0 .top)), iC (aC (s.tmps.getD 1 .top)), bC (aC (s.tmps.getD 4 .top)), iC (aC (s.tmps.getD 7 .top)), iC (aC (s.tmps.getD 11 .top)), rd3 (bL (s.heap.getD 2 .dead)), rd3 (bL (s.heap.getD 1 .dead))⟩
noncomputable def F7_2x0 : St → Res (Ex × St) := loopF pa7_2x0 pb7_2x0 2000000 hd7_2 gR7_2 ini7_2x0 false
theorem F7_2x0_ok (s : St) (r : Ex × St) (h : (F7_2x0 s).eval = some r) : (codeR e7 0 (.block 2 (.loop lb7_2)) s).eval = some r :=
  blk_ok (e := e7) (T := lookT []) (fun s v => by kernel_rfl) (fun s => by kernel_rfl) (tab_nil) s r h
def pa7_2x1 : List PA := [.c (.int .i64), .c (.int .i64), .any, .any, .c (.bool), .c (.nilp), .c (.sl 0 0 2 none), .c (.int .i64), .any, .c (.ptr 2 0), .c (.slw 3), .c (.int .i64), .any, .any, .any, .any, .any, .any, .any, .any, .any, .any, .any, .any, .any, .any, .any, .any, .any, .any, .any, .any, .any, .any, .any, .any, .any, .any, .any, .any, .any, .any, .any, .any, .any, .any, .any, .any, .any, .any, .any, .any, .any, .any, .any, .any, .any, .any, .any, .any, .any, .any, .any, .any, .any, .any, .any, .any, .any, .any, .any, .any, .any, .any, .any, .any, .any, .any, .any, .any, .any, .any, .any, .any, .any, .any, .any, .any, .any, .any]
def pb7_2x1 : List PB := [.cells [.nilp, .ptr 1 0], .cells [.int .i64, .int .i64, .int .i64, .int .i64, .int .i64, .int .i64, .int .i64, .int .i64, .int .i64, .int .i64, .int .i64, .int .i64, .int .i64, .int .i64, .int .i64, .bool], .cells [.int .i64, .int .i64, .int .i64, .int .i64, .int .i64, .int .i64, .int .i64, .int .i64, .int .i64, .int .i64, .int .i64, .int .i64, .int .i64, .int .i64, .int .i64, .bool], .row 1]
def ini7_2x1 (s : St) : W7_2v1 := ⟨iC (aC (s.tmps.getD 0 .top)), iC (aC (s.tmps.getD 1 .top)), bC (aC (s.tmps.getD 4 .top)), iC (aC (s.tmps.getD 7 .top)), iC (aC (s.tmps.getD 11 .top)), rd3 (bL (s.heap.getD 2 .dead)), bR 1 (s.heap.getD 3 .dead), rd3 (bL (s.heap.getD 1 .dead))⟩
noncomputable def F7_2x1 : St → Res (Ex × St) := loopF pa7_2x1 pb7_2x1 2000000 hd7_2v1 gR7_2v1 ini7_2x1 false
theorem F7_2x1_ok (s : St) (r : Ex × St) (h : (F7_2x1 s).eval = some r) : (codeR e7 0 (.block 2 (.loop lb7_2)) s).eval = some r :=
  blk_ok (e := e7) (T := lookT []) (fun s v => by kernel_rfl) (fun s => by kernel_rfl) (tab_nil) s r h
noncomputable def F7_2 : St → Res (Ex × St) := (orF pa7_2x0 pb7_2x0 F7_2x0 F7_2x1)
theorem F7_2_ok (s : St) (r : Ex × St) (h : (F7_2 s).eval = some r) : (codeR e7 0 (.block 2 (.loop lb7_2)) s).eval = some r := (orF_ok F7_2x0_ok F7_2x1_ok) s r h
def g7T (x0 : Int) (x1 : Int) : Tr (Bool) :=
  .opt (g23_1 (V23_1.mk ([(S1.mk x0)]))) fun z197 =>
   .br (!((IntKind.i64.wrap (0 + z197.b0)) != 0)) (
    let z228 := g25_2 V25_2.mk
    .opt (g21 [(S1.mk z228.b0.f0), (S1.mk z228.b0.f1), (S1.mk z228.b0.f2), (S1.mk z228.b0.f3), (S1.mk z228.b0.f4), (S1.mk z228.b0.f5), (S1.mk z228.b0.f6), (S1.mk z228.b0.f7), (S1.mk z228.b0.f8), (S1.mk z228.b0.f9), (S1.mk z228.b0.f10), (S1.mk z228.b0.f11), (S1.mk z228.b0.f12), (S1.mk z228.b0.f13), (S1.mk z228.b0.f14)] [(S1.mk 0), (S1.mk 0), (S1.mk 0), (S1.mk 0), (S1.mk 0), (S1.mk 0), (S1.mk 0), (S1.mk 0), (S1.mk 0), (S1.mk 0), (S1.mk 0), (S1.mk 0), (S1.mk 0), (S1.mk 0), (S1.mk 0)]) fun z229 =>
     .br (!z229) (
      .leaf (false)) (
      .opt (g10_0 (V10_0.mk (x0) (x1) ((S3.mk 0 0 0 0 0 0 0 0 0 0 0 0 0 0 0 false)))) fun z230 =>
       .br (!(z230.b0 != 4)) (
        .opt (g11_0 (V11_0.mk (z230.b1) (x0))) fun z232 =>
         .br (!z230.b1.f15) (
          .opt (g23_0 (V23_0.mk (z230.b1) ([(S1.mk x0)]))) fun z234 =>
           .br (!((IntKind.i64.wrap ((IntKind.i64.wrap (z232.b0 + 0)) + z234.b0)) != 0)) (
            .br (!z230.b1.f15) (
             .opt (g25_0 (V25_0.mk (z230.b1))) fun z235 =>
              .opt (g21 [(S1.mk z235.b0.f0), (S1.mk z235.b0.f1), (S1.mk z235.b0.f2), (S1.mk z235.b0.f3), (S1.mk z235.b0.f4), (S1.mk z235.b0.f5), (S1.mk z235.b0.f6), (S1.mk z235.b0.f7), (S1.mk z235.b0.f8), (S1.mk z235.b0.f9), (S1.mk z235.b0.f10), (S1.mk z235.b0.f11), (S1.mk z235.b0.f12), (S1.mk z235.b0.f13), (S1.mk z235.b0.f14)] [(S1.mk 0), (S1.mk 0), (S1.mk 0), (S1.mk 0), (S1.mk 0), (S1.mk 0), (S1.mk 0), (S1.mk 0), (S1.mk 0), (S1.mk 0), (S1.mk 0), (S1.mk 0), (S1.mk 0), (S1.mk 0), (S1.mk 0)]) fun z236 =>
               .br (!z236) (
                .leaf (false)) (
                .opt (g10_0 (V10_0.mk (10) (3) ((S3.mk 0 0 0 0 0 0 0 0 0 0 0 0 0 0 0 true)))) fun z237 =>
                 .br (z237.b0 != 0) (
                  .leaf (false)) (
                  .br (!z237.b1.f15) (
                   .opt (iter gR7_2 2000000 (W7_2.mk (x0) (x1) (false) (2) (0) (z237.b1) (z230.b1))) fun r239 =>
                    .br r239.1 (
                     .fail) (
                     .opt (g11_0 (V11_0.mk (r239.2.a5) (10))) fun z240 =>
                      .br (z240.b0 == 3) (
                       .opt (g23_0 (V23_0.mk (r239.2.a5) ([(S1.mk 10), (S1.mk 9)]))) fun z241 =>
                        .br (z241.b0 == 3) (
                         .opt (g9 ) fun z243 =>
                          .leaf (z243)) (
                         .leaf (false))) (
                       .leaf (false)))) (
                   .br ([(S1.mk z237.b1.f0), (S1.mk z237.b1.f1), (S1.mk z237.b1.f2), (S1.mk z237.b1.f3), (S1.mk z237.b1.f4), (S1.mk z237.b1.f5), (S1.mk z237.b1.f6), (S1.mk z237.b1.f7), (S1.mk z237.b1.f8), (S1.mk z237.b1.f9), (S1.mk z237.b1.f10), (S1.mk z237.b1.f11), (S1.mk z237.b1.f12), (S1.mk z237.b1.f13), (S1.mk z237.b1.f14)].isEmpty || cloneB 1 8 [(S1.mk z237.b1.f0), (S1.mk z237.b1.f1), (S1.mk z237.b1.f2), (S1.mk z237.b1.f3), (S1.mk z237.b1.f4), (S1.mk z237.b1.f5), (S1.mk z237.b1.f6), (S1.mk z237.b1.f7), (S1.mk z237.b1.f8), (S1.mk z237.b1.f9), (S1.mk z237.b1.f10), (S1.mk z237.b1.f11), (S1.mk z237.b1.f12), (S1.mk z237.b1.f13), (S1.mk z237.b1.f14)]) (
                    .opt (iter gR7_2v1 2000000 (W7_2v1.mk (x0) (x1) (false) (2) (0) (z237.b1) ([(S1.mk z237.b1.f0), (S1.mk z237.b1.f1), (S1.mk z237.b1.f2), (S1.mk z237.b1.f3), (S1.mk z237.b1.f4), (S1.mk z237.b1.f5), (S1.mk z237.b1.f6), (S1.mk z237.b1.f7), (S1.mk z237.b1.f8), (S1.mk z237.b1.f9), (S1.mk z237.b1.f10), (S1.mk z237.b1.f11), (S1.mk z237.b1.f12), (S1.mk z237.b1.f13), (S1.mk z237.b1.f14)]) (z230.b1))) fun r246 =>
                     .br r246.1 (
                      .fail) (
                      .opt (g11_0 (V11_0.mk (r246.2.a5) (10))) fun z247 =>
                       .br (z247.b0 == 3) (
                        .opt (g23_0 (V23_0.mk (r246.2.a5) ([(S1.mk 10), (S1.mk 9)]))) fun z248 =>
                         .br (z248.b0 == 3) (
                          .opt (g9 ) fun z250 =>
                           .leaf (z250)) (
                          .leaf (false))) (
                        .leaf (false)))) (
                    .fail))))) (
             .leaf (false))) (
            .leaf (false))) (
          .br ([(S1.mk z230.b1.f0), (S1.mk z230.b1.f1), (S1.mk z230.b1.f2), (S1.mk z230.b1.f3), (S1.mk z230.b1.f4), (S1.mk z230.b1.f5), (S1.mk z230.b1.f6), (S1.mk z230.b1.f7), (S1.mk z230.b1.f8), (S1.mk z230.b1.f9), (S1.mk z230.b1.f10), (S1.mk z230.b1.f11), (S1.mk z230.b1.f12), (S1.mk z230.b1.f13), (S1.mk z230.b1.f14)].isEmpty || cloneB 1 8 [(S1.mk z230.b1.f0), (S1.mk z230.b1.f1), (S1.mk z230.b1.f2), (S1.mk z230.b1.f3), (S1.mk z230.b1.f4), (S1.mk z230.b1.f5), (S1.mk z230.b1.f6), (S1.mk z230.b1.f7), (S1.mk z230.b1.f8), (S1.mk z230.b1.f9), (S1.mk z230.b1.f10), (S1.mk z230.b1.f11), (S1.mk z230.b1.f12), (S1.mk z230.b1.f13), (S1.mk z230.b1.f14)]) (
           .fail) (
           .fail))) (
        .leaf (false)))) (
    .leaf (false))
def g7 (x0 : Int) (x1 : Int) : Option (Bool) := (g7T x0 x1).get?
noncomputable def T7 : TL := [(2, F7_2)]
noncomputable def q7 : Ab.Spec := runQ0 e7 (lookT T7) Go.Proofs.Try.f7
theorem q7_ok : SpecOk Go.Proofs.Try.prog 7 q7 := (runQ0_ok (runR_ok (e := e7) follows (allTI ti_ok _ _ _ _ _) (callsOk_cons s10_ok (callsOk_cons s26_ok (callsOk_cons s27_ok (callsOk_cons s11_ok (callsOk_cons s22_ok (callsOk_cons s23_ok (callsOk_cons s18_ok (callsOk_cons s25_ok (callsOk_cons s21_ok (callsOk_cons s8_ok (callsOk_cons s9_ok (callsOk_nil)))))))))))) Go.Proofs.Try.func7 Go.Proofs.Try.call7) (fun c hc => by
  have hb : c = Go.Proofs.Try.f7.body.getD .skip := by rw [hc]; rfl
  subst hb
  exact tab_cons (by kernel_rfl) F7_2_ok (tab_nil)))
theorem g7_run (x0 : Int) (x1 : Int) : (q7 [.c (.int .i64 x0), .c (.int .i64 x1)] []).eval = (g7T x0 x1).ev fun r => ((.c (.bool r) : AV), ([] : List Blk)) := by kernel_rfl
noncomputable def s7 : Ab.Spec := fun args h =>
  dN h <| dL args fun v0 a0 => dC v0 fun c0 => dI .i64 c0 fun x0 => dL a0 fun v1 a1 => dC v1 fun c1 => dI .i64 c1 fun x1 => dN a1 <|
  .opt (g7 x0 x1) fun r => .val (.c (.bool r), [])
theorem s7_ok : SpecOk Go.Proofs.Try.prog 7 s7 :=
  q7_ok.less fun args hs r h => by
    unfold s7 at h
    obtain ⟨rfl, hh1⟩ := dN_inv h
    obtain ⟨v0, a0, rfl, hh2⟩ := dL_inv hh1
    obtain ⟨c0, rfl, hh3⟩ := dC_inv hh2
    obtain ⟨x0, rfl, hh4⟩ := dI_inv hh3
    obtain ⟨v1, a1, rfl, hh5⟩ := dL_inv hh4
    obtain ⟨c1, rfl, hh6⟩ := dC_inv hh5
    obtain ⟨x1, rfl, hh7⟩ := dI_inv hh6
    obtain ⟨rfl, hh8⟩ := dN_inv hh7
    rw [g7_run, Tr.ev_get?]
    change (Res.opt (g7 x0 x1) _).eval = some r at hh8
    rw [eval_opt] at hh8
    obtain ⟨z, hz, hh9⟩ := Option.bind_eq_some_iff.mp hh8
    unfold g7 at hz
    rw [hz]; exact hh9
end Ab22
