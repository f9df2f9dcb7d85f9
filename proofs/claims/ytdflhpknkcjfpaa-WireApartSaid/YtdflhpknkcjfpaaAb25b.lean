/- Seat 25: the functions. -/
import Derived.Test.YtdflhpknkcjfpaaAb25a
set_option maxRecDepth 100000
set_option maxHeartbeats 4000000
set_option linter.unusedVariables false
set_option linter.unusedSimpArgs false
namespace Ab25
open Go Ab
/-- pontage/wire.New -/
noncomputable def L7 : SL := []
noncomputable def e7 : Env := ⟨ti, fun g => lookS g L7, 1000000, [], [], none⟩
noncomputable def s7 : Ab.Spec := runR e7 Go.Proofs.Try.f7
theorem s7_ok : SpecOk Go.Proofs.Try.prog 7 s7 := runR_ok (e := e7) follows (allTI ti_ok _ _ _ _ _) (callsOk_nil) Go.Proofs.Try.func7 Go.Proofs.Try.call7
/-- (*pontage/wire.Wire).none -/
noncomputable def L34 : SL := []
noncomputable def e34 : Env := ⟨ti, fun g => lookS g L34, 1000000, [], [], none⟩
structure V34_0 where
  a0 : S3
structure Y34_0 where
  b0 : Bool
  deriving Inhabited
def hS34_0 (v : V34_0) : St := ⟨[.c (.rp 3 v.a0 0)], []⟩
def iS34_0 (s : St) : V34_0 := ⟨rpC 3 (aC (s.tmps.getD 0 .top))⟩
def aS34_0 : List PA := [.c (.rp 3 0)]
def bS34_0 : List PB := []
def g34_0T (v : V34_0) : Tr Y34_0 :=
  .leaf (⟨(!v.a0.f0)⟩)
def g34_0 (v : V34_0) : Y34_0 := (g34_0T v).get default
def k34_0 (v : V34_0) (r : Y34_0) : AV × List Blk := (.c (.bool r.b0), [])
noncomputable def q34_0 : Ab.Spec := runQh 0 e34 (lookT []) Go.Proofs.Try.f34
theorem q34_0_ok : SpecOk Go.Proofs.Try.prog 34 q34_0 := runQh_ok (runR_ok (e := e34) follows (allTI ti_ok _ _ _ _ _) (callsOk_nil) Go.Proofs.Try.func34 Go.Proofs.Try.call34) (fun c hc => by
  have hb : c = Go.Proofs.Try.f34.body.getD .skip := by rw [hc]; rfl
  subst hb
  exact tab_nil)
theorem g34_0_run (v : V34_0) : (q34_0 (hS34_0 v).tmps (hS34_0 v).heap).eval = (g34_0T v).ev (k34_0 v) := by kernel_rfl
noncomputable def sp34_0 (v : V34_0) : Res (AV × List Blk) := let r := g34_0 v; .val (k34_0 v r)
theorem sp34_0_ok (v : V34_0) (r : AV × List Blk) (h : (sp34_0 v).eval = some r) : (q34_0 (hS34_0 v).tmps (hS34_0 v).heap).eval = some r := by
  rw [g34_0_run, Tr.ev_get (d := default) (by kernel_rfl)]
  exact h
structure V34_1 where

structure Y34_1 where

  deriving Inhabited
def hS34_1 (v : V34_1) : St := ⟨[.c (.nilp)], []⟩
def iS34_1 (s : St) : V34_1 := ⟨⟩
def aS34_1 : List PA := [.c (.nilp)]
def bS34_1 : List PB := []
def g34_1T (v : V34_1) : Tr Y34_1 :=
  .leaf (⟨⟩)
def g34_1 (v : V34_1) : Y34_1 := (g34_1T v).get default
def k34_1 (v : V34_1) (r : Y34_1) : AV × List Blk := (.c (.bool true), [])
noncomputable def q34_1 : Ab.Spec := runQh 0 e34 (lookT []) Go.Proofs.Try.f34
theorem q34_1_ok : SpecOk Go.Proofs.Try.prog 34 q34_1 := runQh_ok (runR_ok (e := e34) follows (allTI ti_ok _ _ _ _ _) (callsOk_nil) Go.Proofs.Try.func34 Go.Proofs.Try.call34) (fun c hc => by
  have hb : c = Go.Proofs.Try.f34.body.getD .skip := by rw [hc]; rfl
  subst hb
  exact tab_nil)
theorem g34_1_run (v : V34_1) : (q34_1 (hS34_1 v).tmps (hS34_1 v).heap).eval = (g34_1T v).ev (k34_1 v) := by kernel_rfl
noncomputable def sp34_1 (v : V34_1) : Res (AV × List Blk) := let r := g34_1 v; .val (k34_1 v r)
theorem sp34_1_ok (v : V34_1) (r : AV × List Blk) (h : (sp34_1 v).eval = some r) : (q34_1 (hS34_1 v).tmps (hS34_1 v).heap).eval = some r := by
  rw [g34_1_run, Tr.ev_get (d := default) (by kernel_rfl)]
  exact h
noncomputable def s34 : Ab.Spec := shapeS aS34_1 bS34_1 (fun args h => sp34_1 (iS34_1 ⟨args, h⟩)) (shapeS aS34_0 bS34_0 (fun args h => sp34_0 (iS34_0 ⟨args, h⟩)) (runR e34 Go.Proofs.Try.f34))
theorem s34_ok : SpecOk Go.Proofs.Try.prog 34 s34 := shape_ok hS34_1 iS34_1 q34_1_ok (shape_ok hS34_0 iS34_0 q34_0_ok ((runR_ok (e := e34) follows (allTI ti_ok _ _ _ _ _) (callsOk_nil) Go.Proofs.Try.func34 Go.Proofs.Try.call34)) (fun s => by kernel_rfl) sp34_0_ok) (fun s => by kernel_rfl) sp34_1_ok
/-- (*pontage/wire.Wire).is -/
noncomputable def L29 : SL := [(34, .byRead [some 3], s34)]
noncomputable def e29 : Env := ⟨ti, fun g => lookS g L29, 1000000, [], [], none⟩
structure V29_0 where
  a0 : S3
  a1 : Int
structure Y29_0 where
  b0 : Bool
  deriving Inhabited
def hS29_0 (v : V29_0) : St := ⟨[.c (.rp 3 v.a0 0), .c (.int .i64 v.a1)], []⟩
def iS29_0 (s : St) : V29_0 := ⟨rpC 3 (aC (s.tmps.getD 0 .top)), iC (aC (s.tmps.getD 1 .top))⟩
def aS29_0 : List PA := [.c (.rp 3 0), .c (.int .i64)]
def bS29_0 : List PB := []
def g29_0T (v : V29_0) : Tr Y29_0 :=
  let z2 := g34_0 (V34_0.mk (v.a0))
  .leaf (⟨(bif (!z2.b0) then (bif (v.a1 == 0) then true else (v.a1 == 1)) else false)⟩)
def g29_0 (v : V29_0) : Y29_0 := (g29_0T v).get default
def k29_0 (v : V29_0) (r : Y29_0) : AV × List Blk := (.c (.bool r.b0), [])
noncomputable def q29_0 : Ab.Spec := runQh 0 e29 (lookT []) Go.Proofs.Try.f29
theorem q29_0_ok : SpecOk Go.Proofs.Try.prog 29 q29_0 := runQh_ok (runR_ok (e := e29) follows (allTI ti_ok _ _ _ _ _) (callsOk_cons s34_ok (callsOk_nil)) Go.Proofs.Try.func29 Go.Proofs.Try.call29) (fun c hc => by
  have hb : c = Go.Proofs.Try.f29.body.getD .skip := by rw [hc]; rfl
  subst hb
  exact tab_nil)
theorem g29_0_run (v : V29_0) : (q29_0 (hS29_0 v).tmps (hS29_0 v).heap).eval = (g29_0T v).ev (k29_0 v) := by kernel_rfl
noncomputable def sp29_0 (v : V29_0) : Res (AV × List Blk) := let r := g29_0 v; .val (k29_0 v r)
theorem sp29_0_ok (v : V29_0) (r : AV × List Blk) (h : (sp29_0 v).eval = some r) : (q29_0 (hS29_0 v).tmps (hS29_0 v).heap).eval = some r := by
  rw [g29_0_run, Tr.ev_get (d := default) (by kernel_rfl)]
  exact h
structure V29_1 where
  a0 : Int
structure Y29_1 where

  deriving Inhabited
def hS29_1 (v : V29_1) : St := ⟨[.c (.nilp), .c (.int .i64 v.a0)], []⟩
def iS29_1 (s : St) : V29_1 := ⟨iC (aC (s.tmps.getD 1 .top))⟩
def aS29_1 : List PA := [.c (.nilp), .c (.int .i64)]
def bS29_1 : List PB := []
def g29_1T (v : V29_1) : Tr Y29_1 :=
  .leaf (⟨⟩)
def g29_1 (v : V29_1) : Y29_1 := (g29_1T v).get default
def k29_1 (v : V29_1) (r : Y29_1) : AV × List Blk := (.c (.bool false), [])
noncomputable def q29_1 : Ab.Spec := runQh 0 e29 (lookT []) Go.Proofs.Try.f29
theorem q29_1_ok : SpecOk Go.Proofs.Try.prog 29 q29_1 := runQh_ok (runR_ok (e := e29) follows (allTI ti_ok _ _ _ _ _) (callsOk_cons s34_ok (callsOk_nil)) Go.Proofs.Try.func29 Go.Proofs.Try.call29) (fun c hc => by
  have hb : c = Go.Proofs.Try.f29.body.getD .skip := by rw [hc]; rfl
  subst hb
  exact tab_nil)
theorem g29_1_run (v : V29_1) : (q29_1 (hS29_1 v).tmps (hS29_1 v).heap).eval = (g29_1T v).ev (k29_1 v) := by kernel_rfl
noncomputable def sp29_1 (v : V29_1) : Res (AV × List Blk) := let r := g29_1 v; .val (k29_1 v r)
theorem sp29_1_ok (v : V29_1) (r : AV × List Blk) (h : (sp29_1 v).eval = some r) : (q29_1 (hS29_1 v).tmps (hS29_1 v).heap).eval = some r := by
  rw [g29_1_run, Tr.ev_get (d := default) (by kernel_rfl)]
  exact h
noncomputable def s29 : Ab.Spec := shapeS aS29_1 bS29_1 (fun args h => sp29_1 (iS29_1 ⟨args, h⟩)) (shapeS aS29_0 bS29_0 (fun args h => sp29_0 (iS29_0 ⟨args, h⟩)) (runR e29 Go.Proofs.Try.f29))
theorem s29_ok : SpecOk Go.Proofs.Try.prog 29 s29 := shape_ok hS29_1 iS29_1 q29_1_ok (shape_ok hS29_0 iS29_0 q29_0_ok ((runR_ok (e := e29) follows (allTI ti_ok _ _ _ _ _) (callsOk_cons s34_ok (callsOk_nil)) Go.Proofs.Try.func29 Go.Proofs.Try.call29)) (fun s => by kernel_rfl) sp29_0_ok) (fun s => by kernel_rfl) sp29_1_ok
/-- (*pontage/wire.Wire).may -/
noncomputable def L31 : SL := [(34, .byRead [some 3], s34), (29, .byRead [some 3, none], s29)]
noncomputable def e31 : Env := ⟨ti, fun g => lookS g L31, 1000000, [], [], none⟩
structure V31_0 where
  a0 : S3
  a1 : Int
structure Y31_0 where
  b0 : Int
  deriving Inhabited
def hS31_0 (v : V31_0) : St := ⟨[.c (.rp 3 v.a0 0), .c (.int .i64 v.a1)], []⟩
def iS31_0 (s : St) : V31_0 := ⟨rpC 3 (aC (s.tmps.getD 0 .top)), iC (aC (s.tmps.getD 1 .top))⟩
def aS31_0 : List PA := [.c (.rp 3 0), .c (.int .i64)]
def bS31_0 : List PB := []
def g31_0T (v : V31_0) : Tr Y31_0 :=
  let z1 := g34_0 (V34_0.mk (v.a0))
  .br z1.b0 (
   .leaf (⟨4⟩)) (
   let z3 := g29_0 (V29_0.mk (v.a0) (v.a1))
   .br (!z3.b0) (
    .leaf (⟨5⟩)) (
    .br v.a0.f1 (
     .leaf (⟨250⟩)) (
     .leaf (⟨0⟩))))
def g31_0 (v : V31_0) : Y31_0 := (g31_0T v).get default
def k31_0 (v : V31_0) (r : Y31_0) : AV × List Blk := (.c (.int .i64 r.b0), [])
noncomputable def q31_0 : Ab.Spec := runQh 0 e31 (lookT []) Go.Proofs.Try.f31
theorem q31_0_ok : SpecOk Go.Proofs.Try.prog 31 q31_0 := runQh_ok (runR_ok (e := e31) follows (allTI ti_ok _ _ _ _ _) (callsOk_cons s34_ok (callsOk_cons s29_ok (callsOk_nil))) Go.Proofs.Try.func31 Go.Proofs.Try.call31) (fun c hc => by
  have hb : c = Go.Proofs.Try.f31.body.getD .skip := by rw [hc]; rfl
  subst hb
  exact tab_nil)
theorem g31_0_run (v : V31_0) : (q31_0 (hS31_0 v).tmps (hS31_0 v).heap).eval = (g31_0T v).ev (k31_0 v) := by kernel_rfl
noncomputable def sp31_0 (v : V31_0) : Res (AV × List Blk) := let r := g31_0 v; .val (k31_0 v r)
theorem sp31_0_ok (v : V31_0) (r : AV × List Blk) (h : (sp31_0 v).eval = some r) : (q31_0 (hS31_0 v).tmps (hS31_0 v).heap).eval = some r := by
  rw [g31_0_run, Tr.ev_get (d := default) (by kernel_rfl)]
  exact h
structure V31_1 where
  a0 : Int
structure Y31_1 where

  deriving Inhabited
def hS31_1 (v : V31_1) : St := ⟨[.c (.nilp), .c (.int .i64 v.a0)], []⟩
def iS31_1 (s : St) : V31_1 := ⟨iC (aC (s.tmps.getD 1 .top))⟩
def aS31_1 : List PA := [.c (.nilp), .c (.int .i64)]
def bS31_1 : List PB := []
def g31_1T (v : V31_1) : Tr Y31_1 :=
  .leaf (⟨⟩)
def g31_1 (v : V31_1) : Y31_1 := (g31_1T v).get default
def k31_1 (v : V31_1) (r : Y31_1) : AV × List Blk := (.c (.int .i64 4), [])
noncomputable def q31_1 : Ab.Spec := runQh 0 e31 (lookT []) Go.Proofs.Try.f31
theorem q31_1_ok : SpecOk Go.Proofs.Try.prog 31 q31_1 := runQh_ok (runR_ok (e := e31) follows (allTI ti_ok _ _ _ _ _) (callsOk_cons s34_ok (callsOk_cons s29_ok (callsOk_nil))) Go.Proofs.Try.func31 Go.Proofs.Try.call31) (fun c hc => by
  have hb : c = Go.Proofs.Try.f31.body.getD .skip := by rw [hc]; rfl
  subst hb
  exact tab_nil)
theorem g31_1_run (v : V31_1) : (q31_1 (hS31_1 v).tmps (hS31_1 v).heap).eval = (g31_1T v).ev (k31_1 v) := by kernel_rfl
noncomputable def sp31_1 (v : V31_1) : Res (AV × List Blk) := let r := g31_1 v; .val (k31_1 v r)
theorem sp31_1_ok (v : V31_1) (r : AV × List Blk) (h : (sp31_1 v).eval = some r) : (q31_1 (hS31_1 v).tmps (hS31_1 v).heap).eval = some r := by
  rw [g31_1_run, Tr.ev_get (d := default) (by kernel_rfl)]
  exact h
noncomputable def s31 : Ab.Spec := shapeS aS31_1 bS31_1 (fun args h => sp31_1 (iS31_1 ⟨args, h⟩)) (shapeS aS31_0 bS31_0 (fun args h => sp31_0 (iS31_0 ⟨args, h⟩)) (runR e31 Go.Proofs.Try.f31))
theorem s31_ok : SpecOk Go.Proofs.Try.prog 31 s31 := shape_ok hS31_1 iS31_1 q31_1_ok (shape_ok hS31_0 iS31_0 q31_0_ok ((runR_ok (e := e31) follows (allTI ti_ok _ _ _ _ _) (callsOk_cons s34_ok (callsOk_cons s29_ok (callsOk_nil))) Go.Proofs.Try.func31 Go.Proofs.Try.call31)) (fun s => by kernel_rfl) sp31_0_ok) (fun s => by kernel_rfl) sp31_1_ok
/-- slices.Clone[[][]byte,[]byte] -/
noncomputable def L41 : SL := []
noncomputable def e41 : Env := ⟨ti, fun g => lookS g L41, 1000000, [], [], none⟩
theorem s41_a : (runR e41 Go.Proofs.Try.f41 [.c (.rn true 2 [])] []).eval = some (.c .nils, []) := by kernel_rfl
theorem s41_b (L : List S2) : (runR e41 Go.Proofs.Try.f41 [.c (.rn false 2 L)] []).eval = bif L.isEmpty then some (.c .ez, []) else bif cloneB 2 24 L then some (.c (.slw 0), [.row 2 L]) else none := by
  cases L with
  | nil => kernel_rfl
  | cons x L => kernel_rfl
noncomputable def s41 : Ab.Spec := fun args h => cloneS 2 24 (coeA [[some 2]] args) h
theorem s41_ok : SpecOk Go.Proofs.Try.prog 41 s41 := (clone_ok (e := e41) (c := 2) (bytes := 24) (runR_ok (e := e41) follows (allTI ti_ok _ _ _ _ _) (callsOk_nil) Go.Proofs.Try.func41 Go.Proofs.Try.call41) s41_a s41_b).pre [[some 2]]
/-- slices.Clone[[]byte,byte] -/
noncomputable def L40 : SL := []
noncomputable def e40 : Env := ⟨ti, fun g => lookS g L40, 1000000, [], [], none⟩
theorem s40_a : (runR e40 Go.Proofs.Try.f40 [.c (.rn true 0 [])] []).eval = some (.c .nils, []) := by kernel_rfl
theorem s40_b (L : List S0) : (runR e40 Go.Proofs.Try.f40 [.c (.rn false 0 L)] []).eval = bif L.isEmpty then some (.c .ez, []) else bif cloneB 0 1 L then some (.c (.slw 0), [.row 0 L]) else none := by
  cases L with
  | nil => kernel_rfl
  | cons x L => kernel_rfl
noncomputable def s40 : Ab.Spec := fun args h => cloneS 0 1 (coeA [[some 0]] args) h
theorem s40_ok : SpecOk Go.Proofs.Try.prog 40 s40 := (clone_ok (e := e40) (c := 0) (bytes := 1) (runR_ok (e := e40) follows (allTI ti_ok _ _ _ _ _) (callsOk_nil) Go.Proofs.Try.func40 Go.Proofs.Try.call40) s40_a s40_b).pre [[some 0]]
/-- (*pontage/wire.row).put -/
noncomputable def L32 : SL := [(41, .byNew, s41), (40, .byNew, s40)]
noncomputable def e32 : Env := ⟨ti, fun g => lookS g L32, 1000000, [], [11, 13], none⟩
structure V32_0 where
  a0 : List S0
  a1 : Bool
  a2 : Bool
  a3 : List S2
  a4 : List S2
  a5 : List S2
  a6 : List S2
structure Y32_0 where
  b0 : List S2
  deriving Inhabited
def hS32_0 (v : V32_0) : St := ⟨[.c (.ptr 0 2), .c (.rs 0 v.a0)], [.cells [.bool v.a1, .bool v.a2, .rs 2 v.a3, .rs 2 v.a4, .rs 2 v.a5, .rs 2 v.a6]]⟩
def iS32_0 (s : St) : V32_0 := ⟨rC 0 (aC (s.tmps.getD 1 .top)), bC ((bL (s.heap.getD 0 .dead)).getD 0 .top), bC ((bL (s.heap.getD 0 .dead)).getD 1 .top), rC 2 ((bL (s.heap.getD 0 .dead)).getD 2 .top), rC 2 ((bL (s.heap.getD 0 .dead)).getD 3 .top), rC 2 ((bL (s.heap.getD 0 .dead)).getD 4 .top), rC 2 ((bL (s.heap.getD 0 .dead)).getD 5 .top)⟩
def aS32_0 : List PA := [.c (.ptr 0 2), .c (.rs 0)]
def bS32_0 : List PB := [.cells [.bool, .bool, .rs 2, .rs 2, .rs 2, .rs 2]]
def g32_0T (v : V32_0) : Tr Y32_0 :=
  .br (v.a3.isEmpty || cloneB 2 24 v.a3) (
   .br (v.a0.isEmpty || cloneB 0 1 v.a0) (
    .br (Nat.ble (v.a3.length + 1) 140737488355328 && Nat.ble ((v.a3.length + 1) * 24) 140737488355328) (
     .leaf (⟨(v.a3 ++ [(S2.mk v.a0)])⟩)) (
     .fail)) (
    .fail)) (
   .fail)
def g32_0 (v : V32_0) : Option Y32_0 := (g32_0T v).get?
def k32_0 (v : V32_0) (r : Y32_0) : AV × List Blk := (.tup [], [.cells [.bool v.a1, .bool v.a2, .rs 2 r.b0, .rs 2 v.a4, .rs 2 v.a5, .rs 2 v.a6]])
noncomputable def q32_0 : Ab.Spec := runQh 1 e32 (lookT []) Go.Proofs.Try.f32
theorem q32_0_ok : SpecOk Go.Proofs.Try.prog 32 q32_0 := runQh_ok (runR_ok (e := e32) follows (allTI ti_ok _ _ _ _ _) (callsOk_cons s41_ok (callsOk_cons s40_ok (callsOk_nil))) Go.Proofs.Try.func32 Go.Proofs.Try.call32) (fun c hc => by
  have hb : c = Go.Proofs.Try.f32.body.getD .skip := by rw [hc]; rfl
  subst hb
  exact tab_nil)
theorem g32_0_run (v : V32_0) : (q32_0 (hS32_0 v).tmps (hS32_0 v).heap).eval = (g32_0T v).ev (k32_0 v) := by kernel_rfl
noncomputable def sp32_0 (v : V32_0) : Res (AV × List Blk) := .opt (g32_0 v) fun r => .val (k32_0 v r)
theorem sp32_0_ok (v : V32_0) (r : AV × List Blk) (h : (sp32_0 v).eval = some r) : (q32_0 (hS32_0 v).tmps (hS32_0 v).heap).eval = some r := by
  rw [g32_0_run, Tr.ev_get?]
  unfold sp32_0 at h
  rw [eval_opt] at h
  obtain ⟨z, hz, h⟩ := Option.bind_eq_some_iff.mp h
  unfold g32_0 at hz
  rw [hz]; exact h
structure V32_1 where
  a0 : List S0
  a1 : Bool
  a2 : Bool
  a3 : List S2
  a4 : List S2
  a5 : List S2
  a6 : List S2
structure Y32_1 where
  b0 : List S2
  deriving Inhabited
def hS32_1 (v : V32_1) : St := ⟨[.c (.ptr 0 3), .c (.rs 0 v.a0)], [.cells [.bool v.a1, .bool v.a2, .rs 2 v.a3, .rs 2 v.a4, .rs 2 v.a5, .rs 2 v.a6]]⟩
def iS32_1 (s : St) : V32_1 := ⟨rC 0 (aC (s.tmps.getD 1 .top)), bC ((bL (s.heap.getD 0 .dead)).getD 0 .top), bC ((bL (s.heap.getD 0 .dead)).getD 1 .top), rC 2 ((bL (s.heap.getD 0 .dead)).getD 2 .top), rC 2 ((bL (s.heap.getD 0 .dead)).getD 3 .top), rC 2 ((bL (s.heap.getD 0 .dead)).getD 4 .top), rC 2 ((bL (s.heap.getD 0 .dead)).getD 5 .top)⟩
def aS32_1 : List PA := [.c (.ptr 0 3), .c (.rs 0)]
def bS32_1 : List PB := [.cells [.bool, .bool, .rs 2, .rs 2, .rs 2, .rs 2]]
def g32_1T (v : V32_1) : Tr Y32_1 :=
  .br (v.a4.isEmpty || cloneB 2 24 v.a4) (
   .br (v.a0.isEmpty || cloneB 0 1 v.a0) (
    .br (Nat.ble (v.a4.length + 1) 140737488355328 && Nat.ble ((v.a4.length + 1) * 24) 140737488355328) (
     .leaf (⟨(v.a4 ++ [(S2.mk v.a0)])⟩)) (
     .fail)) (
    .fail)) (
   .fail)
def g32_1 (v : V32_1) : Option Y32_1 := (g32_1T v).get?
def k32_1 (v : V32_1) (r : Y32_1) : AV × List Blk := (.tup [], [.cells [.bool v.a1, .bool v.a2, .rs 2 v.a3, .rs 2 r.b0, .rs 2 v.a5, .rs 2 v.a6]])
noncomputable def q32_1 : Ab.Spec := runQh 1 e32 (lookT []) Go.Proofs.Try.f32
theorem q32_1_ok : SpecOk Go.Proofs.Try.prog 32 q32_1 := runQh_ok (runR_ok (e := e32) follows (allTI ti_ok _ _ _ _ _) (callsOk_cons s41_ok (callsOk_cons s40_ok (callsOk_nil))) Go.Proofs.Try.func32 Go.Proofs.Try.call32) (fun c hc => by
  have hb : c = Go.Proofs.Try.f32.body.getD .skip := by rw [hc]; rfl
  subst hb
  exact tab_nil)
theorem g32_1_run (v : V32_1) : (q32_1 (hS32_1 v).tmps (hS32_1 v).heap).eval = (g32_1T v).ev (k32_1 v) := by kernel_rfl
noncomputable def sp32_1 (v : V32_1) : Res (AV × List Blk) := .opt (g32_1 v) fun r => .val (k32_1 v r)
theorem sp32_1_ok (v : V32_1) (r : AV × List Blk) (h : (sp32_1 v).eval = some r) : (q32_1 (hS32_1 v).tmps (hS32_1 v).heap).eval = some r := by
  rw [g32_1_run, Tr.ev_get?]
  unfold sp32_1 at h
  rw [eval_opt] at h
  obtain ⟨z, hz, h⟩ := Option.bind_eq_some_iff.mp h
  unfold g32_1 at hz
  rw [hz]; exact h
structure V32_2 where
  a0 : List S0
  a1 : Bool
  a2 : Bool
  a3 : List S2
  a4 : List S2
  a5 : List S2
  a6 : List S2
structure Y32_2 where
  b0 : List S2
  deriving Inhabited
def hS32_2 (v : V32_2) : St := ⟨[.c (.ptr 0 4), .c (.rs 0 v.a0)], [.cells [.bool v.a1, .bool v.a2, .rs 2 v.a3, .rs 2 v.a4, .rs 2 v.a5, .rs 2 v.a6]]⟩
def iS32_2 (s : St) : V32_2 := ⟨rC 0 (aC (s.tmps.getD 1 .top)), bC ((bL (s.heap.getD 0 .dead)).getD 0 .top), bC ((bL (s.heap.getD 0 .dead)).getD 1 .top), rC 2 ((bL (s.heap.getD 0 .dead)).getD 2 .top), rC 2 ((bL (s.heap.getD 0 .dead)).getD 3 .top), rC 2 ((bL (s.heap.getD 0 .dead)).getD 4 .top), rC 2 ((bL (s.heap.getD 0 .dead)).getD 5 .top)⟩
def aS32_2 : List PA := [.c (.ptr 0 4), .c (.rs 0)]
def bS32_2 : List PB := [.cells [.bool, .bool, .rs 2, .rs 2, .rs 2, .rs 2]]
def g32_2T (v : V32_2) : Tr Y32_2 :=
  .br (v.a5.isEmpty || cloneB 2 24 v.a5) (
   .br (v.a0.isEmpty || cloneB 0 1 v.a0) (
    .br (Nat.ble (v.a5.length + 1) 140737488355328 && Nat.ble ((v.a5.length + 1) * 24) 140737488355328) (
     .leaf (⟨(v.a5 ++ [(S2.mk v.a0)])⟩)) (
     .fail)) (
    .fail)) (
   .fail)
def g32_2 (v : V32_2) : Option Y32_2 := (g32_2T v).get?
def k32_2 (v : V32_2) (r : Y32_2) : AV × List Blk := (.tup [], [.cells [.bool v.a1, .bool v.a2, .rs 2 v.a3, .rs 2 v.a4, .rs 2 r.b0, .rs 2 v.a6]])
noncomputable def q32_2 : Ab.Spec := runQh 1 e32 (lookT []) Go.Proofs.Try.f32
theorem q32_2_ok : SpecOk Go.Proofs.Try.prog 32 q32_2 := runQh_ok (runR_ok (e := e32) follows (allTI ti_ok _ _ _ _ _) (callsOk_cons s41_ok (callsOk_cons s40_ok (callsOk_nil))) Go.Proofs.Try.func32 Go.Proofs.Try.call32) (fun c hc => by
  have hb : c = Go.Proofs.Try.f32.body.getD .skip := by rw [hc]; rfl
  subst hb
  exact tab_nil)
theorem g32_2_run (v : V32_2) : (q32_2 (hS32_2 v).tmps (hS32_2 v).heap).eval = (g32_2T v).ev (k32_2 v) := by kernel_rfl
noncomputable def sp32_2 (v : V32_2) : Res (AV × List Blk) := .opt (g32_2 v) fun r => .val (k32_2 v r)
theorem sp32_2_ok (v : V32_2) (r : AV × List Blk) (h : (sp32_2 v).eval = some r) : (q32_2 (hS32_2 v).tmps (hS32_2 v).heap).eval = some r := by
  rw [g32_2_run, Tr.ev_get?]
  unfold sp32_2 at h
  rw [eval_opt] at h
  obtain ⟨z, hz, h⟩ := Option.bind_eq_some_iff.mp h
  unfold g32_2 at hz
  rw [hz]; exact h
structure V32_3 where
  a0 : List S0
  a1 : Bool
  a2 : Bool
  a3 : List S2
  a4 : List S2
  a5 : List S2
  a6 : List S2
structure Y32_3 where
  b0 : List S2
  deriving Inhabited
def hS32_3 (v : V32_3) : St := ⟨[.c (.ptr 0 5), .c (.rs 0 v.a0)], [.cells [.bool v.a1, .bool v.a2, .rs 2 v.a3, .rs 2 v.a4, .rs 2 v.a5, .rs 2 v.a6]]⟩
def iS32_3 (s : St) : V32_3 := ⟨rC 0 (aC (s.tmps.getD 1 .top)), bC ((bL (s.heap.getD 0 .dead)).getD 0 .top), bC ((bL (s.heap.getD 0 .dead)).getD 1 .top), rC 2 ((bL (s.heap.getD 0 .dead)).getD 2 .top), rC 2 ((bL (s.heap.getD 0 .dead)).getD 3 .top), rC 2 ((bL (s.heap.getD 0 .dead)).getD 4 .top), rC 2 ((bL (s.heap.getD 0 .dead)).getD 5 .top)⟩
def aS32_3 : List PA := [.c (.ptr 0 5), .c (.rs 0)]
def bS32_3 : List PB := [.cells [.bool, .bool, .rs 2, .rs 2, .rs 2, .rs 2]]
def g32_3T (v : V32_3) : Tr Y32_3 :=
  .br (v.a6.isEmpty || cloneB 2 24 v.a6) (
   .br (v.a0.isEmpty || cloneB 0 1 v.a0) (
    .br (Nat.ble (v.a6.length + 1) 140737488355328 && Nat.ble ((v.a6.length + 1) * 24) 140737488355328) (
     .leaf (⟨(v.a6 ++ [(S2.mk v.a0)])⟩)) (
     .fail)) (
    .fail)) (
   .fail)
def g32_3 (v : V32_3) : Option Y32_3 := (g32_3T v).get?
def k32_3 (v : V32_3) (r : Y32_3) : AV × List Blk := (.tup [], [.cells [.bool v.a1, .bool v.a2, .rs 2 v.a3, .rs 2 v.a4, .rs 2 v.a5, .rs 2 r.b0]])
noncomputable def q32_3 : Ab.Spec := runQh 1 e32 (lookT []) Go.Proofs.Try.f32
theorem q32_3_ok : SpecOk Go.Proofs.Try.prog 32 q32_3 := runQh_ok (runR_ok (e := e32) follows (allTI ti_ok _ _ _ _ _) (callsOk_cons s41_ok (callsOk_cons s40_ok (callsOk_nil))) Go.Proofs.Try.func32 Go.Proofs.Try.call32) (fun c hc => by
  have hb : c = Go.Proofs.Try.f32.body.getD .skip := by rw [hc]; rfl
  subst hb
  exact tab_nil)
theorem g32_3_run (v : V32_3) : (q32_3 (hS32_3 v).tmps (hS32_3 v).heap).eval = (g32_3T v).ev (k32_3 v) := by kernel_rfl
noncomputable def sp32_3 (v : V32_3) : Res (AV × List Blk) := .opt (g32_3 v) fun r => .val (k32_3 v r)
theorem sp32_3_ok (v : V32_3) (r : AV × List Blk) (h : (sp32_3 v).eval = some r) : (q32_3 (hS32_3 v).tmps (hS32_3 v).heap).eval = some r := by
  rw [g32_3_run, Tr.ev_get?]
  unfold sp32_3 at h
  rw [eval_opt] at h
  obtain ⟨z, hz, h⟩ := Option.bind_eq_some_iff.mp h
  unfold g32_3 at hz
  rw [hz]; exact h
noncomputable def s32 : Ab.Spec := frzS [none, some 0] (shapeS aS32_3 bS32_3 (fun args h => sp32_3 (iS32_3 ⟨args, h⟩)) (shapeS aS32_2 bS32_2 (fun args h => sp32_2 (iS32_2 ⟨args, h⟩)) (shapeS aS32_1 bS32_1 (fun args h => sp32_1 (iS32_1 ⟨args, h⟩)) (shapeS aS32_0 bS32_0 (fun args h => sp32_0 (iS32_0 ⟨args, h⟩)) (runR e32 Go.Proofs.Try.f32)))))
theorem s32_ok : SpecOk Go.Proofs.Try.prog 32 s32 := (shape_ok hS32_3 iS32_3 q32_3_ok (shape_ok hS32_2 iS32_2 q32_2_ok (shape_ok hS32_1 iS32_1 q32_1_ok (shape_ok hS32_0 iS32_0 q32_0_ok ((runR_ok (e := e32) follows (allTI ti_ok _ _ _ _ _) (callsOk_cons s41_ok (callsOk_cons s40_ok (callsOk_nil))) Go.Proofs.Try.func32 Go.Proofs.Try.call32)) (fun s => by kernel_rfl) sp32_0_ok) (fun s => by kernel_rfl) sp32_1_ok) (fun s => by kernel_rfl) sp32_2_ok) (fun s => by kernel_rfl) sp32_3_ok).frzArgs [none, some 0]
/-- (*pontage/wire.Wire).Data -/
noncomputable def L11 : SL := [(31, .byRead [some 3, none], s31), (32, .byHeap, s32), (41, .byNew, s41), (40, .byNew, s40)]
noncomputable def e11 : Env := ⟨ti, fun g => lookS g L11, 1000000, [], [], none⟩
structure V11_0 where
  a0 : Int
  a1 : List S0
  a2 : Bool
  a3 : Bool
  a4 : List S2
  a5 : List S2
  a6 : List S2
  a7 : List S2
structure Y11_0 where
  b0 : Int
  b1 : List S2
  b2 : List S2
  deriving Inhabited
def hS11_0 (v : V11_0) : St := ⟨[.c (.ptr 0 0), .c (.int .i64 v.a0), .c (.rs 0 v.a1)], [.cells [.bool v.a2, .bool v.a3, .rs 2 v.a4, .rs 2 v.a5, .rs 2 v.a6, .rs 2 v.a7], .dead]⟩
def iS11_0 (s : St) : V11_0 := ⟨iC (aC (s.tmps.getD 1 .top)), rC 0 (aC (s.tmps.getD 2 .top)), bC ((bL (s.heap.getD 0 .dead)).getD 0 .top), bC ((bL (s.heap.getD 0 .dead)).getD 1 .top), rC 2 ((bL (s.heap.getD 0 .dead)).getD 2 .top), rC 2 ((bL (s.heap.getD 0 .dead)).getD 3 .top), rC 2 ((bL (s.heap.getD 0 .dead)).getD 4 .top), rC 2 ((bL (s.heap.getD 0 .dead)).getD 5 .top)⟩
def aS11_0 : List PA := [.c (.ptr 0 0), .c (.int .i64), .c (.rs 0)]
def bS11_0 : List PB := [.cells [.bool, .bool, .rs 2, .rs 2, .rs 2, .rs 2], .dead]
def g11_0T (v : V11_0) : Tr Y11_0 :=
  let z4 := g31_0 (V31_0.mk ((S3.mk v.a2 v.a3 v.a4 v.a5 v.a6 v.a7)) (v.a0))
  .br (z4.b0 != 0) (
   .leaf (⟨z4.b0, v.a4, v.a5⟩)) (
   .br (decide ((v.a1.length : Int) > 2048)) (
    .leaf (⟨2, v.a4, v.a5⟩)) (
    .br (decide (0 ≤ v.a0) && decide (v.a0 < 2)) (
     .br (v.a0 == 0) (
      .br (decide ((v.a4.length : Int) ≥ 32)) (
       .leaf (⟨3, v.a4, v.a5⟩)) (
       .br (decide (0 ≤ v.a0) && decide (v.a0 < 2)) (
        .br (v.a0 == 0) (
         .opt (g32_0 (V32_0.mk (v.a1) (v.a2) (v.a3) (v.a4) (v.a5) (v.a6) (v.a7))) fun z7 =>
          .leaf (⟨0, z7.b0, v.a5⟩)) (
         .br (v.a0 == 1) (
          .opt (g32_1 (V32_1.mk (v.a1) (v.a2) (v.a3) (v.a4) (v.a5) (v.a6) (v.a7))) fun z10 =>
           .leaf (⟨0, v.a4, z10.b0⟩)) (
          .fail))) (
        .fail))) (
      .br (v.a0 == 1) (
       .br (decide ((v.a5.length : Int) ≥ 32)) (
        .leaf (⟨3, v.a4, v.a5⟩)) (
        .br (decide (0 ≤ v.a0) && decide (v.a0 < 2)) (
         .br (v.a0 == 0) (
          .opt (g32_0 (V32_0.mk (v.a1) (v.a2) (v.a3) (v.a4) (v.a5) (v.a6) (v.a7))) fun z11 =>
           .leaf (⟨0, z11.b0, v.a5⟩)) (
          .br (v.a0 == 1) (
           .opt (g32_1 (V32_1.mk (v.a1) (v.a2) (v.a3) (v.a4) (v.a5) (v.a6) (v.a7))) fun z12 =>
            .leaf (⟨0, v.a4, z12.b0⟩)) (
           .fail))) (
         .fail))) (
       .fail))) (
     .fail)))
def g11_0 (v : V11_0) : Option Y11_0 := (g11_0T v).get?
def k11_0 (v : V11_0) (r : Y11_0) : AV × List Blk := (.c (.int .i64 r.b0), [.cells [.bool v.a2, .bool v.a3, .rs 2 r.b1, .rs 2 r.b2, .rs 2 v.a6, .rs 2 v.a7], .dead])
noncomputable def q11_0 : Ab.Spec := runQh 2 e11 (lookT []) Go.Proofs.Try.f11
theorem q11_0_ok : SpecOk Go.Proofs.Try.prog 11 q11_0 := runQh_ok (runR_ok (e := e11) follows (allTI ti_ok _ _ _ _ _) (callsOk_cons s31_ok (callsOk_cons s32_ok (callsOk_cons s41_ok (callsOk_cons s40_ok (callsOk_nil))))) Go.Proofs.Try.func11 Go.Proofs.Try.call11) (fun c hc => by
  have hb : c = Go.Proofs.Try.f11.body.getD .skip := by rw [hc]; rfl
  subst hb
  exact tab_nil)
theorem g11_0_run (v : V11_0) : (q11_0 (hS11_0 v).tmps (hS11_0 v).heap).eval = (g11_0T v).ev (k11_0 v) := by kernel_rfl
noncomputable def sp11_0 (v : V11_0) : Res (AV × List Blk) := .opt (g11_0 v) fun r => .val (k11_0 v r)
theorem sp11_0_ok (v : V11_0) (r : AV × List Blk) (h : (sp11_0 v).eval = some r) : (q11_0 (hS11_0 v).tmps (hS11_0 v).heap).eval = some r := by
  rw [g11_0_run, Tr.ev_get?]
  unfold sp11_0 at h
  rw [eval_opt] at h
  obtain ⟨z, hz, h⟩ := Option.bind_eq_some_iff.mp h
  unfold g11_0 at hz
  rw [hz]; exact h
structure V11_1 where
  a0 : Int
  a1 : List S0
  a2 : Bool
  a3 : Bool
  a4 : List S2
  a5 : List S2
  a6 : List S2
  a7 : List S2
structure Y11_1 where
  b0 : Int
  b1 : List S2
  b2 : List S2
  deriving Inhabited
def hS11_1 (v : V11_1) : St := ⟨[.c (.ptr 0 0), .c (.int .i64 v.a0), .c (.rs 0 v.a1)], [.cells [.bool v.a2, .bool v.a3, .rs 2 v.a4, .rs 2 v.a5, .rs 2 v.a6, .rs 2 v.a7]]⟩
def iS11_1 (s : St) : V11_1 := ⟨iC (aC (s.tmps.getD 1 .top)), rC 0 (aC (s.tmps.getD 2 .top)), bC ((bL (s.heap.getD 0 .dead)).getD 0 .top), bC ((bL (s.heap.getD 0 .dead)).getD 1 .top), rC 2 ((bL (s.heap.getD 0 .dead)).getD 2 .top), rC 2 ((bL (s.heap.getD 0 .dead)).getD 3 .top), rC 2 ((bL (s.heap.getD 0 .dead)).getD 4 .top), rC 2 ((bL (s.heap.getD 0 .dead)).getD 5 .top)⟩
def aS11_1 : List PA := [.c (.ptr 0 0), .c (.int .i64), .c (.rs 0)]
def bS11_1 : List PB := [.cells [.bool, .bool, .rs 2, .rs 2, .rs 2, .rs 2]]
def g11_1T (v : V11_1) : Tr Y11_1 :=
  let z121 := g31_0 (V31_0.mk ((S3.mk v.a2 v.a3 v.a4 v.a5 v.a6 v.a7)) (v.a0))
  .br (z121.b0 != 0) (
   .leaf (⟨z121.b0, v.a4, v.a5⟩)) (
   .br (decide ((v.a1.length : Int) > 2048)) (
    .leaf (⟨2, v.a4, v.a5⟩)) (
    .br (decide (0 ≤ v.a0) && decide (v.a0 < 2)) (
     .br (v.a0 == 0) (
      .br (decide ((v.a4.length : Int) ≥ 32)) (
       .leaf (⟨3, v.a4, v.a5⟩)) (
       .br (decide (0 ≤ v.a0) && decide (v.a0 < 2)) (
        .br (v.a0 == 0) (
         .opt (g32_0 (V32_0.mk (v.a1) (v.a2) (v.a3) (v.a4) (v.a5) (v.a6) (v.a7))) fun z122 =>
          .leaf (⟨0, z122.b0, v.a5⟩)) (
         .br (v.a0 == 1) (
          .opt (g32_1 (V32_1.mk (v.a1) (v.a2) (v.a3) (v.a4) (v.a5) (v.a6) (v.a7))) fun z123 =>
           .leaf (⟨0, v.a4, z123.b0⟩)) (
          .fail))) (
        .fail))) (
      .br (v.a0 == 1) (
       .br (decide ((v.a5.length : Int) ≥ 32)) (
        .leaf (⟨3, v.a4, v.a5⟩)) (
        .br (decide (0 ≤ v.a0) && decide (v.a0 < 2)) (
         .br (v.a0 == 0) (
          .opt (g32_0 (V32_0.mk (v.a1) (v.a2) (v.a3) (v.a4) (v.a5) (v.a6) (v.a7))) fun z124 =>
           .leaf (⟨0, z124.b0, v.a5⟩)) (
          .br (v.a0 == 1) (
           .opt (g32_1 (V32_1.mk (v.a1) (v.a2) (v.a3) (v.a4) (v.a5) (v.a6) (v.a7))) fun z125 =>
            .leaf (⟨0, v.a4, z125.b0⟩)) (
           .fail))) (
         .fail))) (
       .fail))) (
     .fail)))
def g11_1 (v : V11_1) : Option Y11_1 := (g11_1T v).get?
def k11_1 (v : V11_1) (r : Y11_1) : AV × List Blk := (.c (.int .i64 r.b0), [.cells [.bool v.a2, .bool v.a3, .rs 2 r.b1, .rs 2 r.b2, .rs 2 v.a6, .rs 2 v.a7]])
noncomputable def q11_1 : Ab.Spec := runQh 1 e11 (lookT []) Go.Proofs.Try.f11
theorem q11_1_ok : SpecOk Go.Proofs.Try.prog 11 q11_1 := runQh_ok (runR_ok (e := e11) follows (allTI ti_ok _ _ _ _ _) (callsOk_cons s31_ok (callsOk_cons s32_ok (callsOk_cons s41_ok (callsOk_cons s40_ok (callsOk_nil))))) Go.Proofs.Try.func11 Go.Proofs.Try.call11) (fun c hc => by
  have hb : c = Go.Proofs.Try.f11.body.getD .skip := by rw [hc]; rfl
  subst hb
  exact tab_nil)
theorem g11_1_run (v : V11_1) : (q11_1 (hS11_1 v).tmps (hS11_1 v).heap).eval = (g11_1T v).ev (k11_1 v) := by kernel_rfl
noncomputable def sp11_1 (v : V11_1) : Res (AV × List Blk) := .opt (g11_1 v) fun r => .val (k11_1 v r)
theorem sp11_1_ok (v : V11_1) (r : AV × List Blk) (h : (sp11_1 v).eval = some r) : (q11_1 (hS11_1 v).tmps (hS11_1 v).heap).eval = some r := by
  rw [g11_1_run, Tr.ev_get?]
  unfold sp11_1 at h
  rw [eval_opt] at h
  obtain ⟨z, hz, h⟩ := Option.bind_eq_some_iff.mp h
  unfold g11_1 at hz
  rw [hz]; exact h
structure V11_2 where
  a0 : Int
  a1 : List S0
structure Y11_2 where

  deriving Inhabited
def hS11_2 (v : V11_2) : St := ⟨[.c (.nilp), .c (.int .i64 v.a0), .c (.rs 0 v.a1)], []⟩
def iS11_2 (s : St) : V11_2 := ⟨iC (aC (s.tmps.getD 1 .top)), rC 0 (aC (s.tmps.getD 2 .top))⟩
def aS11_2 : List PA := [.c (.nilp), .c (.int .i64), .c (.rs 0)]
def bS11_2 : List PB := []
def g11_2T (v : V11_2) : Tr Y11_2 :=
  .leaf (⟨⟩)
def g11_2 (v : V11_2) : Y11_2 := (g11_2T v).get default
def k11_2 (v : V11_2) (r : Y11_2) : AV × List Blk := (.c (.int .i64 4), [])
noncomputable def q11_2 : Ab.Spec := runQh 0 e11 (lookT []) Go.Proofs.Try.f11
theorem q11_2_ok : SpecOk Go.Proofs.Try.prog 11 q11_2 := runQh_ok (runR_ok (e := e11) follows (allTI ti_ok _ _ _ _ _) (callsOk_cons s31_ok (callsOk_cons s32_ok (callsOk_cons s41_ok (callsOk_cons s40_ok (callsOk_nil))))) Go.Proofs.Try.func11 Go.Proofs.Try.call11) (fun c hc => by
  have hb : c = Go.Proofs.Try.f11.body.getD .skip := by rw [hc]; rfl
  subst hb
  exact tab_nil)
theorem g11_2_run (v : V11_2) : (q11_2 (hS11_2 v).tmps (hS11_2 v).heap).eval = (g11_2T v).ev (k11_2 v) := by kernel_rfl
noncomputable def sp11_2 (v : V11_2) : Res (AV × List Blk) := let r := g11_2 v; .val (k11_2 v r)
theorem sp11_2_ok (v : V11_2) (r : AV × List Blk) (h : (sp11_2 v).eval = some r) : (q11_2 (hS11_2 v).tmps (hS11_2 v).heap).eval = some r := by
  rw [g11_2_run, Tr.ev_get (d := default) (by kernel_rfl)]
  exact h
noncomputable def s11 : Ab.Spec := frzS [none, none, some 0] (shapeS aS11_2 bS11_2 (fun args h => sp11_2 (iS11_2 ⟨args, h⟩)) (shapeS aS11_1 bS11_1 (fun args h => sp11_1 (iS11_1 ⟨args, h⟩)) (shapeS aS11_0 bS11_0 (fun args h => sp11_0 (iS11_0 ⟨args, h⟩)) (runR e11 Go.Proofs.Try.f11))))
theorem s11_ok : SpecOk Go.Proofs.Try.prog 11 s11 := (shape_ok hS11_2 iS11_2 q11_2_ok (shape_ok hS11_1 iS11_1 q11_1_ok (shape_ok hS11_0 iS11_0 q11_0_ok ((runR_ok (e := e11) follows (allTI ti_ok _ _ _ _ _) (callsOk_cons s31_ok (callsOk_cons s32_ok (callsOk_cons s41_ok (callsOk_cons s40_ok (callsOk_nil))))) Go.Proofs.Try.func11 Go.Proofs.Try.call11)) (fun s => by kernel_rfl) sp11_0_ok) (fun s => by kernel_rfl) sp11_1_ok) (fun s => by kernel_rfl) sp11_2_ok).frzArgs [none, none, some 0]
/-- (*pontage/wire.row).has -/
noncomputable def L35 : SL := []
noncomputable def e35 : Env := ⟨ti, fun g => lookS g L35, 1000000, [], [], none⟩
structure V35_0 where
  a0 : S3
  a1 : Int
structure Y35_0 where
  b0 : Bool
  deriving Inhabited
def hS35_0 (v : V35_0) : St := ⟨[.c (.rp 3 v.a0 2), .c (.int .i64 v.a1)], []⟩
def iS35_0 (s : St) : V35_0 := ⟨rpC 3 (aC (s.tmps.getD 0 .top)), iC (aC (s.tmps.getD 1 .top))⟩
def aS35_0 : List PA := [.c (.rp 3 2), .c (.int .i64)]
def bS35_0 : List PB := []
def g35_0T (v : V35_0) : Tr Y35_0 :=
  .leaf (⟨(bif (decide (v.a1 ≥ 0)) then (decide (v.a1 < (v.a0.f2.length : Int))) else false)⟩)
def g35_0 (v : V35_0) : Y35_0 := (g35_0T v).get default
def k35_0 (v : V35_0) (r : Y35_0) : AV × List Blk := (.c (.bool r.b0), [])
noncomputable def q35_0 : Ab.Spec := runQh 0 e35 (lookT []) Go.Proofs.Try.f35
theorem q35_0_ok : SpecOk Go.Proofs.Try.prog 35 q35_0 := runQh_ok (runR_ok (e := e35) follows (allTI ti_ok _ _ _ _ _) (callsOk_nil) Go.Proofs.Try.func35 Go.Proofs.Try.call35) (fun c hc => by
  have hb : c = Go.Proofs.Try.f35.body.getD .skip := by rw [hc]; rfl
  subst hb
  exact tab_nil)
theorem g35_0_run (v : V35_0) : (q35_0 (hS35_0 v).tmps (hS35_0 v).heap).eval = (g35_0T v).ev (k35_0 v) := by kernel_rfl
noncomputable def sp35_0 (v : V35_0) : Res (AV × List Blk) := let r := g35_0 v; .val (k35_0 v r)
theorem sp35_0_ok (v : V35_0) (r : AV × List Blk) (h : (sp35_0 v).eval = some r) : (q35_0 (hS35_0 v).tmps (hS35_0 v).heap).eval = some r := by
  rw [g35_0_run, Tr.ev_get (d := default) (by kernel_rfl)]
  exact h
structure V35_1 where
  a0 : S3
  a1 : Int
structure Y35_1 where
  b0 : Bool
  deriving Inhabited
def hS35_1 (v : V35_1) : St := ⟨[.c (.rp 3 v.a0 3), .c (.int .i64 v.a1)], []⟩
def iS35_1 (s : St) : V35_1 := ⟨rpC 3 (aC (s.tmps.getD 0 .top)), iC (aC (s.tmps.getD 1 .top))⟩
def aS35_1 : List PA := [.c (.rp 3 3), .c (.int .i64)]
def bS35_1 : List PB := []
def g35_1T (v : V35_1) : Tr Y35_1 :=
  .leaf (⟨(bif (decide (v.a1 ≥ 0)) then (decide (v.a1 < (v.a0.f3.length : Int))) else false)⟩)
def g35_1 (v : V35_1) : Y35_1 := (g35_1T v).get default
def k35_1 (v : V35_1) (r : Y35_1) : AV × List Blk := (.c (.bool r.b0), [])
noncomputable def q35_1 : Ab.Spec := runQh 0 e35 (lookT []) Go.Proofs.Try.f35
theorem q35_1_ok : SpecOk Go.Proofs.Try.prog 35 q35_1 := runQh_ok (runR_ok (e := e35) follows (allTI ti_ok _ _ _ _ _) (callsOk_nil) Go.Proofs.Try.func35 Go.Proofs.Try.call35) (fun c hc => by
  have hb : c = Go.Proofs.Try.f35.body.getD .skip := by rw [hc]; rfl
  subst hb
  exact tab_nil)
theorem g35_1_run (v : V35_1) : (q35_1 (hS35_1 v).tmps (hS35_1 v).heap).eval = (g35_1T v).ev (k35_1 v) := by kernel_rfl
noncomputable def sp35_1 (v : V35_1) : Res (AV × List Blk) := let r := g35_1 v; .val (k35_1 v r)
theorem sp35_1_ok (v : V35_1) (r : AV × List Blk) (h : (sp35_1 v).eval = some r) : (q35_1 (hS35_1 v).tmps (hS35_1 v).heap).eval = some r := by
  rw [g35_1_run, Tr.ev_get (d := default) (by kernel_rfl)]
  exact h
noncomputable def s35 : Ab.Spec := shapeS aS35_1 bS35_1 (fun args h => sp35_1 (iS35_1 ⟨args, h⟩)) (shapeS aS35_0 bS35_0 (fun args h => sp35_0 (iS35_0 ⟨args, h⟩)) (runR e35 Go.Proofs.Try.f35))
theorem s35_ok : SpecOk Go.Proofs.Try.prog 35 s35 := shape_ok hS35_1 iS35_1 q35_1_ok (shape_ok hS35_0 iS35_0 q35_0_ok ((runR_ok (e := e35) follows (allTI ti_ok _ _ _ _ _) (callsOk_nil) Go.Proofs.Try.func35 Go.Proofs.Try.call35)) (fun s => by kernel_rfl) sp35_0_ok) (fun s => by kernel_rfl) sp35_1_ok
/-- (*pontage/wire.Wire).Twin -/
noncomputable def L13 : SL := [(34, .byRead [some 3], s34), (29, .byRead [some 3, none], s29), (35, .byRead [some 3, none], s35), (32, .byHeap, s32), (41, .byNew, s41), (40, .byNew, s40)]
noncomputable def e13 : Env := ⟨ti, fun g => lookS g L13, 1000000, [], [], none⟩
structure V13_0 where
  a0 : Int
  a1 : Int
  a2 : Bool
  a3 : Bool
  a4 : List S2
  a5 : List S2
  a6 : List S2
  a7 : List S2
structure Y13_0 where
  b0 : Int
  b1 : List S2
  b2 : List S2
  deriving Inhabited
def hS13_0 (v : V13_0) : St := ⟨[.c (.ptr 0 0), .c (.int .i64 v.a0), .c (.int .i64 v.a1)], [.cells [.bool v.a2, .bool v.a3, .rs 2 v.a4, .rs 2 v.a5, .rs 2 v.a6, .rs 2 v.a7]]⟩
def iS13_0 (s : St) : V13_0 := ⟨iC (aC (s.tmps.getD 1 .top)), iC (aC (s.tmps.getD 2 .top)), bC ((bL (s.heap.getD 0 .dead)).getD 0 .top), bC ((bL (s.heap.getD 0 .dead)).getD 1 .top), rC 2 ((bL (s.heap.getD 0 .dead)).getD 2 .top), rC 2 ((bL (s.heap.getD 0 .dead)).getD 3 .top), rC 2 ((bL (s.heap.getD 0 .dead)).getD 4 .top), rC 2 ((bL (s.heap.getD 0 .dead)).getD 5 .top)⟩
def aS13_0 : List PA := [.c (.ptr 0 0), .c (.int .i64), .c (.int .i64)]
def bS13_0 : List PB := [.cells [.bool, .bool, .rs 2, .rs 2, .rs 2, .rs 2]]
def g13_0T (v : V13_0) : Tr Y13_0 :=
  let z15 := g34_0 (V34_0.mk ((S3.mk v.a2 v.a3 v.a4 v.a5 v.a6 v.a7)))
  .br z15.b0 (
   .leaf (⟨4, v.a4, v.a5⟩)) (
   let z16 := g29_0 (V29_0.mk ((S3.mk v.a2 v.a3 v.a4 v.a5 v.a6 v.a7)) (v.a0))
   .br (!(!z16.b0)) (
    .br (decide (0 ≤ v.a0) && decide (v.a0 < 2)) (
     .br (v.a0 == 0) (
      let z17 := g35_0 (V35_0.mk ((S3.mk v.a2 v.a3 v.a4 v.a5 v.a6 v.a7)) (v.a1))
      .br (!z17.b0) (
       .leaf (⟨5, v.a4, v.a5⟩)) (
       .br (decide (0 ≤ v.a0) && decide (v.a0 < 2)) (
        .br (v.a0 == 0) (
         .br (decide ((v.a4.length : Int) ≥ 32)) (
          .leaf (⟨3, v.a4, v.a5⟩)) (
          .br (decide (0 ≤ v.a0) && decide (v.a0 < 2)) (
           .br (v.a0 == 0) (
            .br (decide (0 ≤ v.a0) && decide (v.a0 < 2)) (
             .br (v.a0 == 0) (
              .br (decide (0 ≤ v.a1)) (
               .opt (v.a4[Int.toNat v.a1]?) fun y18 =>
                .opt (g32_0 (V32_0.mk (y18.f0) (v.a2) (v.a3) (v.a4) (v.a5) (v.a6) (v.a7))) fun z19 =>
                 .leaf (⟨0, z19.b0, v.a5⟩)) (
               .fail)) (
              .br (v.a0 == 1) (
               .br (decide (0 ≤ v.a1)) (
                .opt (v.a5[Int.toNat v.a1]?) fun y20 =>
                 .opt (g32_0 (V32_0.mk (y20.f0) (v.a2) (v.a3) (v.a4) (v.a5) (v.a6) (v.a7))) fun z21 =>
                  .leaf (⟨0, z21.b0, v.a5⟩)) (
                .fail)) (
               .fail))) (
             .fail)) (
            .br (v.a0 == 1) (
             .br (decide (0 ≤ v.a0) && decide (v.a0 < 2)) (
              .br (v.a0 == 0) (
               .br (decide (0 ≤ v.a1)) (
                .opt (v.a4[Int.toNat v.a1]?) fun y22 =>
                 .opt (g32_1 (V32_1.mk (y22.f0) (v.a2) (v.a3) (v.a4) (v.a5) (v.a6) (v.a7))) fun z23 =>
                  .leaf (⟨0, v.a4, z23.b0⟩)) (
                .fail)) (
               .br (v.a0 == 1) (
                .br (decide (0 ≤ v.a1)) (
                 .opt (v.a5[Int.toNat v.a1]?) fun y24 =>
                  .opt (g32_1 (V32_1.mk (y24.f0) (v.a2) (v.a3) (v.a4) (v.a5) (v.a6) (v.a7))) fun z25 =>
                   .leaf (⟨0, v.a4, z25.b0⟩)) (
                 .fail)) (
                .fail))) (
              .fail)) (
             .fail))) (
           .fail))) (
         .br (v.a0 == 1) (
          .br (decide ((v.a5.length : Int) ≥ 32)) (
           .leaf (⟨3, v.a4, v.a5⟩)) (
           .br (decide (0 ≤ v.a0) && decide (v.a0 < 2)) (
            .br (v.a0 == 0) (
             .br (decide (0 ≤ v.a0) && decide (v.a0 < 2)) (
              .br (v.a0 == 0) (
               .br (decide (0 ≤ v.a1)) (
                .opt (v.a4[Int.toNat v.a1]?) fun y26 =>
                 .opt (g32_0 (V32_0.mk (y26.f0) (v.a2) (v.a3) (v.a4) (v.a5) (v.a6) (v.a7))) fun z27 =>
                  .leaf (⟨0, z27.b0, v.a5⟩)) (
                .fail)) (
               .br (v.a0 == 1) (
                .br (decide (0 ≤ v.a1)) (
                 .opt (v.a5[Int.toNat v.a1]?) fun y28 =>
                  .opt (g32_0 (V32_0.mk (y28.f0) (v.a2) (v.a3) (v.a4) (v.a5) (v.a6) (v.a7))) fun z29 =>
                   .leaf (⟨0, z29.b0, v.a5⟩)) (
                 .fail)) (
                .fail))) (
              .fail)) (
             .br (v.a0 == 1) (
              .br (decide (0 ≤ v.a0) && decide (v.a0 < 2)) (
               .br (v.a0 == 0) (
                .br (decide (0 ≤ v.a1)) (
                 .opt (v.a4[Int.toNat v.a1]?) fun y30 =>
                  .opt (g32_1 (V32_1.mk (y30.f0) (v.a2) (v.a3) (v.a4) (v.a5) (v.a6) (v.a7))) fun z31 =>
                   .leaf (⟨0, v.a4, z31.b0⟩)) (
                 .fail)) (
                .br (v.a0 == 1) (
                 .br (decide (0 ≤ v.a1)) (
                  .opt (v.a5[Int.toNat v.a1]?) fun y32 =>
                   .opt (g32_1 (V32_1.mk (y32.f0) (v.a2) (v.a3) (v.a4) (v.a5) (v.a6) (v.a7))) fun z33 =>
                    .leaf (⟨0, v.a4, z33.b0⟩)) (
                  .fail)) (
                 .fail))) (
               .fail)) (
              .fail))) (
            .fail))) (
          .fail))) (
        .fail))) (
      .br (v.a0 == 1) (
       let z34 := g35_1 (V35_1.mk ((S3.mk v.a2 v.a3 v.a4 v.a5 v.a6 v.a7)) (v.a1))
       .br (!z34.b0) (
        .leaf (⟨5, v.a4, v.a5⟩)) (
        .br (decide (0 ≤ v.a0) && decide (v.a0 < 2)) (
         .br (v.a0 == 0) (
          .br (decide ((v.a4.length : Int) ≥ 32)) (
           .leaf (⟨3, v.a4, v.a5⟩)) (
           .br (decide (0 ≤ v.a0) && decide (v.a0 < 2)) (
            .br (v.a0 == 0) (
             .br (decide (0 ≤ v.a0) && decide (v.a0 < 2)) (
              .br (v.a0 == 0) (
               .br (decide (0 ≤ v.a1)) (
                .opt (v.a4[Int.toNat v.a1]?) fun y35 =>
                 .opt (g32_0 (V32_0.mk (y35.f0) (v.a2) (v.a3) (v.a4) (v.a5) (v.a6) (v.a7))) fun z36 =>
                  .leaf (⟨0, z36.b0, v.a5⟩)) (
                .fail)) (
               .br (v.a0 == 1) (
                .br (decide (0 ≤ v.a1)) (
                 .opt (v.a5[Int.toNat v.a1]?) fun y37 =>
                  .opt (g32_0 (V32_0.mk (y37.f0) (v.a2) (v.a3) (v.a4) (v.a5) (v.a6) (v.a7))) fun z38 =>
                   .leaf (⟨0, z38.b0, v.a5⟩)) (
                 .fail)) (
                .fail))) (
              .fail)) (
             .br (v.a0 == 1) (
              .br (decide (0 ≤ v.a0) && decide (v.a0 < 2)) (
               .br (v.a0 == 0) (
                .br (decide (0 ≤ v.a1)) (
                 .opt (v.a4[Int.toNat v.a1]?) fun y39 =>
                  .opt (g32_1 (V32_1.mk (y39.f0) (v.a2) (v.a3) (v.a4) (v.a5) (v.a6) (v.a7))) fun z40 =>
                   .leaf (⟨0, v.a4, z40.b0⟩)) (
                 .fail)) (
                .br (v.a0 == 1) (
                 .br (decide (0 ≤ v.a1)) (
                  .opt (v.a5[Int.toNat v.a1]?) fun y41 =>
                   .opt (g32_1 (V32_1.mk (y41.f0) (v.a2) (v.a3) (v.a4) (v.a5) (v.a6) (v.a7))) fun z42 =>
                    .leaf (⟨0, v.a4, z42.b0⟩)) (
                  .fail)) (
                 .fail))) (
               .fail)) (
              .fail))) (
            .fail))) (
          .br (v.a0 == 1) (
           .br (decide ((v.a5.length : Int) ≥ 32)) (
            .leaf (⟨3, v.a4, v.a5⟩)) (
            .br (decide (0 ≤ v.a0) && decide (v.a0 < 2)) (
             .br (v.a0 == 0) (
              .br (decide (0 ≤ v.a0) && decide (v.a0 < 2)) (
               .br (v.a0 == 0) (
                .br (decide (0 ≤ v.a1)) (
                 .opt (v.a4[Int.toNat v.a1]?) fun y43 =>
                  .opt (g32_0 (V32_0.mk (y43.f0) (v.a2) (v.a3) (v.a4) (v.a5) (v.a6) (v.a7))) fun z44 =>
                   .leaf (⟨0, z44.b0, v.a5⟩)) (
                 .fail)) (
                .br (v.a0 == 1) (
                 .br (decide (0 ≤ v.a1)) (
                  .opt (v.a5[Int.toNat v.a1]?) fun y45 =>
                   .opt (g32_0 (V32_0.mk (y45.f0) (v.a2) (v.a3) (v.a4) (v.a5) (v.a6) (v.a7))) fun z46 =>
                    .leaf (⟨0, z46.b0, v.a5⟩)) (
                  .fail)) (
                 .fail))) (
               .fail)) (
              .br (v.a0 == 1) (
               .br (decide (0 ≤ v.a0) && decide (v.a0 < 2)) (
                .br (v.a0 == 0) (
                 .br (decide (0 ≤ v.a1)) (
                  .opt (v.a4[Int.toNat v.a1]?) fun y47 =>
                   .opt (g32_1 (V32_1.mk (y47.f0) (v.a2) (v.a3) (v.a4) (v.a5) (v.a6) (v.a7))) fun z48 =>
                    .leaf (⟨0, v.a4, z48.b0⟩)) (
                  .fail)) (
                 .br (v.a0 == 1) (
                  .br (decide (0 ≤ v.a1)) (
                   .opt (v.a5[Int.toNat v.a1]?) fun y49 =>
                    .opt (g32_1 (V32_1.mk (y49.f0) (v.a2) (v.a3) (v.a4) (v.a5) (v.a6) (v.a7))) fun z50 =>
                     .leaf (⟨0, v.a4, z50.b0⟩)) (
                   .fail)) (
                  .fail))) (
                .fail)) (
               .fail))) (
             .fail))) (
           .fail))) (
         .fail))) (
       .fail))) (
     .fail)) (
    .leaf (⟨5, v.a4, v.a5⟩)))
def g13_0 (v : V13_0) : Option Y13_0 := (g13_0T v).get?
def k13_0 (v : V13_0) (r : Y13_0) : AV × List Blk := (.c (.int .i64 r.b0), [.cells [.bool v.a2, .bool v.a3, .rs 2 r.b1, .rs 2 r.b2, .rs 2 v.a6, .rs 2 v.a7]])
noncomputable def q13_0 : Ab.Spec := runQh 1 e13 (lookT []) Go.Proofs.Try.f13
theorem q13_0_ok : SpecOk Go.Proofs.Try.prog 13 q13_0 := runQh_ok (runR_ok (e := e13) follows (allTI ti_ok _ _ _ _ _) (callsOk_cons s34_ok (callsOk_cons s29_ok (callsOk_cons s35_ok (callsOk_cons s32_ok (callsOk_cons s41_ok (callsOk_cons s40_ok (callsOk_nil))))))) Go.Proofs.Try.func13 Go.Proofs.Try.call13) (fun c hc => by
  have hb : c = Go.Proofs.Try.f13.body.getD .skip := by rw [hc]; rfl
  subst hb
  exact tab_nil)
theorem g13_0_run (v : V13_0) : (q13_0 (hS13_0 v).tmps (hS13_0 v).heap).eval = (g13_0T v).ev (k13_0 v) := by kernel_rfl
noncomputable def sp13_0 (v : V13_0) : Res (AV × List Blk) := .opt (g13_0 v) fun r => .val (k13_0 v r)
theorem sp13_0_ok (v : V13_0) (r : AV × List Blk) (h : (sp13_0 v).eval = some r) : (q13_0 (hS13_0 v).tmps (hS13_0 v).heap).eval = some r := by
  rw [g13_0_run, Tr.ev_get?]
  unfold sp13_0 at h
  rw [eval_opt] at h
  obtain ⟨z, hz, h⟩ := Option.bind_eq_some_iff.mp h
  unfold g13_0 at hz
  rw [hz]; exact h
structure V13_1 where
  a0 : Int
  a1 : Int
structure Y13_1 where

  deriving Inhabited
def hS13_1 (v : V13_1) : St := ⟨[.c (.nilp), .c (.int .i64 v.a0), .c (.int .i64 v.a1)], []⟩
def iS13_1 (s : St) : V13_1 := ⟨iC (aC (s.tmps.getD 1 .top)), iC (aC (s.tmps.getD 2 .top))⟩
def aS13_1 : List PA := [.c (.nilp), .c (.int .i64), .c (.int .i64)]
def bS13_1 : List PB := []
def g13_1T (v : V13_1) : Tr Y13_1 :=
  .leaf (⟨⟩)
def g13_1 (v : V13_1) : Y13_1 := (g13_1T v).get default
def k13_1 (v : V13_1) (r : Y13_1) : AV × List Blk := (.c (.int .i64 4), [])
noncomputable def q13_1 : Ab.Spec := runQh 0 e13 (lookT []) Go.Proofs.Try.f13
theorem q13_1_ok : SpecOk Go.Proofs.Try.prog 13 q13_1 := runQh_ok (runR_ok (e := e13) follows (allTI ti_ok _ _ _ _ _) (callsOk_cons s34_ok (callsOk_cons s29_ok (callsOk_cons s35_ok (callsOk_cons s32_ok (callsOk_cons s41_ok (callsOk_cons s40_ok (callsOk_nil))))))) Go.Proofs.Try.func13 Go.Proofs.Try.call13) (fun c hc => by
  have hb : c = Go.Proofs.Try.f13.body.getD .skip := by rw [hc]; rfl
  subst hb
  exact tab_nil)
theorem g13_1_run (v : V13_1) : (q13_1 (hS13_1 v).tmps (hS13_1 v).heap).eval = (g13_1T v).ev (k13_1 v) := by kernel_rfl
noncomputable def sp13_1 (v : V13_1) : Res (AV × List Blk) := let r := g13_1 v; .val (k13_1 v r)
theorem sp13_1_ok (v : V13_1) (r : AV × List Blk) (h : (sp13_1 v).eval = some r) : (q13_1 (hS13_1 v).tmps (hS13_1 v).heap).eval = some r := by
  rw [g13_1_run, Tr.ev_get (d := default) (by kernel_rfl)]
  exact h
noncomputable def s13 : Ab.Spec := shapeS aS13_1 bS13_1 (fun args h => sp13_1 (iS13_1 ⟨args, h⟩)) (shapeS aS13_0 bS13_0 (fun args h => sp13_0 (iS13_0 ⟨args, h⟩)) (runR e13 Go.Proofs.Try.f13))
theorem s13_ok : SpecOk Go.Proofs.Try.prog 13 s13 := shape_ok hS13_1 iS13_1 q13_1_ok (shape_ok hS13_0 iS13_0 q13_0_ok ((runR_ok (e := e13) follows (allTI ti_ok _ _ _ _ _) (callsOk_cons s34_ok (callsOk_cons s29_ok (callsOk_cons s35_ok (callsOk_cons s32_ok (callsOk_cons s41_ok (callsOk_cons s40_ok (callsOk_nil))))))) Go.Proofs.Try.func13 Go.Proofs.Try.call13)) (fun s => by kernel_rfl) sp13_0_ok) (fun s => by kernel_rfl) sp13_1_ok
/-- slices.Delete[[][]byte,[]byte] -/
def rn42 : Go.Shelf.Ren := ⟨fun _ => 42, fun t => match t with | 0 => 0 | 3 => 3 | 4 => 4 | 22 => 26 | 23 => 28 | _ => 0, fun n => n⟩
theorem lay42 : Go.Proofs.SlLaysE.n45 Go.Proofs.Try.prog rn42 where
  mixed := follows
  f45 := ⟨"slices.Delete[[][]byte,[]byte]", by kernel_rfl, by kernel_rfl⟩
  t0 := by kernel_rfl
  a0 := fun w => by kernel_rfl
  z0 := fun w => by kernel_rfl
  v0 := fun w => by kernel_rfl
  t3 := by kernel_rfl
  a3 := fun w => by kernel_rfl
  z3 := fun w => by kernel_rfl
  v3 := fun w => by kernel_rfl
  t4 := by kernel_rfl
  a4 := fun w => by kernel_rfl
  z4 := fun w => by kernel_rfl
  v4 := fun w => by kernel_rfl
  t22 := by kernel_rfl
  a22 := fun w => by kernel_rfl
  z22 := fun w => by kernel_rfl
  v22 := fun w => by kernel_rfl
  a23 := fun w => by kernel_rfl
  z23 := fun w => by kernel_rfl
noncomputable def s42 : Ab.Spec := delS 2
theorem s42_ok : SpecOk Go.Proofs.Try.prog 42 s42 := del_ok lay42 rfl (fun w => by kernel_rfl) (by kernel_rfl) (fun x => ⟨_, _, rfl⟩) Go.Proofs.Try.call42
/-- (*pontage/wire.row).take -/
noncomputable def L33 : SL := [(41, .byNew, s41), (42, .byHeap, s42)]
noncomputable def e33 : Env := ⟨ti, fun g => lookS g L33, 1000000, [.drop 2, .drop 3, .drop 6, .drop 7, .drop 8, .drop 9, .drop 10, .drop 14, .drop 15, .drop 16, .drop 17, .drop 18, .drop 19, .drop 20, .drop 21, .drop 22, .drop 23, .drop 24, .drop 25, .drop 26, .drop 27, .drop 28, .drop 29, .drop 30, .drop 31, .drop 32, .drop 33, .drop 34], [30], some [4, 5]⟩
structure W33_0 where
  a0 : Int
  a1 : Bool
  a2 : List S2
  a3 : Int
  a4 : Int
  a5 : Bool
  a6 : Bool
  a7 : List S2
  a8 : List S2
  a9 : List S2
  a10 : List S2
def hd33_0 (v : W33_0) : St := ⟨[.c (.ptr 0 2), .c (.int .i64 v.a0), .top, .top, .c (.nils), .c (.bool v.a1), .top, .top, .top, .top, .top, .c (.rs 2 v.a2), .c (.int .i64 v.a3), .c (.int .i64 v.a4), .top, .top, .top, .top, .top, .top, .top, .top, .top, .top, .top, .top, .top, .top, .top, .top, .top, .top, .top, .top, .top], [.cells [.bool v.a5, .bool v.a6, .rs 2 v.a7, .rs 2 v.a8, .rs 2 v.a9, .rs 2 v.a10]]⟩
structure U33_0 where
  a0 : List S0
  a1 : Bool
  a2 : Bool
  a3 : Bool
  a4 : List S2
  a5 : List S2
  a6 : List S2
  a7 : List S2
def hu33_0 (u : U33_0) : St := ⟨[.top, .top, .top, .top, .c (.rs 0 u.a0), .c (.bool u.a1), .top, .top, .top, .top, .top, .top, .top, .top, .top, .top, .top, .top, .top, .top, .top, .top, .top, .top, .top, .top, .top, .top, .top, .top, .top, .top, .top, .top, .top], [.cells [.bool u.a2, .bool u.a3, .rs 2 u.a4, .rs 2 u.a5, .rs 2 u.a6, .rs 2 u.a7]]⟩
def gR33_0 (v : W33_0) : Tr (W33_0 ⊕ (W33_0 ⊕ U33_0)) :=
  .br (decide (v.a4 < v.a3)) (
   .br (decide (0 ≤ v.a4)) (
    .opt (v.a2[Int.toNat v.a4]?) fun y53 =>
     .br (v.a4 != v.a0) (
      .leaf (.inl ({ v with a4 := (IntKind.i64.wrap (v.a4 + 1)) }))) (
      .br (v.a7.isEmpty || cloneB 2 24 v.a7) (
       .br (decide (0 ≤ v.a4) && decide (v.a4 ≤ (IntKind.i64.wrap (v.a4 + 1))) && decide ((IntKind.i64.wrap (v.a4 + 1)) ≤ (v.a7.length : Int)) && Nat.blt 0 v.a7.length) (
        .leaf (.inr (.inr ⟨y53.f0, true, v.a5, v.a6, (List.take (Int.toNat v.a4) v.a7 ++ List.drop (Int.toNat (IntKind.i64.wrap (v.a4 + 1))) v.a7), v.a8, v.a9, v.a10⟩))) (
        .fail)) (
       .fail))) (
    .fail)) (
   .leaf (.inr (.inl (v))))
structure W33_0v1 where
  a0 : Int
  a1 : Bool
  a2 : List S2
  a3 : Int
  a4 : Int
  a5 : Bool
  a6 : Bool
  a7 : List S2
  a8 : List S2
  a9 : List S2
  a10 : List S2
def hd33_0v1 (v : W33_0v1) : St := ⟨[.c (.ptr 0 3), .c (.int .i64 v.a0), .top, .top, .c (.nils), .c (.bool v.a1), .top, .top, .top, .top, .top, .c (.rs 2 v.a2), .c (.int .i64 v.a3), .c (.int .i64 v.a4), .top, .top, .top, .top, .top, .top, .top, .top, .top, .top, .top, .top, .top, .top, .top, .top, .top, .top, .top, .top, .top], [.cells [.bool v.a5, .bool v.a6, .rs 2 v.a7, .rs 2 v.a8, .rs 2 v.a9, .rs 2 v.a10]]⟩
structure U33_0v1 where
  a0 : List S0
  a1 : Bool
  a2 : Bool
  a3 : Bool
  a4 : List S2
  a5 : List S2
  a6 : List S2
  a7 : List S2
def hu33_0v1 (u : U33_0v1) : St := ⟨[.top, .top, .top, .top, .c (.rs 0 u.a0), .c (.bool u.a1), .top, .top, .top, .top, .top, .top, .top, .top, .top, .top, .top, .top, .top, .top, .top, .top, .top, .top, .top, .top, .top, .top, .top, .top, .top, .top, .top, .top, .top], [.cells [.bool u.a2, .bool u.a3, .rs 2 u.a4, .rs 2 u.a5, .rs 2 u.a6, .rs 2 u.a7]]⟩
def gR33_0v1 (v : W33_0v1) : Tr (W33_0v1 ⊕ (W33_0v1 ⊕ U33_0v1)) :=
  .br (decide (v.a4 < v.a3)) (
   .br (decide (0 ≤ v.a4)) (
    .opt (v.a2[Int.toNat v.a4]?) fun y59 =>
     .br (v.a4 != v.a0) (
      .leaf (.inl ({ v with a4 := (IntKind.i64.wrap (v.a4 + 1)) }))) (
      .br (v.a8.isEmpty || cloneB 2 24 v.a8) (
       .br (decide (0 ≤ v.a4) && decide (v.a4 ≤ (IntKind.i64.wrap (v.a4 + 1))) && decide ((IntKind.i64.wrap (v.a4 + 1)) ≤ (v.a8.length : Int)) && Nat.blt 0 v.a8.length) (
        .leaf (.inr (.inr ⟨y59.f0, true, v.a5, v.a6, v.a7, (List.take (Int.toNat v.a4) v.a8 ++ List.drop (Int.toNat (IntKind.i64.wrap (v.a4 + 1))) v.a8), v.a9, v.a10⟩))) (
        .fail)) (
       .fail))) (
    .fail)) (
   .leaf (.inr (.inl (v))))
structure W33_0v2 where
  a0 : Int
  a1 : Bool
  a2 : List S2
  a3 : Int
  a4 : Int
  a5 : Bool
  a6 : Bool
  a7 : List S2
  a8 : List S2
  a9 : List S2
  a10 : List S2
def hd33_0v2 (v : W33_0v2) : St := ⟨[.c (.ptr 0 4), .c (.int .i64 v.a0), .top, .top, .c (.nils), .c (.bool v.a1), .top, .top, .top, .top, .top, .c (.rs 2 v.a2), .c (.int .i64 v.a3), .c (.int .i64 v.a4), .top, .top, .top, .top, .top, .top, .top, .top, .top, .top, .top, .top, .top, .top, .top, .top, .top, .top, .top, .top, .top], [.cells [.bool v.a5, .bool v.a6, .rs 2 v.a7, .rs 2 v.a8, .rs 2 v.a9, .rs 2 v.a10]]⟩
structure U33_0v2 where
  a0 : List S0
  a1 : Bool
  a2 : Bool
  a3 : Bool
  a4 : List S2
  a5 : List S2
  a6 : List S2
  a7 : List S2
def hu33_0v2 (u : U33_0v2) : St := ⟨[.top, .top, .top, .top, .c (.rs 0 u.a0), .c (.bool u.a1), .top, .top, .top, .top, .top, .top, .top, .top, .top, .top, .top, .top, .top, .top, .top, .top, .top, .top, .top, .top, .top, .top, .top, .top, .top, .top, .top, .top, .top], [.cells [.bool u.a2, .bool u.a3, .rs 2 u.a4, .rs 2 u.a5, .rs 2 u.a6, .rs 2 u.a7]]⟩
def gR33_0v2 (v : W33_0v2) : Tr (W33_0v2 ⊕ (W33_0v2 ⊕ U33_0v2)) :=
  .br (decide (v.a4 < v.a3)) (
   .br (decide (0 ≤ v.a4)) (
    .opt (v.a2[Int.toNat v.a4]?) fun y67 =>
     .br (v.a4 != v.a0) (
      .leaf (.inl ({ v with a4 := (IntKind.i64.wrap (v.a4 + 1)) }))) (
      .br (v.a9.isEmpty || cloneB 2 24 v.a9) (
       .br (decide (0 ≤ v.a4) && decide (v.a4 ≤ (IntKind.i64.wrap (v.a4 + 1))) && decide ((IntKind.i64.wrap (v.a4 + 1)) ≤ (v.a9.length : Int)) && Nat.blt 0 v.a9.length) (
        .leaf (.inr (.inr ⟨y67.f0, true, v.a5, v.a6, v.a7, v.a8, (List.take (Int.toNat v.a4) v.a9 ++ List.drop (Int.toNat (IntKind.i64.wrap (v.a4 + 1))) v.a9), v.a10⟩))) (
        .fail)) (
       .fail))) (
    .fail)) (
   .leaf (.inr (.inl (v))))
structure W33_0v3 where
  a0 : Int
  a1 : Bool
  a2 : List S2
  a3 : Int
  a4 : Int
  a5 : Bool
  a6 : Bool
  a7 : List S2
  a8 : List S2
  a9 : List S2
  a10 : List S2
def hd33_0v3 (v : W33_0v3) : St := ⟨[.c (.ptr 0 5), .c (.int .i64 v.a0), .top, .top, .c (.nils), .c (.bool v.a1), .top, .top, .top, .top, .top, .c (.rs 2 v.a2), .c (.int .i64 v.a3), .c (.int .i64 v.a4), .top, .top, .top, .top, .top, .top, .top, .top, .top, .top, .top, .top, .top, .top, .top, .top, .top, .top, .top, .top, .top], [.cells [.bool v.a5, .bool v.a6, .rs 2 v.a7, .rs 2 v.a8, .rs 2 v.a9, .rs 2 v.a10]]⟩
structure U33_0v3 where
  a0 : List S0
  a1 : Bool
  a2 : Bool
  a3 : Bool
  a4 : List S2
  a5 : List S2
  a6 : List S2
  a7 : List S2
def hu33_0v3 (u : U33_0v3) : St := ⟨[.top, .top, .top, .top, .c (.rs 0 u.a0), .c (.bool u.a1), .top, .top, .top, .top, .top, .top, .top, .top, .top, .top, .top, .top, .top, .top, .top, .top, .top, .top, .top, .top, .top, .top, .top, .top, .top, .top, .top, .top, .top], [.cells [.bool u.a2, .bool u.a3, .rs 2 u.a4, .rs 2 u.a5, .rs 2 u.a6, .rs 2 u.a7]]⟩
def gR33_0v3 (v : W33_0v3) : Tr (W33_0v3 ⊕ (W33_0v3 ⊕ U33_0v3)) :=
  .br (decide (v.a4 < v.a3)) (
   .br (decide (0 ≤ v.a4)) (
    .opt (v.a2[Int.toNat v.a4]?) fun y73 =>
     .br (v.a4 != v.a0) (
      .leaf (.inl ({ v with a4 := (IntKind.i64.wrap (v.a4 + 1)) }))) (
      .br (v.a10.isEmpty || cloneB 2 24 v.a10) (
       .br (decide (0 ≤ v.a4) && decide (v.a4 ≤ (IntKind.i64.wrap (v.a4 + 1))) && decide ((IntKind.i64.wrap (v.a4 + 1)) ≤ (v.a10.length : Int)) && Nat.blt 0 v.a10.length) (
        .leaf (.inr (.inr ⟨y73.f0, true, v.a5, v.a6, v.a7, v.a8, v.a9, (List.take (Int.toNat v.a4) v.a10 ++ List.drop (Int.toNat (IntKind.i64.wrap (v.a4 + 1))) v.a10)⟩))) (
        .fail)) (
       .fail))) (
    .fail)) (
   .leaf (.inr (.inl (v))))
noncomputable def lb33_0 : Code := match findB 0 (Go.Proofs.Try.f33.body.getD .skip) with | [.loop b] => b | _ => .skip
def pa33_0x0 : List PA := [.c (.ptr 0 2), .c (.int .i64), .any, .any, .c (.nils), .c (.bool), .any, .any, .any, .any, .any, .c (.rs 2), .c (.int .i64), .c (.int .i64), .any, .any, .any, .any, .any, .any, .any, .any, .any, .any, .any, .any, .any, .any, .any, .any, .any, .any, .any, .any, .any]
def pb33_0x0 : List PB := [.cells [.bool, .bool, .rs 2, .rs 2, .rs 2, .rs 2]]
def ini33_0x0 (s : St) : W33_0 := ⟨iC (aC (s.tmps.getD 1 .top)), bC (aC (s.tmps.getD 5 .top)), rC 2 (aC (s.tmps.getD 11 .top)), iC (aC (s.tmps.getD 12 .top)), iC (aC (s.tmps.getD 13 .top)), bC ((bL (s.heap.getD 0 .dead)).getD 0 .top), bC ((bL (s.heap.getD 0 .dead)).getD 1 .top), rC 2 ((bL (s.heap.getD 0 .dead)).getD 2 .top), rC 2 ((bL (s.heap.getD 0 .dead)).getD 3 .top), rC 2 ((bL (s.heap.getD 0 .dead)).getD 4 .top), rC 2 ((bL (s.heap.getD 0 .dead)).getD 5 .top)⟩
noncomputable def F33_0x0 : St → Res (Ex × St) := loopF2 pa33_0x0 pb33_0x0 1000000 hd33_0 hu33_0 gR33_0 ini33_0x0
theorem F33_0x0_ok (s : St) (r : Ex × St) (h : (F33_0x0 s).eval = some r) : (codeR e33 1 (.block 0 (.loop lb33_0)) s).eval = some r :=
  blk_ok2 (e := e33) (T := lookT []) (fun s v => by kernel_rfl) (fun s => by kernel_rfl) (tab_nil) s r h
def pa33_0x1 : List PA := [.c (.ptr 0 3), .c (.int .i64), .any, .any, .c (.nils), .c (.bool), .any, .any, .any, .any, .any, .c (.rs 2), .c (.int .i64), .c (.int .i64), .any, .any, .any, .any, .any, .any, .any, .any, .any, .any, .any, .any, .any, .any, .any, .any, .any, .any, .any, .any, .any]
def pb33_0x1 : List PB := [.cells [.bool, .bool, .rs 2, .rs 2, .rs 2, .rs 2]]
def ini33_0x1 (s : St) : W33_0v1 := ⟨iC (aC (s.tmps.getD 1 .top)), bC (aC (s.tmps.getD 5 .top)), rC 2 (aC (s.tmps.getD 11 .top)), iC (aC (s.tmps.getD 12 .top)), iC (aC (s.tmps.getD 13 .top)), bC ((bL (s.heap.getD 0 .dead)).getD 0 .top), bC ((bL (s.heap.getD 0 .dead)).getD 1 .top), rC 2 ((bL (s.heap.getD 0 .dead)).getD 2 .top), rC 2 ((bL (s.heap.getD 0 .dead)).getD 3 .top), rC 2 ((bL (s.heap.getD 0 .dead)).getD 4 .top), rC 2 ((bL (s.heap.getD 0 .dead)).getD 5 .top)⟩
noncomputable def F33_0x1 : St → Res (Ex × St) := loopF2 pa33_0x1 pb33_0x1 1000000 hd33_0v1 hu33_0v1 gR33_0v1 ini33_0x1
theorem F33_0x1_ok (s : St) (r : Ex × St) (h : (F33_0x1 s).eval = some r) : (codeR e33 1 (.block 0 (.loop lb33_0)) s).eval = some r :=
  blk_ok2 (e := e33) (T := lookT []) (fun s v => by kernel_rfl) (fun s => by kernel_rfl) (tab_nil) s r h
def pa33_0x2 : List PA := [.c (.ptr 0 4), .c (.int .i64), .any, .any, .c (.nils), .c (.bool), .any, .any, .any, .any, .any, .c (.rs 2), .c (.int .i64), .c (.int .i64), .any, .any, .any, .any, .any, .any, .any, .any, .any, .any, .any, .any, .any, .any, .any, .any, .any, .any, .any, .any, .any]
def pb33_0x2 : List PB := [.cells [.bool, .bool, .rs 2, .rs 2, .rs 2, .rs 2]]
def ini33_0x2 (s : St) : W33_0v2 := ⟨iC (aC (s.tmps.getD 1 .top)), bC (aC (s.tmps.getD 5 .top)), rC 2 (aC (s.tmps.getD 11 .top)), iC (aC (s.tmps.getD 12 .top)), iC (aC (s.tmps.getD 13 .top)), bC ((bL (s.heap.getD 0 .dead)).getD 0 .top), bC ((bL (s.heap.getD 0 .dead)).getD 1 .top), rC 2 ((bL (s.heap.getD 0 .dead)).getD 2 .top), rC 2 ((bL (s.heap.getD 0 .dead)).getD 3 .top), rC 2 ((bL (s.heap.getD 0 .dead)).getD 4 .top), rC 2 ((bL (s.heap.getD 0 .dead)).getD 5 .top)⟩
noncomputable def F33_0x2 : St → Res (Ex × St) := loopF2 pa33_0x2 pb33_0x2 1000000 hd33_0v2 hu33_0v2 gR33_0v2 ini33_0x2
theorem F33_0x2_ok (s : St) (r : Ex × St) (h : (F33_0x2 s).eval = some r) : (codeR e33 1 (.block 0 (.loop lb33_0)) s).eval = some r :=
  blk_ok2 (e := e33) (T := lookT []) (fun s v => by kernel_rfl) (fun s => by kernel_rfl) (tab_nil) s r h
def pa33_0x3 : List PA := [.c (.ptr 0 5), .c (.int .i64), .any, .any, .c (.nils), .c (.bool), .any, .any, .any, .any, .any, .c (.rs 2), .c (.int .i64), .c (.int .i64), .any, .any, .any, .any, .any, .any, .any, .any, .any, .any, .any, .any, .any, .any, .any, .any, .any, .any, .any, .any, .any]
def pb33_0x3 : List PB := [.cells [.bool, .bool, .rs 2, .rs 2, .rs 2, .rs 2]]
def ini33_0x3 (s : St) : W33_0v3 := ⟨iC (aC (s.tmps.getD 1 .top)), bC (aC (s.tmps.getD 5 .top)), rC 2 (aC (s.tmps.getD 11 .top)), iC (aC (s.tmps.getD 12 .top)), iC (aC (s.tmps.getD 13 .top)), bC ((bL (s.heap.getD 0 .dead)).getD 0 .top), bC ((bL (s.heap.getD 0 .dead)).getD 1 .top), rC 2 ((bL (s.heap.getD 0 .dead)).getD 2 .top), rC 2 ((bL (s.heap.getD 0 .dead)).getD 3 .top), rC 2 ((bL (s.heap.getD 0 .dead)).getD 4 .top), rC 2 ((bL (s.heap.getD 0 .dead)).getD 5 .top)⟩
noncomputable def F33_0x3 : St → Res (Ex × St) := loopF2 pa33_0x3 pb33_0x3 1000000 hd33_0v3 hu33_0v3 gR33_0v3 ini33_0x3
theorem F33_0x3_ok (s : St) (r : Ex × St) (h : (F33_0x3 s).eval = some r) : (codeR e33 1 (.block 0 (.loop lb33_0)) s).eval = some r :=
  blk_ok2 (e := e33) (T := lookT []) (fun s v => by kernel_rfl) (fun s => by kernel_rfl) (tab_nil) s r h
noncomputable def F33_0 : St → Res (Ex × St) := (orF pa33_0x0 pb33_0x0 F33_0x0 (orF pa33_0x1 pb33_0x1 F33_0x1 (orF pa33_0x2 pb33_0x2 F33_0x2 F33_0x3)))
theorem F33_0_ok (s : St) (r : Ex × St) (h : (F33_0 s).eval = some r) : (codeR e33 1 (.block 0 (.loop lb33_0)) s).eval = some r := (orF_ok F33_0x0_ok (orF_ok F33_0x1_ok (orF_ok F33_0x2_ok F33_0x3_ok))) s r h
structure V33_0 where
  a0 : Int
  a1 : Bool
  a2 : Bool
  a3 : List S2
  a4 : List S2
  a5 : List S2
  a6 : List S2
structure Y33_0 where
  b0 : List S0
  b1 : Bool
  b2 : Bool
  b3 : Bool
  b4 : List S2
  b5 : List S2
  b6 : List S2
  b7 : List S2
  deriving Inhabited
def hS33_0 (v : V33_0) : St := ⟨[.c (.ptr 0 2), .c (.int .i64 v.a0)], [.cells [.bool v.a1, .bool v.a2, .rs 2 v.a3, .rs 2 v.a4, .rs 2 v.a5, .rs 2 v.a6]]⟩
def iS33_0 (s : St) : V33_0 := ⟨iC (aC (s.tmps.getD 1 .top)), bC ((bL (s.heap.getD 0 .dead)).getD 0 .top), bC ((bL (s.heap.getD 0 .dead)).getD 1 .top), rC 2 ((bL (s.heap.getD 0 .dead)).getD 2 .top), rC 2 ((bL (s.heap.getD 0 .dead)).getD 3 .top), rC 2 ((bL (s.heap.getD 0 .dead)).getD 4 .top), rC 2 ((bL (s.heap.getD 0 .dead)).getD 5 .top)⟩
def aS33_0 : List PA := [.c (.ptr 0 2), .c (.int .i64)]
def bS33_0 : List PB := [.cells [.bool, .bool, .rs 2, .rs 2, .rs 2, .rs 2]]
def g33_0T (v : V33_0) : Tr Y33_0 :=
  .opt (iter2 gR33_0 1000000 (W33_0.mk (v.a0) (false) (v.a3) ((v.a3.length : Int)) (0) (v.a1) (v.a2) (v.a3) (v.a4) (v.a5) (v.a6))) fun r55 =>
   .br r55.isRight (
    .opt (r55.getRight?) fun u56 =>
     .leaf (⟨u56.a0, u56.a1, u56.a2, u56.a3, u56.a4, u56.a5, u56.a6, u56.a7⟩)) (
    .opt (r55.getLeft?) fun w57 =>
     .leaf (⟨[], false, w57.a5, w57.a6, w57.a7, w57.a8, w57.a9, w57.a10⟩))
def g33_0 (v : V33_0) : Option Y33_0 := (g33_0T v).get?
def k33_0 (v : V33_0) (r : Y33_0) : AV × List Blk := (.tup [some (false, [.rs 0 r.b0]), some (false, [.bool r.b1])], [.cells [.bool r.b2, .bool r.b3, .rs 2 r.b4, .rs 2 r.b5, .rs 2 r.b6, .rs 2 r.b7]])
noncomputable def q33_0 : Ab.Spec := frcR [[some 0], []] (runQh 1 e33 (lookT [(0, F33_0)]) Go.Proofs.Try.f33)
theorem q33_0_ok : SpecOk Go.Proofs.Try.prog 33 q33_0 := (runQh_ok (runR_ok (e := e33) follows (allTI ti_ok _ _ _ _ _) (callsOk_cons s41_ok (callsOk_cons s42_ok (callsOk_nil))) Go.Proofs.Try.func33 Go.Proofs.Try.call33) (fun c hc => by
  have hb : c = Go.Proofs.Try.f33.body.getD .skip := by rw [hc]; rfl
  subst hb
  exact tab_cons (by kernel_rfl) F33_0_ok (tab_nil))).forced [[some 0], []]
theorem g33_0_run (v : V33_0) : (q33_0 (hS33_0 v).tmps (hS33_0 v).heap).eval = (g33_0T v).ev (k33_0 v) := by kernel_rfl
noncomputable def sp33_0 (v : V33_0) : Res (AV × List Blk) := .opt (g33_0 v) fun r => .val (k33_0 v r)
theorem sp33_0_ok (v : V33_0) (r : AV × List Blk) (h : (sp33_0 v).eval = some r) : (q33_0 (hS33_0 v).tmps (hS33_0 v).heap).eval = some r := by
  rw [g33_0_run, Tr.ev_get?]
  unfold sp33_0 at h
  rw [eval_opt] at h
  obtain ⟨z, hz, h⟩ := Option.bind_eq_some_iff.mp h
  unfold g33_0 at hz
  rw [hz]; exact h
structure V33_1 where
  a0 : Int
  a1 : Bool
  a2 : Bool
  a3 : List S2
  a4 : List S2
  a5 : List S2
  a6 : List S2
structure Y33_1 where
  b0 : List S0
  b1 : Bool
  b2 : Bool
  b3 : Bool
  b4 : List S2
  b5 : List S2
  b6 : List S2
  b7 : List S2
  deriving Inhabited
def hS33_1 (v : V33_1) : St := ⟨[.c (.ptr 0 3), .c (.int .i64 v.a0)], [.cells [.bool v.a1, .bool v.a2, .rs 2 v.a3, .rs 2 v.a4, .rs 2 v.a5, .rs 2 v.a6]]⟩
def iS33_1 (s : St) : V33_1 := ⟨iC (aC (s.tmps.getD 1 .top)), bC ((bL (s.heap.getD 0 .dead)).getD 0 .top), bC ((bL (s.heap.getD 0 .dead)).getD 1 .top), rC 2 ((bL (s.heap.getD 0 .dead)).getD 2 .top), rC 2 ((bL (s.heap.getD 0 .dead)).getD 3 .top), rC 2 ((bL (s.heap.getD 0 .dead)).getD 4 .top), rC 2 ((bL (s.heap.getD 0 .dead)).getD 5 .top)⟩
def aS33_1 : List PA := [.c (.ptr 0 3), .c (.int .i64)]
def bS33_1 : List PB := [.cells [.bool, .bool, .rs 2, .rs 2, .rs 2, .rs 2]]
def g33_1T (v : V33_1) : Tr Y33_1 :=
  .opt (iter2 gR33_0v1 1000000 (W33_0v1.mk (v.a0) (false) (v.a4) ((v.a4.length : Int)) (0) (v.a1) (v.a2) (v.a3) (v.a4) (v.a5) (v.a6))) fun r61 =>
   .br r61.isRight (
    .opt (r61.getRight?) fun u62 =>
     .leaf (⟨u62.a0, u62.a1, u62.a2, u62.a3, u62.a4, u62.a5, u62.a6, u62.a7⟩)) (
    .opt (r61.getLeft?) fun w63 =>
     .leaf (⟨[], false, w63.a5, w63.a6, w63.a7, w63.a8, w63.a9, w63.a10⟩))
def g33_1 (v : V33_1) : Option Y33_1 := (g33_1T v).get?
def k33_1 (v : V33_1) (r : Y33_1) : AV × List Blk := (.tup [some (false, [.rs 0 r.b0]), some (false, [.bool r.b1])], [.cells [.bool r.b2, .bool r.b3, .rs 2 r.b4, .rs 2 r.b5, .rs 2 r.b6, .rs 2 r.b7]])
noncomputable def q33_1 : Ab.Spec := frcR [[some 0], []] (runQh 1 e33 (lookT [(0, F33_0)]) Go.Proofs.Try.f33)
theorem q33_1_ok : SpecOk Go.Proofs.Try.prog 33 q33_1 := (runQh_ok (runR_ok (e := e33) follows (allTI ti_ok _ _ _ _ _) (callsOk_cons s41_ok (callsOk_cons s42_ok (callsOk_nil))) Go.Proofs.Try.func33 Go.Proofs.Try.call33) (fun c hc => by
  have hb : c = Go.Proofs.Try.f33.body.getD .skip := by rw [hc]; rfl
  subst hb
  exact tab_cons (by kernel_rfl) F33_0_ok (tab_nil))).forced [[some 0], []]
theorem g33_1_run (v : V33_1) : (q33_1 (hS33_1 v).tmps (hS33_1 v).heap).eval = (g33_1T v).ev (k33_1 v) := by kernel_rfl
noncomputable def sp33_1 (v : V33_1) : Res (AV × List Blk) := .opt (g33_1 v) fun r => .val (k33_1 v r)
theorem sp33_1_ok (v : V33_1) (r : AV × List Blk) (h : (sp33_1 v).eval = some r) : (q33_1 (hS33_1 v).tmps (hS33_1 v).heap).eval = some r := by
  rw [g33_1_run, Tr.ev_get?]
  unfold sp33_1 at h
  rw [eval_opt] at h
  obtain ⟨z, hz, h⟩ := Option.bind_eq_some_iff.mp h
  unfold g33_1 at hz
  rw [hz]; exact h
structure V33_2 where
  a0 : Int
  a1 : Bool
  a2 : Bool
  a3 : List S2
  a4 : List S2
  a5 : List S2
  a6 : List S2
structure Y33_2 where
  b0 : List S0
  b1 : Bool
  b2 : Bool
  b3 : Bool
  b4 : List S2
  b5 : List S2
  b6 : List S2
  b7 : List S2
  deriving Inhabited
def hS33_2 (v : V33_2) : St := ⟨[.c (.ptr 0 4), .c (.int .i64 v.a0)], [.cells [.bool v.a1, .bool v.a2, .rs 2 v.a3, .rs 2 v.a4, .rs 2 v.a5, .rs 2 v.a6]]⟩
def iS33_2 (s : St) : V33_2 := ⟨iC (aC (s.tmps.getD 1 .top)), bC ((bL (s.heap.getD 0 .dead)).getD 0 .top), bC ((bL (s.heap.getD 0 .dead)).getD 1 .top), rC 2 ((bL (s.heap.getD 0 .dead)).getD 2 .top), rC 2 ((bL (s.heap.getD 0 .dead)).getD 3 .top), rC 2 ((bL (s.heap.getD 0 .dead)).getD 4 .top), rC 2 ((bL (s.heap.getD 0 .dead)).getD 5 .top)⟩
def aS33_2 : List PA := [.c (.ptr 0 4), .c (.int .i64)]
def bS33_2 : List PB := [.cells [.bool, .bool, .rs 2, .rs 2, .rs 2, .rs 2]]
def g33_2T (v : V33_2) : Tr Y33_2 :=
  .opt (iter2 gR33_0v2 1000000 (W33_0v2.mk (v.a0) (false) (v.a5) ((v.a5.length : Int)) (0) (v.a1) (v.a2) (v.a3) (v.a4) (v.a5) (v.a6))) fun r69 =>
   .br r69.isRight (
    .opt (r69.getRight?) fun u70 =>
     .leaf (⟨u70.a0, u70.a1, u70.a2, u70.a3, u70.a4, u70.a5, u70.a6, u70.a7⟩)) (
    .opt (r69.getLeft?) fun w71 =>
     .leaf (⟨[], false, w71.a5, w71.a6, w71.a7, w71.a8, w71.a9, w71.a10⟩))
def g33_2 (v : V33_2) : Option Y33_2 := (g33_2T v).get?
def k33_2 (v : V33_2) (r : Y33_2) : AV × List Blk := (.tup [some (false, [.rs 0 r.b0]), some (false, [.bool r.b1])], [.cells [.bool r.b2, .bool r.b3, .rs 2 r.b4, .rs 2 r.b5, .rs 2 r.b6, .rs 2 r.b7]])
noncomputable def q33_2 : Ab.Spec := frcR [[some 0], []] (runQh 1 e33 (lookT [(0, F33_0)]) Go.Proofs.Try.f33)
theorem q33_2_ok : SpecOk Go.Proofs.Try.prog 33 q33_2 := (runQh_ok (runR_ok (e := e33) follows (allTI ti_ok _ _ _ _ _) (callsOk_cons s41_ok (callsOk_cons s42_ok (callsOk_nil))) Go.Proofs.Try.func33 Go.Proofs.Try.call33) (fun c hc => by
  have hb : c = Go.Proofs.Try.f33.body.getD .skip := by rw [hc]; rfl
  subst hb
  exact tab_cons (by kernel_rfl) F33_0_ok (tab_nil))).forced [[some 0], []]
theorem g33_2_run (v : V33_2) : (q33_2 (hS33_2 v).tmps (hS33_2 v).heap).eval = (g33_2T v).ev (k33_2 v) := by kernel_rfl
noncomputable def sp33_2 (v : V33_2) : Res (AV × List Blk) := .opt (g33_2 v) fun r => .val (k33_2 v r)
theorem sp33_2_ok (v : V33_2) (r : AV × List Blk) (h : (sp33_2 v).eval = some r) : (q33_2 (hS33_2 v).tmps (hS33_2 v).heap).eval = some r := by
  rw [g33_2_run, Tr.ev_get?]
  unfold sp33_2 at h
  rw [eval_opt] at h
  obtain ⟨z, hz, h⟩ := Option.bind_eq_some_iff.mp h
  unfold g33_2 at hz
  rw [hz]; exact h
structure V33_3 where
  a0 : Int
  a1 : Bool
  a2 : Bool
  a3 : List S2
  a4 : List S2
  a5 : List S2
  a6 : List S2
structure Y33_3 where
  b0 : List S0
  b1 : Bool
  b2 : Bool
  b3 : Bool
  b4 : List S2
  b5 : List S2
  b6 : List S2
  b7 : List S2
  deriving Inhabited
def hS33_3 (v : V33_3) : St := ⟨[.c (.ptr 0 5), .c (.int .i64 v.a0)], [.cells [.bool v.a1, .bool v.a2, .rs 2 v.a3, .rs 2 v.a4, .rs 2 v.a5, .rs 2 v.a6]]⟩
def iS33_3 (s : St) : V33_3 := ⟨iC (aC (s.tmps.getD 1 .top)), bC ((bL (s.heap.getD 0 .dead)).getD 0 .top), bC ((bL (s.heap.getD 0 .dead)).getD 1 .top), rC 2 ((bL (s.heap.getD 0 .dead)).getD 2 .top), rC 2 ((bL (s.heap.getD 0 .dead)).getD 3 .top), rC 2 ((bL (s.heap.getD 0 .dead)).getD 4 .top), rC 2 ((bL (s.heap.getD 0 .dead)).getD 5 .top)⟩
def aS33_3 : List PA := [.c (.ptr 0 5), .c (.int .i64)]
def bS33_3 : List PB := [.cells [.bool, .bool, .rs 2, .rs 2, .rs 2, .rs 2]]
def g33_3T (v : V33_3) : Tr Y33_3 :=
  .opt (iter2 gR33_0v3 1000000 (W33_0v3.mk (v.a0) (false) (v.a6) ((v.a6.length : Int)) (0) (v.a1) (v.a2) (v.a3) (v.a4) (v.a5) (v.a6))) fun r75 =>
   .br r75.isRight (
    .opt (r75.getRight?) fun u76 =>
     .leaf (⟨u76.a0, u76.a1, u76.a2, u76.a3, u76.a4, u76.a5, u76.a6, u76.a7⟩)) (
    .opt (r75.getLeft?) fun w77 =>
     .leaf (⟨[], false, w77.a5, w77.a6, w77.a7, w77.a8, w77.a9, w77.a10⟩))
def g33_3 (v : V33_3) : Option Y33_3 := (g33_3T v).get?
def k33_3 (v : V33_3) (r : Y33_3) : AV × List Blk := (.tup [some (false, [.rs 0 r.b0]), some (false, [.bool r.b1])], [.cells [.bool r.b2, .bool r.b3, .rs 2 r.b4, .rs 2 r.b5, .rs 2 r.b6, .rs 2 r.b7]])
noncomputable def q33_3 : Ab.Spec := frcR [[some 0], []] (runQh 1 e33 (lookT [(0, F33_0)]) Go.Proofs.Try.f33)
theorem q33_3_ok : SpecOk Go.Proofs.Try.prog 33 q33_3 := (runQh_ok (runR_ok (e := e33) follows (allTI ti_ok _ _ _ _ _) (callsOk_cons s41_ok (callsOk_cons s42_ok (callsOk_nil))) Go.Proofs.Try.func33 Go.Proofs.Try.call33) (fun c hc => by
  have hb : c = Go.Proofs.Try.f33.body.getD .skip := by rw [hc]; rfl
  subst hb
  exact tab_cons (by kernel_rfl) F33_0_ok (tab_nil))).forced [[some 0], []]
theorem g33_3_run (v : V33_3) : (q33_3 (hS33_3 v).tmps (hS33_3 v).heap).eval = (g33_3T v).ev (k33_3 v) := by kernel_rfl
noncomputable def sp33_3 (v : V33_3) : Res (AV × List Blk) := .opt (g33_3 v) fun r => .val (k33_3 v r)
theorem sp33_3_ok (v : V33_3) (r : AV × List Blk) (h : (sp33_3 v).eval = some r) : (q33_3 (hS33_3 v).tmps (hS33_3 v).heap).eval = some r := by
  rw [g33_3_run, Tr.ev_get?]
  unfold sp33_3 at h
  rw [eval_opt] at h
  obtain ⟨z, hz, h⟩ := Option.bind_eq_some_iff.mp h
  unfold g33_3 at hz
  rw [hz]; exact h
noncomputable def s33 : Ab.Spec := shapeS aS33_3 bS33_3 (fun args h => sp33_3 (iS33_3 ⟨args, h⟩)) (shapeS aS33_2 bS33_2 (fun args h => sp33_2 (iS33_2 ⟨args, h⟩)) (shapeS aS33_1 bS33_1 (fun args h => sp33_1 (iS33_1 ⟨args, h⟩)) (shapeS aS33_0 bS33_0 (fun args h => sp33_0 (iS33_0 ⟨args, h⟩)) (frcR [[some 0], []] (runR e33 Go.Proofs.Try.f33)))))
theorem s33_ok : SpecOk Go.Proofs.Try.prog 33 s33 := shape_ok hS33_3 iS33_3 q33_3_ok (shape_ok hS33_2 iS33_2 q33_2_ok (shape_ok hS33_1 iS33_1 q33_1_ok (shape_ok hS33_0 iS33_0 q33_0_ok (((runR_ok (e := e33) follows (allTI ti_ok _ _ _ _ _) (callsOk_cons s41_ok (callsOk_cons s42_ok (callsOk_nil))) Go.Proofs.Try.func33 Go.Proofs.Try.call33)).forced [[some 0], []]) (fun s => by kernel_rfl) sp33_0_ok) (fun s => by kernel_rfl) sp33_1_ok) (fun s => by kernel_rfl) sp33_2_ok) (fun s => by kernel_rfl) sp33_3_ok
/-- (*pontage/wire.Wire).Take -/
noncomputable def L12 : SL := [(29, .byRead [some 3, none], s29), (33, .byHeap, s33), (41, .byNew, s41), (42, .byHeap, s42)]
noncomputable def e12 : Env := ⟨ti, fun g => lookS g L12, 1000000, [], [], none⟩
structure V12_0 where
  a0 : Int
  a1 : Int
  a2 : Bool
  a3 : Bool
  a4 : List S2
  a5 : List S2
  a6 : List S2
  a7 : List S2
structure Y12_0 where
  b0 : List S0
  b1 : Bool
  b2 : Bool
  b3 : Bool
  b4 : List S2
  b5 : List S2
  b6 : List S2
  b7 : List S2
  deriving Inhabited
def hS12_0 (v : V12_0) : St := ⟨[.c (.ptr 0 0), .c (.int .i64 v.a0), .c (.int .i64 v.a1)], [.cells [.bool v.a2, .bool v.a3, .rs 2 v.a4, .rs 2 v.a5, .rs 2 v.a6, .rs 2 v.a7]]⟩
def iS12_0 (s : St) : V12_0 := ⟨iC (aC (s.tmps.getD 1 .top)), iC (aC (s.tmps.getD 2 .top)), bC ((bL (s.heap.getD 0 .dead)).getD 0 .top), bC ((bL (s.heap.getD 0 .dead)).getD 1 .top), rC 2 ((bL (s.heap.getD 0 .dead)).getD 2 .top), rC 2 ((bL (s.heap.getD 0 .dead)).getD 3 .top), rC 2 ((bL (s.heap.getD 0 .dead)).getD 4 .top), rC 2 ((bL (s.heap.getD 0 .dead)).getD 5 .top)⟩
def aS12_0 : List PA := [.c (.ptr 0 0), .c (.int .i64), .c (.int .i64)]
def bS12_0 : List PB := [.cells [.bool, .bool, .rs 2, .rs 2, .rs 2, .rs 2]]
def g12_0T (v : V12_0) : Tr Y12_0 :=
  let z52 := g29_0 (V29_0.mk ((S3.mk v.a2 v.a3 v.a4 v.a5 v.a6 v.a7)) (v.a0))
  .br (!z52.b0) (
   .leaf (⟨[], false, v.a2, v.a3, v.a4, v.a5, v.a6, v.a7⟩)) (
   .br (decide (0 ≤ v.a0) && decide (v.a0 < 2)) (
    .br (v.a0 == 0) (
     .opt (g33_0 (V33_0.mk (v.a1) (v.a2) (v.a3) (v.a4) (v.a5) (v.a6) (v.a7))) fun z58 =>
      .leaf (⟨z58.b0, z58.b1, z58.b2, z58.b3, z58.b4, z58.b5, z58.b6, z58.b7⟩)) (
     .br (v.a0 == 1) (
      .opt (g33_1 (V33_1.mk (v.a1) (v.a2) (v.a3) (v.a4) (v.a5) (v.a6) (v.a7))) fun z64 =>
       .leaf (⟨z64.b0, z64.b1, z64.b2, z64.b3, z64.b4, z64.b5, z64.b6, z64.b7⟩)) (
      .fail))) (
    .fail))
def g12_0 (v : V12_0) : Option Y12_0 := (g12_0T v).get?
def k12_0 (v : V12_0) (r : Y12_0) : AV × List Blk := (.tup [some (false, [.rs 0 r.b0]), some (false, [.bool r.b1])], [.cells [.bool r.b2, .bool r.b3, .rs 2 r.b4, .rs 2 r.b5, .rs 2 r.b6, .rs 2 r.b7]])
noncomputable def q12_0 : Ab.Spec := frcR [[some 0], []] (runQh 1 e12 (lookT []) Go.Proofs.Try.f12)
theorem q12_0_ok : SpecOk Go.Proofs.Try.prog 12 q12_0 := (runQh_ok (runR_ok (e := e12) follows (allTI ti_ok _ _ _ _ _) (callsOk_cons s29_ok (callsOk_cons s33_ok (callsOk_cons s41_ok (callsOk_cons s42_ok (callsOk_nil))))) Go.Proofs.Try.func12 Go.Proofs.Try.call12) (fun c hc => by
  have hb : c = Go.Proofs.Try.f12.body.getD .skip := by rw [hc]; rfl
  subst hb
  exact tab_nil)).forced [[some 0], []]
theorem g12_0_run (v : V12_0) : (q12_0 (hS12_0 v).tmps (hS12_0 v).heap).eval = (g12_0T v).ev (k12_0 v) := by kernel_rfl
noncomputable def sp12_0 (v : V12_0) : Res (AV × List Blk) := .opt (g12_0 v) fun r => .val (k12_0 v r)
theorem sp12_0_ok (v : V12_0) (r : AV × List Blk) (h : (sp12_0 v).eval = some r) : (q12_0 (hS12_0 v).tmps (hS12_0 v).heap).eval = some r := by
  rw [g12_0_run, Tr.ev_get?]
  unfold sp12_0 at h
  rw [eval_opt] at h
  obtain ⟨z, hz, h⟩ := Option.bind_eq_some_iff.mp h
  unfold g12_0 at hz
  rw [hz]; exact h
structure V12_1 where
  a0 : Int
  a1 : Int
structure Y12_1 where
  b0 : List S0
  deriving Inhabited
def hS12_1 (v : V12_1) : St := ⟨[.c (.nilp), .c (.int .i64 v.a0), .c (.int .i64 v.a1)], []⟩
def iS12_1 (s : St) : V12_1 := ⟨iC (aC (s.tmps.getD 1 .top)), iC (aC (s.tmps.getD 2 .top))⟩
def aS12_1 : List PA := [.c (.nilp), .c (.int .i64), .c (.int .i64)]
def bS12_1 : List PB := []
def g12_1T (v : V12_1) : Tr Y12_1 :=
  .leaf (⟨[]⟩)
def g12_1 (v : V12_1) : Y12_1 := (g12_1T v).get default
def k12_1 (v : V12_1) (r : Y12_1) : AV × List Blk := (.tup [some (false, [.rs 0 r.b0]), some (false, [.bool false])], [])
noncomputable def q12_1 : Ab.Spec := frcR [[some 0], []] (runQh 0 e12 (lookT []) Go.Proofs.Try.f12)
theorem q12_1_ok : SpecOk Go.Proofs.Try.prog 12 q12_1 := (runQh_ok (runR_ok (e := e12) follows (allTI ti_ok _ _ _ _ _) (callsOk_cons s29_ok (callsOk_cons s33_ok (callsOk_cons s41_ok (callsOk_cons s42_ok (callsOk_nil))))) Go.Proofs.Try.func12 Go.Proofs.Try.call12) (fun c hc => by
  have hb : c = Go.Proofs.Try.f12.body.getD .skip := by rw [hc]; rfl
  subst hb
  exact tab_nil)).forced [[some 0], []]
theorem g12_1_run (v : V12_1) : (q12_1 (hS12_1 v).tmps (hS12_1 v).heap).eval = (g12_1T v).ev (k12_1 v) := by kernel_rfl
noncomputable def sp12_1 (v : V12_1) : Res (AV × List Blk) := let r := g12_1 v; .val (k12_1 v r)
theorem sp12_1_ok (v : V12_1) (r : AV × List Blk) (h : (sp12_1 v).eval = some r) : (q12_1 (hS12_1 v).tmps (hS12_1 v).heap).eval = some r := by
  rw [g12_1_run, Tr.ev_get (d := default) (by kernel_rfl)]
  exact h
noncomputable def s12 : Ab.Spec := shapeS aS12_1 bS12_1 (fun args h => sp12_1 (iS12_1 ⟨args, h⟩)) (shapeS aS12_0 bS12_0 (fun args h => sp12_0 (iS12_0 ⟨args, h⟩)) (frcR [[some 0], []] (runR e12 Go.Proofs.Try.f12)))
theorem s12_ok : SpecOk Go.Proofs.Try.prog 12 s12 := shape_ok hS12_1 iS12_1 q12_1_ok (shape_ok hS12_0 iS12_0 q12_0_ok (((runR_ok (e := e12) follows (allTI ti_ok _ _ _ _ _) (callsOk_cons s29_ok (callsOk_cons s33_ok (callsOk_cons s41_ok (callsOk_cons s42_ok (callsOk_nil))))) Go.Proofs.Try.func12 Go.Proofs.Try.call12)).forced [[some 0], []]) (fun s => by kernel_rfl) sp12_0_ok) (fun s => by kernel_rfl) sp12_1_ok
/-- (*pontage/wire.Wire).Hear -/
noncomputable def L15 : SL := [(29, .byRead [some 3, none], s29), (33, .byHeap, s33), (41, .byNew, s41), (42, .byHeap, s42)]
noncomputable def e15 : Env := ⟨ti, fun g => lookS g L15, 1000000, [], [], none⟩
structure V15_0 where
  a0 : Int
  a1 : Bool
  a2 : Bool
  a3 : List S2
  a4 : List S2
  a5 : List S2
  a6 : List S2
structure Y15_0 where
  b0 : List S0
  b1 : Bool
  b2 : Bool
  b3 : Bool
  b4 : List S2
  b5 : List S2
  b6 : List S2
  b7 : List S2
  deriving Inhabited
def hS15_0 (v : V15_0) : St := ⟨[.c (.ptr 0 0), .c (.int .i64 v.a0)], [.cells [.bool v.a1, .bool v.a2, .rs 2 v.a3, .rs 2 v.a4, .rs 2 v.a5, .rs 2 v.a6]]⟩
def iS15_0 (s : St) : V15_0 := ⟨iC (aC (s.tmps.getD 1 .top)), bC ((bL (s.heap.getD 0 .dead)).getD 0 .top), bC ((bL (s.heap.getD 0 .dead)).getD 1 .top), rC 2 ((bL (s.heap.getD 0 .dead)).getD 2 .top), rC 2 ((bL (s.heap.getD 0 .dead)).getD 3 .top), rC 2 ((bL (s.heap.getD 0 .dead)).getD 4 .top), rC 2 ((bL (s.heap.getD 0 .dead)).getD 5 .top)⟩
def aS15_0 : List PA := [.c (.ptr 0 0), .c (.int .i64)]
def bS15_0 : List PB := [.cells [.bool, .bool, .rs 2, .rs 2, .rs 2, .rs 2]]
def g15_0T (v : V15_0) : Tr Y15_0 :=
  let z66 := g29_0 (V29_0.mk ((S3.mk v.a1 v.a2 v.a3 v.a4 v.a5 v.a6)) (v.a0))
  .br (!z66.b0) (
   .leaf (⟨[], false, v.a1, v.a2, v.a3, v.a4, v.a5, v.a6⟩)) (
   .br (decide (0 ≤ v.a0) && decide (v.a0 < 2)) (
    .br (v.a0 == 0) (
     .opt (g33_2 (V33_2.mk (0) (v.a1) (v.a2) (v.a3) (v.a4) (v.a5) (v.a6))) fun z72 =>
      .leaf (⟨z72.b0, z72.b1, z72.b2, z72.b3, z72.b4, z72.b5, z72.b6, z72.b7⟩)) (
     .br (v.a0 == 1) (
      .opt (g33_3 (V33_3.mk (0) (v.a1) (v.a2) (v.a3) (v.a4) (v.a5) (v.a6))) fun z78 =>
       .leaf (⟨z78.b0, z78.b1, z78.b2, z78.b3, z78.b4, z78.b5, z78.b6, z78.b7⟩)) (
      .fail))) (
    .fail))
def g15_0 (v : V15_0) : Option Y15_0 := (g15_0T v).get?
def k15_0 (v : V15_0) (r : Y15_0) : AV × List Blk := (.tup [some (false, [.rs 0 r.b0]), some (false, [.bool r.b1])], [.cells [.bool r.b2, .bool r.b3, .rs 2 r.b4, .rs 2 r.b5, .rs 2 r.b6, .rs 2 r.b7]])
noncomputable def q15_0 : Ab.Spec := frcR [[some 0], []] (runQh 1 e15 (lookT []) Go.Proofs.Try.f15)
theorem q15_0_ok : SpecOk Go.Proofs.Try.prog 15 q15_0 := (runQh_ok (runR_ok (e := e15) follows (allTI ti_ok _ _ _ _ _) (callsOk_cons s29_ok (callsOk_cons s33_ok (callsOk_cons s41_ok (callsOk_cons s42_ok (callsOk_nil))))) Go.Proofs.Try.func15 Go.Proofs.Try.call15) (fun c hc => by
  have hb : c = Go.Proofs.Try.f15.body.getD .skip := by rw [hc]; rfl
  subst hb
  exact tab_nil)).forced [[some 0], []]
theorem g15_0_run (v : V15_0) : (q15_0 (hS15_0 v).tmps (hS15_0 v).heap).eval = (g15_0T v).ev (k15_0 v) := by kernel_rfl
noncomputable def sp15_0 (v : V15_0) : Res (AV × List Blk) := .opt (g15_0 v) fun r => .val (k15_0 v r)
theorem sp15_0_ok (v : V15_0) (r : AV × List Blk) (h : (sp15_0 v).eval = some r) : (q15_0 (hS15_0 v).tmps (hS15_0 v).heap).eval = some r := by
  rw [g15_0_run, Tr.ev_get?]
  unfold sp15_0 at h
  rw [eval_opt] at h
  obtain ⟨z, hz, h⟩ := Option.bind_eq_some_iff.mp h
  unfold g15_0 at hz
  rw [hz]; exact h
structure V15_1 where
  a0 : Int
structure Y15_1 where
  b0 : List S0
  deriving Inhabited
def hS15_1 (v : V15_1) : St := ⟨[.c (.nilp), .c (.int .i64 v.a0)], []⟩
def iS15_1 (s : St) : V15_1 := ⟨iC (aC (s.tmps.getD 1 .top))⟩
def aS15_1 : List PA := [.c (.nilp), .c (.int .i64)]
def bS15_1 : List PB := []
def g15_1T (v : V15_1) : Tr Y15_1 :=
  .leaf (⟨[]⟩)
def g15_1 (v : V15_1) : Y15_1 := (g15_1T v).get default
def k15_1 (v : V15_1) (r : Y15_1) : AV × List Blk := (.tup [some (false, [.rs 0 r.b0]), some (false, [.bool false])], [])
noncomputable def q15_1 : Ab.Spec := frcR [[some 0], []] (runQh 0 e15 (lookT []) Go.Proofs.Try.f15)
theorem q15_1_ok : SpecOk Go.Proofs.Try.prog 15 q15_1 := (runQh_ok (runR_ok (e := e15) follows (allTI ti_ok _ _ _ _ _) (callsOk_cons s29_ok (callsOk_cons s33_ok (callsOk_cons s41_ok (callsOk_cons s42_ok (callsOk_nil))))) Go.Proofs.Try.func15 Go.Proofs.Try.call15) (fun c hc => by
  have hb : c = Go.Proofs.Try.f15.body.getD .skip := by rw [hc]; rfl
  subst hb
  exact tab_nil)).forced [[some 0], []]
theorem g15_1_run (v : V15_1) : (q15_1 (hS15_1 v).tmps (hS15_1 v).heap).eval = (g15_1T v).ev (k15_1 v) := by kernel_rfl
noncomputable def sp15_1 (v : V15_1) : Res (AV × List Blk) := let r := g15_1 v; .val (k15_1 v r)
theorem sp15_1_ok (v : V15_1) (r : AV × List Blk) (h : (sp15_1 v).eval = some r) : (q15_1 (hS15_1 v).tmps (hS15_1 v).heap).eval = some r := by
  rw [g15_1_run, Tr.ev_get (d := default) (by kernel_rfl)]
  exact h
noncomputable def s15 : Ab.Spec := shapeS aS15_1 bS15_1 (fun args h => sp15_1 (iS15_1 ⟨args, h⟩)) (shapeS aS15_0 bS15_0 (fun args h => sp15_0 (iS15_0 ⟨args, h⟩)) (frcR [[some 0], []] (runR e15 Go.Proofs.Try.f15)))
theorem s15_ok : SpecOk Go.Proofs.Try.prog 15 s15 := shape_ok hS15_1 iS15_1 q15_1_ok (shape_ok hS15_0 iS15_0 q15_0_ok (((runR_ok (e := e15) follows (allTI ti_ok _ _ _ _ _) (callsOk_cons s29_ok (callsOk_cons s33_ok (callsOk_cons s41_ok (callsOk_cons s42_ok (callsOk_nil))))) Go.Proofs.Try.func15 Go.Proofs.Try.call15)).forced [[some 0], []]) (fun s => by kernel_rfl) sp15_0_ok) (fun s => by kernel_rfl) sp15_1_ok
/-- (*pontage/wire.Wire).Len -/
noncomputable def L26 : SL := [(29, .byRead [some 3, none], s29)]
noncomputable def e26 : Env := ⟨ti, fun g => lookS g L26, 1000000, [], [], none⟩
structure V26_0 where
  a0 : S3
  a1 : Int
structure Y26_0 where
  b0 : Int
  deriving Inhabited
def hS26_0 (v : V26_0) : St := ⟨[.c (.rp 3 v.a0 0), .c (.int .i64 v.a1)], []⟩
def iS26_0 (s : St) : V26_0 := ⟨rpC 3 (aC (s.tmps.getD 0 .top)), iC (aC (s.tmps.getD 1 .top))⟩
def aS26_0 : List PA := [.c (.rp 3 0), .c (.int .i64)]
def bS26_0 : List PB := []
def g26_0T (v : V26_0) : Tr Y26_0 :=
  let z80 := g29_0 (V29_0.mk (v.a0) (v.a1))
  .br (!z80.b0) (
   .leaf (⟨0⟩)) (
   .br (decide (0 ≤ v.a1) && decide (v.a1 < 2)) (
    .br (v.a1 == 0) (
     .leaf (⟨(v.a0.f2.length : Int)⟩)) (
     .br (v.a1 == 1) (
      .leaf (⟨(v.a0.f3.length : Int)⟩)) (
      .fail))) (
    .fail))
def g26_0 (v : V26_0) : Option Y26_0 := (g26_0T v).get?
def k26_0 (v : V26_0) (r : Y26_0) : AV × List Blk := (.c (.int .i64 r.b0), [])
noncomputable def q26_0 : Ab.Spec := runQh 0 e26 (lookT []) Go.Proofs.Try.f26
theorem q26_0_ok : SpecOk Go.Proofs.Try.prog 26 q26_0 := runQh_ok (runR_ok (e := e26) follows (allTI ti_ok _ _ _ _ _) (callsOk_cons s29_ok (callsOk_nil)) Go.Proofs.Try.func26 Go.Proofs.Try.call26) (fun c hc => by
  have hb : c = Go.Proofs.Try.f26.body.getD .skip := by rw [hc]; rfl
  subst hb
  exact tab_nil)
theorem g26_0_run (v : V26_0) : (q26_0 (hS26_0 v).tmps (hS26_0 v).heap).eval = (g26_0T v).ev (k26_0 v) := by kernel_rfl
noncomputable def sp26_0 (v : V26_0) : Res (AV × List Blk) := .opt (g26_0 v) fun r => .val (k26_0 v r)
theorem sp26_0_ok (v : V26_0) (r : AV × List Blk) (h : (sp26_0 v).eval = some r) : (q26_0 (hS26_0 v).tmps (hS26_0 v).heap).eval = some r := by
  rw [g26_0_run, Tr.ev_get?]
  unfold sp26_0 at h
  rw [eval_opt] at h
  obtain ⟨z, hz, h⟩ := Option.bind_eq_some_iff.mp h
  unfold g26_0 at hz
  rw [hz]; exact h
structure V26_1 where
  a0 : Int
structure Y26_1 where

  deriving Inhabited
def hS26_1 (v : V26_1) : St := ⟨[.c (.nilp), .c (.int .i64 v.a0)], []⟩
def iS26_1 (s : St) : V26_1 := ⟨iC (aC (s.tmps.getD 1 .top))⟩
def aS26_1 : List PA := [.c (.nilp), .c (.int .i64)]
def bS26_1 : List PB := []
def g26_1T (v : V26_1) : Tr Y26_1 :=
  .leaf (⟨⟩)
def g26_1 (v : V26_1) : Y26_1 := (g26_1T v).get default
def k26_1 (v : V26_1) (r : Y26_1) : AV × List Blk := (.c (.int .i64 0), [])
noncomputable def q26_1 : Ab.Spec := runQh 0 e26 (lookT []) Go.Proofs.Try.f26
theorem q26_1_ok : SpecOk Go.Proofs.Try.prog 26 q26_1 := runQh_ok (runR_ok (e := e26) follows (allTI ti_ok _ _ _ _ _) (callsOk_cons s29_ok (callsOk_nil)) Go.Proofs.Try.func26 Go.Proofs.Try.call26) (fun c hc => by
  have hb : c = Go.Proofs.Try.f26.body.getD .skip := by rw [hc]; rfl
  subst hb
  exact tab_nil)
theorem g26_1_run (v : V26_1) : (q26_1 (hS26_1 v).tmps (hS26_1 v).heap).eval = (g26_1T v).ev (k26_1 v) := by kernel_rfl
noncomputable def sp26_1 (v : V26_1) : Res (AV × List Blk) := let r := g26_1 v; .val (k26_1 v r)
theorem sp26_1_ok (v : V26_1) (r : AV × List Blk) (h : (sp26_1 v).eval = some r) : (q26_1 (hS26_1 v).tmps (hS26_1 v).heap).eval = some r := by
  rw [g26_1_run, Tr.ev_get (d := default) (by kernel_rfl)]
  exact h
noncomputable def s26 : Ab.Spec := shapeS aS26_1 bS26_1 (fun args h => sp26_1 (iS26_1 ⟨args, h⟩)) (shapeS aS26_0 bS26_0 (fun args h => sp26_0 (iS26_0 ⟨args, h⟩)) (runR e26 Go.Proofs.Try.f26))
theorem s26_ok : SpecOk Go.Proofs.Try.prog 26 s26 := shape_ok hS26_1 iS26_1 q26_1_ok (shape_ok hS26_0 iS26_0 q26_0_ok ((runR_ok (e := e26) follows (allTI ti_ok _ _ _ _ _) (callsOk_cons s29_ok (callsOk_nil)) Go.Proofs.Try.func26 Go.Proofs.Try.call26)) (fun s => by kernel_rfl) sp26_0_ok) (fun s => by kernel_rfl) sp26_1_ok
/-- (*pontage/wire.Wire).Up -/
noncomputable def L28 : SL := [(34, .byRead [some 3], s34)]
noncomputable def e28 : Env := ⟨ti, fun g => lookS g L28, 1000000, [], [], none⟩
structure V28_0 where
  a0 : S3
structure Y28_0 where
  b0 : Bool
  deriving Inhabited
def hS28_0 (v : V28_0) : St := ⟨[.c (.rp 3 v.a0 0)], []⟩
def iS28_0 (s : St) : V28_0 := ⟨rpC 3 (aC (s.tmps.getD 0 .top))⟩
def aS28_0 : List PA := [.c (.rp 3 0)]
def bS28_0 : List PB := []
def g28_0T (v : V28_0) : Tr Y28_0 :=
  let z83 := g34_0 (V34_0.mk (v.a0))
  .leaf (⟨(bif (!z83.b0) then (!v.a0.f1) else false)⟩)
def g28_0 (v : V28_0) : Y28_0 := (g28_0T v).get default
def k28_0 (v : V28_0) (r : Y28_0) : AV × List Blk := (.c (.bool r.b0), [])
noncomputable def q28_0 : Ab.Spec := runQh 0 e28 (lookT []) Go.Proofs.Try.f28
theorem q28_0_ok : SpecOk Go.Proofs.Try.prog 28 q28_0 := runQh_ok (runR_ok (e := e28) follows (allTI ti_ok _ _ _ _ _) (callsOk_cons s34_ok (callsOk_nil)) Go.Proofs.Try.func28 Go.Proofs.Try.call28) (fun c hc => by
  have hb : c = Go.Proofs.Try.f28.body.getD .skip := by rw [hc]; rfl
  subst hb
  exact tab_nil)
theorem g28_0_run (v : V28_0) : (q28_0 (hS28_0 v).tmps (hS28_0 v).heap).eval = (g28_0T v).ev (k28_0 v) := by kernel_rfl
noncomputable def sp28_0 (v : V28_0) : Res (AV × List Blk) := let r := g28_0 v; .val (k28_0 v r)
theorem sp28_0_ok (v : V28_0) (r : AV × List Blk) (h : (sp28_0 v).eval = some r) : (q28_0 (hS28_0 v).tmps (hS28_0 v).heap).eval = some r := by
  rw [g28_0_run, Tr.ev_get (d := default) (by kernel_rfl)]
  exact h
structure V28_1 where

structure Y28_1 where

  deriving Inhabited
def hS28_1 (v : V28_1) : St := ⟨[.c (.nilp)], []⟩
def iS28_1 (s : St) : V28_1 := ⟨⟩
def aS28_1 : List PA := [.c (.nilp)]
def bS28_1 : List PB := []
def g28_1T (v : V28_1) : Tr Y28_1 :=
  .leaf (⟨⟩)
def g28_1 (v : V28_1) : Y28_1 := (g28_1T v).get default
def k28_1 (v : V28_1) (r : Y28_1) : AV × List Blk := (.c (.bool false), [])
noncomputable def q28_1 : Ab.Spec := runQh 0 e28 (lookT []) Go.Proofs.Try.f28
theorem q28_1_ok : SpecOk Go.Proofs.Try.prog 28 q28_1 := runQh_ok (runR_ok (e := e28) follows (allTI ti_ok _ _ _ _ _) (callsOk_cons s34_ok (callsOk_nil)) Go.Proofs.Try.func28 Go.Proofs.Try.call28) (fun c hc => by
  have hb : c = Go.Proofs.Try.f28.body.getD .skip := by rw [hc]; rfl
  subst hb
  exact tab_nil)
theorem g28_1_run (v : V28_1) : (q28_1 (hS28_1 v).tmps (hS28_1 v).heap).eval = (g28_1T v).ev (k28_1 v) := by kernel_rfl
noncomputable def sp28_1 (v : V28_1) : Res (AV × List Blk) := let r := g28_1 v; .val (k28_1 v r)
theorem sp28_1_ok (v : V28_1) (r : AV × List Blk) (h : (sp28_1 v).eval = some r) : (q28_1 (hS28_1 v).tmps (hS28_1 v).heap).eval = some r := by
  rw [g28_1_run, Tr.ev_get (d := default) (by kernel_rfl)]
  exact h
noncomputable def s28 : Ab.Spec := shapeS aS28_1 bS28_1 (fun args h => sp28_1 (iS28_1 ⟨args, h⟩)) (shapeS aS28_0 bS28_0 (fun args h => sp28_0 (iS28_0 ⟨args, h⟩)) (runR e28 Go.Proofs.Try.f28))
theorem s28_ok : SpecOk Go.Proofs.Try.prog 28 s28 := shape_ok hS28_1 iS28_1 q28_1_ok (shape_ok hS28_0 iS28_0 q28_0_ok ((runR_ok (e := e28) follows (allTI ti_ok _ _ _ _ _) (callsOk_cons s34_ok (callsOk_nil)) Go.Proofs.Try.func28 Go.Proofs.Try.call28)) (fun s => by kernel_rfl) sp28_0_ok) (fun s => by kernel_rfl) sp28_1_ok
/-- (*pontage/wire.Wire).Say -/
noncomputable def L14 : SL := [(31, .byRead [some 3, none], s31), (32, .byHeap, s32), (41, .byNew, s41), (40, .byNew, s40)]
noncomputable def e14 : Env := ⟨ti, fun g => lookS g L14, 1000000, [], [], none⟩
structure V14_0 where
  a0 : Int
  a1 : List S0
  a2 : Bool
  a3 : Bool
  a4 : List S2
  a5 : List S2
  a6 : List S2
  a7 : List S2
structure Y14_0 where
  b0 : Int
  b1 : List S2
  b2 : List S2
  deriving Inhabited
def hS14_0 (v : V14_0) : St := ⟨[.c (.ptr 0 0), .c (.int .i64 v.a0), .c (.rs 0 v.a1)], [.cells [.bool v.a2, .bool v.a3, .rs 2 v.a4, .rs 2 v.a5, .rs 2 v.a6, .rs 2 v.a7]]⟩
def iS14_0 (s : St) : V14_0 := ⟨iC (aC (s.tmps.getD 1 .top)), rC 0 (aC (s.tmps.getD 2 .top)), bC ((bL (s.heap.getD 0 .dead)).getD 0 .top), bC ((bL (s.heap.getD 0 .dead)).getD 1 .top), rC 2 ((bL (s.heap.getD 0 .dead)).getD 2 .top), rC 2 ((bL (s.heap.getD 0 .dead)).getD 3 .top), rC 2 ((bL (s.heap.getD 0 .dead)).getD 4 .top), rC 2 ((bL (s.heap.getD 0 .dead)).getD 5 .top)⟩
def aS14_0 : List PA := [.c (.ptr 0 0), .c (.int .i64), .c (.rs 0)]
def bS14_0 : List PB := [.cells [.bool, .bool, .rs 2, .rs 2, .rs 2, .rs 2]]
def g14_0T (v : V14_0) : Tr Y14_0 :=
  let z85 := g31_0 (V31_0.mk ((S3.mk v.a2 v.a3 v.a4 v.a5 v.a6 v.a7)) (v.a0))
  .br (z85.b0 != 0) (
   .leaf (⟨z85.b0, v.a6, v.a7⟩)) (
   .br (decide (0 ≤ v.a0) && decide (v.a0 < 2)) (
    .br (v.a0 == 0) (
     .opt (g32_2 (V32_2.mk (v.a1) (v.a2) (v.a3) (v.a4) (v.a5) (v.a6) (v.a7))) fun z88 =>
      .leaf (⟨0, z88.b0, v.a7⟩)) (
     .br (v.a0 == 1) (
      .opt (g32_3 (V32_3.mk (v.a1) (v.a2) (v.a3) (v.a4) (v.a5) (v.a6) (v.a7))) fun z91 =>
       .leaf (⟨0, v.a6, z91.b0⟩)) (
      .fail))) (
    .fail))
def g14_0 (v : V14_0) : Option Y14_0 := (g14_0T v).get?
def k14_0 (v : V14_0) (r : Y14_0) : AV × List Blk := (.c (.int .i64 r.b0), [.cells [.bool v.a2, .bool v.a3, .rs 2 v.a4, .rs 2 v.a5, .rs 2 r.b1, .rs 2 r.b2]])
noncomputable def q14_0 : Ab.Spec := runQh 1 e14 (lookT []) Go.Proofs.Try.f14
theorem q14_0_ok : SpecOk Go.Proofs.Try.prog 14 q14_0 := runQh_ok (runR_ok (e := e14) follows (allTI ti_ok _ _ _ _ _) (callsOk_cons s31_ok (callsOk_cons s32_ok (callsOk_cons s41_ok (callsOk_cons s40_ok (callsOk_nil))))) Go.Proofs.Try.func14 Go.Proofs.Try.call14) (fun c hc => by
  have hb : c = Go.Proofs.Try.f14.body.getD .skip := by rw [hc]; rfl
  subst hb
  exact tab_nil)
theorem g14_0_run (v : V14_0) : (q14_0 (hS14_0 v).tmps (hS14_0 v).heap).eval = (g14_0T v).ev (k14_0 v) := by kernel_rfl
noncomputable def sp14_0 (v : V14_0) : Res (AV × List Blk) := .opt (g14_0 v) fun r => .val (k14_0 v r)
theorem sp14_0_ok (v : V14_0) (r : AV × List Blk) (h : (sp14_0 v).eval = some r) : (q14_0 (hS14_0 v).tmps (hS14_0 v).heap).eval = some r := by
  rw [g14_0_run, Tr.ev_get?]
  unfold sp14_0 at h
  rw [eval_opt] at h
  obtain ⟨z, hz, h⟩ := Option.bind_eq_some_iff.mp h
  unfold g14_0 at hz
  rw [hz]; exact h
structure V14_1 where
  a0 : Int
  a1 : List S0
structure Y14_1 where

  deriving Inhabited
def hS14_1 (v : V14_1) : St := ⟨[.c (.nilp), .c (.int .i64 v.a0), .c (.rs 0 v.a1)], []⟩
def iS14_1 (s : St) : V14_1 := ⟨iC (aC (s.tmps.getD 1 .top)), rC 0 (aC (s.tmps.getD 2 .top))⟩
def aS14_1 : List PA := [.c (.nilp), .c (.int .i64), .c (.rs 0)]
def bS14_1 : List PB := []
def g14_1T (v : V14_1) : Tr Y14_1 :=
  .leaf (⟨⟩)
def g14_1 (v : V14_1) : Y14_1 := (g14_1T v).get default
def k14_1 (v : V14_1) (r : Y14_1) : AV × List Blk := (.c (.int .i64 4), [])
noncomputable def q14_1 : Ab.Spec := runQh 0 e14 (lookT []) Go.Proofs.Try.f14
theorem q14_1_ok : SpecOk Go.Proofs.Try.prog 14 q14_1 := runQh_ok (runR_ok (e := e14) follows (allTI ti_ok _ _ _ _ _) (callsOk_cons s31_ok (callsOk_cons s32_ok (callsOk_cons s41_ok (callsOk_cons s40_ok (callsOk_nil))))) Go.Proofs.Try.func14 Go.Proofs.Try.call14) (fun c hc => by
  have hb : c = Go.Proofs.Try.f14.body.getD .skip := by rw [hc]; rfl
  subst hb
  exact tab_nil)
theorem g14_1_run (v : V14_1) : (q14_1 (hS14_1 v).tmps (hS14_1 v).heap).eval = (g14_1T v).ev (k14_1 v) := by kernel_rfl
noncomputable def sp14_1 (v : V14_1) : Res (AV × List Blk) := let r := g14_1 v; .val (k14_1 v r)
theorem sp14_1_ok (v : V14_1) (r : AV × List Blk) (h : (sp14_1 v).eval = some r) : (q14_1 (hS14_1 v).tmps (hS14_1 v).heap).eval = some r := by
  rw [g14_1_run, Tr.ev_get (d := default) (by kernel_rfl)]
  exact h
noncomputable def s14 : Ab.Spec := frzS [none, none, some 0] (shapeS aS14_1 bS14_1 (fun args h => sp14_1 (iS14_1 ⟨args, h⟩)) (shapeS aS14_0 bS14_0 (fun args h => sp14_0 (iS14_0 ⟨args, h⟩)) (runR e14 Go.Proofs.Try.f14)))
theorem s14_ok : SpecOk Go.Proofs.Try.prog 14 s14 := (shape_ok hS14_1 iS14_1 q14_1_ok (shape_ok hS14_0 iS14_0 q14_0_ok ((runR_ok (e := e14) follows (allTI ti_ok _ _ _ _ _) (callsOk_cons s31_ok (callsOk_cons s32_ok (callsOk_cons s41_ok (callsOk_cons s40_ok (callsOk_nil))))) Go.Proofs.Try.func14 Go.Proofs.Try.call14)) (fun s => by kernel_rfl) sp14_0_ok) (fun s => by kernel_rfl) sp14_1_ok).frzArgs [none, none, some 0]
/-- (*pontage/wire.Wire).Set -/
noncomputable def L18 : SL := [(34, .byRead [some 3], s34)]
noncomputable def e18 : Env := ⟨ti, fun g => lookS g L18, 1000000, [.drop 2, .drop 3, .drop 6, .drop 7, .drop 8, .drop 9, .drop 10, .drop 11, .drop 12, .drop 13, .drop 15, .drop 16, .drop 17, .drop 18, .drop 19, .drop 20, .drop 21, .drop 22, .drop 23, .drop 24, .drop 25, .drop 26, .drop 27, .drop 28, .drop 29, .drop 30, .drop 31, .drop 32, .drop 33, .drop 34, .drop 35, .drop 36, .drop 37, .drop 38, .drop 39, .drop 40, .drop 41, .drop 42, .drop 43, .drop 44, .drop 45, .drop 46], [], some [4]⟩
structure V18_0 where
  a0 : Bool
  a1 : Bool
  a2 : Bool
  a3 : List S2
  a4 : List S2
  a5 : List S2
  a6 : List S2
structure Y18_0 where
  b0 : Int
  b1 : Bool
  b2 : List S2
  b3 : List S2
  b4 : List S2
  b5 : List S2
  deriving Inhabited
def hS18_0 (v : V18_0) : St := ⟨[.c (.ptr 0 0), .c (.bool v.a0)], [.cells [.bool v.a1, .bool v.a2, .rs 2 v.a3, .rs 2 v.a4, .rs 2 v.a5, .rs 2 v.a6]]⟩
def iS18_0 (s : St) : V18_0 := ⟨bC (aC (s.tmps.getD 1 .top)), bC ((bL (s.heap.getD 0 .dead)).getD 0 .top), bC ((bL (s.heap.getD 0 .dead)).getD 1 .top), rC 2 ((bL (s.heap.getD 0 .dead)).getD 2 .top), rC 2 ((bL (s.heap.getD 0 .dead)).getD 3 .top), rC 2 ((bL (s.heap.getD 0 .dead)).getD 4 .top), rC 2 ((bL (s.heap.getD 0 .dead)).getD 5 .top)⟩
def aS18_0 : List PA := [.c (.ptr 0 0), .c (.bool)]
def bS18_0 : List PB := [.cells [.bool, .bool, .rs 2, .rs 2, .rs 2, .rs 2]]
def g18_0T (v : V18_0) : Tr Y18_0 :=
  let z93 := g34_0 (V34_0.mk ((S3.mk v.a1 v.a2 v.a3 v.a4 v.a5 v.a6)))
  .br z93.b0 (
   .leaf (⟨0, v.a2, v.a3, v.a4, v.a5, v.a6⟩)) (
   .br v.a0 (
    .leaf (⟨0, (!v.a0), v.a3, v.a4, v.a5, v.a6⟩)) (
    .leaf (⟨(IntKind.i64.wrap ((IntKind.i64.wrap (0 + (IntKind.i64.wrap ((v.a3.length : Int) + (v.a5.length : Int))))) + (IntKind.i64.wrap ((v.a4.length : Int) + (v.a6.length : Int))))), (!v.a0), [], [], [], []⟩)))
def g18_0 (v : V18_0) : Y18_0 := (g18_0T v).get default
def k18_0 (v : V18_0) (r : Y18_0) : AV × List Blk := (.c (.int .i64 r.b0), [.cells [.bool v.a1, .bool r.b1, .rs 2 r.b2, .rs 2 r.b3, .rs 2 r.b4, .rs 2 r.b5]])
noncomputable def q18_0 : Ab.Spec := runQh 1 e18 (lookT []) Go.Proofs.Try.f18
theorem q18_0_ok : SpecOk Go.Proofs.Try.prog 18 q18_0 := runQh_ok (runR_ok (e := e18) follows (allTI ti_ok _ _ _ _ _) (callsOk_cons s34_ok (callsOk_nil)) Go.Proofs.Try.func18 Go.Proofs.Try.call18) (fun c hc => by
  have hb : c = Go.Proofs.Try.f18.body.getD .skip := by rw [hc]; rfl
  subst hb
  exact tab_nil)
theorem g18_0_run (v : V18_0) : (q18_0 (hS18_0 v).tmps (hS18_0 v).heap).eval = (g18_0T v).ev (k18_0 v) := by kernel_rfl
noncomputable def sp18_0 (v : V18_0) : Res (AV × List Blk) := let r := g18_0 v; .val (k18_0 v r)
theorem sp18_0_ok (v : V18_0) (r : AV × List Blk) (h : (sp18_0 v).eval = some r) : (q18_0 (hS18_0 v).tmps (hS18_0 v).heap).eval = some r := by
  rw [g18_0_run, Tr.ev_get (d := default) (by kernel_rfl)]
  exact h
structure V18_1 where
  a0 : Bool
structure Y18_1 where

  deriving Inhabited
def hS18_1 (v : V18_1) : St := ⟨[.c (.nilp), .c (.bool v.a0)], []⟩
def iS18_1 (s : St) : V18_1 := ⟨bC (aC (s.tmps.getD 1 .top))⟩
def aS18_1 : List PA := [.c (.nilp), .c (.bool)]
def bS18_1 : List PB := []
def g18_1T (v : V18_1) : Tr Y18_1 :=
  .leaf (⟨⟩)
def g18_1 (v : V18_1) : Y18_1 := (g18_1T v).get default
def k18_1 (v : V18_1) (r : Y18_1) : AV × List Blk := (.c (.int .i64 0), [])
noncomputable def q18_1 : Ab.Spec := runQh 0 e18 (lookT []) Go.Proofs.Try.f18
theorem q18_1_ok : SpecOk Go.Proofs.Try.prog 18 q18_1 := runQh_ok (runR_ok (e := e18) follows (allTI ti_ok _ _ _ _ _) (callsOk_cons s34_ok (callsOk_nil)) Go.Proofs.Try.func18 Go.Proofs.Try.call18) (fun c hc => by
  have hb : c = Go.Proofs.Try.f18.body.getD .skip := by rw [hc]; rfl
  subst hb
  exact tab_nil)
theorem g18_1_run (v : V18_1) : (q18_1 (hS18_1 v).tmps (hS18_1 v).heap).eval = (g18_1T v).ev (k18_1 v) := by kernel_rfl
noncomputable def sp18_1 (v : V18_1) : Res (AV × List Blk) := let r := g18_1 v; .val (k18_1 v r)
theorem sp18_1_ok (v : V18_1) (r : AV × List Blk) (h : (sp18_1 v).eval = some r) : (q18_1 (hS18_1 v).tmps (hS18_1 v).heap).eval = some r := by
  rw [g18_1_run, Tr.ev_get (d := default) (by kernel_rfl)]
  exact h
noncomputable def s18 : Ab.Spec := shapeS aS18_1 bS18_1 (fun args h => sp18_1 (iS18_1 ⟨args, h⟩)) (shapeS aS18_0 bS18_0 (fun args h => sp18_0 (iS18_0 ⟨args, h⟩)) (runR e18 Go.Proofs.Try.f18))
theorem s18_ok : SpecOk Go.Proofs.Try.prog 18 s18 := shape_ok hS18_1 iS18_1 q18_1_ok (shape_ok hS18_0 iS18_0 q18_0_ok ((runR_ok (e := e18) follows (allTI ti_ok _ _ _ _ _) (callsOk_cons s34_ok (callsOk_nil)) Go.Proofs.Try.func18 Go.Proofs.Try.call18)) (fun s => by kernel_rfl) sp18_0_ok) (fun s => by kernel_rfl) sp18_1_ok
/-- pontage/pontagelaw25.awake -/
noncomputable def L8 : SL := [(7, .byHeap, s7), (11, .byHeap, s11), (31, .byRead [some 3, none], s31), (32, .byHeap, s32), (41, .byNew, s41), (40, .byNew, s40), (13, .byHeap, s13), (34, .byRead [some 3], s34), (29, .byRead [some 3, none], s29), (35, .byRead [some 3, none], s35), (12, .byHeap, s12), (33, .byHeap, s33), (42, .byHeap, s42), (15, .byHeap, s15), (26, .byRead [some 3, none], s26), (28, .byRead [some 3], s28), (14, .byHeap, s14), (18, .byHeap, s18)]
noncomputable def e8 : Env := ⟨ti, fun g => lookS g L8, 1000000, [], [], none⟩
def g8T  : Tr (Bool) :=
  .opt (g11_0 (V11_0.mk (0) ([(S0.mk 97)]) (true) (false) ([]) ([]) ([]) ([]))) fun z13 =>
   .opt (g11_0 (V11_0.mk (0) ([(S0.mk 98)]) (true) (false) (z13.b1) (z13.b2) ([]) ([]))) fun z14 =>
    .opt (g13_0 (V13_0.mk (0) (0) (true) (false) (z14.b1) (z14.b2) ([]) ([]))) fun z51 =>
     .opt (g12_0 (V12_0.mk (0) (1) (true) (false) (z51.b1) (z51.b2) ([]) ([]))) fun z65 =>
      .opt (g15_0 (V15_0.mk (0) (z65.b2) (z65.b3) (z65.b4) (z65.b5) (z65.b6) (z65.b7))) fun z79 =>
       .br (bif (bif (bif (bif (bif (z13.b0 == 0) then (z14.b0 == 0) else false) then (z51.b0 == 0) else false) then ((strO 0 z65.b0) == ⟨#[98]⟩) else false) then z65.b1 else false) then (!z79.b1) else false) (
        .opt (g26_0 (V26_0.mk ((S3.mk z79.b2 z79.b3 z79.b4 z79.b5 z79.b6 z79.b7)) (0))) fun z82 =>
         let z84 := g28_0 (V28_0.mk ((S3.mk z79.b2 z79.b3 z79.b4 z79.b5 z79.b6 z79.b7)))
         .br (bif (z82.b0 == 2) then z84.b0 else false) (
          .opt (g14_0 (V14_0.mk (2) ([]) (z79.b2) (z79.b3) (z79.b4) (z79.b5) (z79.b6) (z79.b7))) fun z92 =>
           .br (z92.b0 == 5) (
            let z94 := g18_0 (V18_0.mk (false) (z79.b2) (z79.b3) (z79.b4) (z79.b5) (z92.b1) (z92.b2))
            .br (z94.b0 == 2) (
             .opt (g14_0 (V14_0.mk (0) ([]) (z79.b2) (z94.b1) (z94.b2) (z94.b3) (z94.b4) (z94.b5))) fun z95 =>
              .leaf ((z95.b0 == 250))) (
             .leaf (false))) (
            .leaf (false))) (
          .leaf (false))) (
        let z96 := g28_0 (V28_0.mk ((S3.mk z79.b2 z79.b3 z79.b4 z79.b5 z79.b6 z79.b7)))
        .leaf (false))
def g8  : Option (Bool) := (g8T ).get?
noncomputable def T8 : TL := []
noncomputable def q8 : Ab.Spec := runQ0 e8 (lookT T8) Go.Proofs.Try.f8
theorem q8_ok : SpecOk Go.Proofs.Try.prog 8 q8 := (runQ0_ok (runR_ok (e := e8) follows (allTI ti_ok _ _ _ _ _) (callsOk_cons s7_ok (callsOk_cons s11_ok (callsOk_cons s31_ok (callsOk_cons s32_ok (callsOk_cons s41_ok (callsOk_cons s40_ok (callsOk_cons s13_ok (callsOk_cons s34_ok (callsOk_cons s29_ok (callsOk_cons s35_ok (callsOk_cons s12_ok (callsOk_cons s33_ok (callsOk_cons s42_ok (callsOk_cons s15_ok (callsOk_cons s26_ok (callsOk_cons s28_ok (callsOk_cons s14_ok (callsOk_cons s18_ok (callsOk_nil))))))))))))))))))) Go.Proofs.Try.func8 Go.Proofs.Try.call8) (fun c hc => by
  have hb : c = Go.Proofs.Try.f8.body.getD .skip := by rw [hc]; rfl
  subst hb
  exact tab_nil))
theorem g8_run  : (q8 [] []).eval = (g8T ).ev fun r => ((.c (.bool r) : AV), ([] : List Blk)) := by kernel_rfl
noncomputable def s8 : Ab.Spec := fun args h =>
  dN h <| dN args <|
  .opt (g8) fun r => .val (.c (.bool r), [])
theorem s8_ok : SpecOk Go.Proofs.Try.prog 8 s8 :=
  q8_ok.less fun args hs r h => by
    unfold s8 at h
    obtain ⟨rfl, hh1⟩ := dN_inv h
    obtain ⟨rfl, hh2⟩ := dN_inv hh1
    rw [g8_run, Tr.ev_get?]
    change (Res.opt (g8) _).eval = some r at hh2
    rw [eval_opt] at hh2
    obtain ⟨z, hz, hh3⟩ := Option.bind_eq_some_iff.mp hh2
    unfold g8 at hz
    rw [hz]; exact hh3
/-- (*pontage/wire.row).all -/
noncomputable def L30 : SL := [(40, .byNew, s40)]
noncomputable def e30 : Env := ⟨ti, fun g => lookS g L30, 1000000, [.drop 0, .drop 1, .drop 4, .drop 5, .drop 6, .drop 7, .drop 8, .drop 12, .drop 13, .drop 14, .drop 15, .drop 16, .drop 17, .drop 18, .drop 19, .drop 20, .drop 21, .tmp 3 2], [17], some [2]⟩
structure W30_0 where
  a0 : List S2
  a1 : Int
  a2 : Int
  a3 : Bool
  a4 : Bool
  a5 : List S2
  a6 : List S2
  a7 : List S2
  a8 : List S2
  a9 : List S2
def hd30_0 (v : W30_0) : St := ⟨[.top, .top, .c (.nils), .c (.slw 1), .top, .top, .top, .top, .top, .c (.rs 2 v.a0), .c (.int .i64 v.a1), .c (.int .i64 v.a2), .top, .top, .top, .top, .top, .top, .top, .top, .top, .top], [.cells [.bool v.a3, .bool v.a4, .rs 2 v.a5, .rs 2 v.a6, .rs 2 v.a7, .rs 2 v.a8], .row 2 v.a9]⟩
def gR30_0 (v : W30_0) : Tr (W30_0 ⊕ (Bool × W30_0)) :=
  .br (decide (v.a2 < v.a1)) (
   .br (decide (0 ≤ v.a2)) (
    .opt (v.a0[Int.toNat v.a2]?) fun y108 =>
     .br (y108.f0.isEmpty || cloneB 0 1 y108.f0) (
      .br (Nat.ble (v.a9.length + 1) 140737488355328 && Nat.ble ((v.a9.length + 1) * 24) 140737488355328) (
       .leaf (.inl ({ v with a2 := (IntKind.i64.wrap (v.a2 + 1)), a9 := (v.a9 ++ [y108]) }))) (
       .fail)) (
      .fail)) (
    .fail)) (
   .leaf (.inr (false, v)))
noncomputable def lb30_0 : Code := match findB 0 (Go.Proofs.Try.f30.body.getD .skip) with | [.loop b] => b | _ => .skip
def pa30_0 : List PA := [.any, .any, .c (.nils), .c (.nils), .any, .any, .any, .any, .any, .c (.rs 2), .c (.int .i64), .c (.int .i64), .any, .any, .any, .any, .any, .any, .any, .any, .any, .any]
def pb30_0 : List PB := [.cells [.bool, .bool, .rs 2, .rs 2, .rs 2, .rs 2]]
def ini30_0 (s : St) : W30_0 := ⟨rC 2 (aC (s.tmps.getD 9 .top)), iC (aC (s.tmps.getD 10 .top)), iC (aC (s.tmps.getD 11 .top)), bC ((bL (s.heap.getD 0 .dead)).getD 0 .top), bC ((bL (s.heap.getD 0 .dead)).getD 1 .top), rC 2 ((bL (s.heap.getD 0 .dead)).getD 2 .top), rC 2 ((bL (s.heap.getD 0 .dead)).getD 3 .top), rC 2 ((bL (s.heap.getD 0 .dead)).getD 4 .top), rC 2 ((bL (s.heap.getD 0 .dead)).getD 5 .top), []⟩
noncomputable def F30_0 : St → Res (Ex × St) := loopF pa30_0 pb30_0 1000000 hd30_0 gR30_0 ini30_0 false
theorem F30_0_ok (s : St) (r : Ex × St) (h : (F30_0 s).eval = some r) : (codeR e30 1 (.block 0 (.loop lb30_0)) s).eval = some r :=
  blk_ok (e := e30) (T := lookT []) (fun s v => by kernel_rfl) (fun s => by kernel_rfl) (tab_nil) s r h
structure V30_0 where
  a0 : Bool
  a1 : Bool
  a2 : List S2
  a3 : List S2
  a4 : List S2
  a5 : List S2
structure Y30_0 where
  b0 : List S2
  b1 : Bool
  b2 : Bool
  b3 : List S2
  b4 : List S2
  b5 : List S2
  b6 : List S2
  deriving Inhabited
def hS30_0 (v : V30_0) : St := ⟨[.c (.ptr 0 2)], [.cells [.bool v.a0, .bool v.a1, .rs 2 v.a2, .rs 2 v.a3, .rs 2 v.a4, .rs 2 v.a5]]⟩
def iS30_0 (s : St) : V30_0 := ⟨bC ((bL (s.heap.getD 0 .dead)).getD 0 .top), bC ((bL (s.heap.getD 0 .dead)).getD 1 .top), rC 2 ((bL (s.heap.getD 0 .dead)).getD 2 .top), rC 2 ((bL (s.heap.getD 0 .dead)).getD 3 .top), rC 2 ((bL (s.heap.getD 0 .dead)).getD 4 .top), rC 2 ((bL (s.heap.getD 0 .dead)).getD 5 .top)⟩
def aS30_0 : List PA := [.c (.ptr 0 2)]
def bS30_0 : List PB := [.cells [.bool, .bool, .rs 2, .rs 2, .rs 2, .rs 2]]
def g30_0T (v : V30_0) : Tr Y30_0 :=
  .opt (iter gR30_0 1000000 (W30_0.mk (v.a2) ((v.a2.length : Int)) (0) (v.a0) (v.a1) (v.a2) (v.a3) (v.a4) (v.a5) ([]))) fun r110 =>
   .br r110.1 (
    .fail) (
    .leaf (⟨r110.2.a9, r110.2.a3, r110.2.a4, r110.2.a5, r110.2.a6, r110.2.a7, r110.2.a8⟩))
def g30_0 (v : V30_0) : Option Y30_0 := (g30_0T v).get?
def k30_0 (v : V30_0) (r : Y30_0) : AV × List Blk := (.c (.rs 2 r.b0), [.cells [.bool r.b1, .bool r.b2, .rs 2 r.b3, .rs 2 r.b4, .rs 2 r.b5, .rs 2 r.b6], .dead])
noncomputable def q30_0 : Ab.Spec := frcR [[some 2]] (runQh 1 e30 (lookT [(0, F30_0)]) Go.Proofs.Try.f30)
theorem q30_0_ok : SpecOk Go.Proofs.Try.prog 30 q30_0 := (runQh_ok (runR_ok (e := e30) follows (allTI ti_ok _ _ _ _ _) (callsOk_cons s40_ok (callsOk_nil)) Go.Proofs.Try.func30 Go.Proofs.Try.call30) (fun c hc => by
  have hb : c = Go.Proofs.Try.f30.body.getD .skip := by rw [hc]; rfl
  subst hb
  exact tab_cons (by kernel_rfl) F30_0_ok (tab_nil))).forced [[some 2]]
theorem g30_0_run (v : V30_0) : (q30_0 (hS30_0 v).tmps (hS30_0 v).heap).eval = (g30_0T v).ev (k30_0 v) := by kernel_rfl
noncomputable def sp30_0 (v : V30_0) : Res (AV × List Blk) := .opt (g30_0 v) fun r => .val (k30_0 v r)
theorem sp30_0_ok (v : V30_0) (r : AV × List Blk) (h : (sp30_0 v).eval = some r) : (q30_0 (hS30_0 v).tmps (hS30_0 v).heap).eval = some r := by
  rw [g30_0_run, Tr.ev_get?]
  unfold sp30_0 at h
  rw [eval_opt] at h
  obtain ⟨z, hz, h⟩ := Option.bind_eq_some_iff.mp h
  unfold g30_0 at hz
  rw [hz]; exact h
structure V30_1 where
  a0 : Bool
  a1 : Bool
  a2 : List S2
  a3 : List S2
  a4 : List S2
  a5 : List S2
structure Y30_1 where
  b0 : List S2
  b1 : Bool
  b2 : Bool
  b3 : List S2
  b4 : List S2
  b5 : List S2
  b6 : List S2
  deriving Inhabited
def hS30_1 (v : V30_1) : St := ⟨[.c (.ptr 0 3)], [.cells [.bool v.a0, .bool v.a1, .rs 2 v.a2, .rs 2 v.a3, .rs 2 v.a4, .rs 2 v.a5]]⟩
def iS30_1 (s : St) : V30_1 := ⟨bC ((bL (s.heap.getD 0 .dead)).getD 0 .top), bC ((bL (s.heap.getD 0 .dead)).getD 1 .top), rC 2 ((bL (s.heap.getD 0 .dead)).getD 2 .top), rC 2 ((bL (s.heap.getD 0 .dead)).getD 3 .top), rC 2 ((bL (s.heap.getD 0 .dead)).getD 4 .top), rC 2 ((bL (s.heap.getD 0 .dead)).getD 5 .top)⟩
def aS30_1 : List PA := [.c (.ptr 0 3)]
def bS30_1 : List PB := [.cells [.bool, .bool, .rs 2, .rs 2, .rs 2, .rs 2]]
def g30_1T (v : V30_1) : Tr Y30_1 :=
  .opt (iter gR30_0 1000000 (W30_0.mk (v.a3) ((v.a3.length : Int)) (0) (v.a0) (v.a1) (v.a2) (v.a3) (v.a4) (v.a5) ([]))) fun r112 =>
   .br r112.1 (
    .fail) (
    .leaf (⟨r112.2.a9, r112.2.a3, r112.2.a4, r112.2.a5, r112.2.a6, r112.2.a7, r112.2.a8⟩))
def g30_1 (v : V30_1) : Option Y30_1 := (g30_1T v).get?
def k30_1 (v : V30_1) (r : Y30_1) : AV × List Blk := (.c (.rs 2 r.b0), [.cells [.bool r.b1, .bool r.b2, .rs 2 r.b3, .rs 2 r.b4, .rs 2 r.b5, .rs 2 r.b6], .dead])
noncomputable def q30_1 : Ab.Spec := frcR [[some 2]] (runQh 1 e30 (lookT [(0, F30_0)]) Go.Proofs.Try.f30)
theorem q30_1_ok : SpecOk Go.Proofs.Try.prog 30 q30_1 := (runQh_ok (runR_ok (e := e30) follows (allTI ti_ok _ _ _ _ _) (callsOk_cons s40_ok (callsOk_nil)) Go.Proofs.Try.func30 Go.Proofs.Try.call30) (fun c hc => by
  have hb : c = Go.Proofs.Try.f30.body.getD .skip := by rw [hc]; rfl
  subst hb
  exact tab_cons (by kernel_rfl) F30_0_ok (tab_nil))).forced [[some 2]]
theorem g30_1_run (v : V30_1) : (q30_1 (hS30_1 v).tmps (hS30_1 v).heap).eval = (g30_1T v).ev (k30_1 v) := by kernel_rfl
noncomputable def sp30_1 (v : V30_1) : Res (AV × List Blk) := .opt (g30_1 v) fun r => .val (k30_1 v r)
theorem sp30_1_ok (v : V30_1) (r : AV × List Blk) (h : (sp30_1 v).eval = some r) : (q30_1 (hS30_1 v).tmps (hS30_1 v).heap).eval = some r := by
  rw [g30_1_run, Tr.ev_get?]
  unfold sp30_1 at h
  rw [eval_opt] at h
  obtain ⟨z, hz, h⟩ := Option.bind_eq_some_iff.mp h
  unfold g30_1 at hz
  rw [hz]; exact h
structure V30_2 where
  a0 : Bool
  a1 : Bool
  a2 : List S2
  a3 : List S2
  a4 : List S2
  a5 : List S2
structure Y30_2 where
  b0 : List S2
  b1 : Bool
  b2 : Bool
  b3 : List S2
  b4 : List S2
  b5 : List S2
  b6 : List S2
  deriving Inhabited
def hS30_2 (v : V30_2) : St := ⟨[.c (.ptr 0 4)], [.cells [.bool v.a0, .bool v.a1, .rs 2 v.a2, .rs 2 v.a3, .rs 2 v.a4, .rs 2 v.a5]]⟩
def iS30_2 (s : St) : V30_2 := ⟨bC ((bL (s.heap.getD 0 .dead)).getD 0 .top), bC ((bL (s.heap.getD 0 .dead)).getD 1 .top), rC 2 ((bL (s.heap.getD 0 .dead)).getD 2 .top), rC 2 ((bL (s.heap.getD 0 .dead)).getD 3 .top), rC 2 ((bL (s.heap.getD 0 .dead)).getD 4 .top), rC 2 ((bL (s.heap.getD 0 .dead)).getD 5 .top)⟩
def aS30_2 : List PA := [.c (.ptr 0 4)]
def bS30_2 : List PB := [.cells [.bool, .bool, .rs 2, .rs 2, .rs 2, .rs 2]]
def g30_2T (v : V30_2) : Tr Y30_2 :=
  .opt (iter gR30_0 1000000 (W30_0.mk (v.a4) ((v.a4.length : Int)) (0) (v.a0) (v.a1) (v.a2) (v.a3) (v.a4) (v.a5) ([]))) fun r116 =>
   .br r116.1 (
    .fail) (
    .leaf (⟨r116.2.a9, r116.2.a3, r116.2.a4, r116.2.a5, r116.2.a6, r116.2.a7, r116.2.a8⟩))
def g30_2 (v : V30_2) : Option Y30_2 := (g30_2T v).get?
def k30_2 (v : V30_2) (r : Y30_2) : AV × List Blk := (.c (.rs 2 r.b0), [.cells [.bool r.b1, .bool r.b2, .rs 2 r.b3, .rs 2 r.b4, .rs 2 r.b5, .rs 2 r.b6], .dead])
noncomputable def q30_2 : Ab.Spec := frcR [[some 2]] (runQh 1 e30 (lookT [(0, F30_0)]) Go.Proofs.Try.f30)
theorem q30_2_ok : SpecOk Go.Proofs.Try.prog 30 q30_2 := (runQh_ok (runR_ok (e := e30) follows (allTI ti_ok _ _ _ _ _) (callsOk_cons s40_ok (callsOk_nil)) Go.Proofs.Try.func30 Go.Proofs.Try.call30) (fun c hc => by
  have hb : c = Go.Proofs.Try.f30.body.getD .skip := by rw [hc]; rfl
  subst hb
  exact tab_cons (by kernel_rfl) F30_0_ok (tab_nil))).forced [[some 2]]
theorem g30_2_run (v : V30_2) : (q30_2 (hS30_2 v).tmps (hS30_2 v).heap).eval = (g30_2T v).ev (k30_2 v) := by kernel_rfl
noncomputable def sp30_2 (v : V30_2) : Res (AV × List Blk) := .opt (g30_2 v) fun r => .val (k30_2 v r)
theorem sp30_2_ok (v : V30_2) (r : AV × List Blk) (h : (sp30_2 v).eval = some r) : (q30_2 (hS30_2 v).tmps (hS30_2 v).heap).eval = some r := by
  rw [g30_2_run, Tr.ev_get?]
  unfold sp30_2 at h
  rw [eval_opt] at h
  obtain ⟨z, hz, h⟩ := Option.bind_eq_some_iff.mp h
  unfold g30_2 at hz
  rw [hz]; exact h
structure V30_3 where
  a0 : Bool
  a1 : Bool
  a2 : List S2
  a3 : List S2
  a4 : List S2
  a5 : List S2
structure Y30_3 where
  b0 : List S2
  b1 : Bool
  b2 : Bool
  b3 : List S2
  b4 : List S2
  b5 : List S2
  b6 : List S2
  deriving Inhabited
def hS30_3 (v : V30_3) : St := ⟨[.c (.ptr 0 5)], [.cells [.bool v.a0, .bool v.a1, .rs 2 v.a2, .rs 2 v.a3, .rs 2 v.a4, .rs 2 v.a5]]⟩
def iS30_3 (s : St) : V30_3 := ⟨bC ((bL (s.heap.getD 0 .dead)).getD 0 .top), bC ((bL (s.heap.getD 0 .dead)).getD 1 .top), rC 2 ((bL (s.heap.getD 0 .dead)).getD 2 .top), rC 2 ((bL (s.heap.getD 0 .dead)).getD 3 .top), rC 2 ((bL (s.heap.getD 0 .dead)).getD 4 .top), rC 2 ((bL (s.heap.getD 0 .dead)).getD 5 .top)⟩
def aS30_3 : List PA := [.c (.ptr 0 5)]
def bS30_3 : List PB := [.cells [.bool, .bool, .rs 2, .rs 2, .rs 2, .rs 2]]
def g30_3T (v : V30_3) : Tr Y30_3 :=
  .opt (iter gR30_0 1000000 (W30_0.mk (v.a5) ((v.a5.length : Int)) (0) (v.a0) (v.a1) (v.a2) (v.a3) (v.a4) (v.a5) ([]))) fun r118 =>
   .br r118.1 (
    .fail) (
    .leaf (⟨r118.2.a9, r118.2.a3, r118.2.a4, r118.2.a5, r118.2.a6, r118.2.a7, r118.2.a8⟩))
def g30_3 (v : V30_3) : Option Y30_3 := (g30_3T v).get?
def k30_3 (v : V30_3) (r : Y30_3) : AV × List Blk := (.c (.rs 2 r.b0), [.cells [.bool r.b1, .bool r.b2, .rs 2 r.b3, .rs 2 r.b4, .rs 2 r.b5, .rs 2 r.b6], .dead])
noncomputable def q30_3 : Ab.Spec := frcR [[some 2]] (runQh 1 e30 (lookT [(0, F30_0)]) Go.Proofs.Try.f30)
theorem q30_3_ok : SpecOk Go.Proofs.Try.prog 30 q30_3 := (runQh_ok (runR_ok (e := e30) follows (allTI ti_ok _ _ _ _ _) (callsOk_cons s40_ok (callsOk_nil)) Go.Proofs.Try.func30 Go.Proofs.Try.call30) (fun c hc => by
  have hb : c = Go.Proofs.Try.f30.body.getD .skip := by rw [hc]; rfl
  subst hb
  exact tab_cons (by kernel_rfl) F30_0_ok (tab_nil))).forced [[some 2]]
theorem g30_3_run (v : V30_3) : (q30_3 (hS30_3 v).tmps (hS30_3 v).heap).eval = (g30_3T v).ev (k30_3 v) := by kernel_rfl
noncomputable def sp30_3 (v : V30_3) : Res (AV × List Blk) := .opt (g30_3 v) fun r => .val (k30_3 v r)
theorem sp30_3_ok (v : V30_3) (r : AV × List Blk) (h : (sp30_3 v).eval = some r) : (q30_3 (hS30_3 v).tmps (hS30_3 v).heap).eval = some r := by
  rw [g30_3_run, Tr.ev_get?]
  unfold sp30_3 at h
  rw [eval_opt] at h
  obtain ⟨z, hz, h⟩ := Option.bind_eq_some_iff.mp h
  unfold g30_3 at hz
  rw [hz]; exact h
noncomputable def s30 : Ab.Spec := shapeS aS30_3 bS30_3 (fun args h => sp30_3 (iS30_3 ⟨args, h⟩)) (shapeS aS30_2 bS30_2 (fun args h => sp30_2 (iS30_2 ⟨args, h⟩)) (shapeS aS30_1 bS30_1 (fun args h => sp30_1 (iS30_1 ⟨args, h⟩)) (shapeS aS30_0 bS30_0 (fun args h => sp30_0 (iS30_0 ⟨args, h⟩)) (frcR [[some 2]] (runR e30 Go.Proofs.Try.f30)))))
theorem s30_ok : SpecOk Go.Proofs.Try.prog 30 s30 := shape_ok hS30_3 iS30_3 q30_3_ok (shape_ok hS30_2 iS30_2 q30_2_ok (shape_ok hS30_1 iS30_1 q30_1_ok (shape_ok hS30_0 iS30_0 q30_0_ok (((runR_ok (e := e30) follows (allTI ti_ok _ _ _ _ _) (callsOk_cons s40_ok (callsOk_nil)) Go.Proofs.Try.func30 Go.Proofs.Try.call30)).forced [[some 2]]) (fun s => by kernel_rfl) sp30_0_ok) (fun s => by kernel_rfl) sp30_1_ok) (fun s => by kernel_rfl) sp30_2_ok) (fun s => by kernel_rfl) sp30_3_ok
/-- (*pontage/wire.Wire).All -/
noncomputable def L9 : SL := [(29, .byRead [some 3, none], s29), (30, .byHeap, s30), (40, .byNew, s40)]
noncomputable def e9 : Env := ⟨ti, fun g => lookS g L9, 1000000, [], [], none⟩
structure V9_0 where
  a0 : Int
  a1 : Bool
  a2 : Bool
  a3 : List S2
  a4 : List S2
  a5 : List S2
  a6 : List S2
structure Y9_0 where
  b0 : List S2
  b1 : Bool
  b2 : Bool
  b3 : List S2
  b4 : List S2
  b5 : List S2
  b6 : List S2
  deriving Inhabited
def hS9_0 (v : V9_0) : St := ⟨[.c (.ptr 0 0), .c (.int .i64 v.a0)], [.cells [.bool v.a1, .bool v.a2, .rs 2 v.a3, .rs 2 v.a4, .rs 2 v.a5, .rs 2 v.a6]]⟩
def iS9_0 (s : St) : V9_0 := ⟨iC (aC (s.tmps.getD 1 .top)), bC ((bL (s.heap.getD 0 .dead)).getD 0 .top), bC ((bL (s.heap.getD 0 .dead)).getD 1 .top), rC 2 ((bL (s.heap.getD 0 .dead)).getD 2 .top), rC 2 ((bL (s.heap.getD 0 .dead)).getD 3 .top), rC 2 ((bL (s.heap.getD 0 .dead)).getD 4 .top), rC 2 ((bL (s.heap.getD 0 .dead)).getD 5 .top)⟩
def aS9_0 : List PA := [.c (.ptr 0 0), .c (.int .i64)]
def bS9_0 : List PB := [.cells [.bool, .bool, .rs 2, .rs 2, .rs 2, .rs 2]]
def g9_0T (v : V9_0) : Tr Y9_0 :=
  let z105 := g29_0 (V29_0.mk ((S3.mk v.a1 v.a2 v.a3 v.a4 v.a5 v.a6)) (v.a0))
  .br (!z105.b0) (
   .leaf (⟨[], v.a1, v.a2, v.a3, v.a4, v.a5, v.a6⟩)) (
   .br (decide (0 ≤ v.a0) && decide (v.a0 < 2)) (
    .br (v.a0 == 0) (
     .opt (g30_0 (V30_0.mk (v.a1) (v.a2) (v.a3) (v.a4) (v.a5) (v.a6))) fun z111 =>
      .leaf (⟨z111.b0, z111.b1, z111.b2, z111.b3, z111.b4, z111.b5, z111.b6⟩)) (
     .br (v.a0 == 1) (
      .opt (g30_1 (V30_1.mk (v.a1) (v.a2) (v.a3) (v.a4) (v.a5) (v.a6))) fun z113 =>
       .leaf (⟨z113.b0, z113.b1, z113.b2, z113.b3, z113.b4, z113.b5, z113.b6⟩)) (
      .fail))) (
    .fail))
def g9_0 (v : V9_0) : Option Y9_0 := (g9_0T v).get?
def k9_0 (v : V9_0) (r : Y9_0) : AV × List Blk := (.c (.rs 2 r.b0), [.cells [.bool r.b1, .bool r.b2, .rs 2 r.b3, .rs 2 r.b4, .rs 2 r.b5, .rs 2 r.b6]])
noncomputable def q9_0 : Ab.Spec := frcR [[some 2]] (runQh 1 e9 (lookT []) Go.Proofs.Try.f9)
theorem q9_0_ok : SpecOk Go.Proofs.Try.prog 9 q9_0 := (runQh_ok (runR_ok (e := e9) follows (allTI ti_ok _ _ _ _ _) (callsOk_cons s29_ok (callsOk_cons s30_ok (callsOk_cons s40_ok (callsOk_nil)))) Go.Proofs.Try.func9 Go.Proofs.Try.call9) (fun c hc => by
  have hb : c = Go.Proofs.Try.f9.body.getD .skip := by rw [hc]; rfl
  subst hb
  exact tab_nil)).forced [[some 2]]
theorem g9_0_run (v : V9_0) : (q9_0 (hS9_0 v).tmps (hS9_0 v).heap).eval = (g9_0T v).ev (k9_0 v) := by kernel_rfl
noncomputable def sp9_0 (v : V9_0) : Res (AV × List Blk) := .opt (g9_0 v) fun r => .val (k9_0 v r)
theorem sp9_0_ok (v : V9_0) (r : AV × List Blk) (h : (sp9_0 v).eval = some r) : (q9_0 (hS9_0 v).tmps (hS9_0 v).heap).eval = some r := by
  rw [g9_0_run, Tr.ev_get?]
  unfold sp9_0 at h
  rw [eval_opt] at h
  obtain ⟨z, hz, h⟩ := Option.bind_eq_some_iff.mp h
  unfold g9_0 at hz
  rw [hz]; exact h
structure V9_1 where
  a0 : Int
structure Y9_1 where
  b0 : List S2
  deriving Inhabited
def hS9_1 (v : V9_1) : St := ⟨[.c (.nilp), .c (.int .i64 v.a0)], []⟩
def iS9_1 (s : St) : V9_1 := ⟨iC (aC (s.tmps.getD 1 .top))⟩
def aS9_1 : List PA := [.c (.nilp), .c (.int .i64)]
def bS9_1 : List PB := []
def g9_1T (v : V9_1) : Tr Y9_1 :=
  .leaf (⟨[]⟩)
def g9_1 (v : V9_1) : Y9_1 := (g9_1T v).get default
def k9_1 (v : V9_1) (r : Y9_1) : AV × List Blk := (.c (.rs 2 r.b0), [])
noncomputable def q9_1 : Ab.Spec := frcR [[some 2]] (runQh 0 e9 (lookT []) Go.Proofs.Try.f9)
theorem q9_1_ok : SpecOk Go.Proofs.Try.prog 9 q9_1 := (runQh_ok (runR_ok (e := e9) follows (allTI ti_ok _ _ _ _ _) (callsOk_cons s29_ok (callsOk_cons s30_ok (callsOk_cons s40_ok (callsOk_nil)))) Go.Proofs.Try.func9 Go.Proofs.Try.call9) (fun c hc => by
  have hb : c = Go.Proofs.Try.f9.body.getD .skip := by rw [hc]; rfl
  subst hb
  exact tab_nil)).forced [[some 2]]
theorem g9_1_run (v : V9_1) : (q9_1 (hS9_1 v).tmps (hS9_1 v).heap).eval = (g9_1T v).ev (k9_1 v) := by kernel_rfl
noncomputable def sp9_1 (v : V9_1) : Res (AV × List Blk) := let r := g9_1 v; .val (k9_1 v r)
theorem sp9_1_ok (v : V9_1) (r : AV × List Blk) (h : (sp9_1 v).eval = some r) : (q9_1 (hS9_1 v).tmps (hS9_1 v).heap).eval = some r := by
  rw [g9_1_run, Tr.ev_get (d := default) (by kernel_rfl)]
  exact h
noncomputable def s9 : Ab.Spec := shapeS aS9_1 bS9_1 (fun args h => sp9_1 (iS9_1 ⟨args, h⟩)) (shapeS aS9_0 bS9_0 (fun args h => sp9_0 (iS9_0 ⟨args, h⟩)) (frcR [[some 2]] (runR e9 Go.Proofs.Try.f9)))
theorem s9_ok : SpecOk Go.Proofs.Try.prog 9 s9 := shape_ok hS9_1 iS9_1 q9_1_ok (shape_ok hS9_0 iS9_0 q9_0_ok (((runR_ok (e := e9) follows (allTI ti_ok _ _ _ _ _) (callsOk_cons s29_ok (callsOk_cons s30_ok (callsOk_cons s40_ok (callsOk_nil)))) Go.Proofs.Try.func9 Go.Proofs.Try.call9)).forced [[some 2]]) (fun s => by kernel_rfl) sp9_0_ok) (fun s => by kernel_rfl) sp9_1_ok
/-- (*pontage/wire.Wire).Words -/
noncomputable def L10 : SL := [(29, .byRead [some 3, none], s29), (30, .byHeap, s30), (40, .byNew, s40)]
noncomputable def e10 : Env := ⟨ti, fun g => lookS g L10, 1000000, [], [], none⟩
structure V10_0 where
  a0 : Int
  a1 : Bool
  a2 : Bool
  a3 : List S2
  a4 : List S2
  a5 : List S2
  a6 : List S2
structure Y10_0 where
  b0 : List S2
  b1 : Bool
  b2 : Bool
  b3 : List S2
  b4 : List S2
  b5 : List S2
  b6 : List S2
  deriving Inhabited
def hS10_0 (v : V10_0) : St := ⟨[.c (.ptr 0 0), .c (.int .i64 v.a0)], [.cells [.bool v.a1, .bool v.a2, .rs 2 v.a3, .rs 2 v.a4, .rs 2 v.a5, .rs 2 v.a6]]⟩
def iS10_0 (s : St) : V10_0 := ⟨iC (aC (s.tmps.getD 1 .top)), bC ((bL (s.heap.getD 0 .dead)).getD 0 .top), bC ((bL (s.heap.getD 0 .dead)).getD 1 .top), rC 2 ((bL (s.heap.getD 0 .dead)).getD 2 .top), rC 2 ((bL (s.heap.getD 0 .dead)).getD 3 .top), rC 2 ((bL (s.heap.getD 0 .dead)).getD 4 .top), rC 2 ((bL (s.heap.getD 0 .dead)).getD 5 .top)⟩
def aS10_0 : List PA := [.c (.ptr 0 0), .c (.int .i64)]
def bS10_0 : List PB := [.cells [.bool, .bool, .rs 2, .rs 2, .rs 2, .rs 2]]
def g10_0T (v : V10_0) : Tr Y10_0 :=
  let z115 := g29_0 (V29_0.mk ((S3.mk v.a1 v.a2 v.a3 v.a4 v.a5 v.a6)) (v.a0))
  .br (!z115.b0) (
   .leaf (⟨[], v.a1, v.a2, v.a3, v.a4, v.a5, v.a6⟩)) (
   .br (decide (0 ≤ v.a0) && decide (v.a0 < 2)) (
    .br (v.a0 == 0) (
     .opt (g30_2 (V30_2.mk (v.a1) (v.a2) (v.a3) (v.a4) (v.a5) (v.a6))) fun z117 =>
      .leaf (⟨z117.b0, z117.b1, z117.b2, z117.b3, z117.b4, z117.b5, z117.b6⟩)) (
     .br (v.a0 == 1) (
      .opt (g30_3 (V30_3.mk (v.a1) (v.a2) (v.a3) (v.a4) (v.a5) (v.a6))) fun z119 =>
       .leaf (⟨z119.b0, z119.b1, z119.b2, z119.b3, z119.b4, z119.b5, z119.b6⟩)) (
      .fail))) (
    .fail))
def g10_0 (v : V10_0) : Option Y10_0 := (g10_0T v).get?
def k10_0 (v : V10_0) (r : Y10_0) : AV × List Blk := (.c (.rs 2 r.b0), [.cells [.bool r.b1, .bool r.b2, .rs 2 r.b3, .rs 2 r.b4, .rs 2 r.b5, .rs 2 r.b6]])
noncomputable def q10_0 : Ab.Spec := frcR [[some 2]] (runQh 1 e10 (lookT []) Go.Proofs.Try.f10)
theorem q10_0_ok : SpecOk Go.Proofs.Try.prog 10 q10_0 := (runQh_ok (runR_ok (e := e10) follows (allTI ti_ok _ _ _ _ _) (callsOk_cons s29_ok (callsOk_cons s30_ok (callsOk_cons s40_ok (callsOk_nil)))) Go.Proofs.Try.func10 Go.Proofs.Try.call10) (fun c hc => by
  have hb : c = Go.Proofs.Try.f10.body.getD .skip := by rw [hc]; rfl
  subst hb
  exact tab_nil)).forced [[some 2]]
theorem g10_0_run (v : V10_0) : (q10_0 (hS10_0 v).tmps (hS10_0 v).heap).eval = (g10_0T v).ev (k10_0 v) := by kernel_rfl
noncomputable def sp10_0 (v : V10_0) : Res (AV × List Blk) := .opt (g10_0 v) fun r => .val (k10_0 v r)
theorem sp10_0_ok (v : V10_0) (r : AV × List Blk) (h : (sp10_0 v).eval = some r) : (q10_0 (hS10_0 v).tmps (hS10_0 v).heap).eval = some r := by
  rw [g10_0_run, Tr.ev_get?]
  unfold sp10_0 at h
  rw [eval_opt] at h
  obtain ⟨z, hz, h⟩ := Option.bind_eq_some_iff.mp h
  unfold g10_0 at hz
  rw [hz]; exact h
structure V10_1 where
  a0 : Int
structure Y10_1 where
  b0 : List S2
  deriving Inhabited
def hS10_1 (v : V10_1) : St := ⟨[.c (.nilp), .c (.int .i64 v.a0)], []⟩
def iS10_1 (s : St) : V10_1 := ⟨iC (aC (s.tmps.getD 1 .top))⟩
def aS10_1 : List PA := [.c (.nilp), .c (.int .i64)]
def bS10_1 : List PB := []
def g10_1T (v : V10_1) : Tr Y10_1 :=
  .leaf (⟨[]⟩)
def g10_1 (v : V10_1) : Y10_1 := (g10_1T v).get default
def k10_1 (v : V10_1) (r : Y10_1) : AV × List Blk := (.c (.rs 2 r.b0), [])
noncomputable def q10_1 : Ab.Spec := frcR [[some 2]] (runQh 0 e10 (lookT []) Go.Proofs.Try.f10)
theorem q10_1_ok : SpecOk Go.Proofs.Try.prog 10 q10_1 := (runQh_ok (runR_ok (e := e10) follows (allTI ti_ok _ _ _ _ _) (callsOk_cons s29_ok (callsOk_cons s30_ok (callsOk_cons s40_ok (callsOk_nil)))) Go.Proofs.Try.func10 Go.Proofs.Try.call10) (fun c hc => by
  have hb : c = Go.Proofs.Try.f10.body.getD .skip := by rw [hc]; rfl
  subst hb
  exact tab_nil)).forced [[some 2]]
theorem g10_1_run (v : V10_1) : (q10_1 (hS10_1 v).tmps (hS10_1 v).heap).eval = (g10_1T v).ev (k10_1 v) := by kernel_rfl
noncomputable def sp10_1 (v : V10_1) : Res (AV × List Blk) := let r := g10_1 v; .val (k10_1 v r)
theorem sp10_1_ok (v : V10_1) (r : AV × List Blk) (h : (sp10_1 v).eval = some r) : (q10_1 (hS10_1 v).tmps (hS10_1 v).heap).eval = some r := by
  rw [g10_1_run, Tr.ev_get (d := default) (by kernel_rfl)]
  exact h
noncomputable def s10 : Ab.Spec := shapeS aS10_1 bS10_1 (fun args h => sp10_1 (iS10_1 ⟨args, h⟩)) (shapeS aS10_0 bS10_0 (fun args h => sp10_0 (iS10_0 ⟨args, h⟩)) (frcR [[some 2]] (runR e10 Go.Proofs.Try.f10)))
theorem s10_ok : SpecOk Go.Proofs.Try.prog 10 s10 := shape_ok hS10_1 iS10_1 q10_1_ok (shape_ok hS10_0 iS10_0 q10_0_ok (((runR_ok (e := e10) follows (allTI ti_ok _ _ _ _ _) (callsOk_cons s29_ok (callsOk_cons s30_ok (callsOk_cons s40_ok (callsOk_nil)))) Go.Proofs.Try.func10 Go.Proofs.Try.call10)).forced [[some 2]]) (fun s => by kernel_rfl) sp10_0_ok) (fun s => by kernel_rfl) sp10_1_ok
/-- pontage/pontageref21.Same -/
noncomputable def L16 : SL := []
noncomputable def e16 : Env := ⟨ti, fun g => lookS g L16, 1000000, [.drop 2, .drop 3, .drop 6, .drop 7, .drop 8, .drop 9, .drop 10, .drop 11, .drop 12, .drop 13, .drop 14, .drop 15, .drop 16, .drop 17, .drop 18, .drop 19, .drop 20, .drop 21, .drop 22, .drop 23, .drop 24, .drop 25, .drop 26, .drop 27], [], some [4]⟩
structure W16_0 where
  a0 : List S2
  a1 : List S2
  a2 : Bool
  a3 : Int
def hd16_0 (v : W16_0) : St := ⟨[.c (.rs 2 v.a0), .c (.rs 2 v.a1), .top, .top, .c (.bool v.a2), .c (.int .i64 v.a3), .top, .top, .top, .top, .top, .top, .top, .top, .top, .top, .top, .top, .top, .top, .top, .top, .top, .top, .top, .top, .top, .top], []⟩
structure U16_0 where
  a0 : Bool
def hu16_0 (u : U16_0) : St := ⟨[.top, .top, .top, .top, .c (.bool u.a0), .top, .top, .top, .top, .top, .top, .top, .top, .top, .top, .top, .top, .top, .top, .top, .top, .top, .top, .top, .top, .top, .top, .top], []⟩
def gR16_0 (v : W16_0) : Tr (W16_0 ⊕ (W16_0 ⊕ U16_0)) :=
  .br (decide (v.a3 < (v.a0.length : Int))) (
   .br (decide (0 ≤ v.a3)) (
    .opt (v.a0[Int.toNat v.a3]?) fun y97 =>
     .br (decide (0 ≤ v.a3)) (
      .opt (v.a1[Int.toNat v.a3]?) fun y98 =>
       .br (!((strO 0 y97.f0) == (strO 0 y98.f0))) (
        .leaf (.inr (.inr ⟨false⟩))) (
        .leaf (.inl ({ v with a3 := (IntKind.i64.wrap (v.a3 + 1)) })))) (
      .fail)) (
    .fail)) (
   .leaf (.inr (.inl (v))))
noncomputable def lb16_0 : Code := match findB 0 (Go.Proofs.Try.f16.body.getD .skip) with | [.loop b] => b | _ => .skip
def pa16_0 : List PA := [.c (.rs 2), .c (.rs 2), .any, .any, .c (.bool), .c (.int .i64), .any, .any, .any, .any, .any, .any, .any, .any, .any, .any, .any, .any, .any, .any, .any, .any, .any, .any, .any, .any, .any, .any]
def pb16_0 : List PB := []
def ini16_0 (s : St) : W16_0 := ⟨rC 2 (aC (s.tmps.getD 0 .top)), rC 2 (aC (s.tmps.getD 1 .top)), bC (aC (s.tmps.getD 4 .top)), iC (aC (s.tmps.getD 5 .top))⟩
noncomputable def F16_0 : St → Res (Ex × St) := loopF2 pa16_0 pb16_0 1000000 hd16_0 hu16_0 gR16_0 ini16_0
theorem F16_0_ok (s : St) (r : Ex × St) (h : (F16_0 s).eval = some r) : (codeR e16 0 (.block 0 (.loop lb16_0)) s).eval = some r :=
  blk_ok2 (e := e16) (T := lookT []) (fun s v => by kernel_rfl) (fun s => by kernel_rfl) (tab_nil) s r h
def g16T (x0 : List S2) (x1 : List S2) : Tr (Bool) :=
  .br ((x0.length : Int) != (x1.length : Int)) (
   .leaf (false)) (
   .opt (iter2 gR16_0 1000000 (W16_0.mk (x0) (x1) (false) (0))) fun r99 =>
    .br r99.isRight (
     .opt (r99.getRight?) fun u100 =>
      .leaf (u100.a0)) (
     .opt (r99.getLeft?) fun w101 =>
      .leaf (true)))
def g16 (x0 : List S2) (x1 : List S2) : Option (Bool) := (g16T x0 x1).get?
noncomputable def T16 : TL := [(0, F16_0)]
noncomputable def q16 : Ab.Spec := runQ0 e16 (lookT T16) Go.Proofs.Try.f16
theorem q16_ok : SpecOk Go.Proofs.Try.prog 16 q16 := (runQ0_ok (runR_ok (e := e16) follows (allTI ti_ok _ _ _ _ _) (callsOk_nil) Go.Proofs.Try.func16 Go.Proofs.Try.call16) (fun c hc => by
  have hb : c = Go.Proofs.Try.f16.body.getD .skip := by rw [hc]; rfl
  subst hb
  exact tab_cons (by kernel_rfl) F16_0_ok (tab_nil)))
theorem g16_run (x0 : List S2) (x1 : List S2) : (q16 [.c (.rs 2 x0), .c (.rs 2 x1)] []).eval = (g16T x0 x1).ev fun r => ((.c (.bool r) : AV), ([] : List Blk)) := by kernel_rfl
noncomputable def s16_0 : Ab.Spec := fun args h =>
  dN h <| dL args fun v0 a0 => dC v0 fun c0 => dR0 2 c0 fun x0 => dL a0 fun v1 a1 => dC v1 fun c1 => dR0 2 c1 fun x1 => dN a1 <|
  .opt (g16 x0 x1) fun r => .val (.c (.bool r), [])
theorem s16_0_ok : SpecOk Go.Proofs.Try.prog 16 s16_0 :=
  q16_ok.less fun args hs r h => by
    unfold s16_0 at h
    obtain ⟨rfl, hh1⟩ := dN_inv h
    obtain ⟨v0, a0, rfl, hh2⟩ := dL_inv hh1
    obtain ⟨c0, rfl, hh3⟩ := dC_inv hh2
    obtain ⟨x0, rfl, hh4⟩ := dR0_inv hh3
    obtain ⟨v1, a1, rfl, hh5⟩ := dL_inv hh4
    obtain ⟨c1, rfl, hh6⟩ := dC_inv hh5
    obtain ⟨x1, rfl, hh7⟩ := dR0_inv hh6
    obtain ⟨rfl, hh8⟩ := dN_inv hh7
    rw [g16_run, Tr.ev_get?]
    change (Res.opt (g16 x0 x1) _).eval = some r at hh8
    rw [eval_opt] at hh8
    obtain ⟨z, hz, hh9⟩ := Option.bind_eq_some_iff.mp hh8
    unfold g16 at hz
    rw [hz]; exact hh9
noncomputable def s16 : Ab.Spec := fun args h => s16_0 (coeA [[some 2], [some 2]] args) h
theorem s16_ok : SpecOk Go.Proofs.Try.prog 16 s16 := s16_0_ok.pre [[some 2], [some 2]]
/-- pontage/pontagelaw25.WireApart -/
noncomputable def L3 : SL := [(7, .byHeap, s7), (8, .byVal, s8), (9, .byHeap, s9), (29, .byRead [some 3, none], s29), (30, .byHeap, s30), (40, .byNew, s40), (10, .byHeap, s10), (11, .byHeap, s11), (31, .byRead [some 3, none], s31), (32, .byHeap, s32), (41, .byNew, s41), (12, .byHeap, s12), (33, .byHeap, s33), (42, .byHeap, s42), (13, .byHeap, s13), (34, .byRead [some 3], s34), (35, .byRead [some 3, none], s35), (14, .byHeap, s14), (15, .byHeap, s15), (16, .byVal, s16)]
noncomputable def e3 : Env := ⟨ti, fun g => lookS g L3, 1000000, [.drop 1, .drop 6, .drop 7, .drop 8, .drop 9, .drop 10, .drop 11, .drop 12, .drop 13, .drop 14, .drop 15, .drop 16, .drop 17, .drop 18, .drop 19, .drop 20, .drop 21, .drop 22, .drop 23, .drop 24, .drop 25, .drop 26, .drop 27, .drop 28, .drop 29, .drop 30, .drop 31, .drop 32, .drop 33, .drop 34, .drop 35, .drop 36, .drop 37, .drop 38, .drop 39, .drop 40, .drop 41, .drop 42, .drop 43, .drop 44, .drop 45, .drop 46, .drop 47, .drop 48, .drop 49, .drop 50, .drop 51, .drop 52, .drop 53, .drop 54, .drop 55, .drop 56, .drop 57, .drop 58, .drop 59, .drop 60, .drop 61, .drop 62, .drop 63, .drop 64, .drop 65, .drop 66, .drop 67, .drop 68, .drop 69, .drop 70, .drop 71, .drop 72, .drop 73, .drop 74, .drop 75, .drop 76, .drop 77, .drop 78, .drop 79, .drop 80, .drop 81, .drop 82, .drop 83, .drop 84, .drop 85, .drop 86, .drop 87, .drop 88, .drop 89, .drop 90, .drop 91, .drop 92, .drop 93, .drop 94, .drop 95, .drop 96, .drop 97, .drop 98, .drop 99, .drop 100, .drop 101, .drop 102, .drop 103, .drop 104, .drop 105, .drop 106, .drop 107, .drop 108, .drop 109, .drop 110, .drop 111, .drop 112, .drop 113, .drop 114, .drop 115, .drop 116, .drop 117, .drop 118, .drop 119, .drop 120, .drop 121, .drop 122, .drop 123, .drop 124, .drop 125, .drop 126, .drop 127, .drop 128, .drop 129, .drop 130, .drop 131, .drop 132, .drop 133, .drop 134, .drop 135, .drop 136, .drop 137, .drop 138, .drop 139, .drop 140, .drop 141, .drop 142, .drop 143, .drop 144, .drop 145, .drop 146, .drop 147, .drop 148, .drop 149, .drop 150, .drop 151, .drop 152, .drop 153, .drop 154, .drop 155, .drop 156, .drop 157, .drop 158, .drop 159, .drop 160, .drop 161, .blk 1 0 2, .blk 1 1 2], [96, 1000134, 2000007], some [2]⟩
structure W3_0 where
  a0 : List S1
  a1 : Bool
  a2 : Int
  a3 : Bool
  a4 : Bool
  a5 : List S2
  a6 : List S2
  a7 : List S2
  a8 : List S2
  a9 : List S2
  a10 : List S2
def hd3_0 (v : W3_0) : St := ⟨[.c (.rs 1 v.a0), .top, .c (.bool v.a1), .c (.ptr 0 0), .c (.ptr 1 0), .c (.int .i64 v.a2), .top, .top, .top, .top, .top, .top, .top, .top, .top, .top, .top, .top, .top, .top, .top, .top, .top, .top, .top, .top, .top, .top, .top, .top, .top, .top, .top, .top, .top, .top, .top, .top, .top, .top, .top, .top, .top, .top, .top, .top, .top, .top, .top, .top, .top, .top, .top, .top, .top, .top, .top, .top, .top, .top, .top, .top, .top, .top, .top, .top, .top, .top, .top, .top, .top, .top, .top, .top, .top, .top, .top, .top, .top, .top, .top, .top, .top, .top, .top, .top, .top, .top, .top, .top, .top, .top, .top, .top, .top, .top, .top, .top, .top, .top, .top, .top, .top, .top, .top, .top, .top, .top, .top, .top, .top, .top, .top, .top, .top, .top, .top, .top, .top, .top, .top, .top, .top, .top, .top, .top, .top, .top, .top, .top, .top, .top, .top, .top, .top, .top, .top, .top, .top, .top, .top, .top, .top, .top, .top, .top, .top, .top, .top, .top, .top, .top, .top, .top, .top, .top, .top, .top, .top, .top, .top, .top], [.cells [.bool v.a3, .bool v.a4, .rs 2 v.a5, .rs 2 v.a6, .rs 2 v.a7, .rs 2 v.a8], .cells [.slw 2, .slw 3], .row 2 v.a9, .row 2 v.a10]⟩
structure U3_0 where
  a0 : Bool
def hu3_0 (u : U3_0) : St := ⟨[.top, .top, .c (.bool u.a0), .top, .top, .top, .top, .top, .top, .top, .top, .top, .top, .top, .top, .top, .top, .top, .top, .top, .top, .top, .top, .top, .top, .top, .top, .top, .top, .top, .top, .top, .top, .top, .top, .top, .top, .top, .top, .top, .top, .top, .top, .top, .top, .top, .top, .top, .top, .top, .top, .top, .top, .top, .top, .top, .top, .top, .top, .top, .top, .top, .top, .top, .top, .top, .top, .top, .top, .top, .top, .top, .top, .top, .top, .top, .top, .top, .top, .top, .top, .top, .top, .top, .top, .top, .top, .top, .top, .top, .top, .top, .top, .top, .top, .top, .top, .top, .top, .top, .top, .top, .top, .top, .top, .top, .top, .top, .top, .top, .top, .top, .top, .top, .top, .top, .top, .top, .top, .top, .top, .top, .top, .top, .top, .top, .top, .top, .top, .top, .top, .top, .top, .top, .top, .top, .top, .top, .top, .top, .top, .top, .top, .top, .top, .top, .top, .top, .top, .top, .top, .top, .top, .top, .top, .top, .top, .top, .top, .top, .top, .top], []⟩
def gR3_0 (v : W3_0) : Tr (W3_0 ⊕ (W3_0 ⊕ U3_0)) :=
  .br (bif (decide (v.a2 < (v.a0.length : Int))) then (decide (v.a2 < 80)) else false) (
   .br (decide (0 ≤ v.a2)) (
    .opt (v.a0[Int.toNat v.a2]?) fun y259 =>
     .br ((IntKind.i64.wrap (remI (IntKind.u64.wrap y259.f1) 2)) == 0) (
      .opt (g9_0 (V9_0.mk (1) (v.a3) (v.a4) (v.a5) (v.a6) (v.a7) (v.a8))) fun z260 =>
       .opt (g10_0 (V10_0.mk (1) (z260.b1) (z260.b2) (z260.b3) (z260.b4) (z260.b5) (z260.b6))) fun z261 =>
        .br (y259.f0 == 2) (
         .br (decide (0 ≤ (mnI (y259.f3.length : Int) 100)) && decide ((mnI (y259.f3.length : Int) 100) ≤ (y259.f3.length : Int))) (
          .opt (g11_1 (V11_1.mk (0) ((List.take (Int.toNat (mnI (y259.f3.length : Int) 100)) y259.f3)) (z261.b1) (z261.b2) (z261.b3) (z261.b4) (z261.b5) (z261.b6))) fun z262 =>
           .opt (g10_0 (V10_0.mk (0) (z261.b1) (z261.b2) (z262.b1) (z262.b2) (z261.b5) (z261.b6))) fun z263 =>
            .opt (g16 z263.b0 v.a9) fun z264 =>
             .br (!(!z264)) (
              .opt (g9_0 (V9_0.mk (1) (z263.b1) (z263.b2) (z263.b3) (z263.b4) (z263.b5) (z263.b6))) fun z265 =>
               .opt (g16 z265.b0 z260.b0) fun z266 =>
                .br (!(!z266)) (
                 .opt (g10_0 (V10_0.mk (1) (z265.b1) (z265.b2) (z265.b3) (z265.b4) (z265.b5) (z265.b6))) fun z267 =>
                  .opt (g16 z267.b0 z261.b0) fun z268 =>
                   .br (!z268) (
                    .leaf (.inr (.inr ⟨false⟩))) (
                    .leaf (.inl ({ v with a2 := (IntKind.i64.wrap (v.a2 + 1)), a3 := z267.b1, a4 := z267.b2, a5 := z267.b3, a6 := z267.b4, a7 := z267.b5, a8 := z267.b6 })))) (
                 .leaf (.inr (.inr ⟨false⟩)))) (
              .leaf (.inr (.inr ⟨false⟩)))) (
          .fail)) (
         .br (y259.f0 == 3) (
          .br (decide (0 ≤ (mnI (y259.f3.length : Int) 100)) && decide ((mnI (y259.f3.length : Int) 100) ≤ (y259.f3.length : Int))) (
           .opt (g11_1 (V11_1.mk (0) ((List.take (Int.toNat (mnI (y259.f3.length : Int) 100)) y259.f3)) (z261.b1) (z261.b2) (z261.b3) (z261.b4) (z261.b5) (z261.b6))) fun z269 =>
            .opt (g10_0 (V10_0.mk (0) (z261.b1) (z261.b2) (z269.b1) (z269.b2) (z261.b5) (z261.b6))) fun z270 =>
             .opt (g16 z270.b0 v.a9) fun z271 =>
              .br (!(!z271)) (
               .opt (g9_0 (V9_0.mk (1) (z270.b1) (z270.b2) (z270.b3) (z270.b4) (z270.b5) (z270.b6))) fun z272 =>
                .opt (g16 z272.b0 z260.b0) fun z273 =>
                 .br (!(!z273)) (
                  .opt (g10_0 (V10_0.mk (1) (z272.b1) (z272.b2) (z272.b3) (z272.b4) (z272.b5) (z272.b6))) fun z274 =>
                   .opt (g16 z274.b0 z261.b0) fun z275 =>
                    .br (!z275) (
                     .leaf (.inr (.inr ⟨false⟩))) (
                     .leaf (.inl ({ v with a2 := (IntKind.i64.wrap (v.a2 + 1)), a3 := z274.b1, a4 := z274.b2, a5 := z274.b3, a6 := z274.b4, a7 := z274.b5, a8 := z274.b6 })))) (
                  .leaf (.inr (.inr ⟨false⟩)))) (
               .leaf (.inr (.inr ⟨false⟩)))) (
           .fail)) (
          .br (y259.f0 == 4) (
           .opt (g12_0 (V12_0.mk (0) (y259.f2) (z261.b1) (z261.b2) (z261.b3) (z261.b4) (z261.b5) (z261.b6))) fun z276 =>
            .opt (g10_0 (V10_0.mk (0) (z276.b2) (z276.b3) (z276.b4) (z276.b5) (z276.b6) (z276.b7))) fun z277 =>
             .opt (g16 z277.b0 v.a9) fun z278 =>
              .br (!(!z278)) (
               .opt (g9_0 (V9_0.mk (1) (z277.b1) (z277.b2) (z277.b3) (z277.b4) (z277.b5) (z277.b6))) fun z279 =>
                .opt (g16 z279.b0 z260.b0) fun z280 =>
                 .br (!(!z280)) (
                  .opt (g10_0 (V10_0.mk (1) (z279.b1) (z279.b2) (z279.b3) (z279.b4) (z279.b5) (z279.b6))) fun z281 =>
                   .opt (g16 z281.b0 z261.b0) fun z282 =>
                    .br (!z282) (
                     .leaf (.inr (.inr ⟨false⟩))) (
                     .leaf (.inl ({ v with a2 := (IntKind.i64.wrap (v.a2 + 1)), a3 := z281.b1, a4 := z281.b2, a5 := z281.b3, a6 := z281.b4, a7 := z281.b5, a8 := z281.b6 })))) (
                  .leaf (.inr (.inr ⟨false⟩)))) (
               .leaf (.inr (.inr ⟨false⟩)))) (
           .br (y259.f0 == 5) (
            .opt (g13_0 (V13_0.mk (0) (y259.f2) (z261.b1) (z261.b2) (z261.b3) (z261.b4) (z261.b5) (z261.b6))) fun z283 =>
             .opt (g10_0 (V10_0.mk (0) (z261.b1) (z261.b2) (z283.b1) (z283.b2) (z261.b5) (z261.b6))) fun z284 =>
              .opt (g16 z284.b0 v.a9) fun z285 =>
               .br (!(!z285)) (
                .opt (g9_0 (V9_0.mk (1) (z284.b1) (z284.b2) (z284.b3) (z284.b4) (z284.b5) (z284.b6))) fun z286 =>
                 .opt (g16 z286.b0 z260.b0) fun z287 =>
                  .br (!(!z287)) (
                   .opt (g10_0 (V10_0.mk (1) (z286.b1) (z286.b2) (z286.b3) (z286.b4) (z286.b5) (z286.b6))) fun z288 =>
                    .opt (g16 z288.b0 z261.b0) fun z289 =>
                     .br (!z289) (
                      .leaf (.inr (.inr ⟨false⟩))) (
                      .leaf (.inl ({ v with a2 := (IntKind.i64.wrap (v.a2 + 1)), a3 := z288.b1, a4 := z288.b2, a5 := z288.b3, a6 := z288.b4, a7 := z288.b5, a8 := z288.b6 })))) (
                   .leaf (.inr (.inr ⟨false⟩)))) (
                .leaf (.inr (.inr ⟨false⟩)))) (
            .br (y259.f0 == 6) (
             .br (decide (0 ≤ (mnI (y259.f3.length : Int) 100)) && decide ((mnI (y259.f3.length : Int) 100) ≤ (y259.f3.length : Int))) (
              .opt (g14_0 (V14_0.mk (0) ((List.take (Int.toNat (mnI (y259.f3.length : Int) 100)) y259.f3)) (z261.b1) (z261.b2) (z261.b3) (z261.b4) (z261.b5) (z261.b6))) fun z290 =>
               .br (z290.b0 != 0) (
                .leaf (.inr (.inr ⟨false⟩))) (
                .br ((List.take (Int.toNat (mnI (y259.f3.length : Int) 100)) y259.f3).isEmpty) (
                 .br (Nat.ble (v.a9.length + 1) 140737488355328 && Nat.ble ((v.a9.length + 1) * 24) 140737488355328) (
                  .opt (g10_0 (V10_0.mk (0) (z261.b1) (z261.b2) (z261.b3) (z261.b4) (z290.b1) (z290.b2))) fun z291 =>
                   .opt (g16 z291.b0 (v.a9 ++ [(S2.mk [])])) fun z292 =>
                    .br (!(!z292)) (
                     .opt (g9_0 (V9_0.mk (1) (z291.b1) (z291.b2) (z291.b3) (z291.b4) (z291.b5) (z291.b6))) fun z293 =>
                      .opt (g16 z293.b0 z260.b0) fun z294 =>
                       .br (!(!z294)) (
                        .opt (g10_0 (V10_0.mk (1) (z293.b1) (z293.b2) (z293.b3) (z293.b4) (z293.b5) (z293.b6))) fun z295 =>
                         .opt (g16 z295.b0 z261.b0) fun z296 =>
                          .br (!z296) (
                           .leaf (.inr (.inr ⟨false⟩))) (
                           .leaf (.inl ({ v with a2 := (IntKind.i64.wrap (v.a2 + 1)), a3 := z295.b1, a4 := z295.b2, a5 := z295.b3, a6 := z295.b4, a7 := z295.b5, a8 := z295.b6, a9 := (v.a9 ++ [(S2.mk [])]) })))) (
                        .leaf (.inr (.inr ⟨false⟩)))) (
                     .leaf (.inr (.inr ⟨false⟩)))) (
                  .fail)) (
                 .br (Nat.ble (0 + (List.take (Int.toNat (mnI (y259.f3.length : Int) 100)) y259.f3).length) 140737488355328 && Nat.ble ((0 + (List.take (Int.toNat (mnI (y259.f3.length : Int) 100)) y259.f3).length) * 1) 140737488355328) (
                  .br (Nat.ble (v.a9.length + 1) 140737488355328 && Nat.ble ((v.a9.length + 1) * 24) 140737488355328) (
                   .opt (g10_0 (V10_0.mk (0) (z261.b1) (z261.b2) (z261.b3) (z261.b4) (z290.b1) (z290.b2))) fun z297 =>
                    .opt (g16 z297.b0 (v.a9 ++ [(S2.mk (List.take (Int.toNat (mnI (y259.f3.length : Int) 100)) y259.f3))])) fun z298 =>
                     .br (!(!z298)) (
                      .opt (g9_0 (V9_0.mk (1) (z297.b1) (z297.b2) (z297.b3) (z297.b4) (z297.b5) (z297.b6))) fun z299 =>
                       .opt (g16 z299.b0 z260.b0) fun z300 =>
                        .br (!(!z300)) (
                         .opt (g10_0 (V10_0.mk (1) (z299.b1) (z299.b2) (z299.b3) (z299.b4) (z299.b5) (z299.b6))) fun z301 =>
                          .opt (g16 z301.b0 z261.b0) fun z302 =>
                           .br (!z302) (
                            .leaf (.inr (.inr ⟨false⟩))) (
                            .leaf (.inl ({ v with a2 := (IntKind.i64.wrap (v.a2 + 1)), a3 := z301.b1, a4 := z301.b2, a5 := z301.b3, a6 := z301.b4, a7 := z301.b5, a8 := z301.b6, a9 := (v.a9 ++ [(S2.mk (List.take (Int.toNat (mnI (y259.f3.length : Int) 100)) y259.f3))]) })))) (
                         .leaf (.inr (.inr ⟨false⟩)))) (
                      .leaf (.inr (.inr ⟨false⟩)))) (
                   .fail)) (
                  .fail)))) (
              .fail)) (
             .br (y259.f0 == 7) (
              .opt (g15_0 (V15_0.mk (0) (z261.b1) (z261.b2) (z261.b3) (z261.b4) (z261.b5) (z261.b6))) fun z303 =>
               .br (bif (bif (!(!(z303.b1 == (decide ((v.a9.length : Int) > 0))))) then true else false) then z303.b1 else false) (
                .br (decide (0 ≤ 0) && decide (0 < (v.a9.length : Int))) (
                 .opt (v.a9[(Int.toNat 0)]?) fun y304 =>
                  .br (bif (!(z303.b1 == (decide ((v.a9.length : Int) > 0)))) then true else (!((strO 0 z303.b0) == (strO 0 y304.f0)))) (
                   .leaf (.inr (.inr ⟨false⟩))) (
                   .br z303.b1 (
                    .br (decide (0 ≤ 1) && decide (1 ≤ (v.a9.length : Int)) && Nat.blt 0 v.a9.length) (
                     .opt (g10_0 (V10_0.mk (0) (z303.b2) (z303.b3) (z303.b4) (z303.b5) (z303.b6) (z303.b7))) fun z305 =>
                      .opt (g16 z305.b0 (List.drop (Int.toNat 1) v.a9)) fun z306 =>
                       .br (!(!z306)) (
                        .opt (g9_0 (V9_0.mk (1) (z305.b1) (z305.b2) (z305.b3) (z305.b4) (z305.b5) (z305.b6))) fun z307 =>
                         .opt (g16 z307.b0 z260.b0) fun z308 =>
                          .br (!(!z308)) (
                           .opt (g10_0 (V10_0.mk (1) (z307.b1) (z307.b2) (z307.b3) (z307.b4) (z307.b5) (z307.b6))) fun z309 =>
                            .opt (g16 z309.b0 z261.b0) fun z310 =>
                             .br (!z310) (
                              .leaf (.inr (.inr ⟨false⟩))) (
                              .leaf (.inl ({ v with a2 := (IntKind.i64.wrap (v.a2 + 1)), a3 := z309.b1, a4 := z309.b2, a5 := z309.b3, a6 := z309.b4, a7 := z309.b5, a8 := z309.b6, a9 := (List.drop (Int.toNat 1) v.a9) })))) (
                           .leaf (.inr (.inr ⟨false⟩)))) (
                        .leaf (.inr (.inr ⟨false⟩)))) (
                     .fail)) (
                    .opt (g10_0 (V10_0.mk (0) (z303.b2) (z303.b3) (z303.b4) (z303.b5) (z303.b6) (z303.b7))) fun z311 =>
                     .opt (g16 z311.b0 v.a9) fun z312 =>
                      .br (!(!z312)) (
                       .opt (g9_0 (V9_0.mk (1) (z311.b1) (z311.b2) (z311.b3) (z311.b4) (z311.b5) (z311.b6))) fun z313 =>
                        .opt (g16 z313.b0 z260.b0) fun z314 =>
                         .br (!(!z314)) (
                          .opt (g10_0 (V10_0.mk (1) (z313.b1) (z313.b2) (z313.b3) (z313.b4) (z313.b5) (z313.b6))) fun z315 =>
                           .opt (g16 z315.b0 z261.b0) fun z316 =>
                            .br (!z316) (
                             .leaf (.inr (.inr ⟨false⟩))) (
                             .leaf (.inl ({ v with a2 := (IntKind.i64.wrap (v.a2 + 1)), a3 := z315.b1, a4 := z315.b2, a5 := z315.b3, a6 := z315.b4, a7 := z315.b5, a8 := z315.b6 })))) (
                          .leaf (.inr (.inr ⟨false⟩)))) (
                       .leaf (.inr (.inr ⟨false⟩)))))) (
                 .fail)) (
                .br (bif (bif (!(!(z303.b1 == (decide ((v.a9.length : Int) > 0))))) then true else false) then z303.b1 else false) (
                 .fail) (
                 .br (bif (bif (!(!(z303.b1 == (decide ((v.a9.length : Int) > 0))))) then true else false) then z303.b1 else false) (
                  .fail) (
                  .br (bif (bif (!(!(z303.b1 == (decide ((v.a9.length : Int) > 0))))) then true else false) then z303.b1 else false) (
                   .fail) (
                   .br (bif (bif (!(!(z303.b1 == (decide ((v.a9.length : Int) > 0))))) then true else false) then z303.b1 else false) (
                    .fail) (
                    .br (bif (bif (!(!(z303.b1 == (decide ((v.a9.length : Int) > 0))))) then true else false) then z303.b1 else false) (
                     .fail) (
                     .br (!(!(z303.b1 == (decide ((v.a9.length : Int) > 0))))) (
                      .br z303.b1 (
                       .fail) (
                       .br z303.b1 (
                        .br (decide (0 ≤ 1) && decide (1 ≤ (v.a9.length : Int)) && Nat.blt 0 v.a9.length) (
                         .opt (g10_0 (V10_0.mk (0) (z303.b2) (z303.b3) (z303.b4) (z303.b5) (z303.b6) (z303.b7))) fun z317 =>
                          .opt (g16 z317.b0 (List.drop (Int.toNat 1) v.a9)) fun z318 =>
                           .br (!(!z318)) (
                            .opt (g9_0 (V9_0.mk (1) (z317.b1) (z317.b2) (z317.b3) (z317.b4) (z317.b5) (z317.b6))) fun z319 =>
                             .opt (g16 z319.b0 z260.b0) fun z320 =>
                              .br (!(!z320)) (
                               .opt (g10_0 (V10_0.mk (1) (z319.b1) (z319.b2) (z319.b3) (z319.b4) (z319.b5) (z319.b6))) fun z321 =>
                                .opt (g16 z321.b0 z261.b0) fun z322 =>
                                 .br (!z322) (
                                  .leaf (.inr (.inr ⟨false⟩))) (
                                  .leaf (.inl ({ v with a2 := (IntKind.i64.wrap (v.a2 + 1)), a3 := z321.b1, a4 := z321.b2, a5 := z321.b3, a6 := z321.b4, a7 := z321.b5, a8 := z321.b6, a9 := (List.drop (Int.toNat 1) v.a9) })))) (
                               .leaf (.inr (.inr ⟨false⟩)))) (
                            .leaf (.inr (.inr ⟨false⟩)))) (
                         .fail)) (
                        .opt (g10_0 (V10_0.mk (0) (z303.b2) (z303.b3) (z303.b4) (z303.b5) (z303.b6) (z303.b7))) fun z323 =>
                         .opt (g16 z323.b0 v.a9) fun z324 =>
                          .br (!(!z324)) (
                           .opt (g9_0 (V9_0.mk (1) (z323.b1) (z323.b2) (z323.b3) (z323.b4) (z323.b5) (z323.b6))) fun z325 =>
                            .opt (g16 z325.b0 z260.b0) fun z326 =>
                             .br (!(!z326)) (
                              .opt (g10_0 (V10_0.mk (1) (z325.b1) (z325.b2) (z325.b3) (z325.b4) (z325.b5) (z325.b6))) fun z327 =>
                               .opt (g16 z327.b0 z261.b0) fun z328 =>
                                .br (!z328) (
                                 .leaf (.inr (.inr ⟨false⟩))) (
                                 .leaf (.inl ({ v with a2 := (IntKind.i64.wrap (v.a2 + 1)), a3 := z327.b1, a4 := z327.b2, a5 := z327.b3, a6 := z327.b4, a7 := z327.b5, a8 := z327.b6 })))) (
                              .leaf (.inr (.inr ⟨false⟩)))) (
                           .leaf (.inr (.inr ⟨false⟩)))))) (
                      .leaf (.inr (.inr ⟨false⟩)))))))))) (
              .opt (g10_0 (V10_0.mk (0) (z261.b1) (z261.b2) (z261.b3) (z261.b4) (z261.b5) (z261.b6))) fun z329 =>
               .opt (g16 z329.b0 v.a9) fun z330 =>
                .br (!(!z330)) (
                 .opt (g9_0 (V9_0.mk (1) (z329.b1) (z329.b2) (z329.b3) (z329.b4) (z329.b5) (z329.b6))) fun z331 =>
                  .opt (g16 z331.b0 z260.b0) fun z332 =>
                   .br (!(!z332)) (
                    .opt (g10_0 (V10_0.mk (1) (z331.b1) (z331.b2) (z331.b3) (z331.b4) (z331.b5) (z331.b6))) fun z333 =>
                     .opt (g16 z333.b0 z261.b0) fun z334 =>
                      .br (!z334) (
                       .leaf (.inr (.inr ⟨false⟩))) (
                       .leaf (.inl ({ v with a2 := (IntKind.i64.wrap (v.a2 + 1)), a3 := z333.b1, a4 := z333.b2, a5 := z333.b3, a6 := z333.b4, a7 := z333.b5, a8 := z333.b6 })))) (
                    .leaf (.inr (.inr ⟨false⟩)))) (
                 .leaf (.inr (.inr ⟨false⟩)))))))))) (
      .br ((IntKind.i64.wrap (remI (IntKind.u64.wrap y259.f1) 2)) == 1) (
       .opt (g9_0 (V9_0.mk (0) (v.a3) (v.a4) (v.a5) (v.a6) (v.a7) (v.a8))) fun z335 =>
        .opt (g10_0 (V10_0.mk (0) (z335.b1) (z335.b2) (z335.b3) (z335.b4) (z335.b5) (z335.b6))) fun z336 =>
         .br (y259.f0 == 2) (
          .br (decide (0 ≤ (mnI (y259.f3.length : Int) 100)) && decide ((mnI (y259.f3.length : Int) 100) ≤ (y259.f3.length : Int))) (
           .opt (g11_1 (V11_1.mk (1) ((List.take (Int.toNat (mnI (y259.f3.length : Int) 100)) y259.f3)) (z336.b1) (z336.b2) (z336.b3) (z336.b4) (z336.b5) (z336.b6))) fun z337 =>
            .opt (g10_0 (V10_0.mk (1) (z336.b1) (z336.b2) (z337.b1) (z337.b2) (z336.b5) (z336.b6))) fun z338 =>
             .opt (g16 z338.b0 v.a10) fun z339 =>
              .br (!(!z339)) (
               .opt (g9_0 (V9_0.mk (0) (z338.b1) (z338.b2) (z338.b3) (z338.b4) (z338.b5) (z338.b6))) fun z340 =>
                .opt (g16 z340.b0 z335.b0) fun z341 =>
                 .br (!(!z341)) (
                  .opt (g10_0 (V10_0.mk (0) (z340.b1) (z340.b2) (z340.b3) (z340.b4) (z340.b5) (z340.b6))) fun z342 =>
                   .opt (g16 z342.b0 z336.b0) fun z343 =>
                    .br (!z343) (
                     .leaf (.inr (.inr ⟨false⟩))) (
                     .leaf (.inl ({ v with a2 := (IntKind.i64.wrap (v.a2 + 1)), a3 := z342.b1, a4 := z342.b2, a5 := z342.b3, a6 := z342.b4, a7 := z342.b5, a8 := z342.b6 })))) (
                  .leaf (.inr (.inr ⟨false⟩)))) (
               .leaf (.inr (.inr ⟨false⟩)))) (
           .fail)) (
          .br (y259.f0 == 3) (
           .br (decide (0 ≤ (mnI (y259.f3.length : Int) 100)) && decide ((mnI (y259.f3.length : Int) 100) ≤ (y259.f3.length : Int))) (
            .opt (g11_1 (V11_1.mk (1) ((List.take (Int.toNat (mnI (y259.f3.length : Int) 100)) y259.f3)) (z336.b1) (z336.b2) (z336.b3) (z336.b4) (z336.b5) (z336.b6))) fun z344 =>
             .opt (g10_0 (V10_0.mk (1) (z336.b1) (z336.b2) (z344.b1) (z344.b2) (z336.b5) (z336.b6))) fun z345 =>
              .opt (g16 z345.b0 v.a10) fun z346 =>
               .br (!(!z346)) (
                .opt (g9_0 (V9_0.mk (0) (z345.b1) (z345.b2) (z345.b3) (z345.b4) (z345.b5) (z345.b6))) fun z347 =>
                 .opt (g16 z347.b0 z335.b0) fun z348 =>
                  .br (!(!z348)) (
                   .opt (g10_0 (V10_0.mk (0) (z347.b1) (z347.b2) (z347.b3) (z347.b4) (z347.b5) (z347.b6))) fun z349 =>
                    .opt (g16 z349.b0 z336.b0) fun z350 =>
                     .br (!z350) (
                      .leaf (.inr (.inr ⟨false⟩))) (
                      .leaf (.inl ({ v with a2 := (IntKind.i64.wrap (v.a2 + 1)), a3 := z349.b1, a4 := z349.b2, a5 := z349.b3, a6 := z349.b4, a7 := z349.b5, a8 := z349.b6 })))) (
                   .leaf (.inr (.inr ⟨false⟩)))) (
                .leaf (.inr (.inr ⟨false⟩)))) (
            .fail)) (
           .br (y259.f0 == 4) (
            .opt (g12_0 (V12_0.mk (1) (y259.f2) (z336.b1) (z336.b2) (z336.b3) (z336.b4) (z336.b5) (z336.b6))) fun z351 =>
             .opt (g10_0 (V10_0.mk (1) (z351.b2) (z351.b3) (z351.b4) (z351.b5) (z351.b6) (z351.b7))) fun z352 =>
              .opt (g16 z352.b0 v.a10) fun z353 =>
               .br (!(!z353)) (
                .opt (g9_0 (V9_0.mk (0) (z352.b1) (z352.b2) (z352.b3) (z352.b4) (z352.b5) (z352.b6))) fun z354 =>
                 .opt (g16 z354.b0 z335.b0) fun z355 =>
                  .br (!(!z355)) (
                   .opt (g10_0 (V10_0.mk (0) (z354.b1) (z354.b2) (z354.b3) (z354.b4) (z354.b5) (z354.b6))) fun z356 =>
                    .opt (g16 z356.b0 z336.b0) fun z357 =>
                     .br (!z357) (
                      .leaf (.inr (.inr ⟨false⟩))) (
                      .leaf (.inl ({ v with a2 := (IntKind.i64.wrap (v.a2 + 1)), a3 := z356.b1, a4 := z356.b2, a5 := z356.b3, a6 := z356.b4, a7 := z356.b5, a8 := z356.b6 })))) (
                   .leaf (.inr (.inr ⟨false⟩)))) (
                .leaf (.inr (.inr ⟨false⟩)))) (
            .br (y259.f0 == 5) (
             .opt (g13_0 (V13_0.mk (1) (y259.f2) (z336.b1) (z336.b2) (z336.b3) (z336.b4) (z336.b5) (z336.b6))) fun z358 =>
              .opt (g10_0 (V10_0.mk (1) (z336.b1) (z336.b2) (z358.b1) (z358.b2) (z336.b5) (z336.b6))) fun z359 =>
               .opt (g16 z359.b0 v.a10) fun z360 =>
                .br (!(!z360)) (
                 .opt (g9_0 (V9_0.mk (0) (z359.b1) (z359.b2) (z359.b3) (z359.b4) (z359.b5) (z359.b6))) fun z361 =>
                  .opt (g16 z361.b0 z335.b0) fun z362 =>
                   .br (!(!z362)) (
                    .opt (g10_0 (V10_0.mk (0) (z361.b1) (z361.b2) (z361.b3) (z361.b4) (z361.b5) (z361.b6))) fun z363 =>
                     .opt (g16 z363.b0 z336.b0) fun z364 =>
                      .br (!z364) (
                       .leaf (.inr (.inr ⟨false⟩))) (
                       .leaf (.inl ({ v with a2 := (IntKind.i64.wrap (v.a2 + 1)), a3 := z363.b1, a4 := z363.b2, a5 := z363.b3, a6 := z363.b4, a7 := z363.b5, a8 := z363.b6 })))) (
                    .leaf (.inr (.inr ⟨false⟩)))) (
                 .leaf (.inr (.inr ⟨false⟩)))) (
             .br (y259.f0 == 6) (
              .br (decide (0 ≤ (mnI (y259.f3.length : Int) 100)) && decide ((mnI (y259.f3.length : Int) 100) ≤ (y259.f3.length : Int))) (
               .opt (g14_0 (V14_0.mk (1) ((List.take (Int.toNat (mnI (y259.f3.length : Int) 100)) y259.f3)) (z336.b1) (z336.b2) (z336.b3) (z336.b4) (z336.b5) (z336.b6))) fun z365 =>
                .br (z365.b0 != 0) (
                 .leaf (.inr (.inr ⟨false⟩))) (
                 .br ((List.take (Int.toNat (mnI (y259.f3.length : Int) 100)) y259.f3).isEmpty) (
                  .br (Nat.ble (v.a10.length + 1) 140737488355328 && Nat.ble ((v.a10.length + 1) * 24) 140737488355328) (
                   .opt (g10_0 (V10_0.mk (1) (z336.b1) (z336.b2) (z336.b3) (z336.b4) (z365.b1) (z365.b2))) fun z366 =>
                    .opt (g16 z366.b0 (v.a10 ++ [(S2.mk [])])) fun z367 =>
                     .br (!(!z367)) (
                      .opt (g9_0 (V9_0.mk (0) (z366.b1) (z366.b2) (z366.b3) (z366.b4) (z366.b5) (z366.b6))) fun z368 =>
                       .opt (g16 z368.b0 z335.b0) fun z369 =>
                        .br (!(!z369)) (
                         .opt (g10_0 (V10_0.mk (0) (z368.b1) (z368.b2) (z368.b3) (z368.b4) (z368.b5) (z368.b6))) fun z370 =>
                          .opt (g16 z370.b0 z336.b0) fun z371 =>
                           .br (!z371) (
                            .leaf (.inr (.inr ⟨false⟩))) (
                            .leaf (.inl ({ v with a2 := (IntKind.i64.wrap (v.a2 + 1)), a3 := z370.b1, a4 := z370.b2, a5 := z370.b3, a6 := z370.b4, a7 := z370.b5, a8 := z370.b6, a10 := (v.a10 ++ [(S2.mk [])]) })))) (
                         .leaf (.inr (.inr ⟨false⟩)))) (
                      .leaf (.inr (.inr ⟨false⟩)))) (
                   .fail)) (
                  .br (Nat.ble (0 + (List.take (Int.toNat (mnI (y259.f3.length : Int) 100)) y259.f3).length) 140737488355328 && Nat.ble ((0 + (List.take (Int.toNat (mnI (y259.f3.length : Int) 100)) y259.f3).length) * 1) 140737488355328) (
                   .br (Nat.ble (v.a10.length + 1) 140737488355328 && Nat.ble ((v.a10.length + 1) * 24) 140737488355328) (
                    .opt (g10_0 (V10_0.mk (1) (z336.b1) (z336.b2) (z336.b3) (z336.b4) (z365.b1) (z365.b2))) fun z372 =>
                     .opt (g16 z372.b0 (v.a10 ++ [(S2.mk (List.take (Int.toNat (mnI (y259.f3.length : Int) 100)) y259.f3))])) fun z373 =>
                      .br (!(!z373)) (
                       .opt (g9_0 (V9_0.mk (0) (z372.b1) (z372.b2) (z372.b3) (z372.b4) (z372.b5) (z372.b6))) fun z374 =>
                        .opt (g16 z374.b0 z335.b0) fun z375 =>
                         .br (!(!z375)) (
                          .opt (g10_0 (V10_0.mk (0) (z374.b1) (z374.b2) (z374.b3) (z374.b4) (z374.b5) (z374.b6))) fun z376 =>
                           .opt (g16 z376.b0 z336.b0) fun z377 =>
                            .br (!z377) (
                             .leaf (.inr (.inr ⟨false⟩))) (
                             .leaf (.inl ({ v with a2 := (IntKind.i64.wrap (v.a2 + 1)), a3 := z376.b1, a4 := z376.b2, a5 := z376.b3, a6 := z376.b4, a7 := z376.b5, a8 := z376.b6, a10 := (v.a10 ++ [(S2.mk (List.take (Int.toNat (mnI (y259.f3.length : Int) 100)) y259.f3))]) })))) (
                          .leaf (.inr (.inr ⟨false⟩)))) (
                       .leaf (.inr (.inr ⟨false⟩)))) (
                    .fail)) (
                   .fail)))) (
               .fail)) (
              .br (y259.f0 == 7) (
               .opt (g15_0 (V15_0.mk (1) (z336.b1) (z336.b2) (z336.b3) (z336.b4) (z336.b5) (z336.b6))) fun z378 =>
                .br (bif (bif (!(!(z378.b1 == (decide ((v.a10.length : Int) > 0))))) then true else false) then z378.b1 else false) (
                 .br (decide (0 ≤ 0) && decide (0 < (v.a10.length : Int))) (
                  .opt (v.a10[(Int.toNat 0)]?) fun y379 =>
                   .br (bif (!(z378.b1 == (decide ((v.a10.length : Int) > 0)))) then true else (!((strO 0 z378.b0) == (strO 0 y379.f0)))) (
                    .leaf (.inr (.inr ⟨false⟩))) (
                    .br z378.b1 (
                     .br (decide (0 ≤ 1) && decide (1 ≤ (v.a10.length : Int)) && Nat.blt 0 v.a10.length) (
                      .opt (g10_0 (V10_0.mk (1) (z378.b2) (z378.b3) (z378.b4) (z378.b5) (z378.b6) (z378.b7))) fun z380 =>
                       .opt (g16 z380.b0 (List.drop (Int.toNat 1) v.a10)) fun z381 =>
                        .br (!(!z381)) (
                         .opt (g9_0 (V9_0.mk (0) (z380.b1) (z380.b2) (z380.b3) (z380.b4) (z380.b5) (z380.b6))) fun z382 =>
                          .opt (g16 z382.b0 z335.b0) fun z383 =>
                           .br (!(!z383)) (
                            .opt (g10_0 (V10_0.mk (0) (z382.b1) (z382.b2) (z382.b3) (z382.b4) (z382.b5) (z382.b6))) fun z384 =>
                             .opt (g16 z384.b0 z336.b0) fun z385 =>
                              .br (!z385) (
                               .leaf (.inr (.inr ⟨false⟩))) (
                               .leaf (.inl ({ v with a2 := (IntKind.i64.wrap (v.a2 + 1)), a3 := z384.b1, a4 := z384.b2, a5 := z384.b3, a6 := z384.b4, a7 := z384.b5, a8 := z384.b6, a10 := (List.drop (Int.toNat 1) v.a10) })))) (
                            .leaf (.inr (.inr ⟨false⟩)))) (
                         .leaf (.inr (.inr ⟨false⟩)))) (
                      .fail)) (
                     .opt (g10_0 (V10_0.mk (1) (z378.b2) (z378.b3) (z378.b4) (z378.b5) (z378.b6) (z378.b7))) fun z386 =>
                      .opt (g16 z386.b0 v.a10) fun z387 =>
                       .br (!(!z387)) (
                        .opt (g9_0 (V9_0.mk (0) (z386.b1) (z386.b2) (z386.b3) (z386.b4) (z386.b5) (z386.b6))) fun z388 =>
                         .opt (g16 z388.b0 z335.b0) fun z389 =>
                          .br (!(!z389)) (
                           .opt (g10_0 (V10_0.mk (0) (z388.b1) (z388.b2) (z388.b3) (z388.b4) (z388.b5) (z388.b6))) fun z390 =>
                            .opt (g16 z390.b0 z336.b0) fun z391 =>
                             .br (!z391) (
                              .leaf (.inr (.inr ⟨false⟩))) (
                              .leaf (.inl ({ v with a2 := (IntKind.i64.wrap (v.a2 + 1)), a3 := z390.b1, a4 := z390.b2, a5 := z390.b3, a6 := z390.b4, a7 := z390.b5, a8 := z390.b6 })))) (
                           .leaf (.inr (.inr ⟨false⟩)))) (
                        .leaf (.inr (.inr ⟨false⟩)))))) (
                  .fail)) (
                 .br (bif (bif (!(!(z378.b1 == (decide ((v.a10.length : Int) > 0))))) then true else false) then z378.b1 else false) (
                  .fail) (
                  .br (bif (bif (!(!(z378.b1 == (decide ((v.a10.length : Int) > 0))))) then true else false) then z378.b1 else false) (
                   .fail) (
                   .br (bif (bif (!(!(z378.b1 == (decide ((v.a10.length : Int) > 0))))) then true else false) then z378.b1 else false) (
                    .fail) (
                    .br (bif (bif (!(!(z378.b1 == (decide ((v.a10.length : Int) > 0))))) then true else false) then z378.b1 else false) (
                     .fail) (
                     .br (bif (bif (!(!(z378.b1 == (decide ((v.a10.length : Int) > 0))))) then true else false) then z378.b1 else false) (
                      .fail) (
                      .br (!(!(z378.b1 == (decide ((v.a10.length : Int) > 0))))) (
                       .br z378.b1 (
                        .fail) (
                        .br z378.b1 (
                         .br (decide (0 ≤ 1) && decide (1 ≤ (v.a10.length : Int)) && Nat.blt 0 v.a10.length) (
                          .opt (g10_0 (V10_0.mk (1) (z378.b2) (z378.b3) (z378.b4) (z378.b5) (z378.b6) (z378.b7))) fun z392 =>
                           .opt (g16 z392.b0 (List.drop (Int.toNat 1) v.a10)) fun z393 =>
                            .br (!(!z393)) (
                             .opt (g9_0 (V9_0.mk (0) (z392.b1) (z392.b2) (z392.b3) (z392.b4) (z392.b5) (z392.b6))) fun z394 =>
                              .opt (g16 z394.b0 z335.b0) fun z395 =>
                               .br (!(!z395)) (
                                .opt (g10_0 (V10_0.mk (0) (z394.b1) (z394.b2) (z394.b3) (z394.b4) (z394.b5) (z394.b6))) fun z396 =>
                                 .opt (g16 z396.b0 z336.b0) fun z397 =>
                                  .br (!z397) (
                                   .leaf (.inr (.inr ⟨false⟩))) (
                                   .leaf (.inl ({ v with a2 := (IntKind.i64.wrap (v.a2 + 1)), a3 := z396.b1, a4 := z396.b2, a5 := z396.b3, a6 := z396.b4, a7 := z396.b5, a8 := z396.b6, a10 := (List.drop (Int.toNat 1) v.a10) })))) (
                                .leaf (.inr (.inr ⟨false⟩)))) (
                             .leaf (.inr (.inr ⟨false⟩)))) (
                          .fail)) (
                         .opt (g10_0 (V10_0.mk (1) (z378.b2) (z378.b3) (z378.b4) (z378.b5) (z378.b6) (z378.b7))) fun z398 =>
                          .opt (g16 z398.b0 v.a10) fun z399 =>
                           .br (!(!z399)) (
                            .opt (g9_0 (V9_0.mk (0) (z398.b1) (z398.b2) (z398.b3) (z398.b4) (z398.b5) (z398.b6))) fun z400 =>
                             .opt (g16 z400.b0 z335.b0) fun z401 =>
                              .br (!(!z401)) (
                               .opt (g10_0 (V10_0.mk (0) (z400.b1) (z400.b2) (z400.b3) (z400.b4) (z400.b5) (z400.b6))) fun z402 =>
                                .opt (g16 z402.b0 z336.b0) fun z403 =>
                                 .br (!z403) (
                                  .leaf (.inr (.inr ⟨false⟩))) (
                                  .leaf (.inl ({ v with a2 := (IntKind.i64.wrap (v.a2 + 1)), a3 := z402.b1, a4 := z402.b2, a5 := z402.b3, a6 := z402.b4, a7 := z402.b5, a8 := z402.b6 })))) (
                               .leaf (.inr (.inr ⟨false⟩)))) (
                            .leaf (.inr (.inr ⟨false⟩)))))) (
                       .leaf (.inr (.inr ⟨false⟩)))))))))) (
               .opt (g10_0 (V10_0.mk (1) (z336.b1) (z336.b2) (z336.b3) (z336.b4) (z336.b5) (z336.b6))) fun z404 =>
                .opt (g16 z404.b0 v.a10) fun z405 =>
                 .br (!(!z405)) (
                  .opt (g9_0 (V9_0.mk (0) (z404.b1) (z404.b2) (z404.b3) (z404.b4) (z404.b5) (z404.b6))) fun z406 =>
                   .opt (g16 z406.b0 z335.b0) fun z407 =>
                    .br (!(!z407)) (
                     .opt (g10_0 (V10_0.mk (0) (z406.b1) (z406.b2) (z406.b3) (z406.b4) (z406.b5) (z406.b6))) fun z408 =>
                      .opt (g16 z408.b0 z336.b0) fun z409 =>
                       .br (!z409) (
                        .leaf (.inr (.inr ⟨false⟩))) (
                        .leaf (.inl ({ v with a2 := (IntKind.i64.wrap (v.a2 + 1)), a3 := z408.b1, a4 := z408.b2, a5 := z408.b3, a6 := z408.b4, a7 := z408.b5, a8 := z408.b6 })))) (
                     .leaf (.inr (.inr ⟨false⟩)))) (
                  .leaf (.inr (.inr ⟨false⟩)))))))))) (
       .fail))) (
    .fail)) (
   .leaf (.inr (.inl (v))))
noncomputable def lb3_0 : Code := match findB 0 (Go.Proofs.Try.f3.body.getD .skip) with | [.loop b] => b | _ => .skip
def pa3_0 : List PA := [.c (.rs 1), .any, .c (.bool), .c (.ptr 0 0), .c (.ptr 1 0), .c (.int .i64), .any, .any, .any, .any, .any, .any, .any, .any, .any, .any, .any, .any, .any, .any, .any, .any, .any, .any, .any, .any, .any, .any, .any, .any, .any, .any, .any, .any, .any, .any, .any, .any, .any, .any, .any, .any, .any, .any, .any, .any, .any, .any, .any, .any, .any, .any, .any, .any, .any, .any, .any, .any, .any, .any, .any, .any, .any, .any, .any, .any, .any, .any, .any, .any, .any, .any, .any, .any, .any, .any, .any, .any, .any, .any, .any, .any, .any, .any, .any, .any, .any, .any, .any, .any, .any, .any, .any, .any, .any, .any, .any, .any, .any, .any, .any, .any, .any, .any, .any, .any, .any, .any, .any, .any, .any, .any, .any, .any, .any, .any, .any, .any, .any, .any, .any, .any, .any, .any, .any, .any, .any, .any, .any, .any, .any, .any, .any, .any, .any, .any, .any, .any, .any, .any, .any, .any, .any, .any, .any, .any, .any, .any, .any, .any, .any, .any, .any, .any, .any, .any, .any, .any, .any, .any, .any, .any]
def pb3_0 : List PB := [.cells [.bool, .bool, .rs 2, .rs 2, .rs 2, .rs 2], .cells [.nils, .nils]]
def ini3_0 (s : St) : W3_0 := ⟨rC 1 (aC (s.tmps.getD 0 .top)), bC (aC (s.tmps.getD 2 .top)), iC (aC (s.tmps.getD 5 .top)), bC ((bL (s.heap.getD 0 .dead)).getD 0 .top), bC ((bL (s.heap.getD 0 .dead)).getD 1 .top), rC 2 ((bL (s.heap.getD 0 .dead)).getD 2 .top), rC 2 ((bL (s.heap.getD 0 .dead)).getD 3 .top), rC 2 ((bL (s.heap.getD 0 .dead)).getD 4 .top), rC 2 ((bL (s.heap.getD 0 .dead)).getD 5 .top), [], []⟩
noncomputable def F3_0 : St → Res (Ex × St) := loopF2 pa3_0 pb3_0 1000000 hd3_0 hu3_0 gR3_0 ini3_0
theorem F3_0_ok (s : St) (r : Ex × St) (h : (F3_0 s).eval = some r) : (codeR e3 0 (.block 0 (.loop lb3_0)) s).eval = some r :=
  blk_ok2 (e := e3) (T := lookT []) (fun s v => by kernel_rfl) (fun s => by kernel_rfl) (tab_nil) s r h
def g3T (x0 : List S1) : Tr (Bool) :=
  .opt (g8 ) fun z258 =>
   .br (!z258) (
    .leaf (false)) (
    .opt (iter2 gR3_0 1000000 (W3_0.mk (x0) (false) (0) (true) (false) ([]) ([]) ([]) ([]) ([]) ([]))) fun r410 =>
     .br r410.isRight (
      .opt (r410.getRight?) fun u411 =>
       .leaf (u411.a0)) (
      .opt (r410.getLeft?) fun w412 =>
       .leaf (true)))
def g3 (x0 : List S1) : Option (Bool) := (g3T x0).get?
noncomputable def T3 : TL := [(0, F3_0)]
noncomputable def q3 : Ab.Spec := runQ0 e3 (lookT T3) Go.Proofs.Try.f3
theorem q3_ok : SpecOk Go.Proofs.Try.prog 3 q3 := (runQ0_ok (runR_ok (e := e3) follows (allTI ti_ok _ _ _ _ _) (callsOk_cons s7_ok (callsOk_cons s8_ok (callsOk_cons s9_ok (callsOk_cons s29_ok (callsOk_cons s30_ok (callsOk_cons s40_ok (callsOk_cons s10_ok (callsOk_cons s11_ok (callsOk_cons s31_ok (callsOk_cons s32_ok (callsOk_cons s41_ok (callsOk_cons s12_ok (callsOk_cons s33_ok (callsOk_cons s42_ok (callsOk_cons s13_ok (callsOk_cons s34_ok (callsOk_cons s35_ok (callsOk_cons s14_ok (callsOk_cons s15_ok (callsOk_cons s16_ok (callsOk_nil))))))))))))))))))))) Go.Proofs.Try.func3 Go.Proofs.Try.call3) (fun c hc => by
  have hb : c = Go.Proofs.Try.f3.body.getD .skip := by rw [hc]; rfl
  subst hb
  exact tab_cons (by kernel_rfl) F3_0_ok (tab_nil)))
theorem g3_run (x0 : List S1) : (q3 [.c (.rs 1 x0)] []).eval = (g3T x0).ev fun r => ((.c (.bool r) : AV), ([] : List Blk)) := by kernel_rfl
noncomputable def s3_0 : Ab.Spec := fun args h =>
  dN h <| dL args fun v0 a0 => dC v0 fun c0 => dR0 1 c0 fun x0 => dN a0 <|
  .opt (g3 x0) fun r => .val (.c (.bool r), [])
theorem s3_0_ok : SpecOk Go.Proofs.Try.prog 3 s3_0 :=
  q3_ok.less fun args hs r h => by
    unfold s3_0 at h
    obtain ⟨rfl, hh1⟩ := dN_inv h
    obtain ⟨v0, a0, rfl, hh2⟩ := dL_inv hh1
    obtain ⟨c0, rfl, hh3⟩ := dC_inv hh2
    obtain ⟨x0, rfl, hh4⟩ := dR0_inv hh3
    obtain ⟨rfl, hh5⟩ := dN_inv hh4
    rw [g3_run, Tr.ev_get?]
    change (Res.opt (g3 x0) _).eval = some r at hh5
    rw [eval_opt] at hh5
    obtain ⟨z, hz, hh6⟩ := Option.bind_eq_some_iff.mp hh5
    unfold g3 at hz
    rw [hz]; exact hh6
noncomputable def s3 : Ab.Spec := fun args h => s3_0 (coeA [[some 1]] args) h
theorem s3_ok : SpecOk Go.Proofs.Try.prog 3 s3 := s3_0_ok.pre [[some 1]]
-- FAIL 4 pontage/pontagelaw25.WireOwn
/-- pontage/pontageref25.New -/
noncomputable def L17 : SL := []
noncomputable def e17 : Env := ⟨ti, fun g => lookS g L17, 1000000, [], [], none⟩
def g17T  : Tr (S7) :=
  .leaf ((S7.mk true [] [] [] []))
def g17  : S7 := (g17T ).get default
noncomputable def T17 : TL := []
noncomputable def q17 : Ab.Spec := frzR [[none, some 2, some 2, some 2, some 2]] (runQ0 e17 (lookT T17) Go.Proofs.Try.f17)
theorem q17_ok : SpecOk Go.Proofs.Try.prog 17 q17 := (runQ0_ok (runR_ok (e := e17) follows (allTI ti_ok _ _ _ _ _) (callsOk_nil) Go.Proofs.Try.func17 Go.Proofs.Try.call17) (fun c hc => by
  have hb : c = Go.Proofs.Try.f17.body.getD .skip := by rw [hc]; rfl
  subst hb
  exact tab_nil)).froze [[none, some 2, some 2, some 2, some 2]]
theorem g17_run  : (q17 [] []).eval = (g17T ).ev fun r => ((.agg (Cod.enc 7 r) : AV), ([] : List Blk)) := by kernel_rfl
noncomputable def s17 : Ab.Spec := fun args h =>
  dN h <| dN args <|
  let r := g17; .val (.agg (Cod.enc 7 r), [])
theorem s17_ok : SpecOk Go.Proofs.Try.prog 17 s17 :=
  q17_ok.less fun args hs r h => by
    unfold s17 at h
    obtain ⟨rfl, hh1⟩ := dN_inv h
    obtain ⟨rfl, hh2⟩ := dN_inv hh1
    rw [g17_run, Tr.ev_get (d := default) (by kernel_rfl)]
    exact hh2
/-- pontage/pontageref25.Set -/
noncomputable def L19 : SL := []
noncomputable def e19 : Env := ⟨ti, fun g => lookS g L19, 1000000, [], [], none⟩
def g19T (x0 : S7) (x1 : Bool) : Tr (S7 × Int) :=
  .br x1 (
   .leaf ({ x0 with f0 := true }, 0)) (
   .leaf ((S7.mk false [] [] [] []), (IntKind.i64.wrap ((IntKind.i64.wrap ((IntKind.i64.wrap ((x0.f1.length : Int) + (x0.f2.length : Int))) + (x0.f3.length : Int))) + (x0.f4.length : Int)))))
def g19 (x0 : S7) (x1 : Bool) : S7 × Int := (g19T x0 x1).get default
noncomputable def T19 : TL := []
noncomputable def q19 : Ab.Spec := frzR [[none, some 2, some 2, some 2, some 2], []] (runQ0 e19 (lookT T19) Go.Proofs.Try.f19)
theorem q19_ok : SpecOk Go.Proofs.Try.prog 19 q19 := (runQ0_ok (runR_ok (e := e19) follows (allTI ti_ok _ _ _ _ _) (callsOk_nil) Go.Proofs.Try.func19 Go.Proofs.Try.call19) (fun c hc => by
  have hb : c = Go.Proofs.Try.f19.body.getD .skip := by rw [hc]; rfl
  subst hb
  exact tab_nil)).froze [[none, some 2, some 2, some 2, some 2], []]
theorem g19_run (x0 : S7) (x1 : Bool) : (q19 [.agg (Cod.enc 7 x0), .c (.bool x1)] []).eval = (g19T x0 x1).ev fun r => ((.tup [some (true, Cod.enc 7 r.1), some (false, [.int .i64 r.2])] : AV), ([] : List Blk)) := by kernel_rfl
noncomputable def s19_0 : Ab.Spec := fun args h =>
  dN h <| dL args fun v0 a0 => dG v0 fun l0 => dE 7 l0 fun x0 => dL a0 fun v1 a1 => dC v1 fun c0 => dB c0 fun x1 => dN a1 <|
  let r := g19 x0 x1; .val (.tup [some (true, Cod.enc 7 r.1), some (false, [.int .i64 r.2])], [])
theorem s19_0_ok : SpecOk Go.Proofs.Try.prog 19 s19_0 :=
  q19_ok.less fun args hs r h => by
    unfold s19_0 at h
    obtain ⟨rfl, hh1⟩ := dN_inv h
    obtain ⟨v0, a0, rfl, hh2⟩ := dL_inv hh1
    obtain ⟨l0, rfl, hh3⟩ := dG_inv hh2
    obtain ⟨x0, rfl, hh4⟩ := dE_inv hh3
    obtain ⟨v1, a1, rfl, hh5⟩ := dL_inv hh4
    obtain ⟨c0, rfl, hh6⟩ := dC_inv hh5
    obtain ⟨x1, rfl, hh7⟩ := dB_inv hh6
    obtain ⟨rfl, hh8⟩ := dN_inv hh7
    rw [g19_run, Tr.ev_get (d := default) (by kernel_rfl)]
    exact hh8
noncomputable def s19 : Ab.Spec := fun args h => s19_0 (coeA [[none, some 2, some 2, some 2, some 2], []] args) h
theorem s19_ok : SpecOk Go.Proofs.Try.prog 19 s19 := s19_0_ok.pre [[none, some 2, some 2, some 2, some 2], []]
/-- pontage/pontageref25.Of -/
noncomputable def L36 : SL := []
noncomputable def e36 : Env := ⟨ti, fun g => lookS g L36, 1000000, [], [], none⟩
def g36T (x0 : S7) (x1 : Int) : Tr (S6) :=
  .br (x1 == 0) (
   .leaf ((S6.mk x0.f1 x0.f2))) (
   .br (x1 == 1) (
    .leaf ((S6.mk x0.f3 x0.f4))) (
    .leaf ((S6.mk [] []))))
def g36 (x0 : S7) (x1 : Int) : S6 := (g36T x0 x1).get default
noncomputable def T36 : TL := []
noncomputable def q36 : Ab.Spec := frzR [[some 2, some 2]] (runQ0 e36 (lookT T36) Go.Proofs.Try.f36)
theorem q36_ok : SpecOk Go.Proofs.Try.prog 36 q36 := (runQ0_ok (runR_ok (e := e36) follows (allTI ti_ok _ _ _ _ _) (callsOk_nil) Go.Proofs.Try.func36 Go.Proofs.Try.call36) (fun c hc => by
  have hb : c = Go.Proofs.Try.f36.body.getD .skip := by rw [hc]; rfl
  subst hb
  exact tab_nil)).froze [[some 2, some 2]]
theorem g36_run (x0 : S7) (x1 : Int) : (q36 [.agg (Cod.enc 7 x0), .c (.int .i64 x1)] []).eval = (g36T x0 x1).ev fun r => ((.agg (Cod.enc 6 r) : AV), ([] : List Blk)) := by kernel_rfl
noncomputable def s36_0 : Ab.Spec := fun args h =>
  dN h <| dL args fun v0 a0 => dG v0 fun l0 => dE 7 l0 fun x0 => dL a0 fun v1 a1 => dC v1 fun c0 => dI .i64 c0 fun x1 => dN a1 <|
  let r := g36 x0 x1; .val (.agg (Cod.enc 6 r), [])
theorem s36_0_ok : SpecOk Go.Proofs.Try.prog 36 s36_0 :=
  q36_ok.less fun args hs r h => by
    unfold s36_0 at h
    obtain ⟨rfl, hh1⟩ := dN_inv h
    obtain ⟨v0, a0, rfl, hh2⟩ := dL_inv hh1
    obtain ⟨l0, rfl, hh3⟩ := dG_inv hh2
    obtain ⟨x0, rfl, hh4⟩ := dE_inv hh3
    obtain ⟨v1, a1, rfl, hh5⟩ := dL_inv hh4
    obtain ⟨c0, rfl, hh6⟩ := dC_inv hh5
    obtain ⟨x1, rfl, hh7⟩ := dI_inv hh6
    obtain ⟨rfl, hh8⟩ := dN_inv hh7
    rw [g36_run, Tr.ev_get (d := default) (by kernel_rfl)]
    exact hh8
noncomputable def s36 : Ab.Spec := fun args h => s36_0 (coeA [[none, some 2, some 2, some 2, some 2], []] args) h
theorem s36_ok : SpecOk Go.Proofs.Try.prog 36 s36 := s36_0_ok.pre [[none, some 2, some 2, some 2, some 2], []]
/-- pontage/pontageref25.dirOK -/
noncomputable def L37 : SL := []
noncomputable def e37 : Env := ⟨ti, fun g => lookS g L37, 1000000, [], [], none⟩
def g37T (x0 : Int) : Tr (Bool) :=
  .leaf ((bif (x0 == 0) then true else (x0 == 1)))
def g37 (x0 : Int) : Bool := (g37T x0).get default
noncomputable def T37 : TL := []
noncomputable def q37 : Ab.Spec := runQ0 e37 (lookT T37) Go.Proofs.Try.f37
theorem q37_ok : SpecOk Go.Proofs.Try.prog 37 q37 := (runQ0_ok (runR_ok (e := e37) follows (allTI ti_ok _ _ _ _ _) (callsOk_nil) Go.Proofs.Try.func37 Go.Proofs.Try.call37) (fun c hc => by
  have hb : c = Go.Proofs.Try.f37.body.getD .skip := by rw [hc]; rfl
  subst hb
  exact tab_nil))
theorem g37_run (x0 : Int) : (q37 [.c (.int .i64 x0)] []).eval = (g37T x0).ev fun r => ((.c (.bool r) : AV), ([] : List Blk)) := by kernel_rfl
noncomputable def s37 : Ab.Spec := fun args h =>
  dN h <| dL args fun v0 a0 => dC v0 fun c0 => dI .i64 c0 fun x0 => dN a0 <|
  let r := g37 x0; .val (.c (.bool r), [])
theorem s37_ok : SpecOk Go.Proofs.Try.prog 37 s37 :=
  q37_ok.less fun args hs r h => by
    unfold s37 at h
    obtain ⟨rfl, hh1⟩ := dN_inv h
    obtain ⟨v0, a0, rfl, hh2⟩ := dL_inv hh1
    obtain ⟨c0, rfl, hh3⟩ := dC_inv hh2
    obtain ⟨x0, rfl, hh4⟩ := dI_inv hh3
    obtain ⟨rfl, hh5⟩ := dN_inv hh4
    rw [g37_run, Tr.ev_get (d := default) (by kernel_rfl)]
    exact hh5
/-- pontage/pontageref25.more -/
noncomputable def L38 : SL := []
noncomputable def e38 : Env := ⟨ti, fun g => lookS g L38, 1000000, [], [10], none⟩
def g38T (x0 : List S2) (x1 : List S0) : Tr (List S2) :=
  .br (x0.isEmpty) (
   .br (x1.isEmpty) (
    .leaf ([(S2.mk [])])) (
    .br (Nat.ble (0 + x1.length) 140737488355328 && Nat.ble ((0 + x1.length) * 1) 140737488355328) (
     .leaf ([(S2.mk x1)])) (
     .fail))) (
   .br (Nat.ble (0 + x0.length) 140737488355328 && Nat.ble ((0 + x0.length) * 24) 140737488355328) (
    .br (x1.isEmpty) (
     .br (Nat.ble (x0.length + 1) 140737488355328 && Nat.ble ((x0.length + 1) * 24) 140737488355328) (
      .leaf ((x0 ++ [(S2.mk [])]))) (
      .fail)) (
     .br (Nat.ble (0 + x1.length) 140737488355328 && Nat.ble ((0 + x1.length) * 1) 140737488355328) (
      .br (Nat.ble (x0.length + 1) 140737488355328 && Nat.ble ((x0.length + 1) * 24) 140737488355328) (
       .leaf ((x0 ++ [(S2.mk x1)]))) (
       .fail)) (
      .fail))) (
    .fail))
def g38 (x0 : List S2) (x1 : List S0) : Option (List S2) := (g38T x0 x1).get?
noncomputable def T38 : TL := []
noncomputable def q38 : Ab.Spec := frzR [[some 2]] (runQ0 e38 (lookT T38) Go.Proofs.Try.f38)
theorem q38_ok : SpecOk Go.Proofs.Try.prog 38 q38 := (runQ0_ok (runR_ok (e := e38) follows (allTI ti_ok _ _ _ _ _) (callsOk_nil) Go.Proofs.Try.func38 Go.Proofs.Try.call38) (fun c hc => by
  have hb : c = Go.Proofs.Try.f38.body.getD .skip := by rw [hc]; rfl
  subst hb
  exact tab_nil)).froze [[some 2]]
theorem g38_run (x0 : List S2) (x1 : List S0) : (q38 [.c (.rs 2 x0), .c (.rs 0 x1)] []).eval = (g38T x0 x1).ev fun r => ((.c (.rs 2 r) : AV), ([] : List Blk)) := by kernel_rfl
noncomputable def s38_0 : Ab.Spec := fun args h =>
  dN h <| dL args fun v0 a0 => dC v0 fun c0 => dR0 2 c0 fun x0 => dL a0 fun v1 a1 => dC v1 fun c1 => dR0 0 c1 fun x1 => dN a1 <|
  .opt (g38 x0 x1) fun r => .val (.c (.rs 2 r), [])
theorem s38_0_ok : SpecOk Go.Proofs.Try.prog 38 s38_0 :=
  q38_ok.less fun args hs r h => by
    unfold s38_0 at h
    obtain ⟨rfl, hh1⟩ := dN_inv h
    obtain ⟨v0, a0, rfl, hh2⟩ := dL_inv hh1
    obtain ⟨c0, rfl, hh3⟩ := dC_inv hh2
    obtain ⟨x0, rfl, hh4⟩ := dR0_inv hh3
    obtain ⟨v1, a1, rfl, hh5⟩ := dL_inv hh4
    obtain ⟨c1, rfl, hh6⟩ := dC_inv hh5
    obtain ⟨x1, rfl, hh7⟩ := dR0_inv hh6
    obtain ⟨rfl, hh8⟩ := dN_inv hh7
    rw [g38_run, Tr.ev_get?]
    change (Res.opt (g38 x0 x1) _).eval = some r at hh8
    rw [eval_opt] at hh8
    obtain ⟨z, hz, hh9⟩ := Option.bind_eq_some_iff.mp hh8
    unfold g38 at hz
    rw [hz]; exact hh9
noncomputable def s38 : Ab.Spec := fun args h => s38_0 (coeA [[some 2], [some 0]] args) h
theorem s38_ok : SpecOk Go.Proofs.Try.prog 38 s38 := s38_0_ok.pre [[some 2], [some 0]]
/-- pontage/pontageref25.with -/
noncomputable def L39 : SL := []
noncomputable def e39 : Env := ⟨ti, fun g => lookS g L39, 1000000, [], [], none⟩
def g39T (x0 : S7) (x1 : Int) (x2 : S6) : Tr (S7) :=
  .br (x1 == 0) (
   .leaf ({ x0 with f1 := x2.f0, f2 := x2.f1 })) (
   .leaf ({ x0 with f3 := x2.f0, f4 := x2.f1 }))
def g39 (x0 : S7) (x1 : Int) (x2 : S6) : S7 := (g39T x0 x1 x2).get default
noncomputable def T39 : TL := []
noncomputable def q39 : Ab.Spec := frzR [[none, some 2, some 2, some 2, some 2]] (runQ0 e39 (lookT T39) Go.Proofs.Try.f39)
theorem q39_ok : SpecOk Go.Proofs.Try.prog 39 q39 := (runQ0_ok (runR_ok (e := e39) follows (allTI ti_ok _ _ _ _ _) (callsOk_nil) Go.Proofs.Try.func39 Go.Proofs.Try.call39) (fun c hc => by
  have hb : c = Go.Proofs.Try.f39.body.getD .skip := by rw [hc]; rfl
  subst hb
  exact tab_nil)).froze [[none, some 2, some 2, some 2, some 2]]
theorem g39_run (x0 : S7) (x1 : Int) (x2 : S6) : (q39 [.agg (Cod.enc 7 x0), .c (.int .i64 x1), .agg (Cod.enc 6 x2)] []).eval = (g39T x0 x1 x2).ev fun r => ((.agg (Cod.enc 7 r) : AV), ([] : List Blk)) := by kernel_rfl
noncomputable def s39_0 : Ab.Spec := fun args h =>
  dN h <| dL args fun v0 a0 => dG v0 fun l0 => dE 7 l0 fun x0 => dL a0 fun v1 a1 => dC v1 fun c0 => dI .i64 c0 fun x1 => dL a1 fun v2 a2 => dG v2 fun l2 => dE 6 l2 fun x2 => dN a2 <|
  let r := g39 x0 x1 x2; .val (.agg (Cod.enc 7 r), [])
theorem s39_0_ok : SpecOk Go.Proofs.Try.prog 39 s39_0 :=
  q39_ok.less fun args hs r h => by
    unfold s39_0 at h
    obtain ⟨rfl, hh1⟩ := dN_inv h
    obtain ⟨v0, a0, rfl, hh2⟩ := dL_inv hh1
    obtain ⟨l0, rfl, hh3⟩ := dG_inv hh2
    obtain ⟨x0, rfl, hh4⟩ := dE_inv hh3
    obtain ⟨v1, a1, rfl, hh5⟩ := dL_inv hh4
    obtain ⟨c0, rfl, hh6⟩ := dC_inv hh5
    obtain ⟨x1, rfl, hh7⟩ := dI_inv hh6
    obtain ⟨v2, a2, rfl, hh8⟩ := dL_inv hh7
    obtain ⟨l2, rfl, hh9⟩ := dG_inv hh8
    obtain ⟨x2, rfl, hh10⟩ := dE_inv hh9
    obtain ⟨rfl, hh11⟩ := dN_inv hh10
    rw [g39_run, Tr.ev_get (d := default) (by kernel_rfl)]
    exact hh11
noncomputable def s39 : Ab.Spec := fun args h => s39_0 (coeA [[none, some 2, some 2, some 2, some 2], [], [some 2, some 2]] args) h
theorem s39_ok : SpecOk Go.Proofs.Try.prog 39 s39 := s39_0_ok.pre [[none, some 2, some 2, some 2, some 2], [], [some 2, some 2]]
/-- pontage/pontageref25.Data -/
noncomputable def L20 : SL := [(36, .byNew, s36), (37, .byVal, s37), (38, .byNew, s38), (39, .byNew, s39)]
noncomputable def e20 : Env := ⟨ti, fun g => lookS g L20, 1000000, [], [], none⟩
def g20T (x0 : S7) (x1 : Int) (x2 : List S0) : Tr (S7 × Int) :=
  let z421 := g36 x0 x1
  let z422 := g37 x1
  .br (!z422) (
   .leaf (x0, 5)) (
   .br (!x0.f0) (
    .leaf (x0, 250)) (
    .br (decide ((x2.length : Int) > 2048)) (
     .leaf (x0, 2)) (
     .br (decide ((z421.f0.length : Int) ≥ 32)) (
      .leaf (x0, 3)) (
      .opt (g38 z421.f0 x2) fun z423 =>
       let z424 := g39 x0 x1 { z421 with f0 := z423 }
       .leaf (z424, 0)))))
def g20 (x0 : S7) (x1 : Int) (x2 : List S0) : Option (S7 × Int) := (g20T x0 x1 x2).get?
noncomputable def T20 : TL := []
noncomputable def q20 : Ab.Spec := frzR [[none, some 2, some 2, some 2, some 2], []] (runQ0 e20 (lookT T20) Go.Proofs.Try.f20)
theorem q20_ok : SpecOk Go.Proofs.Try.prog 20 q20 := (runQ0_ok (runR_ok (e := e20) follows (allTI ti_ok _ _ _ _ _) (callsOk_cons s36_ok (callsOk_cons s37_ok (callsOk_cons s38_ok (callsOk_cons s39_ok (callsOk_nil))))) Go.Proofs.Try.func20 Go.Proofs.Try.call20) (fun c hc => by
  have hb : c = Go.Proofs.Try.f20.body.getD .skip := by rw [hc]; rfl
  subst hb
  exact tab_nil)).froze [[none, some 2, some 2, some 2, some 2], []]
theorem g20_run (x0 : S7) (x1 : Int) (x2 : List S0) : (q20 [.agg (Cod.enc 7 x0), .c (.int .i64 x1), .c (.rs 0 x2)] []).eval = (g20T x0 x1 x2).ev fun r => ((.tup [some (true, Cod.enc 7 r.1), some (false, [.int .i64 r.2])] : AV), ([] : List Blk)) := by kernel_rfl
noncomputable def s20_0 : Ab.Spec := fun args h =>
  dN h <| dL args fun v0 a0 => dG v0 fun l0 => dE 7 l0 fun x0 => dL a0 fun v1 a1 => dC v1 fun c0 => dI .i64 c0 fun x1 => dL a1 fun v2 a2 => dC v2 fun c1 => dR0 0 c1 fun x2 => dN a2 <|
  .opt (g20 x0 x1 x2) fun r => .val (.tup [some (true, Cod.enc 7 r.1), some (false, [.int .i64 r.2])], [])
theorem s20_0_ok : SpecOk Go.Proofs.Try.prog 20 s20_0 :=
  q20_ok.less fun args hs r h => by
    unfold s20_0 at h
    obtain ⟨rfl, hh1⟩ := dN_inv h
    obtain ⟨v0, a0, rfl, hh2⟩ := dL_inv hh1
    obtain ⟨l0, rfl, hh3⟩ := dG_inv hh2
    obtain ⟨x0, rfl, hh4⟩ := dE_inv hh3
    obtain ⟨v1, a1, rfl, hh5⟩ := dL_inv hh4
    obtain ⟨c0, rfl, hh6⟩ := dC_inv hh5
    obtain ⟨x1, rfl, hh7⟩ := dI_inv hh6
    obtain ⟨v2, a2, rfl, hh8⟩ := dL_inv hh7
    obtain ⟨c1, rfl, hh9⟩ := dC_inv hh8
    obtain ⟨x2, rfl, hh10⟩ := dR0_inv hh9
    obtain ⟨rfl, hh11⟩ := dN_inv hh10
    rw [g20_run, Tr.ev_get?]
    change (Res.opt (g20 x0 x1 x2) _).eval = some r at hh11
    rw [eval_opt] at hh11
    obtain ⟨z, hz, hh12⟩ := Option.bind_eq_some_iff.mp hh11
    unfold g20 at hz
    rw [hz]; exact hh12
noncomputable def s20 : Ab.Spec := fun args h => s20_0 (coeA [[none, some 2, some 2, some 2, some 2], [], [some 0]] args) h
theorem s20_ok : SpecOk Go.Proofs.Try.prog 20 s20 := s20_0_ok.pre [[none, some 2, some 2, some 2, some 2], [], [some 0]]
/-- pontage/pontageref25.Take -/
noncomputable def L21 : SL := [(36, .byNew, s36), (39, .byNew, s39)]
noncomputable def e21 : Env := ⟨ti, fun g => lookS g L21, 1000000, [], [], none⟩
def g21T (x0 : S7) (x1 : Int) (x2 : Int) : Tr (S7 × List S0 × Bool) :=
  let z425 := g36 x0 x1
  .br (bif (decide (x2 < 0)) then true else (decide (x2 ≥ (z425.f0.length : Int)))) (
   .leaf (x0, [], false)) (
   .br (decide (0 ≤ x2)) (
    .opt (z425.f0[Int.toNat x2]?) fun y426 =>
     .br (decide (0 ≤ x2) && decide (x2 ≤ (z425.f0.length : Int))) (
      .br (decide (0 ≤ (IntKind.i64.wrap (x2 + 1))) && decide ((IntKind.i64.wrap (x2 + 1)) ≤ (z425.f0.length : Int))) (
       .br ((List.take (Int.toNat x2) z425.f0).isEmpty) (
        .br ((List.drop (Int.toNat (IntKind.i64.wrap (x2 + 1))) z425.f0).isEmpty) (
         let z427 := g39 x0 x1 { z425 with f0 := [] }
         .leaf (z427, y426.f0, true)) (
         .br (Nat.ble (0 + (List.drop (Int.toNat (IntKind.i64.wrap (x2 + 1))) z425.f0).length) 140737488355328 && Nat.ble ((0 + (List.drop (Int.toNat (IntKind.i64.wrap (x2 + 1))) z425.f0).length) * 24) 140737488355328) (
          let z428 := g39 x0 x1 { z425 with f0 := (List.drop (Int.toNat (IntKind.i64.wrap (x2 + 1))) z425.f0) }
          .leaf (z428, y426.f0, true)) (
          .fail))) (
        .br (Nat.ble (0 + (List.take (Int.toNat x2) z425.f0).length) 140737488355328 && Nat.ble ((0 + (List.take (Int.toNat x2) z425.f0).length) * 24) 140737488355328) (
         .br ((List.drop (Int.toNat (IntKind.i64.wrap (x2 + 1))) z425.f0).isEmpty) (
          let z429 := g39 x0 x1 { z425 with f0 := (List.take (Int.toNat x2) z425.f0) }
          .leaf (z429, y426.f0, true)) (
          .br (Nat.ble ((List.take (Int.toNat x2) z425.f0).length + (List.drop (Int.toNat (IntKind.i64.wrap (x2 + 1))) z425.f0).length) 140737488355328 && Nat.ble (((List.take (Int.toNat x2) z425.f0).length + (List.drop (Int.toNat (IntKind.i64.wrap (x2 + 1))) z425.f0).length) * 24) 140737488355328) (
           let z430 := g39 x0 x1 { z425 with f0 := ((List.take (Int.toNat x2) z425.f0) ++ (List.drop (Int.toNat (IntKind.i64.wrap (x2 + 1))) z425.f0)) }
           .leaf (z430, y426.f0, true)) (
           .fail))) (
         .fail))) (
       .fail)) (
      .fail)) (
    .fail))
def g21 (x0 : S7) (x1 : Int) (x2 : Int) : Option (S7 × List S0 × Bool) := (g21T x0 x1 x2).get?
noncomputable def T21 : TL := []
noncomputable def q21 : Ab.Spec := frzR [[none, some 2, some 2, some 2, some 2], [some 0], []] (runQ0 e21 (lookT T21) Go.Proofs.Try.f21)
theorem q21_ok : SpecOk Go.Proofs.Try.prog 21 q21 := (runQ0_ok (runR_ok (e := e21) follows (allTI ti_ok _ _ _ _ _) (callsOk_cons s36_ok (callsOk_cons s39_ok (callsOk_nil))) Go.Proofs.Try.func21 Go.Proofs.Try.call21) (fun c hc => by
  have hb : c = Go.Proofs.Try.f21.body.getD .skip := by rw [hc]; rfl
  subst hb
  exact tab_nil)).froze [[none, some 2, some 2, some 2, some 2], [some 0], []]
theorem g21_run (x0 : S7) (x1 : Int) (x2 : Int) : (q21 [.agg (Cod.enc 7 x0), .c (.int .i64 x1), .c (.int .i64 x2)] []).eval = (g21T x0 x1 x2).ev fun r => ((.tup [some (true, Cod.enc 7 r.1), some (false, [.rs 0 r.2.1]), some (false, [.bool r.2.2])] : AV), ([] : List Blk)) := by kernel_rfl
noncomputable def s21_0 : Ab.Spec := fun args h =>
  dN h <| dL args fun v0 a0 => dG v0 fun l0 => dE 7 l0 fun x0 => dL a0 fun v1 a1 => dC v1 fun c0 => dI .i64 c0 fun x1 => dL a1 fun v2 a2 => dC v2 fun c1 => dI .i64 c1 fun x2 => dN a2 <|
  .opt (g21 x0 x1 x2) fun r => .val (.tup [some (true, Cod.enc 7 r.1), some (false, [.rs 0 r.2.1]), some (false, [.bool r.2.2])], [])
theorem s21_0_ok : SpecOk Go.Proofs.Try.prog 21 s21_0 :=
  q21_ok.less fun args hs r h => by
    unfold s21_0 at h
    obtain ⟨rfl, hh1⟩ := dN_inv h
    obtain ⟨v0, a0, rfl, hh2⟩ := dL_inv hh1
    obtain ⟨l0, rfl, hh3⟩ := dG_inv hh2
    obtain ⟨x0, rfl, hh4⟩ := dE_inv hh3
    obtain ⟨v1, a1, rfl, hh5⟩ := dL_inv hh4
    obtain ⟨c0, rfl, hh6⟩ := dC_inv hh5
    obtain ⟨x1, rfl, hh7⟩ := dI_inv hh6
    obtain ⟨v2, a2, rfl, hh8⟩ := dL_inv hh7
    obtain ⟨c1, rfl, hh9⟩ := dC_inv hh8
    obtain ⟨x2, rfl, hh10⟩ := dI_inv hh9
    obtain ⟨rfl, hh11⟩ := dN_inv hh10
    rw [g21_run, Tr.ev_get?]
    change (Res.opt (g21 x0 x1 x2) _).eval = some r at hh11
    rw [eval_opt] at hh11
    obtain ⟨z, hz, hh12⟩ := Option.bind_eq_some_iff.mp hh11
    unfold g21 at hz
    rw [hz]; exact hh12
noncomputable def s21 : Ab.Spec := fun args h => s21_0 (coeA [[none, some 2, some 2, some 2, some 2], [], []] args) h
theorem s21_ok : SpecOk Go.Proofs.Try.prog 21 s21 := s21_0_ok.pre [[none, some 2, some 2, some 2, some 2], [], []]
/-- pontage/pontageref25.Twin -/
noncomputable def L22 : SL := [(36, .byNew, s36), (38, .byNew, s38), (39, .byNew, s39)]
noncomputable def e22 : Env := ⟨ti, fun g => lookS g L22, 1000000, [], [], none⟩
def g22T (x0 : S7) (x1 : Int) (x2 : Int) : Tr (S7 × Int) :=
  let z431 := g36 x0 x1
  .br (bif (decide (x2 < 0)) then true else (decide (x2 ≥ (z431.f0.length : Int)))) (
   .leaf (x0, 5)) (
   .br (decide ((z431.f0.length : Int) ≥ 32)) (
    .leaf (x0, 3)) (
    .br (decide (0 ≤ x2)) (
     .opt (z431.f0[Int.toNat x2]?) fun y432 =>
      .opt (g38 z431.f0 y432.f0) fun z433 =>
       let z434 := g39 x0 x1 { z431 with f0 := z433 }
       .leaf (z434, 0)) (
     .fail)))
def g22 (x0 : S7) (x1 : Int) (x2 : Int) : Option (S7 × Int) := (g22T x0 x1 x2).get?
noncomputable def T22 : TL := []
noncomputable def q22 : Ab.Spec := frzR [[none, some 2, some 2, some 2, some 2], []] (runQ0 e22 (lookT T22) Go.Proofs.Try.f22)
theorem q22_ok : SpecOk Go.Proofs.Try.prog 22 q22 := (runQ0_ok (runR_ok (e := e22) follows (allTI ti_ok _ _ _ _ _) (callsOk_cons s36_ok (callsOk_cons s38_ok (callsOk_cons s39_ok (callsOk_nil)))) Go.Proofs.Try.func22 Go.Proofs.Try.call22) (fun c hc => by
  have hb : c = Go.Proofs.Try.f22.body.getD .skip := by rw [hc]; rfl
  subst hb
  exact tab_nil)).froze [[none, some 2, some 2, some 2, some 2], []]
theorem g22_run (x0 : S7) (x1 : Int) (x2 : Int) : (q22 [.agg (Cod.enc 7 x0), .c (.int .i64 x1), .c (.int .i64 x2)] []).eval = (g22T x0 x1 x2).ev fun r => ((.tup [some (true, Cod.enc 7 r.1), some (false, [.int .i64 r.2])] : AV), ([] : List Blk)) := by kernel_rfl
noncomputable def s22_0 : Ab.Spec := fun args h =>
  dN h <| dL args fun v0 a0 => dG v0 fun l0 => dE 7 l0 fun x0 => dL a0 fun v1 a1 => dC v1 fun c0 => dI .i64 c0 fun x1 => dL a1 fun v2 a2 => dC v2 fun c1 => dI .i64 c1 fun x2 => dN a2 <|
  .opt (g22 x0 x1 x2) fun r => .val (.tup [some (true, Cod.enc 7 r.1), some (false, [.int .i64 r.2])], [])
theorem s22_0_ok : SpecOk Go.Proofs.Try.prog 22 s22_0 :=
  q22_ok.less fun args hs r h => by
    unfold s22_0 at h
    obtain ⟨rfl, hh1⟩ := dN_inv h
    obtain ⟨v0, a0, rfl, hh2⟩ := dL_inv hh1
    obtain ⟨l0, rfl, hh3⟩ := dG_inv hh2
    obtain ⟨x0, rfl, hh4⟩ := dE_inv hh3
    obtain ⟨v1, a1, rfl, hh5⟩ := dL_inv hh4
    obtain ⟨c0, rfl, hh6⟩ := dC_inv hh5
    obtain ⟨x1, rfl, hh7⟩ := dI_inv hh6
    obtain ⟨v2, a2, rfl, hh8⟩ := dL_inv hh7
    obtain ⟨c1, rfl, hh9⟩ := dC_inv hh8
    obtain ⟨x2, rfl, hh10⟩ := dI_inv hh9
    obtain ⟨rfl, hh11⟩ := dN_inv hh10
    rw [g22_run, Tr.ev_get?]
    change (Res.opt (g22 x0 x1 x2) _).eval = some r at hh11
    rw [eval_opt] at hh11
    obtain ⟨z, hz, hh12⟩ := Option.bind_eq_some_iff.mp hh11
    unfold g22 at hz
    rw [hz]; exact hh12
noncomputable def s22 : Ab.Spec := fun args h => s22_0 (coeA [[none, some 2, some 2, some 2, some 2], [], []] args) h
theorem s22_ok : SpecOk Go.Proofs.Try.prog 22 s22 := s22_0_ok.pre [[none, some 2, some 2, some 2, some 2], [], []]
/-- pontage/pontageref25.Say -/
noncomputable def L23 : SL := [(36, .byNew, s36), (37, .byVal, s37), (38, .byNew, s38), (39, .byNew, s39)]
noncomputable def e23 : Env := ⟨ti, fun g => lookS g L23, 1000000, [], [], none⟩
def g23T (x0 : S7) (x1 : Int) (x2 : List S0) : Tr (S7 × Int) :=
  let z435 := g36 x0 x1
  let z436 := g37 x1
  .br (!z436) (
   .leaf (x0, 5)) (
   .br (!x0.f0) (
    .leaf (x0, 250)) (
    .opt (g38 z435.f1 x2) fun z437 =>
     let z438 := g39 x0 x1 { z435 with f1 := z437 }
     .leaf (z438, 0)))
def g23 (x0 : S7) (x1 : Int) (x2 : List S0) : Option (S7 × Int) := (g23T x0 x1 x2).get?
noncomputable def T23 : TL := []
noncomputable def q23 : Ab.Spec := frzR [[none, some 2, some 2, some 2, some 2], []] (runQ0 e23 (lookT T23) Go.Proofs.Try.f23)
theorem q23_ok : SpecOk Go.Proofs.Try.prog 23 q23 := (runQ0_ok (runR_ok (e := e23) follows (allTI ti_ok _ _ _ _ _) (callsOk_cons s36_ok (callsOk_cons s37_ok (callsOk_cons s38_ok (callsOk_cons s39_ok (callsOk_nil))))) Go.Proofs.Try.func23 Go.Proofs.Try.call23) (fun c hc => by
  have hb : c = Go.Proofs.Try.f23.body.getD .skip := by rw [hc]; rfl
  subst hb
  exact tab_nil)).froze [[none, some 2, some 2, some 2, some 2], []]
theorem g23_run (x0 : S7) (x1 : Int) (x2 : List S0) : (q23 [.agg (Cod.enc 7 x0), .c (.int .i64 x1), .c (.rs 0 x2)] []).eval = (g23T x0 x1 x2).ev fun r => ((.tup [some (true, Cod.enc 7 r.1), some (false, [.int .i64 r.2])] : AV), ([] : List Blk)) := by kernel_rfl
noncomputable def s23_0 : Ab.Spec := fun args h =>
  dN h <| dL args fun v0 a0 => dG v0 fun l0 => dE 7 l0 fun x0 => dL a0 fun v1 a1 => dC v1 fun c0 => dI .i64 c0 fun x1 => dL a1 fun v2 a2 => dC v2 fun c1 => dR0 0 c1 fun x2 => dN a2 <|
  .opt (g23 x0 x1 x2) fun r => .val (.tup [some (true, Cod.enc 7 r.1), some (false, [.int .i64 r.2])], [])
theorem s23_0_ok : SpecOk Go.Proofs.Try.prog 23 s23_0 :=
  q23_ok.less fun args hs r h => by
    unfold s23_0 at h
    obtain ⟨rfl, hh1⟩ := dN_inv h
    obtain ⟨v0, a0, rfl, hh2⟩ := dL_inv hh1
    obtain ⟨l0, rfl, hh3⟩ := dG_inv hh2
    obtain ⟨x0, rfl, hh4⟩ := dE_inv hh3
    obtain ⟨v1, a1, rfl, hh5⟩ := dL_inv hh4
    obtain ⟨c0, rfl, hh6⟩ := dC_inv hh5
    obtain ⟨x1, rfl, hh7⟩ := dI_inv hh6
    obtain ⟨v2, a2, rfl, hh8⟩ := dL_inv hh7
    obtain ⟨c1, rfl, hh9⟩ := dC_inv hh8
    obtain ⟨x2, rfl, hh10⟩ := dR0_inv hh9
    obtain ⟨rfl, hh11⟩ := dN_inv hh10
    rw [g23_run, Tr.ev_get?]
    change (Res.opt (g23 x0 x1 x2) _).eval = some r at hh11
    rw [eval_opt] at hh11
    obtain ⟨z, hz, hh12⟩ := Option.bind_eq_some_iff.mp hh11
    unfold g23 at hz
    rw [hz]; exact hh12
noncomputable def s23 : Ab.Spec := fun args h => s23_0 (coeA [[none, some 2, some 2, some 2, some 2], [], [some 0]] args) h
theorem s23_ok : SpecOk Go.Proofs.Try.prog 23 s23 := s23_0_ok.pre [[none, some 2, some 2, some 2, some 2], [], [some 0]]
/-- pontage/pontageref25.Hear -/
noncomputable def L24 : SL := [(36, .byNew, s36), (39, .byNew, s39)]
noncomputable def e24 : Env := ⟨ti, fun g => lookS g L24, 1000000, [], [], none⟩
def g24T (x0 : S7) (x1 : Int) : Tr (S7 × List S0 × Bool) :=
  let z439 := g36 x0 x1
  .br ((z439.f1.length : Int) == 0) (
   .leaf (x0, [], false)) (
   .opt (z439.f1[0]?) fun y440 =>
    .br (decide (0 ≤ 1) && decide (1 ≤ (z439.f1.length : Int))) (
     .br ((List.drop (Int.toNat 1) z439.f1).isEmpty) (
      let z441 := g39 x0 x1 { z439 with f1 := [] }
      .leaf (z441, y440.f0, true)) (
      .br (Nat.ble (0 + (List.drop (Int.toNat 1) z439.f1).length) 140737488355328 && Nat.ble ((0 + (List.drop (Int.toNat 1) z439.f1).length) * 24) 140737488355328) (
       let z442 := g39 x0 x1 { z439 with f1 := (List.drop (Int.toNat 1) z439.f1) }
       .leaf (z442, y440.f0, true)) (
       .fail))) (
     .fail))
def g24 (x0 : S7) (x1 : Int) : Option (S7 × List S0 × Bool) := (g24T x0 x1).get?
noncomputable def T24 : TL := []
noncomputable def q24 : Ab.Spec := frzR [[none, some 2, some 2, some 2, some 2], [some 0], []] (runQ0 e24 (lookT T24) Go.Proofs.Try.f24)
theorem q24_ok : SpecOk Go.Proofs.Try.prog 24 q24 := (runQ0_ok (runR_ok (e := e24) follows (allTI ti_ok _ _ _ _ _) (callsOk_cons s36_ok (callsOk_cons s39_ok (callsOk_nil))) Go.Proofs.Try.func24 Go.Proofs.Try.call24) (fun c hc => by
  have hb : c = Go.Proofs.Try.f24.body.getD .skip := by rw [hc]; rfl
  subst hb
  exact tab_nil)).froze [[none, some 2, some 2, some 2, some 2], [some 0], []]
theorem g24_run (x0 : S7) (x1 : Int) : (q24 [.agg (Cod.enc 7 x0), .c (.int .i64 x1)] []).eval = (g24T x0 x1).ev fun r => ((.tup [some (true, Cod.enc 7 r.1), some (false, [.rs 0 r.2.1]), some (false, [.bool r.2.2])] : AV), ([] : List Blk)) := by kernel_rfl
noncomputable def s24_0 : Ab.Spec := fun args h =>
  dN h <| dL args fun v0 a0 => dG v0 fun l0 => dE 7 l0 fun x0 => dL a0 fun v1 a1 => dC v1 fun c0 => dI .i64 c0 fun x1 => dN a1 <|
  .opt (g24 x0 x1) fun r => .val (.tup [some (true, Cod.enc 7 r.1), some (false, [.rs 0 r.2.1]), some (false, [.bool r.2.2])], [])
theorem s24_0_ok : SpecOk Go.Proofs.Try.prog 24 s24_0 :=
  q24_ok.less fun args hs r h => by
    unfold s24_0 at h
    obtain ⟨rfl, hh1⟩ := dN_inv h
    obtain ⟨v0, a0, rfl, hh2⟩ := dL_inv hh1
    obtain ⟨l0, rfl, hh3⟩ := dG_inv hh2
    obtain ⟨x0, rfl, hh4⟩ := dE_inv hh3
    obtain ⟨v1, a1, rfl, hh5⟩ := dL_inv hh4
    obtain ⟨c0, rfl, hh6⟩ := dC_inv hh5
    obtain ⟨x1, rfl, hh7⟩ := dI_inv hh6
    obtain ⟨rfl, hh8⟩ := dN_inv hh7
    rw [g24_run, Tr.ev_get?]
    change (Res.opt (g24 x0 x1) _).eval = some r at hh8
    rw [eval_opt] at hh8
    obtain ⟨z, hz, hh9⟩ := Option.bind_eq_some_iff.mp hh8
    unfold g24 at hz
    rw [hz]; exact hh9
noncomputable def s24 : Ab.Spec := fun args h => s24_0 (coeA [[none, some 2, some 2, some 2, some 2], []] args) h
theorem s24_ok : SpecOk Go.Proofs.Try.prog 24 s24 := s24_0_ok.pre [[none, some 2, some 2, some 2, some 2], []]
/-- (*pontage/wire.Wire).Said -/
noncomputable def L27 : SL := [(29, .byRead [some 3, none], s29)]
noncomputable def e27 : Env := ⟨ti, fun g => lookS g L27, 1000000, [], [], none⟩
structure V27_0 where
  a0 : S3
  a1 : Int
structure Y27_0 where
  b0 : Int
  deriving Inhabited
def hS27_0 (v : V27_0) : St := ⟨[.c (.rp 3 v.a0 0), .c (.int .i64 v.a1)], []⟩
def iS27_0 (s : St) : V27_0 := ⟨rpC 3 (aC (s.tmps.getD 0 .top)), iC (aC (s.tmps.getD 1 .top))⟩
def aS27_0 : List PA := [.c (.rp 3 0), .c (.int .i64)]
def bS27_0 : List PB := []
def g27_0T (v : V27_0) : Tr Y27_0 :=
  let z451 := g29_0 (V29_0.mk (v.a0) (v.a1))
  .br (!z451.b0) (
   .leaf (⟨0⟩)) (
   .br (decide (0 ≤ v.a1) && decide (v.a1 < 2)) (
    .br (v.a1 == 0) (
     .leaf (⟨(v.a0.f4.length : Int)⟩)) (
     .br (v.a1 == 1) (
      .leaf (⟨(v.a0.f5.length : Int)⟩)) (
      .fail))) (
    .fail))
def g27_0 (v : V27_0) : Option Y27_0 := (g27_0T v).get?
def k27_0 (v : V27_0) (r : Y27_0) : AV × List Blk := (.c (.int .i64 r.b0), [])
noncomputable def q27_0 : Ab.Spec := runQh 0 e27 (lookT []) Go.Proofs.Try.f27
theorem q27_0_ok : SpecOk Go.Proofs.Try.prog 27 q27_0 := runQh_ok (runR_ok (e := e27) follows (allTI ti_ok _ _ _ _ _) (callsOk_cons s29_ok (callsOk_nil)) Go.Proofs.Try.func27 Go.Proofs.Try.call27) (fun c hc => by
  have hb : c = Go.Proofs.Try.f27.body.getD .skip := by rw [hc]; rfl
  subst hb
  exact tab_nil)
theorem g27_0_run (v : V27_0) : (q27_0 (hS27_0 v).tmps (hS27_0 v).heap).eval = (g27_0T v).ev (k27_0 v) := by kernel_rfl
noncomputable def sp27_0 (v : V27_0) : Res (AV × List Blk) := .opt (g27_0 v) fun r => .val (k27_0 v r)
theorem sp27_0_ok (v : V27_0) (r : AV × List Blk) (h : (sp27_0 v).eval = some r) : (q27_0 (hS27_0 v).tmps (hS27_0 v).heap).eval = some r := by
  rw [g27_0_run, Tr.ev_get?]
  unfold sp27_0 at h
  rw [eval_opt] at h
  obtain ⟨z, hz, h⟩ := Option.bind_eq_some_iff.mp h
  unfold g27_0 at hz
  rw [hz]; exact h
structure V27_1 where
  a0 : Int
structure Y27_1 where

  deriving Inhabited
def hS27_1 (v : V27_1) : St := ⟨[.c (.nilp), .c (.int .i64 v.a0)], []⟩
def iS27_1 (s : St) : V27_1 := ⟨iC (aC (s.tmps.getD 1 .top))⟩
def aS27_1 : List PA := [.c (.nilp), .c (.int .i64)]
def bS27_1 : List PB := []
def g27_1T (v : V27_1) : Tr Y27_1 :=
  .leaf (⟨⟩)
def g27_1 (v : V27_1) : Y27_1 := (g27_1T v).get default
def k27_1 (v : V27_1) (r : Y27_1) : AV × List Blk := (.c (.int .i64 0), [])
noncomputable def q27_1 : Ab.Spec := runQh 0 e27 (lookT []) Go.Proofs.Try.f27
theorem q27_1_ok : SpecOk Go.Proofs.Try.prog 27 q27_1 := runQh_ok (runR_ok (e := e27) follows (allTI ti_ok _ _ _ _ _) (callsOk_cons s29_ok (callsOk_nil)) Go.Proofs.Try.func27 Go.Proofs.Try.call27) (fun c hc => by
  have hb : c = Go.Proofs.Try.f27.body.getD .skip := by rw [hc]; rfl
  subst hb
  exact tab_nil)
theorem g27_1_run (v : V27_1) : (q27_1 (hS27_1 v).tmps (hS27_1 v).heap).eval = (g27_1T v).ev (k27_1 v) := by kernel_rfl
noncomputable def sp27_1 (v : V27_1) : Res (AV × List Blk) := let r := g27_1 v; .val (k27_1 v r)
theorem sp27_1_ok (v : V27_1) (r : AV × List Blk) (h : (sp27_1 v).eval = some r) : (q27_1 (hS27_1 v).tmps (hS27_1 v).heap).eval = some r := by
  rw [g27_1_run, Tr.ev_get (d := default) (by kernel_rfl)]
  exact h
noncomputable def s27 : Ab.Spec := shapeS aS27_1 bS27_1 (fun args h => sp27_1 (iS27_1 ⟨args, h⟩)) (shapeS aS27_0 bS27_0 (fun args h => sp27_0 (iS27_0 ⟨args, h⟩)) (runR e27 Go.Proofs.Try.f27))
theorem s27_ok : SpecOk Go.Proofs.Try.prog 27 s27 := shape_ok hS27_1 iS27_1 q27_1_ok (shape_ok hS27_0 iS27_0 q27_0_ok ((runR_ok (e := e27) follows (allTI ti_ok _ _ _ _ _) (callsOk_cons s29_ok (callsOk_nil)) Go.Proofs.Try.func27 Go.Proofs.Try.call27)) (fun s => by kernel_rfl) sp27_0_ok) (fun s => by kernel_rfl) sp27_1_ok
/-- pontage/pontagelaw25.same -/
noncomputable def L25 : SL := [(36, .byNew, s36), (26, .byRead [some 3, none], s26), (27, .byRead [some 3, none], s27), (9, .byHeap, s9), (29, .byRead [some 3, none], s29), (30, .byHeap, s30), (40, .byNew, s40), (16, .byVal, s16), (10, .byHeap, s10), (28, .byRead [some 3], s28)]
noncomputable def e25 : Env := ⟨ti, fun g => lookS g L25, 1000000, [.drop 1, .drop 2, .drop 6, .drop 7, .drop 8, .drop 9, .drop 10, .drop 11, .drop 12, .drop 13, .drop 14, .drop 15, .drop 16, .drop 17, .drop 18, .drop 19, .drop 20, .drop 21, .drop 22, .drop 23, .drop 24, .drop 25, .drop 26, .drop 27, .drop 28, .drop 29, .drop 30, .drop 31, .drop 32, .drop 33, .drop 34, .drop 35, .drop 36, .drop 37, .drop 38, .drop 39, .drop 40, .drop 41, .drop 42, .drop 43, .drop 44, .drop 45, .drop 46, .drop 47, .drop 48, .drop 49, .drop 50, .drop 51, .drop 52], [], some [4]⟩
structure V25_0 where
  a0 : Bool
  a1 : List S2
  a2 : List S2
  a3 : List S2
  a4 : List S2
  a5 : Bool
  a6 : Bool
  a7 : List S2
  a8 : List S2
  a9 : List S2
  a10 : List S2
structure Y25_0 where
  b0 : Bool
  b1 : Bool
  b2 : Bool
  b3 : List S2
  b4 : List S2
  b5 : List S2
  b6 : List S2
  deriving Inhabited
def hS25_0 (v : V25_0) : St := ⟨[.c (.ptr 0 0), .agg [.bool v.a0, .rs 2 v.a1, .rs 2 v.a2, .rs 2 v.a3, .rs 2 v.a4]], [.cells [.bool v.a5, .bool v.a6, .rs 2 v.a7, .rs 2 v.a8, .rs 2 v.a9, .rs 2 v.a10]]⟩
def iS25_0 (s : St) : V25_0 := ⟨bC ((aL (s.tmps.getD 1 .top)).getD 0 .top), rC 2 ((aL (s.tmps.getD 1 .top)).getD 1 .top), rC 2 ((aL (s.tmps.getD 1 .top)).getD 2 .top), rC 2 ((aL (s.tmps.getD 1 .top)).getD 3 .top), rC 2 ((aL (s.tmps.getD 1 .top)).getD 4 .top), bC ((bL (s.heap.getD 0 .dead)).getD 0 .top), bC ((bL (s.heap.getD 0 .dead)).getD 1 .top), rC 2 ((bL (s.heap.getD 0 .dead)).getD 2 .top), rC 2 ((bL (s.heap.getD 0 .dead)).getD 3 .top), rC 2 ((bL (s.heap.getD 0 .dead)).getD 4 .top), rC 2 ((bL (s.heap.getD 0 .dead)).getD 5 .top)⟩
def aS25_0 : List PA := [.c (.ptr 0 0), .agg [.bool, .rs 2, .rs 2, .rs 2, .rs 2]]
def bS25_0 : List PB := [.cells [.bool, .bool, .rs 2, .rs 2, .rs 2, .rs 2]]
def g25_0T (v : V25_0) : Tr Y25_0 :=
  let z449 := g36 (S7.mk v.a0 v.a1 v.a2 v.a3 v.a4) (-1)
  .opt (g26_0 (V26_0.mk ((S3.mk v.a5 v.a6 v.a7 v.a8 v.a9 v.a10)) ((-1)))) fun z450 =>
   .br (!(z450.b0 != (z449.f0.length : Int))) (
    .opt (g27_0 (V27_0.mk ((S3.mk v.a5 v.a6 v.a7 v.a8 v.a9 v.a10)) ((-1)))) fun z453 =>
     .br (!(z453.b0 != (z449.f1.length : Int))) (
      .opt (g9_0 (V9_0.mk ((-1)) (v.a5) (v.a6) (v.a7) (v.a8) (v.a9) (v.a10))) fun z454 =>
       .opt (g16 z454.b0 z449.f0) fun z455 =>
        .br (!(!z455)) (
         .opt (g10_0 (V10_0.mk ((-1)) (z454.b1) (z454.b2) (z454.b3) (z454.b4) (z454.b5) (z454.b6))) fun z456 =>
          .opt (g16 z456.b0 z449.f1) fun z457 =>
           .br (!z457) (
            .leaf (⟨false, z456.b1, z456.b2, z456.b3, z456.b4, z456.b5, z456.b6⟩)) (
            let z458 := g36 (S7.mk v.a0 v.a1 v.a2 v.a3 v.a4) 0
            .opt (g26_0 (V26_0.mk ((S3.mk z456.b1 z456.b2 z456.b3 z456.b4 z456.b5 z456.b6)) (0))) fun z459 =>
             .br (!(z459.b0 != (z458.f0.length : Int))) (
              .opt (g27_0 (V27_0.mk ((S3.mk z456.b1 z456.b2 z456.b3 z456.b4 z456.b5 z456.b6)) (0))) fun z461 =>
               .br (!(z461.b0 != (z458.f1.length : Int))) (
                .opt (g9_0 (V9_0.mk (0) (z456.b1) (z456.b2) (z456.b3) (z456.b4) (z456.b5) (z456.b6))) fun z462 =>
                 .opt (g16 z462.b0 z458.f0) fun z463 =>
                  .br (!(!z463)) (
                   .opt (g10_0 (V10_0.mk (0) (z462.b1) (z462.b2) (z462.b3) (z462.b4) (z462.b5) (z462.b6))) fun z464 =>
                    .opt (g16 z464.b0 z458.f1) fun z465 =>
                     .br (!z465) (
                      .leaf (⟨false, z464.b1, z464.b2, z464.b3, z464.b4, z464.b5, z464.b6⟩)) (
                      let z466 := g36 (S7.mk v.a0 v.a1 v.a2 v.a3 v.a4) 1
                      .opt (g26_0 (V26_0.mk ((S3.mk z464.b1 z464.b2 z464.b3 z464.b4 z464.b5 z464.b6)) (1))) fun z467 =>
                       .br (!(z467.b0 != (z466.f0.length : Int))) (
                        .opt (g27_0 (V27_0.mk ((S3.mk z464.b1 z464.b2 z464.b3 z464.b4 z464.b5 z464.b6)) (1))) fun z469 =>
                         .br (!(z469.b0 != (z466.f1.length : Int))) (
                          .opt (g9_0 (V9_0.mk (1) (z464.b1) (z464.b2) (z464.b3) (z464.b4) (z464.b5) (z464.b6))) fun z470 =>
                           .opt (g16 z470.b0 z466.f0) fun z471 =>
                            .br (!(!z471)) (
                             .opt (g10_0 (V10_0.mk (1) (z470.b1) (z470.b2) (z470.b3) (z470.b4) (z470.b5) (z470.b6))) fun z472 =>
                              .opt (g16 z472.b0 z466.f1) fun z473 =>
                               .br (!z473) (
                                .leaf (⟨false, z472.b1, z472.b2, z472.b3, z472.b4, z472.b5, z472.b6⟩)) (
                                let z474 := g36 (S7.mk v.a0 v.a1 v.a2 v.a3 v.a4) 2
                                .opt (g26_0 (V26_0.mk ((S3.mk z472.b1 z472.b2 z472.b3 z472.b4 z472.b5 z472.b6)) (2))) fun z475 =>
                                 .br (!(z475.b0 != (z474.f0.length : Int))) (
                                  .opt (g27_0 (V27_0.mk ((S3.mk z472.b1 z472.b2 z472.b3 z472.b4 z472.b5 z472.b6)) (2))) fun z477 =>
                                   .br (!(z477.b0 != (z474.f1.length : Int))) (
                                    .opt (g9_0 (V9_0.mk (2) (z472.b1) (z472.b2) (z472.b3) (z472.b4) (z472.b5) (z472.b6))) fun z478 =>
                                     .opt (g16 z478.b0 z474.f0) fun z479 =>
                                      .br (!(!z479)) (
                                       .opt (g10_0 (V10_0.mk (2) (z478.b1) (z478.b2) (z478.b3) (z478.b4) (z478.b5) (z478.b6))) fun z480 =>
                                        .opt (g16 z480.b0 z474.f1) fun z481 =>
                                         .br (!z481) (
                                          .leaf (⟨false, z480.b1, z480.b2, z480.b3, z480.b4, z480.b5, z480.b6⟩)) (
                                          let z482 := g28_0 (V28_0.mk ((S3.mk z480.b1 z480.b2 z480.b3 z480.b4 z480.b5 z480.b6)))
                                          .leaf (⟨(z482.b0 == v.a0), z480.b1, z480.b2, z480.b3, z480.b4, z480.b5, z480.b6⟩))) (
                                       .leaf (⟨false, z478.b1, z478.b2, z478.b3, z478.b4, z478.b5, z478.b6⟩))) (
                                    .leaf (⟨false, z472.b1, z472.b2, z472.b3, z472.b4, z472.b5, z472.b6⟩))) (
                                  .leaf (⟨false, z472.b1, z472.b2, z472.b3, z472.b4, z472.b5, z472.b6⟩)))) (
                             .leaf (⟨false, z470.b1, z470.b2, z470.b3, z470.b4, z470.b5, z470.b6⟩))) (
                          .leaf (⟨false, z464.b1, z464.b2, z464.b3, z464.b4, z464.b5, z464.b6⟩))) (
                        .leaf (⟨false, z464.b1, z464.b2, z464.b3, z464.b4, z464.b5, z464.b6⟩)))) (
                   .leaf (⟨false, z462.b1, z462.b2, z462.b3, z462.b4, z462.b5, z462.b6⟩))) (
                .leaf (⟨false, z456.b1, z456.b2, z456.b3, z456.b4, z456.b5, z456.b6⟩))) (
              .leaf (⟨false, z456.b1, z456.b2, z456.b3, z456.b4, z456.b5, z456.b6⟩)))) (
         .leaf (⟨false, z454.b1, z454.b2, z454.b3, z454.b4, z454.b5, z454.b6⟩))) (
      .leaf (⟨false, v.a5, v.a6, v.a7, v.a8, v.a9, v.a10⟩))) (
    .leaf (⟨false, v.a5, v.a6, v.a7, v.a8, v.a9, v.a10⟩))
def g25_0 (v : V25_0) : Option Y25_0 := (g25_0T v).get?
def k25_0 (v : V25_0) (r : Y25_0) : AV × List Blk := (.c (.bool r.b0), [.cells [.bool r.b1, .bool r.b2, .rs 2 r.b3, .rs 2 r.b4, .rs 2 r.b5, .rs 2 r.b6]])
noncomputable def q25_0 : Ab.Spec := runQh 1 e25 (lookT []) Go.Proofs.Try.f25
theorem q25_0_ok : SpecOk Go.Proofs.Try.prog 25 q25_0 := runQh_ok (runR_ok (e := e25) follows (allTI ti_ok _ _ _ _ _) (callsOk_cons s36_ok (callsOk_cons s26_ok (callsOk_cons s27_ok (callsOk_cons s9_ok (callsOk_cons s29_ok (callsOk_cons s30_ok (callsOk_cons s40_ok (callsOk_cons s16_ok (callsOk_cons s10_ok (callsOk_cons s28_ok (callsOk_nil))))))))))) Go.Proofs.Try.func25 Go.Proofs.Try.call25) (fun c hc => by
  have hb : c = Go.Proofs.Try.f25.body.getD .skip := by rw [hc]; rfl
  subst hb
  exact tab_nil)
theorem g25_0_run (v : V25_0) : (q25_0 (hS25_0 v).tmps (hS25_0 v).heap).eval = (g25_0T v).ev (k25_0 v) := by kernel_rfl
noncomputable def sp25_0 (v : V25_0) : Res (AV × List Blk) := .opt (g25_0 v) fun r => .val (k25_0 v r)
theorem sp25_0_ok (v : V25_0) (r : AV × List Blk) (h : (sp25_0 v).eval = some r) : (q25_0 (hS25_0 v).tmps (hS25_0 v).heap).eval = some r := by
  rw [g25_0_run, Tr.ev_get?]
  unfold sp25_0 at h
  rw [eval_opt] at h
  obtain ⟨z, hz, h⟩ := Option.bind_eq_some_iff.mp h
  unfold g25_0 at hz
  rw [hz]; exact h
noncomputable def s25 : Ab.Spec := shapeS aS25_0 bS25_0 (fun args h => sp25_0 (iS25_0 ⟨args, h⟩)) (runR e25 Go.Proofs.Try.f25)
theorem s25_ok : SpecOk Go.Proofs.Try.prog 25 s25 := shape_ok hS25_0 iS25_0 q25_0_ok ((runR_ok (e := e25) follows (allTI ti_ok _ _ _ _ _) (callsOk_cons s36_ok (callsOk_cons s26_ok (callsOk_cons s27_ok (callsOk_cons s9_ok (callsOk_cons s29_ok (callsOk_cons s30_ok (callsOk_cons s40_ok (callsOk_cons s16_ok (callsOk_cons s10_ok (callsOk_cons s28_ok (callsOk_nil))))))))))) Go.Proofs.Try.func25 Go.Proofs.Try.call25)) (fun s => by kernel_rfl) sp25_0_ok
/-- pontage/pontagelaw25.WireRuns -/
noncomputable def L5 : SL := [(7, .byHeap, s7), (17, .byNew, s17), (8, .byVal, s8), (18, .byHeap, s18), (34, .byRead [some 3], s34), (19, .byNew, s19), (11, .byHeap, s11), (31, .byRead [some 3, none], s31), (32, .byHeap, s32), (41, .byNew, s41), (40, .byNew, s40), (20, .byNew, s20), (12, .byHeap, s12), (29, .byRead [some 3, none], s29), (33, .byHeap, s33), (42, .byHeap, s42), (21, .byNew, s21), (13, .byHeap, s13), (35, .byRead [some 3, none], s35), (22, .byNew, s22), (14, .byHeap, s14), (23, .byNew, s23), (15, .byHeap, s15), (24, .byNew, s24), (25, .byHeap, s25), (36, .byNew, s36), (26, .byRead [some 3, none], s26), (27, .byRead [some 3, none], s27), (9, .byHeap, s9), (30, .byHeap, s30), (16, .byVal, s16), (10, .byHeap, s10), (28, .byRead [some 3], s28)]
noncomputable def e5 : Env := ⟨ti, fun g => lookS g L5, 1000000, [.drop 1, .drop 6, .drop 7, .drop 8, .drop 9, .drop 10, .drop 11, .drop 12, .drop 13, .drop 14, .drop 15, .drop 16, .drop 17, .drop 18, .drop 19, .drop 20, .drop 21, .drop 22, .drop 23, .drop 24, .drop 25, .drop 26, .drop 27, .drop 28, .drop 29, .drop 30, .drop 31, .drop 32, .drop 33, .drop 34, .drop 35, .drop 36, .drop 37, .drop 38, .drop 39, .drop 40, .drop 41, .drop 42, .drop 43, .drop 44, .drop 45, .drop 46, .drop 47, .drop 48, .drop 49, .drop 50, .drop 51, .drop 52, .drop 53, .drop 54, .drop 55, .drop 56, .drop 57, .drop 58, .drop 59, .drop 60, .drop 61, .drop 62, .drop 63, .drop 64, .drop 65, .drop 66, .drop 67, .drop 68, .drop 69, .drop 70, .drop 71, .drop 72, .drop 73, .drop 74, .drop 75, .drop 76, .drop 77, .drop 78, .drop 79, .drop 80, .drop 81, .drop 82, .drop 83, .drop 84, .drop 85, .drop 86, .drop 87, .drop 88, .drop 89, .drop 90, .drop 91, .drop 92, .drop 93, .drop 94, .drop 95, .drop 96, .drop 97, .drop 98, .drop 99, .drop 100, .drop 101, .drop 102, .drop 103, .drop 104, .drop 105, .drop 106, .drop 107, .drop 108, .drop 109, .drop 110, .drop 111, .drop 112, .drop 113, .drop 114, .drop 115, .drop 116, .drop 117, .drop 118, .drop 119, .drop 120, .drop 121, .drop 122, .drop 123, .drop 124, .drop 125, .drop 126, .drop 127, .drop 128, .drop 129, .drop 130, .drop 131, .drop 132, .drop 133, .drop 134, .drop 135, .drop 136, .drop 137, .drop 138, .drop 139, .drop 140, .drop 141, .drop 142, .drop 143, .drop 144, .drop 145, .drop 146, .drop 147, .drop 148, .drop 149, .drop 150, .drop 151, .drop 152, .drop 153, .drop 154, .drop 155, .drop 156, .drop 157, .drop 158, .drop 159, .drop 160, .drop 161, .drop 162, .drop 163, .drop 164, .drop 165, .drop 166, .drop 167, .drop 168, .drop 169, .drop 170, .drop 171], [], some [2]⟩
structure W5_0 where
  a0 : List S1
  a1 : Bool
  a2 : Int
  a3 : Bool
  a4 : Bool
  a5 : List S2
  a6 : List S2
  a7 : List S2
  a8 : List S2
  a9 : Bool
  a10 : List S2
  a11 : List S2
  a12 : List S2
  a13 : List S2
def hd5_0 (v : W5_0) : St := ⟨[.c (.rs 1 v.a0), .top, .c (.bool v.a1), .c (.ptr 0 0), .c (.ptr 1 0), .c (.int .i64 v.a2), .top, .top, .top, .top, .top, .top, .top, .top, .top, .top, .top, .top, .top, .top, .top, .top, .top, .top, .top, .top, .top, .top, .top, .top, .top, .top, .top, .top, .top, .top, .top, .top, .top, .top, .top, .top, .top, .top, .top, .top, .top, .top, .top, .top, .top, .top, .top, .top, .top, .top, .top, .top, .top, .top, .top, .top, .top, .top, .top, .top, .top, .top, .top, .top, .top, .top, .top, .top, .top, .top, .top, .top, .top, .top, .top, .top, .top, .top, .top, .top, .top, .top, .top, .top, .top, .top, .top, .top, .top, .top, .top, .top, .top, .top, .top, .top, .top, .top, .top, .top, .top, .top, .top, .top, .top, .top, .top, .top, .top, .top, .top, .top, .top, .top, .top, .top, .top, .top, .top, .top, .top, .top, .top, .top, .top, .top, .top, .top, .top, .top, .top, .top, .top, .top, .top, .top, .top, .top, .top, .top, .top, .top, .top, .top, .top, .top, .top, .top, .top, .top, .top, .top, .top, .top, .top, .top, .top, .top, .top, .top, .top, .top, .top, .top, .top, .top], [.cells [.bool v.a3, .bool v.a4, .rs 2 v.a5, .rs 2 v.a6, .rs 2 v.a7, .rs 2 v.a8], .cells [.bool v.a9, .rs 2 v.a10, .rs 2 v.a11, .rs 2 v.a12, .rs 2 v.a13]]⟩
structure U5_0 where
  a0 : Bool
def hu5_0 (u : U5_0) : St := ⟨[.top, .top, .c (.bool u.a0), .top, .top, .top, .top, .top, .top, .top, .top, .top, .top, .top, .top, .top, .top, .top, .top, .top, .top, .top, .top, .top, .top, .top, .top, .top, .top, .top, .top, .top, .top, .top, .top, .top, .top, .top, .top, .top, .top, .top, .top, .top, .top, .top, .top, .top, .top, .top, .top, .top, .top, .top, .top, .top, .top, .top, .top, .top, .top, .top, .top, .top, .top, .top, .top, .top, .top, .top, .top, .top, .top, .top, .top, .top, .top, .top, .top, .top, .top, .top, .top, .top, .top, .top, .top, .top, .top, .top, .top, .top, .top, .top, .top, .top, .top, .top, .top, .top, .top, .top, .top, .top, .top, .top, .top, .top, .top, .top, .top, .top, .top, .top, .top, .top, .top, .top, .top, .top, .top, .top, .top, .top, .top, .top, .top, .top, .top, .top, .top, .top, .top, .top, .top, .top, .top, .top, .top, .top, .top, .top, .top, .top, .top, .top, .top, .top, .top, .top, .top, .top, .top, .top, .top, .top, .top, .top, .top, .top, .top, .top, .top, .top, .top, .top, .top, .top, .top, .top, .top, .top], []⟩
def gR5_0 (v : W5_0) : Tr (W5_0 ⊕ (W5_0 ⊕ U5_0)) :=
  .br (bif (decide (v.a2 < (v.a0.length : Int))) then (decide (v.a2 < 80)) else false) (
   .br (decide (0 ≤ v.a2)) (
    .opt (v.a0[Int.toNat v.a2]?) fun y446 =>
     .br (decide (0 ≤ (mnI (y446.f3.length : Int) 2100)) && decide ((mnI (y446.f3.length : Int) 2100) ≤ (y446.f3.length : Int))) (
      .br (y446.f0 == 1) (
       let z447 := g18_0 (V18_0.mk (y446.f4) (v.a3) (v.a4) (v.a5) (v.a6) (v.a7) (v.a8))
       let z448 := g19 (S7.mk v.a9 v.a10 v.a11 v.a12 v.a13) y446.f4
       .br (z447.b0 != z448.2) (
        .leaf (.inr (.inr ⟨false⟩))) (
        .br (!(bif (!((ByteArray.mk #[]) == (ByteArray.mk #[]))) then true else false)) (
         .opt (g25_0 (V25_0.mk (z448.1.f0) (z448.1.f1) (z448.1.f2) (z448.1.f3) (z448.1.f4) (v.a3) (z447.b1) (z447.b2) (z447.b3) (z447.b4) (z447.b5))) fun z449 =>
          .br (!z449.b0) (
           .leaf (.inr (.inr ⟨false⟩))) (
           .leaf (.inl ({ v with a2 := (IntKind.i64.wrap (v.a2 + 1)), a3 := z449.b1, a4 := z449.b2, a5 := z449.b3, a6 := z449.b4, a7 := z449.b5, a8 := z449.b6, a9 := z448.1.f0, a10 := z448.1.f1, a11 := z448.1.f2, a12 := z448.1.f3, a13 := z448.1.f4 })))) (
         .leaf (.inr (.inr ⟨false⟩))))) (
       .br (y446.f0 == 2) (
        .opt (g11_1 (V11_1.mk (y446.f1) ((List.take (Int.toNat (mnI (y446.f3.length : Int) 2100)) y446.f3)) (v.a3) (v.a4) (v.a5) (v.a6) (v.a7) (v.a8))) fun z450 =>
         .opt (g20 (S7.mk v.a9 v.a10 v.a11 v.a12 v.a13) y446.f1 (List.take (Int.toNat (mnI (y446.f3.length : Int) 2100)) y446.f3)) fun z451 =>
          .br (!(bif (bif (z450.b0 != z451.2) then true else (!((ByteArray.mk #[]) == (ByteArray.mk #[])))) then true else false)) (
           .opt (g25_0 (V25_0.mk (z451.1.f0) (z451.1.f1) (z451.1.f2) (z451.1.f3) (z451.1.f4) (v.a3) (v.a4) (z450.b1) (z450.b2) (v.a7) (v.a8))) fun z452 =>
            .br (!z452.b0) (
             .leaf (.inr (.inr ⟨false⟩))) (
             .leaf (.inl ({ v with a2 := (IntKind.i64.wrap (v.a2 + 1)), a3 := z452.b1, a4 := z452.b2, a5 := z452.b3, a6 := z452.b4, a7 := z452.b5, a8 := z452.b6, a9 := z451.1.f0, a10 := z451.1.f1, a11 := z451.1.f2, a12 := z451.1.f3, a13 := z451.1.f4 })))) (
           .leaf (.inr (.inr ⟨false⟩)))) (
        .br (y446.f0 == 3) (
         .opt (g11_1 (V11_1.mk (y446.f1) ((List.take (Int.toNat (mnI (y446.f3.length : Int) 2100)) y446.f3)) (v.a3) (v.a4) (v.a5) (v.a6) (v.a7) (v.a8))) fun z453 =>
          .opt (g20 (S7.mk v.a9 v.a10 v.a11 v.a12 v.a13) y446.f1 (List.take (Int.toNat (mnI (y446.f3.length : Int) 2100)) y446.f3)) fun z454 =>
           .br (!(bif (bif (z453.b0 != z454.2) then true else (!((ByteArray.mk #[]) == (ByteArray.mk #[])))) then true else false)) (
            .opt (g25_0 (V25_0.mk (z454.1.f0) (z454.1.f1) (z454.1.f2) (z454.1.f3) (z454.1.f4) (v.a3) (v.a4) (z453.b1) (z453.b2) (v.a7) (v.a8))) fun z455 =>
             .br (!z455.b0) (
              .leaf (.inr (.inr ⟨false⟩))) (
              .leaf (.inl ({ v with a2 := (IntKind.i64.wrap (v.a2 + 1)), a3 := z455.b1, a4 := z455.b2, a5 := z455.b3, a6 := z455.b4, a7 := z455.b5, a8 := z455.b6, a9 := z454.1.f0, a10 := z454.1.f1, a11 := z454.1.f2, a12 := z454.1.f3, a13 := z454.1.f4 })))) (
            .leaf (.inr (.inr ⟨false⟩)))) (
         .br (y446.f0 == 4) (
          .opt (g12_0 (V12_0.mk (y446.f1) (y446.f2) (v.a3) (v.a4) (v.a5) (v.a6) (v.a7) (v.a8))) fun z456 =>
           .opt (g21 (S7.mk v.a9 v.a10 v.a11 v.a12 v.a13) y446.f1 y446.f2) fun z457 =>
            .br (!(bif (!((strO 0 z456.b0) == (strO 0 z457.2.1))) then true else (!(z456.b1 == z457.2.2)))) (
             .opt (g25_0 (V25_0.mk (z457.1.f0) (z457.1.f1) (z457.1.f2) (z457.1.f3) (z457.1.f4) (z456.b2) (z456.b3) (z456.b4) (z456.b5) (z456.b6) (z456.b7))) fun z458 =>
              .br (!z458.b0) (
               .leaf (.inr (.inr ⟨false⟩))) (
               .leaf (.inl ({ v with a2 := (IntKind.i64.wrap (v.a2 + 1)), a3 := z458.b1, a4 := z458.b2, a5 := z458.b3, a6 := z458.b4, a7 := z458.b5, a8 := z458.b6, a9 := z457.1.f0, a10 := z457.1.f1, a11 := z457.1.f2, a12 := z457.1.f3, a13 := z457.1.f4 })))) (
             .leaf (.inr (.inr ⟨false⟩)))) (
          .br (y446.f0 == 5) (
           .opt (g13_0 (V13_0.mk (y446.f1) (y446.f2) (v.a3) (v.a4) (v.a5) (v.a6) (v.a7) (v.a8))) fun z459 =>
            .opt (g22 (S7.mk v.a9 v.a10 v.a11 v.a12 v.a13) y446.f1 y446.f2) fun z460 =>
             .br (!(bif (bif (z459.b0 != z460.2) then true else (!((ByteArray.mk #[]) == (ByteArray.mk #[])))) then true else false)) (
              .opt (g25_0 (V25_0.mk (z460.1.f0) (z460.1.f1) (z460.1.f2) (z460.1.f3) (z460.1.f4) (v.a3) (v.a4) (z459.b1) (z459.b2) (v.a7) (v.a8))) fun z461 =>
               .br (!z461.b0) (
                .leaf (.inr (.inr ⟨false⟩))) (
                .leaf (.inl ({ v with a2 := (IntKind.i64.wrap (v.a2 + 1)), a3 := z461.b1, a4 := z461.b2, a5 := z461.b3, a6 := z461.b4, a7 := z461.b5, a8 := z461.b6, a9 := z460.1.f0, a10 := z460.1.f1, a11 := z460.1.f2, a12 := z460.1.f3, a13 := z460.1.f4 })))) (
              .leaf (.inr (.inr ⟨false⟩)))) (
           .br (y446.f0 == 6) (
            .opt (g14_0 (V14_0.mk (y446.f1) ((List.take (Int.toNat (mnI (y446.f3.length : Int) 2100)) y446.f3)) (v.a3) (v.a4) (v.a5) (v.a6) (v.a7) (v.a8))) fun z462 =>
             .opt (g23 (S7.mk v.a9 v.a10 v.a11 v.a12 v.a13) y446.f1 (List.take (Int.toNat (mnI (y446.f3.length : Int) 2100)) y446.f3)) fun z463 =>
              .br (!(bif (bif (z462.b0 != z463.2) then true else (!((ByteArray.mk #[]) == (ByteArray.mk #[])))) then true else false)) (
               .opt (g25_0 (V25_0.mk (z463.1.f0) (z463.1.f1) (z463.1.f2) (z463.1.f3) (z463.1.f4) (v.a3) (v.a4) (v.a5) (v.a6) (z462.b1) (z462.b2))) fun z464 =>
                .br (!z464.b0) (
                 .leaf (.inr (.inr ⟨false⟩))) (
                 .leaf (.inl ({ v with a2 := (IntKind.i64.wrap (v.a2 + 1)), a3 := z464.b1, a4 := z464.b2, a5 := z464.b3, a6 := z464.b4, a7 := z464.b5, a8 := z464.b6, a9 := z463.1.f0, a10 := z463.1.f1, a11 := z463.1.f2, a12 := z463.1.f3, a13 := z463.1.f4 })))) (
               .leaf (.inr (.inr ⟨false⟩)))) (
            .br (y446.f0 == 7) (
             .opt (g15_0 (V15_0.mk (y446.f1) (v.a3) (v.a4) (v.a5) (v.a6) (v.a7) (v.a8))) fun z465 =>
              .opt (g24 (S7.mk v.a9 v.a10 v.a11 v.a12 v.a13) y446.f1) fun z466 =>
               .br (!(bif (!((strO 0 z465.b0) == (strO 0 z466.2.1))) then true else (!(z465.b1 == z466.2.2)))) (
                .opt (g25_0 (V25_0.mk (z466.1.f0) (z466.1.f1) (z466.1.f2) (z466.1.f3) (z466.1.f4) (z465.b2) (z465.b3) (z465.b4) (z465.b5) (z465.b6) (z465.b7))) fun z467 =>
                 .br (!z467.b0) (
                  .leaf (.inr (.inr ⟨false⟩))) (
                  .leaf (.inl ({ v with a2 := (IntKind.i64.wrap (v.a2 + 1)), a3 := z467.b1, a4 := z467.b2, a5 := z467.b3, a6 := z467.b4, a7 := z467.b5, a8 := z467.b6, a9 := z466.1.f0, a10 := z466.1.f1, a11 := z466.1.f2, a12 := z466.1.f3, a13 := z466.1.f4 })))) (
                .leaf (.inr (.inr ⟨false⟩)))) (
             .br (!(bif (!((ByteArray.mk #[]) == (ByteArray.mk #[]))) then true else false)) (
              .opt (g25_0 (V25_0.mk (v.a9) (v.a10) (v.a11) (v.a12) (v.a13) (v.a3) (v.a4) (v.a5) (v.a6) (v.a7) (v.a8))) fun z468 =>
               .br (!z468.b0) (
                .leaf (.inr (.inr ⟨false⟩))) (
                .leaf (.inl ({ v with a2 := (IntKind.i64.wrap (v.a2 + 1)), a3 := z468.b1, a4 := z468.b2, a5 := z468.b3, a6 := z468.b4, a7 := z468.b5, a8 := z468.b6 })))) (
              .leaf (.inr (.inr ⟨false⟩))))))))))) (
      .fail)) (
    .fail)) (
   .leaf (.inr (.inl (v))))
noncomputable def lb5_0 : Code := match findB 0 (Go.Proofs.Try.f5.body.getD .skip) with | [.loop b] => b | _ => .skip
def pa5_0 : List PA := [.c (.rs 1), .any, .c (.bool), .c (.ptr 0 0), .c (.ptr 1 0), .c (.int .i64), .any, .any, .any, .any, .any, .any, .any, .any, .any, .any, .any, .any, .any, .any, .any, .any, .any, .any, .any, .any, .any, .any, .any, .any, .any, .any, .any, .any, .any, .any, .any, .any, .any, .any, .any, .any, .any, .any, .any, .any, .any, .any, .any, .any, .any, .any, .any, .any, .any, .any, .any, .any, .any, .any, .any, .any, .any, .any, .any, .any, .any, .any, .any, .any, .any, .any, .any, .any, .any, .any, .any, .any, .any, .any, .any, .any, .any, .any, .any, .any, .any, .any, .any, .any, .any, .any, .any, .any, .any, .any, .any, .any, .any, .any, .any, .any, .any, .any, .any, .any, .any, .any, .any, .any, .any, .any, .any, .any, .any, .any, .any, .any, .any, .any, .any, .any, .any, .any, .any, .any, .any, .any, .any, .any, .any, .any, .any, .any, .any, .any, .any, .any, .any, .any, .any, .any, .any, .any, .any, .any, .any, .any, .any, .any, .any, .any, .any, .any, .any, .any, .any, .any, .any, .any, .any, .any, .any, .any, .any, .any, .any, .any, .any, .any, .any, .any]
def pb5_0 : List PB := [.cells [.bool, .bool, .rs 2, .rs 2, .rs 2, .rs 2], .cells [.bool, .rs 2, .rs 2, .rs 2, .rs 2]]
def ini5_0 (s : St) : W5_0 := ⟨rC 1 (aC (s.tmps.getD 0 .top)), bC (aC (s.tmps.getD 2 .top)), iC (aC (s.tmps.getD 5 .top)), bC ((bL (s.heap.getD 0 .dead)).getD 0 .top), bC ((bL (s.heap.getD 0 .dead)).getD 1 .top), rC 2 ((bL (s.heap.getD 0 .dead)).getD 2 .top), rC 2 ((bL (s.heap.getD 0 .dead)).getD 3 .top), rC 2 ((bL (s.heap.getD 0 .dead)).getD 4 .top), rC 2 ((bL (s.heap.getD 0 .dead)).getD 5 .top), bC ((bL (s.heap.getD 1 .dead)).getD 0 .top), rC 2 ((bL (s.heap.getD 1 .dead)).getD 1 .top), rC 2 ((bL (s.heap.getD 1 .dead)).getD 2 .top), rC 2 ((bL (s.heap.getD 1 .dead)).getD 3 .top), rC 2 ((bL (s.heap.getD 1 .dead)).getD 4 .top)⟩
noncomputable def F5_0 : St → Res (Ex × St) := loopF2 pa5_0 pb5_0 1000000 hd5_0 hu5_0 gR5_0 ini5_0
theorem F5_0_ok (s : St) (r : Ex × St) (h : (F5_0 s).eval = some r) : (codeR e5 0 (.block 0 (.loop lb5_0)) s).eval = some r :=
  blk_ok2 (e := e5) (T := lookT []) (fun s v => by kernel_rfl) (fun s => by kernel_rfl) (tab_nil) s r h
def g5T (x0 : List S1) : Tr (Bool) :=
  let z443 := g17 
  .opt (g8 ) fun z445 =>
   .br (!z445) (
    .leaf (false)) (
    .opt (iter2 gR5_0 1000000 (W5_0.mk (x0) (false) (0) (true) (false) ([]) ([]) ([]) ([]) (z443.f0) (z443.f1) (z443.f2) (z443.f3) (z443.f4))) fun r469 =>
     .br r469.isRight (
      .opt (r469.getRight?) fun u470 =>
       .leaf (u470.a0)) (
      .opt (r469.getLeft?) fun w471 =>
       .leaf (true)))
def g5 (x0 : List S1) : Option (Bool) := (g5T x0).get?
noncomputable def T5 : TL := [(0, F5_0)]
noncomputable def q5 : Ab.Spec := runQ0 e5 (lookT T5) Go.Proofs.Try.f5
theorem q5_ok : SpecOk Go.Proofs.Try.prog 5 q5 := (runQ0_ok (runR_ok (e := e5) follows (allTI ti_ok _ _ _ _ _) (callsOk_cons s7_ok (callsOk_cons s17_ok (callsOk_cons s8_ok (callsOk_cons s18_ok (callsOk_cons s34_ok (callsOk_cons s19_ok (callsOk_cons s11_ok (callsOk_cons s31_ok (callsOk_cons s32_ok (callsOk_cons s41_ok (callsOk_cons s40_ok (callsOk_cons s20_ok (callsOk_cons s12_ok (callsOk_cons s29_ok (callsOk_cons s33_ok (callsOk_cons s42_ok (callsOk_cons s21_ok (callsOk_cons s13_ok (callsOk_cons s35_ok (callsOk_cons s22_ok (callsOk_cons s14_ok (callsOk_cons s23_ok (callsOk_cons s15_ok (callsOk_cons s24_ok (callsOk_cons s25_ok (callsOk_cons s36_ok (callsOk_cons s26_ok (callsOk_cons s27_ok (callsOk_cons s9_ok (callsOk_cons s30_ok (callsOk_cons s16_ok (callsOk_cons s10_ok (callsOk_cons s28_ok (callsOk_nil)))))))))))))))))))))))))))))))))) Go.Proofs.Try.func5 Go.Proofs.Try.call5) (fun c hc => by
  have hb : c = Go.Proofs.Try.f5.body.getD .skip := by rw [hc]; rfl
  subst hb
  exact tab_cons (by kernel_rfl) F5_0_ok (tab_nil)))
theorem g5_run (x0 : List S1) : (q5 [.c (.rs 1 x0)] []).eval = (g5T x0).ev fun r => ((.c (.bool r) : AV), ([] : List Blk)) := by kernel_rfl
noncomputable def s5_0 : Ab.Spec := fun args h =>
  dN h <| dL args fun v0 a0 => dC v0 fun c0 => dR0 1 c0 fun x0 => dN a0 <|
  .opt (g5 x0) fun r => .val (.c (.bool r), [])
theorem s5_0_ok : SpecOk Go.Proofs.Try.prog 5 s5_0 :=
  q5_ok.less fun args hs r h => by
    unfold s5_0 at h
    obtain ⟨rfl, hh1⟩ := dN_inv h
    obtain ⟨v0, a0, rfl, hh2⟩ := dL_inv hh1
    obtain ⟨c0, rfl, hh3⟩ := dC_inv hh2
    obtain ⟨x0, rfl, hh4⟩ := dR0_inv hh3
    obtain ⟨rfl, hh5⟩ := dN_inv hh4
    rw [g5_run, Tr.ev_get?]
    change (Res.opt (g5 x0) _).eval = some r at hh5
    rw [eval_opt] at hh5
    obtain ⟨z, hz, hh6⟩ := Option.bind_eq_some_iff.mp hh5
    unfold g5 at hz
    rw [hz]; exact hh6
noncomputable def s5 : Ab.Spec := fun args h => s5_0 (coeA [[some 1]] args) h
theorem s5_ok : SpecOk Go.Proofs.Try.prog 5 s5 := s5_0_ok.pre [[some 1]]
/-- pontage/pontagelaw25.WireNobody -/
noncomputable def L6 : SL := [(12, .byHeap, s12), (29, .byRead [some 3, none], s29), (33, .byHeap, s33), (41, .byNew, s41), (42, .byHeap, s42), (15, .byHeap, s15), (11, .byHeap, s11), (31, .byRead [some 3, none], s31), (32, .byHeap, s32), (40, .byNew, s40), (14, .byHeap, s14), (13, .byHeap, s13), (34, .byRead [some 3], s34), (35, .byRead [some 3, none], s35), (18, .byHeap, s18), (26, .byRead [some 3, none], s26), (27, .byRead [some 3, none], s27), (9, .byHeap, s9), (30, .byHeap, s30), (10, .byHeap, s10), (28, .byRead [some 3], s28), (8, .byVal, s8)]
noncomputable def e6 : Env := ⟨ti, fun g => lookS g L6, 1000000, [.drop 0, .drop 3, .drop 5, .drop 6, .drop 7, .drop 8, .drop 9, .drop 10, .drop 11, .drop 12, .drop 13, .drop 14, .drop 15, .drop 16, .drop 17, .drop 18, .drop 19, .drop 20, .drop 24, .drop 25, .drop 26, .drop 27, .drop 28, .drop 29, .drop 30, .drop 31, .drop 32, .drop 33, .drop 34, .drop 35, .drop 36, .drop 37, .drop 38, .drop 39, .drop 40, .drop 41, .drop 42, .drop 43, .drop 44, .drop 45, .drop 46, .drop 47, .drop 48, .drop 49, .drop 50, .drop 51, .drop 52, .drop 53, .drop 54, .drop 55, .drop 56, .drop 57, .drop 58, .drop 59, .drop 60, .drop 61, .drop 62, .drop 63, .drop 64, .drop 65, .drop 66, .drop 67, .drop 68, .drop 69, .drop 70, .drop 71, .drop 72, .drop 73, .drop 74, .drop 75, .drop 76, .drop 77, .drop 78, .drop 79, .drop 80, .drop 81, .drop 82, .drop 83, .drop 84, .drop 85, .drop 86, .drop 87, .drop 88, .drop 89, .drop 90, .drop 91, .drop 92, .drop 93, .drop 94, .drop 95, .drop 96, .drop 97, .drop 98, .drop 99, .drop 100, .drop 101, .drop 102, .drop 103, .drop 104, .drop 105, .drop 106, .drop 107, .drop 108, .drop 109, .drop 110, .drop 111, .drop 112], [], some [2]⟩
def g6T (x0 : S1) : Tr (Bool) :=
  .br (decide (0 ≤ (mnI (x0.f3.length : Int) 100)) && decide ((mnI (x0.f3.length : Int) 100) ≤ (x0.f3.length : Int))) (
   let z474 := g12_1 (V12_1.mk (x0.f1) (x0.f2))
   let z476 := g15_1 (V15_1.mk (x0.f1))
   let z491 := g9_1 (V9_1.mk (x0.f1))
   let z493 := g10_1 (V10_1.mk (x0.f1))
   .br (bif (bif (bif ((IntKind.i64.wrap ((IntKind.i64.wrap ((IntKind.i64.wrap ((IntKind.i64.wrap ((IntKind.i64.wrap ((IntKind.i64.wrap ((z474.b0.length : Int) + (z476.b0.length : Int))) + 0)) + 0)) + 0)) + (z491.b0.length : Int))) + (z493.b0.length : Int))) != 0) then true else false) then true else false) then true else false) (
    .leaf (false)) (
    .opt (g12_0 (V12_0.mk (x0.f1) (x0.f2) (false) (false) ([]) ([]) ([]) ([]))) fun z496 =>
     .opt (g15_0 (V15_0.mk (x0.f1) (z496.b2) (z496.b3) (z496.b4) (z496.b5) (z496.b6) (z496.b7))) fun z497 =>
      .opt (g11_1 (V11_1.mk (x0.f1) ((List.take (Int.toNat (mnI (x0.f3.length : Int) 100)) x0.f3)) (z497.b2) (z497.b3) (z497.b4) (z497.b5) (z497.b6) (z497.b7))) fun z498 =>
       .br (!(z498.b0 != 4)) (
        .opt (g14_0 (V14_0.mk (x0.f1) ((List.take (Int.toNat (mnI (x0.f3.length : Int) 100)) x0.f3)) (z497.b2) (z497.b3) (z498.b1) (z498.b2) (z497.b6) (z497.b7))) fun z499 =>
         .br (!(z499.b0 != 4)) (
          .opt (g13_0 (V13_0.mk (x0.f1) (x0.f2) (z497.b2) (z497.b3) (z498.b1) (z498.b2) (z499.b1) (z499.b2))) fun z500 =>
           .br (!(z500.b0 != 4)) (
            let z501 := g18_0 (V18_0.mk (x0.f4) (z497.b2) (z497.b3) (z500.b1) (z500.b2) (z499.b1) (z499.b2))
            .opt (g26_0 (V26_0.mk ((S3.mk z497.b2 z501.b1 z501.b2 z501.b3 z501.b4 z501.b5)) (x0.f1))) fun z502 =>
             .opt (g27_0 (V27_0.mk ((S3.mk z497.b2 z501.b1 z501.b2 z501.b3 z501.b4 z501.b5)) (x0.f1))) fun z503 =>
              .opt (g9_0 (V9_0.mk (x0.f1) (z497.b2) (z501.b1) (z501.b2) (z501.b3) (z501.b4) (z501.b5))) fun z504 =>
               .opt (g10_0 (V10_0.mk (x0.f1) (z504.b1) (z504.b2) (z504.b3) (z504.b4) (z504.b5) (z504.b6))) fun z505 =>
                let z506 := g28_0 (V28_0.mk ((S3.mk z505.b1 z505.b2 z505.b3 z505.b4 z505.b5 z505.b6)))
                .br (bif (bif (bif ((IntKind.i64.wrap ((IntKind.i64.wrap ((IntKind.i64.wrap ((IntKind.i64.wrap ((IntKind.i64.wrap ((IntKind.i64.wrap ((z496.b0.length : Int) + (z497.b0.length : Int))) + z501.b0)) + z502.b0)) + z503.b0)) + (z504.b0.length : Int))) + (z505.b0.length : Int))) != 0) then true else z496.b1) then true else z497.b1) then true else z506.b0) (
                 .leaf (false)) (
                 .opt (g8 ) fun z507 =>
                  .leaf (z507))) (
            let z508 := g28_0 (V28_0.mk ((S3.mk z497.b2 z497.b3 z500.b1 z500.b2 z499.b1 z499.b2)))
            .leaf (false))) (
          let z509 := g28_0 (V28_0.mk ((S3.mk z497.b2 z497.b3 z498.b1 z498.b2 z499.b1 z499.b2)))
          .leaf (false))) (
        let z510 := g28_0 (V28_0.mk ((S3.mk z497.b2 z497.b3 z498.b1 z498.b2 z497.b6 z497.b7)))
        .leaf (false)))) (
   .fail)
def g6 (x0 : S1) : Option (Bool) := (g6T x0).get?
noncomputable def T6 : TL := []
noncomputable def q6 : Ab.Spec := runQ0 e6 (lookT T6) Go.Proofs.Try.f6
theorem q6_ok : SpecOk Go.Proofs.Try.prog 6 q6 := (runQ0_ok (runR_ok (e := e6) follows (allTI ti_ok _ _ _ _ _) (callsOk_cons s12_ok (callsOk_cons s29_ok (callsOk_cons s33_ok (callsOk_cons s41_ok (callsOk_cons s42_ok (callsOk_cons s15_ok (callsOk_cons s11_ok (callsOk_cons s31_ok (callsOk_cons s32_ok (callsOk_cons s40_ok (callsOk_cons s14_ok (callsOk_cons s13_ok (callsOk_cons s34_ok (callsOk_cons s35_ok (callsOk_cons s18_ok (callsOk_cons s26_ok (callsOk_cons s27_ok (callsOk_cons s9_ok (callsOk_cons s30_ok (callsOk_cons s10_ok (callsOk_cons s28_ok (callsOk_cons s8_ok (callsOk_nil))))))))))))))))))))))) Go.Proofs.Try.func6 Go.Proofs.Try.call6) (fun c hc => by
  have hb : c = Go.Proofs.Try.f6.body.getD .skip := by rw [hc]; rfl
  subst hb
  exact tab_nil))
theorem g6_run (x0 : S1) : (q6 [.agg (Cod.enc 1 x0)] []).eval = (g6T x0).ev fun r => ((.c (.bool r) : AV), ([] : List Blk)) := by kernel_rfl
noncomputable def s6_0 : Ab.Spec := fun args h =>
  dN h <| dL args fun v0 a0 => dG v0 fun l0 => dE 1 l0 fun x0 => dN a0 <|
  .opt (g6 x0) fun r => .val (.c (.bool r), [])
theorem s6_0_ok : SpecOk Go.Proofs.Try.prog 6 s6_0 :=
  q6_ok.less fun args hs r h => by
    unfold s6_0 at h
    obtain ⟨rfl, hh1⟩ := dN_inv h
    obtain ⟨v0, a0, rfl, hh2⟩ := dL_inv hh1
    obtain ⟨l0, rfl, hh3⟩ := dG_inv hh2
    obtain ⟨x0, rfl, hh4⟩ := dE_inv hh3
    obtain ⟨rfl, hh5⟩ := dN_inv hh4
    rw [g6_run, Tr.ev_get?]
    change (Res.opt (g6 x0) _).eval = some r at hh5
    rw [eval_opt] at hh5
    obtain ⟨z, hz, hh6⟩ := Option.bind_eq_some_iff.mp hh5
    unfold g6 at hz
    rw [hz]; exact hh6
noncomputable def s6 : Ab.Spec := fun args h => s6_0 (coeA [[none, none, none, some 0, none]] args) h
theorem s6_ok : SpecOk Go.Proofs.Try.prog 6 s6 := s6_0_ok.pre [[none, none, none, some 0, none]]
end Ab25
