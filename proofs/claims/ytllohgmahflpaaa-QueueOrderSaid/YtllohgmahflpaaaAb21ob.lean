/- Seat 21o: the functions. -/
import Derived.Test.YtllohgmahflpaaaAb21oa
set_option maxRecDepth 100000
set_option maxHeartbeats 4000000
set_option linter.unusedVariables false
set_option linter.unusedSimpArgs false
namespace Ab21o
open Go Ab
/-- pontage/queue.New -/
noncomputable def L6 : SL := []
noncomputable def e6 : Env := ⟨ti, fun g => lookS g L6, 1000000, [], [], none⟩
noncomputable def s6 : Ab.Spec := runR e6 Go.Proofs.Try.f6
theorem s6_ok : SpecOk Go.Proofs.Try.prog 6 s6 := runR_ok  (e := e6) follows (allTI ti_ok _ _ _ _ _) (callsOk_nil) Go.Proofs.Try.func6 Go.Proofs.Try.call6
/-- (*pontage/queue.Queue).none -/
noncomputable def L19 : SL := []
noncomputable def e19 : Env := ⟨ti, fun g => lookS g L19, 1000000, [], [], none⟩
structure V19_0 where
  a0 : Nat
  a1 : List (List S0)
structure Y19_0 where

  deriving Inhabited
def hS19_0 (v : V19_0) : St := ⟨[.c (.ptr 0 0)], [.cells [.ch 1], .chn 0 v.a0 v.a1]⟩
def iS19_0 (s : St) : V19_0 := ⟨bCap (s.heap.getD 1 .dead), bChn 0 (s.heap.getD 1 .dead)⟩
def aS19_0 : List PA := [.c (.ptr 0 0)]
def bS19_0 : List PB := [.cells [.ch 1], .chn 0]
def g19_0T (v : V19_0) : Tr Y19_0 :=
  .leaf (⟨⟩)
def g19_0 (v : V19_0) : Y19_0 := (g19_0T v).get default
def k19_0 (v : V19_0) (r : Y19_0) : AV × List Blk := (.c (.bool false), [.cells [.ch 1], .chn 0 v.a0 v.a1])
noncomputable def q19_0 : Ab.Spec := runQh 2 e19 (lookT []) Go.Proofs.Try.f19
theorem q19_0_ok : SpecOk Go.Proofs.Try.prog 19 q19_0 := runQh_ok (runR_ok  (e := e19) follows (allTI ti_ok _ _ _ _ _) (callsOk_nil) Go.Proofs.Try.func19 Go.Proofs.Try.call19) (fun c hc => by
  have hb : c = Go.Proofs.Try.f19.body.getD .skip := by rw [hc]; rfl
  subst hb
  exact tab_nil)
theorem g19_0_run (v : V19_0) : (q19_0 (hS19_0 v).tmps (hS19_0 v).heap).eval = (g19_0T v).ev (k19_0 v) := by kernel_rfl
noncomputable def sp19_0 (v : V19_0) : Res (AV × List Blk) := let r := g19_0 v; .val (k19_0 v r)
theorem sp19_0_ok (v : V19_0) (r : AV × List Blk) (h : (sp19_0 v).eval = some r) : (q19_0 (hS19_0 v).tmps (hS19_0 v).heap).eval = some r := by
  rw [g19_0_run, Tr.ev_get (d := default) (by kernel_rfl)]
  exact h
noncomputable def s19 : Ab.Spec := shapeS aS19_0 bS19_0 (fun args h => sp19_0 (iS19_0 ⟨args, h⟩)) (runR e19 Go.Proofs.Try.f19)
theorem s19_ok : SpecOk Go.Proofs.Try.prog 19 s19 := shape_ok hS19_0 iS19_0 q19_0_ok ((runR_ok  (e := e19) follows (allTI ti_ok _ _ _ _ _) (callsOk_nil) Go.Proofs.Try.func19 Go.Proofs.Try.call19)) (fun s => by kernel_rfl) sp19_0_ok
/-- slices.Clone[[]byte,byte] -/
noncomputable def L20 : SL := []
noncomputable def e20 : Env := ⟨ti, fun g => lookS g L20, 1000000, [], [], none⟩
theorem s20_a : (runR e20 Go.Proofs.Try.f20 [.c (.rn true 0 [])] []).eval = some (.c .nils, []) := by kernel_rfl
theorem s20_b (L : List S0) : (runR e20 Go.Proofs.Try.f20 [.c (.rn false 0 L)] []).eval = bif L.isEmpty then some (.c .ez, []) else bif cloneB 0 1 L then some (.c (.slw 0), [.row 0 L]) else none := by
  cases L with
  | nil => kernel_rfl
  | cons x L => kernel_rfl
noncomputable def s20 : Ab.Spec := fun args h => cloneS 0 1 (coeA [[some 0]] args) h
theorem s20_ok : SpecOk Go.Proofs.Try.prog 20 s20 := (clone_ok (e := e20) (c := 0) (bytes := 1) (runR_ok  (e := e20) follows (allTI ti_ok _ _ _ _ _) (callsOk_nil) Go.Proofs.Try.func20 Go.Proofs.Try.call20) s20_a s20_b).pre [[some 0]]
/-- (*pontage/queue.Queue).Put -/
noncomputable def L9 : SL := [(19, .byHeap, s19), (20, .byCopy [], s20)]
noncomputable def e9 : Env := ⟨ti, fun g => lookS g L9, 1000000, [], [], none⟩
structure V9_0 where
  a0 : Int
  a1 : Nat
  a2 : List (List S0)
structure Y9_0 where
  b0 : Int
  b1 : List (List S0)
  deriving Inhabited
def hS9_0 (v : V9_0) : St := ⟨[.c (.ptr 0 0), .c (.sl 1 0 1 (some 0))], [.cells [.ch 2], .cells [.int .u8 v.a0], .chn 0 v.a1 v.a2]⟩
def iS9_0 (s : St) : V9_0 := ⟨iC ((bL (s.heap.getD 1 .dead)).getD 0 .top), bCap (s.heap.getD 2 .dead), bChn 0 (s.heap.getD 2 .dead)⟩
def aS9_0 : List PA := [.c (.ptr 0 0), .c (.sl 1 0 1 (some 0))]
def bS9_0 : List PB := [.cells [.ch 2], .cells [.int .u8], .chn 0]
def g9_0T (v : V9_0) : Tr Y9_0 :=
  .br ([(S0.mk v.a0)].isEmpty || cloneB 0 1 [(S0.mk v.a0)]) (
   .br (decide (v.a2.length < v.a1)) (
    .leaf (⟨0, (v.a2 ++ [[(S0.mk v.a0)]])⟩)) (
    .leaf (⟨71, v.a2⟩))) (
   .fail)
def g9_0 (v : V9_0) : Option Y9_0 := (g9_0T v).get?
def k9_0 (v : V9_0) (r : Y9_0) : AV × List Blk := (.c (.int .i64 r.b0), [.cells [.ch 2], .cells [.int .u8 v.a0], .chn 0 v.a1 r.b1])
noncomputable def q9_0 : Ab.Spec := runSh 3 e9 Go.Proofs.Try.f9
theorem q9_0_ok : SpecOk Go.Proofs.Try.prog 9 q9_0 := runSh_ok (runS_ok  (e := e9) follows (allTI ti_ok _ _ _ _ _) (callsOk_cons s19_ok (callsOk_cons s20_ok (callsOk_nil))) Go.Proofs.Try.func9 Go.Proofs.Try.call9)
theorem g9_0_run (v : V9_0) : (q9_0 (hS9_0 v).tmps (hS9_0 v).heap).eval = (g9_0T v).ev (k9_0 v) := by kernel_rfl
noncomputable def sp9_0 (v : V9_0) : Res (AV × List Blk) := .opt (g9_0 v) fun r => .val (k9_0 v r)
theorem sp9_0_ok (v : V9_0) (r : AV × List Blk) (h : (sp9_0 v).eval = some r) : (q9_0 (hS9_0 v).tmps (hS9_0 v).heap).eval = some r := by
  rw [g9_0_run, Tr.ev_get?]
  unfold sp9_0 at h
  rw [eval_opt] at h
  obtain ⟨z, hz, h⟩ := Option.bind_eq_some_iff.mp h
  unfold g9_0 at hz
  rw [hz]; exact h
structure V9_1 where
  a0 : List S0
  a1 : Nat
  a2 : List (List S0)
structure Y9_1 where
  b0 : Int
  b1 : List (List S0)
  deriving Inhabited
def hS9_1 (v : V9_1) : St := ⟨[.c (.ptr 0 0), .c (.slw 1)], [.cells [.ch 2], .row 0 v.a0, .chn 0 v.a1 v.a2]⟩
def iS9_1 (s : St) : V9_1 := ⟨bR 0 (s.heap.getD 1 .dead), bCap (s.heap.getD 2 .dead), bChn 0 (s.heap.getD 2 .dead)⟩
def aS9_1 : List PA := [.c (.ptr 0 0), .c (.slw 1)]
def bS9_1 : List PB := [.cells [.ch 2], .row 0, .chn 0]
def g9_1T (v : V9_1) : Tr Y9_1 :=
  .br (decide ((v.a0.length : Int) > 2048)) (
   .leaf (⟨2, v.a2⟩)) (
   .br (v.a0.isEmpty || cloneB 0 1 v.a0) (
    .br (decide (v.a2.length < v.a1)) (
     .leaf (⟨0, (v.a2 ++ [v.a0])⟩)) (
     .leaf (⟨71, v.a2⟩))) (
    .fail))
def g9_1 (v : V9_1) : Option Y9_1 := (g9_1T v).get?
def k9_1 (v : V9_1) (r : Y9_1) : AV × List Blk := (.c (.int .i64 r.b0), [.cells [.ch 2], .row 0 v.a0, .chn 0 v.a1 r.b1])
noncomputable def q9_1 : Ab.Spec := runSh 3 e9 Go.Proofs.Try.f9
theorem q9_1_ok : SpecOk Go.Proofs.Try.prog 9 q9_1 := runSh_ok (runS_ok  (e := e9) follows (allTI ti_ok _ _ _ _ _) (callsOk_cons s19_ok (callsOk_cons s20_ok (callsOk_nil))) Go.Proofs.Try.func9 Go.Proofs.Try.call9)
theorem g9_1_run (v : V9_1) : (q9_1 (hS9_1 v).tmps (hS9_1 v).heap).eval = (g9_1T v).ev (k9_1 v) := by kernel_rfl
noncomputable def sp9_1 (v : V9_1) : Res (AV × List Blk) := .opt (g9_1 v) fun r => .val (k9_1 v r)
theorem sp9_1_ok (v : V9_1) (r : AV × List Blk) (h : (sp9_1 v).eval = some r) : (q9_1 (hS9_1 v).tmps (hS9_1 v).heap).eval = some r := by
  rw [g9_1_run, Tr.ev_get?]
  unfold sp9_1 at h
  rw [eval_opt] at h
  obtain ⟨z, hz, h⟩ := Option.bind_eq_some_iff.mp h
  unfold g9_1 at hz
  rw [hz]; exact h
structure V9_2 where
  a0 : Nat
  a1 : List (List S0)
structure Y9_2 where
  b0 : Int
  b1 : List (List S0)
  deriving Inhabited
def hS9_2 (v : V9_2) : St := ⟨[.c (.ptr 0 0), .c (.ez)], [.cells [.ch 1], .chn 0 v.a0 v.a1]⟩
def iS9_2 (s : St) : V9_2 := ⟨bCap (s.heap.getD 1 .dead), bChn 0 (s.heap.getD 1 .dead)⟩
def aS9_2 : List PA := [.c (.ptr 0 0), .c (.ez)]
def bS9_2 : List PB := [.cells [.ch 1], .chn 0]
def g9_2T (v : V9_2) : Tr Y9_2 :=
  .br (([] : List S0).isEmpty || cloneB 0 1 ([] : List S0)) (
   .br (decide (v.a1.length < v.a0)) (
    .leaf (⟨0, (v.a1 ++ [([] : List S0)])⟩)) (
    .leaf (⟨71, v.a1⟩))) (
   .fail)
def g9_2 (v : V9_2) : Option Y9_2 := (g9_2T v).get?
def k9_2 (v : V9_2) (r : Y9_2) : AV × List Blk := (.c (.int .i64 r.b0), [.cells [.ch 1], .chn 0 v.a0 r.b1])
noncomputable def q9_2 : Ab.Spec := runSh 2 e9 Go.Proofs.Try.f9
theorem q9_2_ok : SpecOk Go.Proofs.Try.prog 9 q9_2 := runSh_ok (runS_ok  (e := e9) follows (allTI ti_ok _ _ _ _ _) (callsOk_cons s19_ok (callsOk_cons s20_ok (callsOk_nil))) Go.Proofs.Try.func9 Go.Proofs.Try.call9)
theorem g9_2_run (v : V9_2) : (q9_2 (hS9_2 v).tmps (hS9_2 v).heap).eval = (g9_2T v).ev (k9_2 v) := by kernel_rfl
noncomputable def sp9_2 (v : V9_2) : Res (AV × List Blk) := .opt (g9_2 v) fun r => .val (k9_2 v r)
theorem sp9_2_ok (v : V9_2) (r : AV × List Blk) (h : (sp9_2 v).eval = some r) : (q9_2 (hS9_2 v).tmps (hS9_2 v).heap).eval = some r := by
  rw [g9_2_run, Tr.ev_get?]
  unfold sp9_2 at h
  rw [eval_opt] at h
  obtain ⟨z, hz, h⟩ := Option.bind_eq_some_iff.mp h
  unfold g9_2 at hz
  rw [hz]; exact h
noncomputable def s9 : Ab.Spec := shapeS aS9_2 bS9_2 (fun args h => sp9_2 (iS9_2 ⟨args, h⟩)) (shapeS aS9_1 bS9_1 (fun args h => sp9_1 (iS9_1 ⟨args, h⟩)) (shapeS aS9_0 bS9_0 (fun args h => sp9_0 (iS9_0 ⟨args, h⟩)) (runS e9 Go.Proofs.Try.f9)))
theorem s9_ok : SpecOk Go.Proofs.Try.prog 9 s9 := shape_ok hS9_2 iS9_2 q9_2_ok (shape_ok hS9_1 iS9_1 q9_1_ok (shape_ok hS9_0 iS9_0 q9_0_ok ((runS_ok  (e := e9) follows (allTI ti_ok _ _ _ _ _) (callsOk_cons s19_ok (callsOk_cons s20_ok (callsOk_nil))) Go.Proofs.Try.func9 Go.Proofs.Try.call9)) (fun s => by kernel_rfl) sp9_0_ok) (fun s => by kernel_rfl) sp9_1_ok) (fun s => by kernel_rfl) sp9_2_ok
/-- (*pontage/queue.Queue).Take -/
noncomputable def L8 : SL := [(19, .byHeap, s19)]
noncomputable def e8 : Env := ⟨ti, fun g => lookS g L8, 1000000, [], [], none⟩
noncomputable def s8 : Ab.Spec := runS e8 Go.Proofs.Try.f8
theorem s8_ok : SpecOk Go.Proofs.Try.prog 8 s8 := (runS_ok  (e := e8) follows (allTI ti_ok _ _ _ _ _) (callsOk_cons s19_ok (callsOk_nil)) Go.Proofs.Try.func8 Go.Proofs.Try.call8)
/-- (*pontage/queue.Queue).Len -/
noncomputable def L10 : SL := [(19, .byHeap, s19)]
noncomputable def e10 : Env := ⟨ti, fun g => lookS g L10, 1000000, [], [], none⟩
structure V10_0 where
  a0 : Nat
  a1 : List (List S0)
structure Y10_0 where
  b0 : Int
  deriving Inhabited
def hS10_0 (v : V10_0) : St := ⟨[.c (.ptr 0 0)], [.cells [.ch 1], .chn 0 v.a0 v.a1]⟩
def iS10_0 (s : St) : V10_0 := ⟨bCap (s.heap.getD 1 .dead), bChn 0 (s.heap.getD 1 .dead)⟩
def aS10_0 : List PA := [.c (.ptr 0 0)]
def bS10_0 : List PB := [.cells [.ch 1], .chn 0]
def g10_0T (v : V10_0) : Tr Y10_0 :=
  .leaf (⟨(v.a1.length : Int)⟩)
def g10_0 (v : V10_0) : Y10_0 := (g10_0T v).get default
def k10_0 (v : V10_0) (r : Y10_0) : AV × List Blk := (.c (.int .i64 r.b0), [.cells [.ch 1], .chn 0 v.a0 v.a1])
noncomputable def q10_0 : Ab.Spec := runQh 2 e10 (lookT []) Go.Proofs.Try.f10
theorem q10_0_ok : SpecOk Go.Proofs.Try.prog 10 q10_0 := runQh_ok (runR_ok  (e := e10) follows (allTI ti_ok _ _ _ _ _) (callsOk_cons s19_ok (callsOk_nil)) Go.Proofs.Try.func10 Go.Proofs.Try.call10) (fun c hc => by
  have hb : c = Go.Proofs.Try.f10.body.getD .skip := by rw [hc]; rfl
  subst hb
  exact tab_nil)
theorem g10_0_run (v : V10_0) : (q10_0 (hS10_0 v).tmps (hS10_0 v).heap).eval = (g10_0T v).ev (k10_0 v) := by kernel_rfl
noncomputable def sp10_0 (v : V10_0) : Res (AV × List Blk) := let r := g10_0 v; .val (k10_0 v r)
theorem sp10_0_ok (v : V10_0) (r : AV × List Blk) (h : (sp10_0 v).eval = some r) : (q10_0 (hS10_0 v).tmps (hS10_0 v).heap).eval = some r := by
  rw [g10_0_run, Tr.ev_get (d := default) (by kernel_rfl)]
  exact h
noncomputable def s10 : Ab.Spec := shapeS aS10_0 bS10_0 (fun args h => sp10_0 (iS10_0 ⟨args, h⟩)) (runR e10 Go.Proofs.Try.f10)
theorem s10_ok : SpecOk Go.Proofs.Try.prog 10 s10 := shape_ok hS10_0 iS10_0 q10_0_ok ((runR_ok  (e := e10) follows (allTI ti_ok _ _ _ _ _) (callsOk_cons s19_ok (callsOk_nil)) Go.Proofs.Try.func10 Go.Proofs.Try.call10)) (fun s => by kernel_rfl) sp10_0_ok
/-- (*pontage/queue.Queue).Room -/
noncomputable def L11 : SL := [(19, .byHeap, s19)]
noncomputable def e11 : Env := ⟨ti, fun g => lookS g L11, 1000000, [], [], none⟩
structure V11_0 where
  a0 : Nat
  a1 : List (List S0)
structure Y11_0 where
  b0 : Int
  deriving Inhabited
def hS11_0 (v : V11_0) : St := ⟨[.c (.ptr 0 0)], [.cells [.ch 1], .chn 0 v.a0 v.a1]⟩
def iS11_0 (s : St) : V11_0 := ⟨bCap (s.heap.getD 1 .dead), bChn 0 (s.heap.getD 1 .dead)⟩
def aS11_0 : List PA := [.c (.ptr 0 0)]
def bS11_0 : List PB := [.cells [.ch 1], .chn 0]
def g11_0T (v : V11_0) : Tr Y11_0 :=
  .leaf (⟨(IntKind.i64.wrap ((v.a0 : Int) - (v.a1.length : Int)))⟩)
def g11_0 (v : V11_0) : Y11_0 := (g11_0T v).get default
def k11_0 (v : V11_0) (r : Y11_0) : AV × List Blk := (.c (.int .i64 r.b0), [.cells [.ch 1], .chn 0 v.a0 v.a1])
noncomputable def q11_0 : Ab.Spec := runQh 2 e11 (lookT []) Go.Proofs.Try.f11
theorem q11_0_ok : SpecOk Go.Proofs.Try.prog 11 q11_0 := runQh_ok (runR_ok  (e := e11) follows (allTI ti_ok _ _ _ _ _) (callsOk_cons s19_ok (callsOk_nil)) Go.Proofs.Try.func11 Go.Proofs.Try.call11) (fun c hc => by
  have hb : c = Go.Proofs.Try.f11.body.getD .skip := by rw [hc]; rfl
  subst hb
  exact tab_nil)
theorem g11_0_run (v : V11_0) : (q11_0 (hS11_0 v).tmps (hS11_0 v).heap).eval = (g11_0T v).ev (k11_0 v) := by kernel_rfl
noncomputable def sp11_0 (v : V11_0) : Res (AV × List Blk) := let r := g11_0 v; .val (k11_0 v r)
theorem sp11_0_ok (v : V11_0) (r : AV × List Blk) (h : (sp11_0 v).eval = some r) : (q11_0 (hS11_0 v).tmps (hS11_0 v).heap).eval = some r := by
  rw [g11_0_run, Tr.ev_get (d := default) (by kernel_rfl)]
  exact h
noncomputable def s11 : Ab.Spec := shapeS aS11_0 bS11_0 (fun args h => sp11_0 (iS11_0 ⟨args, h⟩)) (runR e11 Go.Proofs.Try.f11)
theorem s11_ok : SpecOk Go.Proofs.Try.prog 11 s11 := shape_ok hS11_0 iS11_0 q11_0_ok ((runR_ok  (e := e11) follows (allTI ti_ok _ _ _ _ _) (callsOk_cons s19_ok (callsOk_nil)) Go.Proofs.Try.func11 Go.Proofs.Try.call11)) (fun s => by kernel_rfl) sp11_0_ok
/-- pontage/pontagelaw21.awake -/
noncomputable def L7 : SL := [(6, .byHeap, s6), (9, .byHeap, s9), (19, .byHeap, s19), (20, .byCopy [], s20), (8, .byHeap, s8), (10, .byHeap, s10), (11, .byHeap, s11)]
noncomputable def e7 : Env := ⟨ti, fun g => lookS g L7, 1000000, [], [], none⟩
def g7T  : Tr (Bool) :=
  .opt (g9_0 (V9_0.mk (97) (2) ([]))) fun z3 =>
   .opt (g9_0 (V9_0.mk (98) (2) (z3.b1))) fun z4 =>
    .opt (g9_0 (V9_0.mk (99) (2) (z4.b1))) fun z5 =>
     .br (List.isEmpty z5.b1) (
      .br (bif (bif (bif (bif (z3.b0 == 0) then (z4.b0 == 0) else false) then (z5.b0 == 71) else false) then ((ByteArray.mk #[]) == ⟨#[97]⟩) else false) then false else false) (
       .opt (g9_0 (V9_0.mk (99) (2) (z5.b1))) fun z10 =>
        .br (z10.b0 == 0) (
         let z12 := g10_0 (V10_0.mk (2) (z10.b1))
         .br (z12.b0 == 2) (
          let z14 := g11_0 (V11_0.mk (2) (z10.b1))
          .leaf ((z14.b0 == 0))) (
          .leaf (false))) (
         .leaf (false))) (
       .leaf (false))) (
      .opt (List.head? z5.b1) fun y9 =>
       .br (bif (bif (bif (bif (z3.b0 == 0) then (z4.b0 == 0) else false) then (z5.b0 == 71) else false) then ((strO 0 y9) == ⟨#[97]⟩) else false) then true else false) (
        .opt (g9_0 (V9_0.mk (99) (2) ((List.tail z5.b1)))) fun z15 =>
         .br (z15.b0 == 0) (
          let z16 := g10_0 (V10_0.mk (2) (z15.b1))
          .br (z16.b0 == 2) (
           let z17 := g11_0 (V11_0.mk (2) (z15.b1))
           .leaf ((z17.b0 == 0))) (
           .leaf (false))) (
          .leaf (false))) (
        .leaf (false)))
def g7  : Option (Bool) := (g7T ).get?
noncomputable def T7 : TL := []
noncomputable def q7 : Ab.Spec := runQ0 e7 (lookT T7) Go.Proofs.Try.f7
theorem q7_ok : SpecOk Go.Proofs.Try.prog 7 q7 := (runQ0_ok (runR_ok  (e := e7) follows (allTI ti_ok _ _ _ _ _) (callsOk_cons s6_ok (callsOk_cons s9_ok (callsOk_cons s19_ok (callsOk_cons s20_ok (callsOk_cons s8_ok (callsOk_cons s10_ok (callsOk_cons s11_ok (callsOk_nil)))))))) Go.Proofs.Try.func7 Go.Proofs.Try.call7) (fun c hc => by
  have hb : c = Go.Proofs.Try.f7.body.getD .skip := by rw [hc]; rfl
  subst hb
  exact tab_nil))
theorem g7_run  : (q7 [] []).eval = (g7T ).ev fun r => ((.c (.bool r) : AV), ([] : List Blk)) := by kernel_rfl
noncomputable def s7 : Ab.Spec := fun args h =>
  dN h <| dN args <|
  .opt (g7) fun r => .val (.c (.bool r), [])
theorem s7_ok : SpecOk Go.Proofs.Try.prog 7 s7 :=
  q7_ok.less fun args hs r h => by
    unfold s7 at h
    obtain ⟨rfl, hh1⟩ := dN_inv h
    obtain ⟨rfl, hh2⟩ := dN_inv hh1
    rw [g7_run, Tr.ev_get?]
    change (Res.opt (g7) _).eval = some r at hh2
    rw [eval_opt] at hh2
    obtain ⟨z, hz, hh3⟩ := Option.bind_eq_some_iff.mp hh2
    unfold g7 at hz
    rw [hz]; exact hh3
/-- (*pontage/queue.Queue).All -/
noncomputable def L12 : SL := [(10, .byHeap, s10), (19, .byHeap, s19), (8, .byHeap, s8), (9, .byHeap, s9), (20, .byCopy [], s20)]
noncomputable def e12 : Env := ⟨ti, fun g => lookS g L12, 1000000, [.drop 1, .drop 4, .drop 5, .drop 6, .drop 9, .drop 10, .drop 11, .drop 12, .drop 13, .drop 14, .drop 15, .drop 16, .drop 17, .drop 18, .drop 19, .drop 20, .drop 21, .drop 22, .drop 23, .drop 24, .drop 25, .bag 3 2 0], [5000023], some [2]⟩
structure W12_0n2 where
  a0 : Int
  a1 : Int
  a2 : Nat
  a3 : List (List S0)
  a4 : List (List S0)
def hd12_0n2 (v : W12_0n2) : St := ⟨[.c (.ptr 0 0), .top, .c (.nils), .c (.jk 2 .whole), .top, .top, .top, .c (.int .i64 v.a0), .c (.int .i64 v.a1), .top, .top, .top, .top, .top, .top, .top, .top, .top, .top, .top, .top, .top, .top, .top, .top, .top], [.cells [.ch 1], .chn 0 v.a2 v.a3, .bg 2 0 v.a4 none]⟩
def gR12_0n2 (v : W12_0n2) : Tr (W12_0n2 ⊕ (Bool × W12_0n2)) :=
  .br (decide (v.a1 < v.a0)) (
   .br (List.isEmpty v.a3) (
    .leaf (.inr (false, v))) (
    .opt (List.head? v.a3) fun y34 =>
     .br (Nat.ble (v.a4.length + 1) 140737488355328 && Nat.ble ((v.a4.length + 1) * 24) 140737488355328) (
      .opt (g9_1 (V9_1.mk (y34) (v.a2) ((List.tail v.a3)))) fun z37 =>
       .leaf (.inl ({ v with a1 := (IntKind.i64.wrap (v.a1 + 1)), a3 := z37.b1, a4 := (v.a4 ++ [y34]) }))) (
      .fail))) (
   .leaf (.inr (false, v)))
noncomputable def lb12_0n2 : Code := match findB 0 (Go.Proofs.Try.f12.body.getD .skip) with | [.loop b] => b | _ => .skip
def pa12_0n2 : List PA := [.c (.ptr 0 0), .any, .c (.nils), .c (.nils), .any, .any, .any, .c (.int .i64), .c (.int .i64), .any, .any, .any, .any, .any, .any, .any, .any, .any, .any, .any, .any, .any, .any, .any, .any, .any]
def pb12_0n2 : List PB := [.cells [.ch 1], .chn 0]
def ini12_0n2 (s : St) : W12_0n2 := ⟨iC (aC (s.tmps.getD 7 .top)), iC (aC (s.tmps.getD 8 .top)), bCap (s.heap.getD 1 .dead), bChn 0 (s.heap.getD 1 .dead), []⟩
noncomputable def F12_0n2 : St → Res (Ex × St) := loopF pa12_0n2 pb12_0n2 1000000 hd12_0n2 gR12_0n2 ini12_0n2 false
theorem F12_0n2_ok (s : St) (r : Ex × St) (h : (F12_0n2 s).eval = some r) : (codeR e12 2 (.block 0 (.loop lb12_0n2)) s).eval = some r :=
  blk_ok (e := e12) (T := lookT []) (fun s v => by kernel_rfl) (fun s => by kernel_rfl) (tab_nil) s r h
structure V12_0 where
  a0 : Nat
  a1 : List (List S0)
structure Y12_0 where
  b0 : Nat
  b1 : List (List S0)
  b2 : List (List S0)
  deriving Inhabited
def hS12_0 (v : V12_0) : St := ⟨[.c (.ptr 0 0)], [.cells [.ch 1], .chn 0 v.a0 v.a1]⟩
def iS12_0 (s : St) : V12_0 := ⟨bCap (s.heap.getD 1 .dead), bChn 0 (s.heap.getD 1 .dead)⟩
def aS12_0 : List PA := [.c (.ptr 0 0)]
def bS12_0 : List PB := [.cells [.ch 1], .chn 0]
def g12_0T (v : V12_0) : Tr Y12_0 :=
  let z32 := g10_0 (V10_0.mk (v.a0) (v.a1))
  .opt (iter gR12_0n2 1000000 (W12_0n2.mk (z32.b0) (0) (v.a0) (v.a1) ([]))) fun r38 =>
   .br r38.1 (
    .fail) (
    .leaf (⟨r38.2.a2, r38.2.a3, r38.2.a4⟩))
def g12_0 (v : V12_0) : Option Y12_0 := (g12_0T v).get?
def k12_0 (v : V12_0) (r : Y12_0) : AV × List Blk := (.c (.jk 2 .whole), [.cells [.ch 1], .chn 0 r.b0 r.b1, .bg 2 0 r.b2 none])
noncomputable def q12_0 : Ab.Spec := (gcR (frcR [[some 2]] (runQh 2 e12 (lookT [(0, F12_0n2)]) Go.Proofs.Try.f12)))
theorem q12_0_ok : SpecOk Go.Proofs.Try.prog 12 q12_0 := ((runQh_ok (runR_ok  (e := e12) follows (allTI ti_ok _ _ _ _ _) (callsOk_cons s10_ok (callsOk_cons s19_ok (callsOk_cons s8_ok (callsOk_cons s9_ok (callsOk_cons s20_ok (callsOk_nil)))))) Go.Proofs.Try.func12 Go.Proofs.Try.call12) (fun c hc => by
  have hb : c = Go.Proofs.Try.f12.body.getD .skip := by rw [hc]; rfl
  subst hb
  exact tab_cons (by kernel_rfl) F12_0n2_ok (tab_nil))).forced [[some 2]]).gc
theorem g12_0_run (v : V12_0) : (q12_0 (hS12_0 v).tmps (hS12_0 v).heap).eval = (g12_0T v).ev (k12_0 v) := by kernel_rfl
noncomputable def sp12_0 (v : V12_0) : Res (AV × List Blk) := .opt (g12_0 v) fun r => .val (k12_0 v r)
theorem sp12_0_ok (v : V12_0) (r : AV × List Blk) (h : (sp12_0 v).eval = some r) : (q12_0 (hS12_0 v).tmps (hS12_0 v).heap).eval = some r := by
  rw [g12_0_run, Tr.ev_get?]
  unfold sp12_0 at h
  rw [eval_opt] at h
  obtain ⟨z, hz, h⟩ := Option.bind_eq_some_iff.mp h
  unfold g12_0 at hz
  rw [hz]; exact h
noncomputable def s12 : Ab.Spec := shapeS aS12_0 bS12_0 (fun args h => sp12_0 (iS12_0 ⟨args, h⟩)) ((gcR (frcR [[some 2]] (runR e12 Go.Proofs.Try.f12))))
theorem s12_ok : SpecOk Go.Proofs.Try.prog 12 s12 := shape_ok hS12_0 iS12_0 q12_0_ok ((((runR_ok  (e := e12) follows (allTI ti_ok _ _ _ _ _) (callsOk_cons s10_ok (callsOk_cons s19_ok (callsOk_cons s8_ok (callsOk_cons s9_ok (callsOk_cons s20_ok (callsOk_nil)))))) Go.Proofs.Try.func12 Go.Proofs.Try.call12)).forced [[some 2]]).gc) (fun s => by kernel_rfl) sp12_0_ok
/-- pontage/pontageref21.Same -/
noncomputable def L13 : SL := []
noncomputable def e13 : Env := ⟨ti, fun g => lookS g L13, 1000000, [.drop 2, .drop 3, .drop 6, .drop 7, .drop 8, .drop 9, .drop 10, .drop 11, .drop 12, .drop 13, .drop 14, .drop 15, .drop 16, .drop 17, .drop 18, .drop 19, .drop 20, .drop 21, .drop 22, .drop 23, .drop 24, .drop 25, .drop 26, .drop 27], [], some [4]⟩
structure W13_0 where
  a0 : List S2
  a1 : List S2
  a2 : Bool
  a3 : Int
def hd13_0 (v : W13_0) : St := ⟨[.c (.rs 2 v.a0), .c (.rs 2 v.a1), .top, .top, .c (.bool v.a2), .c (.int .i64 v.a3), .top, .top, .top, .top, .top, .top, .top, .top, .top, .top, .top, .top, .top, .top, .top, .top, .top, .top, .top, .top, .top, .top], []⟩
structure U13_0 where
  a0 : Bool
def hu13_0 (u : U13_0) : St := ⟨[.top, .top, .top, .top, .c (.bool u.a0), .top, .top, .top, .top, .top, .top, .top, .top, .top, .top, .top, .top, .top, .top, .top, .top, .top, .top, .top, .top, .top, .top, .top], []⟩
def gR13_0 (v : W13_0) : Tr (W13_0 ⊕ (W13_0 ⊕ U13_0)) :=
  .br (decide (v.a3 < (v.a0.length : Int))) (
   .br (decide (0 ≤ v.a3)) (
    .opt (v.a0[Int.toNat v.a3]?) fun y18 =>
     .br (decide (0 ≤ v.a3)) (
      .opt (v.a1[Int.toNat v.a3]?) fun y19 =>
       .br (!((strO 0 y18.f0) == (strO 0 y19.f0))) (
        .leaf (.inr (.inr ⟨false⟩))) (
        .leaf (.inl ({ v with a3 := (IntKind.i64.wrap (v.a3 + 1)) })))) (
      .fail)) (
    .fail)) (
   .leaf (.inr (.inl (v))))
noncomputable def lb13_0 : Code := match findB 0 (Go.Proofs.Try.f13.body.getD .skip) with | [.loop b] => b | _ => .skip
def pa13_0 : List PA := [.c (.rs 2), .c (.rs 2), .any, .any, .c (.bool), .c (.int .i64), .any, .any, .any, .any, .any, .any, .any, .any, .any, .any, .any, .any, .any, .any, .any, .any, .any, .any, .any, .any, .any, .any]
def pb13_0 : List PB := []
def ini13_0 (s : St) : W13_0 := ⟨rC 2 (aC (s.tmps.getD 0 .top)), rC 2 (aC (s.tmps.getD 1 .top)), bC (aC (s.tmps.getD 4 .top)), iC (aC (s.tmps.getD 5 .top))⟩
noncomputable def F13_0 : St → Res (Ex × St) := loopF2 pa13_0 pb13_0 1000000 hd13_0 hu13_0 gR13_0 ini13_0
theorem F13_0_ok (s : St) (r : Ex × St) (h : (F13_0 s).eval = some r) : (codeR e13 0 (.block 0 (.loop lb13_0)) s).eval = some r :=
  blk_ok2 (e := e13) (T := lookT []) (fun s v => by kernel_rfl) (fun s => by kernel_rfl) (tab_nil) s r h
def g13T (x0 : List S2) (x1 : List S2) : Tr (Bool) :=
  .br ((x0.length : Int) != (x1.length : Int)) (
   .leaf (false)) (
   .opt (iter2 gR13_0 1000000 (W13_0.mk (x0) (x1) (false) (0))) fun r20 =>
    .br r20.isRight (
     .opt (r20.getRight?) fun u21 =>
      .leaf (u21.a0)) (
     .opt (r20.getLeft?) fun w22 =>
      .leaf (true)))
def g13 (x0 : List S2) (x1 : List S2) : Option (Bool) := (g13T x0 x1).get?
noncomputable def T13 : TL := [(0, F13_0)]
noncomputable def q13 : Ab.Spec := runQ0 e13 (lookT T13) Go.Proofs.Try.f13
theorem q13_ok : SpecOk Go.Proofs.Try.prog 13 q13 := (runQ0_ok (runR_ok  (e := e13) follows (allTI ti_ok _ _ _ _ _) (callsOk_nil) Go.Proofs.Try.func13 Go.Proofs.Try.call13) (fun c hc => by
  have hb : c = Go.Proofs.Try.f13.body.getD .skip := by rw [hc]; rfl
  subst hb
  exact tab_cons (by kernel_rfl) F13_0_ok (tab_nil)))
theorem g13_run (x0 : List S2) (x1 : List S2) : (q13 [.c (.rs 2 x0), .c (.rs 2 x1)] []).eval = (g13T x0 x1).ev fun r => ((.c (.bool r) : AV), ([] : List Blk)) := by kernel_rfl
noncomputable def s13_0 : Ab.Spec := fun args h =>
  dN h <| dL args fun v0 a0 => dC v0 fun c0 => dR0 2 c0 fun x0 => dL a0 fun v1 a1 => dC v1 fun c1 => dR0 2 c1 fun x1 => dN a1 <|
  .opt (g13 x0 x1) fun r => .val (.c (.bool r), [])
theorem s13_0_ok : SpecOk Go.Proofs.Try.prog 13 s13_0 :=
  q13_ok.less fun args hs r h => by
    unfold s13_0 at h
    obtain ⟨rfl, hh1⟩ := dN_inv h
    obtain ⟨v0, a0, rfl, hh2⟩ := dL_inv hh1
    obtain ⟨c0, rfl, hh3⟩ := dC_inv hh2
    obtain ⟨x0, rfl, hh4⟩ := dR0_inv hh3
    obtain ⟨v1, a1, rfl, hh5⟩ := dL_inv hh4
    obtain ⟨c1, rfl, hh6⟩ := dC_inv hh5
    obtain ⟨x1, rfl, hh7⟩ := dR0_inv hh6
    obtain ⟨rfl, hh8⟩ := dN_inv hh7
    rw [g13_run, Tr.ev_get?]
    change (Res.opt (g13 x0 x1) _).eval = some r at hh8
    rw [eval_opt] at hh8
    obtain ⟨z, hz, hh9⟩ := Option.bind_eq_some_iff.mp hh8
    unfold g13 at hz
    rw [hz]; exact hh9
noncomputable def s13 : Ab.Spec := fun args h => s13_0 (coeA [[some 2], [some 2]] args) h
theorem s13_ok : SpecOk Go.Proofs.Try.prog 13 s13 := s13_0_ok.pre [[some 2], [some 2]]
/-- pontage/pontagelaw21.QueueOrder -/
noncomputable def L3 : SL := [(6, .byHeap, s6), (7, .byVal, s7), (8, .byHeap, s8), (19, .byHeap, s19), (9, .byHeap, s9), (20, .byCopy [], s20), (10, .byHeap, s10), (11, .byHeap, s11), (12, .byHeap, s12), (13, .byVal, s13)]
noncomputable def e3 : Env := ⟨ti, fun g => lookS g L3, 1000000, [.drop 0, .drop 2, .drop 3, .drop 7, .drop 10, .drop 11, .drop 13, .drop 18, .drop 19, .drop 20, .drop 21, .drop 22, .drop 23, .drop 24, .drop 25, .drop 26, .drop 27, .drop 28, .drop 29, .drop 30, .drop 31, .drop 32, .drop 33, .drop 34, .drop 35, .drop 36, .drop 37, .drop 38, .drop 39, .drop 40, .drop 41, .drop 42, .drop 43, .drop 44, .drop 45, .drop 46, .drop 47, .drop 48, .drop 49, .drop 50, .drop 51, .drop 52, .drop 53, .drop 54, .drop 55, .drop 56, .drop 57, .drop 58, .drop 59, .drop 60, .drop 61, .drop 62, .drop 63, .drop 64, .drop 65, .drop 66, .drop 67, .drop 68, .drop 69, .drop 70, .drop 71, .drop 72, .drop 73, .drop 74, .drop 75, .drop 76, .drop 77, .drop 78, .drop 79, .drop 80, .drop 81, .drop 82, .drop 83, .drop 84, .drop 85, .drop 86, .drop 87, .drop 88, .drop 89, .drop 90, .drop 91, .drop 92, .drop 93, .drop 94, .drop 95, .drop 96, .drop 97, .drop 98, .drop 99, .drop 100, .drop 101, .drop 102, .drop 103, .drop 104, .drop 105, .drop 106, .drop 107, .drop 108, .drop 109, .drop 110, .drop 111, .drop 112, .drop 113, .drop 114, .drop 115, .drop 116, .drop 117, .drop 118, .drop 119, .drop 120, .drop 121, .drop 122, .drop 123, .drop 124, .drop 125, .drop 126, .drop 127, .drop 128, .drop 129, .drop 130, .drop 131, .drop 132, .drop 133, .drop 134, .drop 135, .drop 136, .drop 137, .drop 138, .drop 139, .drop 140, .drop 141, .drop 142, .drop 143, .drop 144, .drop 145, .drop 146, .drop 147, .drop 148, .drop 149, .drop 150, .drop 151, .drop 152, .drop 153, .drop 154, .drop 155, .drop 156, .drop 157, .drop 158, .drop 159, .drop 160, .drop 161, .tmp 8 2], [1000073, 104, 4000000], some [4]⟩
structure W3_6 where
  a0 : List S1
  a1 : Bool
  a2 : Int
  a3 : Int
  a4 : Int
  a5 : Int
  a6 : List S2
  a7 : List (List S0)
  a8 : Nat
  a9 : List (List S0)
def hd3_6 (v : W3_6) : St := ⟨[.top, .c (.rs 1 v.a0), .top, .top, .c (.bool v.a1), .c (.int .i64 v.a2), .c (.ptr 0 0), .top, .c (.slw 1), .c (.int .i64 v.a3), .top, .top, .top, .top, .top, .c (.jk 2 .whole), .c (.int .i64 v.a4), .c (.int .i64 v.a5), .top, .top, .top, .top, .top, .top, .top, .top, .top, .top, .top, .top, .top, .top, .top, .top, .top, .top, .top, .top, .top, .top, .top, .top, .top, .top, .top, .top, .top, .top, .top, .top, .top, .top, .top, .top, .top, .top, .top, .top, .top, .top, .top, .top, .top, .top, .top, .top, .top, .top, .top, .top, .top, .top, .top, .top, .top, .top, .top, .top, .top, .top, .top, .top, .top, .top, .top, .top, .top, .top, .top, .top, .top, .top, .top, .top, .top, .top, .top, .top, .top, .top, .top, .top, .top, .top, .top, .top, .top, .top, .top, .top, .top, .top, .top, .top, .top, .top, .top, .top, .top, .top, .top, .top, .top, .top, .top, .top, .top, .top, .top, .top, .top, .top, .top, .top, .top, .top, .top, .top, .top, .top, .top, .top, .top, .top, .top, .top, .top, .top, .top, .top, .top, .top, .top, .top, .top, .top, .top, .top, .top, .top, .top, .top], [.cells [.ch 3], .row 2 v.a6, .bg 2 0 v.a7 none, .chn 0 v.a8 v.a9]⟩
def gR3_6 (v : W3_6) : Tr (W3_6 ⊕ (Bool × W3_6)) :=
  .br (decide (0 ≤ v.a4) && decide (v.a4 < (v.a7.length : Int))) (
   .opt (v.a7[(Int.toNat v.a4)]?) fun y75 =>
    .opt (v.a7[(Int.toNat v.a4)]?) fun y76 =>
     .br (decide (v.a5 < (y76.length : Int))) (
      .br (decide (0 ≤ v.a4) && decide (v.a4 < (v.a7.length : Int))) (
       .opt (v.a7[(Int.toNat v.a4)]?) fun y77 =>
        .opt (v.a7[(Int.toNat v.a4)]?) fun y78 =>
         .br (decide (0 ≤ v.a5) && decide (v.a5 < (y78.length : Int))) (
          .opt (v.a7[(Int.toNat v.a4)]?) fun y79 =>
           .opt (y79[(Int.toNat v.a5)]?) fun y80 =>
            .opt (v.a7[(Int.toNat v.a4)]?) fun y81 =>
             .br (decide (0 ≤ v.a5) && decide (v.a5 < (y81.length : Int))) (
              .opt (v.a7[(Int.toNat v.a4)]?) fun y82 =>
               .opt (y82[(Int.toNat v.a5)]?) fun y83 =>
                .leaf (.inl ({ v with a5 := (IntKind.i64.wrap (v.a5 + 1)), a7 := (List.set v.a7 (Int.toNat v.a4) (List.set y82 (Int.toNat v.a5) (S0.mk (xorI .u8 y80.f0 255)))) }))) (
              .fail)) (
          .fail)) (
       .fail)) (
      .leaf (.inr (false, v)))) (
   .fail)
structure W3_6v1 where
  a0 : List S1
  a1 : Bool
  a2 : Int
  a3 : Int
  a4 : Int
  a5 : Int
  a6 : Int
  a7 : List S2
  a8 : List (List S0)
  a9 : Nat
  a10 : List (List S0)
def hd3_6v1 (v : W3_6v1) : St := ⟨[.top, .c (.rs 1 v.a0), .top, .top, .c (.bool v.a1), .c (.int .i64 v.a2), .c (.ptr 0 0), .top, .c (.slw 1), .c (.int .i64 v.a3), .top, .top, .c (.ez), .top, .c (.int .i64 v.a4), .c (.jk 2 .whole), .c (.int .i64 v.a5), .c (.int .i64 v.a6), .top, .top, .top, .top, .top, .top, .top, .top, .top, .top, .top, .top, .top, .top, .top, .top, .top, .top, .top, .top, .top, .top, .top, .top, .top, .top, .top, .top, .top, .top, .top, .top, .top, .top, .top, .top, .top, .top, .top, .top, .top, .top, .top, .top, .top, .top, .top, .top, .top, .top, .top, .top, .top, .top, .top, .top, .top, .top, .top, .top, .top, .top, .top, .top, .top, .top, .top, .top, .top, .top, .top, .top, .top, .top, .top, .top, .top, .top, .top, .top, .top, .top, .top, .top, .top, .top, .top, .top, .top, .top, .top, .top, .top, .top, .top, .top, .top, .top, .top, .top, .top, .top, .top, .top, .top, .top, .top, .top, .top, .top, .top, .top, .top, .top, .top, .top, .top, .top, .top, .top, .top, .top, .top, .top, .top, .top, .top, .top, .top, .top, .top, .top, .top, .top, .top, .top, .top, .top, .top, .top, .top, .top, .top, .top], [.cells [.ch 3], .row 2 v.a7, .bg 2 0 v.a8 none, .chn 0 v.a9 v.a10]⟩
def gR3_6v1 (v : W3_6v1) : Tr (W3_6v1 ⊕ (Bool × W3_6v1)) :=
  .br (decide (0 ≤ v.a5) && decide (v.a5 < (v.a8.length : Int))) (
   .opt (v.a8[(Int.toNat v.a5)]?) fun y100 =>
    .opt (v.a8[(Int.toNat v.a5)]?) fun y101 =>
     .br (decide (v.a6 < (y101.length : Int))) (
      .br (decide (0 ≤ v.a5) && decide (v.a5 < (v.a8.length : Int))) (
       .opt (v.a8[(Int.toNat v.a5)]?) fun y102 =>
        .opt (v.a8[(Int.toNat v.a5)]?) fun y103 =>
         .br (decide (0 ≤ v.a6) && decide (v.a6 < (y103.length : Int))) (
          .opt (v.a8[(Int.toNat v.a5)]?) fun y104 =>
           .opt (y104[(Int.toNat v.a6)]?) fun y105 =>
            .opt (v.a8[(Int.toNat v.a5)]?) fun y106 =>
             .br (decide (0 ≤ v.a6) && decide (v.a6 < (y106.length : Int))) (
              .opt (v.a8[(Int.toNat v.a5)]?) fun y107 =>
               .opt (y107[(Int.toNat v.a6)]?) fun y108 =>
                .leaf (.inl ({ v with a6 := (IntKind.i64.wrap (v.a6 + 1)), a8 := (List.set v.a8 (Int.toNat v.a5) (List.set y107 (Int.toNat v.a6) (S0.mk (xorI .u8 y105.f0 255)))) }))) (
              .fail)) (
          .fail)) (
       .fail)) (
      .leaf (.inr (false, v)))) (
   .fail)
structure W3_6v2 where
  a0 : List S1
  a1 : Bool
  a2 : Int
  a3 : Int
  a4 : Int
  a5 : Int
  a6 : Int
  a7 : List S2
  a8 : List S0
  a9 : List (List S0)
  a10 : Nat
  a11 : List (List S0)
def hd3_6v2 (v : W3_6v2) : St := ⟨[.top, .c (.rs 1 v.a0), .top, .top, .c (.bool v.a1), .c (.int .i64 v.a2), .c (.ptr 0 0), .top, .c (.slw 1), .c (.int .i64 v.a3), .top, .top, .c (.slw 2), .top, .c (.int .i64 v.a4), .c (.jk 3 .whole), .c (.int .i64 v.a5), .c (.int .i64 v.a6), .top, .top, .top, .top, .top, .top, .top, .top, .top, .top, .top, .top, .top, .top, .top, .top, .top, .top, .top, .top, .top, .top, .top, .top, .top, .top, .top, .top, .top, .top, .top, .top, .top, .top, .top, .top, .top, .top, .top, .top, .top, .top, .top, .top, .top, .top, .top, .top, .top, .top, .top, .top, .top, .top, .top, .top, .top, .top, .top, .top, .top, .top, .top, .top, .top, .top, .top, .top, .top, .top, .top, .top, .top, .top, .top, .top, .top, .top, .top, .top, .top, .top, .top, .top, .top, .top, .top, .top, .top, .top, .top, .top, .top, .top, .top, .top, .top, .top, .top, .top, .top, .top, .top, .top, .top, .top, .top, .top, .top, .top, .top, .top, .top, .top, .top, .top, .top, .top, .top, .top, .top, .top, .top, .top, .top, .top, .top, .top, .top, .top, .top, .top, .top, .top, .top, .top, .top, .top, .top, .top, .top, .top, .top, .top], [.cells [.ch 4], .row 2 v.a7, .row 0 v.a8, .bg 2 0 v.a9 none, .chn 0 v.a10 v.a11]⟩
def gR3_6v2 (v : W3_6v2) : Tr (W3_6v2 ⊕ (Bool × W3_6v2)) :=
  .br (decide (0 ≤ v.a5) && decide (v.a5 < (v.a9.length : Int))) (
   .opt (v.a9[(Int.toNat v.a5)]?) fun y125 =>
    .opt (v.a9[(Int.toNat v.a5)]?) fun y126 =>
     .br (decide (v.a6 < (y126.length : Int))) (
      .br (decide (0 ≤ v.a5) && decide (v.a5 < (v.a9.length : Int))) (
       .opt (v.a9[(Int.toNat v.a5)]?) fun y127 =>
        .opt (v.a9[(Int.toNat v.a5)]?) fun y128 =>
         .br (decide (0 ≤ v.a6) && decide (v.a6 < (y128.length : Int))) (
          .opt (v.a9[(Int.toNat v.a5)]?) fun y129 =>
           .opt (y129[(Int.toNat v.a6)]?) fun y130 =>
            .opt (v.a9[(Int.toNat v.a5)]?) fun y131 =>
             .br (decide (0 ≤ v.a6) && decide (v.a6 < (y131.length : Int))) (
              .opt (v.a9[(Int.toNat v.a5)]?) fun y132 =>
               .opt (y132[(Int.toNat v.a6)]?) fun y133 =>
                .leaf (.inl ({ v with a6 := (IntKind.i64.wrap (v.a6 + 1)), a9 := (List.set v.a9 (Int.toNat v.a5) (List.set y132 (Int.toNat v.a6) (S0.mk (xorI .u8 y130.f0 255)))) }))) (
              .fail)) (
          .fail)) (
       .fail)) (
      .leaf (.inr (false, v)))) (
   .fail)
noncomputable def lb3_6 : Code := match findB 6 (Go.Proofs.Try.f3.body.getD .skip) with | [.loop b] => b | _ => .skip
def pa3_6x0 : List PA := [.any, .c (.rs 1), .any, .any, .c (.bool), .c (.int .i64), .c (.ptr 0 0), .any, .c (.slw 1), .c (.int .i64), .any, .any, .top, .any, .top, .c (.jk 2), .c (.int .i64), .c (.int .i64), .any, .any, .any, .any, .any, .any, .any, .any, .any, .any, .any, .any, .any, .any, .any, .any, .any, .any, .any, .any, .any, .any, .any, .any, .any, .any, .any, .any, .any, .any, .any, .any, .any, .any, .any, .any, .any, .any, .any, .any, .any, .any, .any, .any, .any, .any, .any, .any, .any, .any, .any, .any, .any, .any, .any, .any, .any, .any, .any, .any, .any, .any, .any, .any, .any, .any, .any, .any, .any, .any, .any, .any, .any, .any, .any, .any, .any, .any, .any, .any, .any, .any, .any, .any, .any, .any, .any, .any, .any, .any, .any, .any, .any, .any, .any, .any, .any, .any, .any, .any, .any, .any, .any, .any, .any, .any, .any, .any, .any, .any, .any, .any, .any, .any, .any, .any, .any, .any, .any, .any, .any, .any, .any, .any, .any, .any, .any, .any, .any, .any, .any, .any, .any, .any, .any, .any, .any, .any, .any, .any, .any, .any, .any, .any]
def pb3_6x0 : List PB := [.cells [.ch 3], .row 2, .bg 2 0, .chn 0]
def ini3_6x0 (s : St) : W3_6 := ⟨rC 1 (aC (s.tmps.getD 1 .top)), bC (aC (s.tmps.getD 4 .top)), iC (aC (s.tmps.getD 5 .top)), iC (aC (s.tmps.getD 9 .top)), iC (aC (s.tmps.getD 16 .top)), iC (aC (s.tmps.getD 17 .top)), bR 2 (s.heap.getD 1 .dead), bBg 0 (s.heap.getD 2 .dead), bCap (s.heap.getD 3 .dead), bChn 0 (s.heap.getD 3 .dead)⟩
noncomputable def F3_6x0 : St → Res (Ex × St) := loopF pa3_6x0 pb3_6x0 1000000 hd3_6 gR3_6 ini3_6x0 false
theorem F3_6x0_ok (s : St) (r : Ex × St) (h : (F3_6x0 s).eval = some r) : (codeR e3 0 (.block 6 (.loop lb3_6)) s).eval = some r :=
  blk_ok (e := e3) (T := lookT []) (fun s v => by kernel_rfl) (fun s => by kernel_rfl) (tab_nil) s r h
def pa3_6x1 : List PA := [.any, .c (.rs 1), .any, .any, .c (.bool), .c (.int .i64), .c (.ptr 0 0), .any, .c (.slw 1), .c (.int .i64), .any, .any, .c (.ez), .any, .c (.int .i64), .c (.jk 2), .c (.int .i64), .c (.int .i64), .any, .any, .any, .any, .any, .any, .any, .any, .any, .any, .any, .any, .any, .any, .any, .any, .any, .any, .any, .any, .any, .any, .any, .any, .any, .any, .any, .any, .any, .any, .any, .any, .any, .any, .any, .any, .any, .any, .any, .any, .any, .any, .any, .any, .any, .any, .any, .any, .any, .any, .any, .any, .any, .any, .any, .any, .any, .any, .any, .any, .any, .any, .any, .any, .any, .any, .any, .any, .any, .any, .any, .any, .any, .any, .any, .any, .any, .any, .any, .any, .any, .any, .any, .any, .any, .any, .any, .any, .any, .any, .any, .any, .any, .any, .any, .any, .any, .any, .any, .any, .any, .any, .any, .any, .any, .any, .any, .any, .any, .any, .any, .any, .any, .any, .any, .any, .any, .any, .any, .any, .any, .any, .any, .any, .any, .any, .any, .any, .any, .any, .any, .any, .any, .any, .any, .any, .any, .any, .any, .any, .any, .any, .any, .any]
def pb3_6x1 : List PB := [.cells [.ch 3], .row 2, .bg 2 0, .chn 0]
def ini3_6x1 (s : St) : W3_6v1 := ⟨rC 1 (aC (s.tmps.getD 1 .top)), bC (aC (s.tmps.getD 4 .top)), iC (aC (s.tmps.getD 5 .top)), iC (aC (s.tmps.getD 9 .top)), iC (aC (s.tmps.getD 14 .top)), iC (aC (s.tmps.getD 16 .top)), iC (aC (s.tmps.getD 17 .top)), bR 2 (s.heap.getD 1 .dead), bBg 0 (s.heap.getD 2 .dead), bCap (s.heap.getD 3 .dead), bChn 0 (s.heap.getD 3 .dead)⟩
noncomputable def F3_6x1 : St → Res (Ex × St) := loopF pa3_6x1 pb3_6x1 1000000 hd3_6v1 gR3_6v1 ini3_6x1 false
theorem F3_6x1_ok (s : St) (r : Ex × St) (h : (F3_6x1 s).eval = some r) : (codeR e3 0 (.block 6 (.loop lb3_6)) s).eval = some r :=
  blk_ok (e := e3) (T := lookT []) (fun s v => by kernel_rfl) (fun s => by kernel_rfl) (tab_nil) s r h
def pa3_6x2 : List PA := [.any, .c (.rs 1), .any, .any, .c (.bool), .c (.int .i64), .c (.ptr 0 0), .any, .c (.slw 1), .c (.int .i64), .any, .any, .c (.slw 2), .any, .c (.int .i64), .c (.jk 3), .c (.int .i64), .c (.int .i64), .any, .any, .any, .any, .any, .any, .any, .any, .any, .any, .any, .any, .any, .any, .any, .any, .any, .any, .any, .any, .any, .any, .any, .any, .any, .any, .any, .any, .any, .any, .any, .any, .any, .any, .any, .any, .any, .any, .any, .any, .any, .any, .any, .any, .any, .any, .any, .any, .any, .any, .any, .any, .any, .any, .any, .any, .any, .any, .any, .any, .any, .any, .any, .any, .any, .any, .any, .any, .any, .any, .any, .any, .any, .any, .any, .any, .any, .any, .any, .any, .any, .any, .any, .any, .any, .any, .any, .any, .any, .any, .any, .any, .any, .any, .any, .any, .any, .any, .any, .any, .any, .any, .any, .any, .any, .any, .any, .any, .any, .any, .any, .any, .any, .any, .any, .any, .any, .any, .any, .any, .any, .any, .any, .any, .any, .any, .any, .any, .any, .any, .any, .any, .any, .any, .any, .any, .any, .any, .any, .any, .any, .any, .any, .any]
def pb3_6x2 : List PB := [.cells [.ch 4], .row 2, .row 0, .bg 2 0, .chn 0]
def ini3_6x2 (s : St) : W3_6v2 := ⟨rC 1 (aC (s.tmps.getD 1 .top)), bC (aC (s.tmps.getD 4 .top)), iC (aC (s.tmps.getD 5 .top)), iC (aC (s.tmps.getD 9 .top)), iC (aC (s.tmps.getD 14 .top)), iC (aC (s.tmps.getD 16 .top)), iC (aC (s.tmps.getD 17 .top)), bR 2 (s.heap.getD 1 .dead), bR 0 (s.heap.getD 2 .dead), bBg 0 (s.heap.getD 3 .dead), bCap (s.heap.getD 4 .dead), bChn 0 (s.heap.getD 4 .dead)⟩
noncomputable def F3_6x2 : St → Res (Ex × St) := loopF pa3_6x2 pb3_6x2 1000000 hd3_6v2 gR3_6v2 ini3_6x2 false
theorem F3_6x2_ok (s : St) (r : Ex × St) (h : (F3_6x2 s).eval = some r) : (codeR e3 0 (.block 6 (.loop lb3_6)) s).eval = some r :=
  blk_ok (e := e3) (T := lookT []) (fun s v => by kernel_rfl) (fun s => by kernel_rfl) (tab_nil) s r h
noncomputable def F3_6 : St → Res (Ex × St) := (orF pa3_6x0 pb3_6x0 F3_6x0 (orF pa3_6x1 pb3_6x1 F3_6x1 F3_6x2))
theorem F3_6_ok (s : St) (r : Ex × St) (h : (F3_6 s).eval = some r) : (codeR e3 0 (.block 6 (.loop lb3_6)) s).eval = some r := (orF_ok F3_6x0_ok (orF_ok F3_6x1_ok F3_6x2_ok)) s r h
structure W3_4 where
  a0 : List S1
  a1 : Bool
  a2 : Int
  a3 : Int
  a4 : Int
  a5 : List S2
  a6 : List (List S0)
  a7 : Nat
  a8 : List (List S0)
def hd3_4 (v : W3_4) : St := ⟨[.top, .c (.rs 1 v.a0), .top, .top, .c (.bool v.a1), .c (.int .i64 v.a2), .c (.ptr 0 0), .top, .c (.slw 1), .c (.int .i64 v.a3), .top, .top, .top, .top, .top, .c (.jk 2 .whole), .c (.int .i64 v.a4), .top, .top, .top, .top, .top, .top, .top, .top, .top, .top, .top, .top, .top, .top, .top, .top, .top, .top, .top, .top, .top, .top, .top, .top, .top, .top, .top, .top, .top, .top, .top, .top, .top, .top, .top, .top, .top, .top, .top, .top, .top, .top, .top, .top, .top, .top, .top, .top, .top, .top, .top, .top, .top, .top, .top, .top, .top, .top, .top, .top, .top, .top, .top, .top, .top, .top, .top, .top, .top, .top, .top, .top, .top, .top, .top, .top, .top, .top, .top, .top, .top, .top, .top, .top, .top, .top, .top, .top, .top, .top, .top, .top, .top, .top, .top, .top, .top, .top, .top, .top, .top, .top, .top, .top, .top, .top, .top, .top, .top, .top, .top, .top, .top, .top, .top, .top, .top, .top, .top, .top, .top, .top, .top, .top, .top, .top, .top, .top, .top, .top, .top, .top, .top, .top, .top, .top, .top, .top, .top, .top, .top, .top, .top, .top, .top], [.cells [.ch 3], .row 2 v.a5, .bg 2 0 v.a6 none, .chn 0 v.a7 v.a8]⟩
def gR3_4 (v : W3_4) : Tr (W3_4 ⊕ (Bool × W3_4)) :=
  .br (decide (v.a4 < (v.a6.length : Int))) (
   .opt (iter gR3_6 1000000 (W3_6.mk (v.a0) (v.a1) (v.a2) (v.a3) (v.a4) (0) (v.a5) (v.a6) (v.a7) (v.a8))) fun r84 =>
    .br r84.1 (
     .fail) (
     .leaf (.inl (W3_4.mk (r84.2.a0) (r84.2.a1) (r84.2.a2) (r84.2.a3) ((IntKind.i64.wrap (r84.2.a4 + 1))) (r84.2.a6) (r84.2.a7) (r84.2.a8) (r84.2.a9))))) (
   .leaf (.inr (false, v)))
structure W3_4v1 where
  a0 : List S1
  a1 : Bool
  a2 : Int
  a3 : Int
  a4 : Int
  a5 : Int
  a6 : List S2
  a7 : List (List S0)
  a8 : Nat
  a9 : List (List S0)
def hd3_4v1 (v : W3_4v1) : St := ⟨[.top, .c (.rs 1 v.a0), .top, .top, .c (.bool v.a1), .c (.int .i64 v.a2), .c (.ptr 0 0), .top, .c (.slw 1), .c (.int .i64 v.a3), .top, .top, .c (.ez), .top, .c (.int .i64 v.a4), .c (.jk 2 .whole), .c (.int .i64 v.a5), .top, .top, .top, .top, .top, .top, .top, .top, .top, .top, .top, .top, .top, .top, .top, .top, .top, .top, .top, .top, .top, .top, .top, .top, .top, .top, .top, .top, .top, .top, .top, .top, .top, .top, .top, .top, .top, .top, .top, .top, .top, .top, .top, .top, .top, .top, .top, .top, .top, .top, .top, .top, .top, .top, .top, .top, .top, .top, .top, .top, .top, .top, .top, .top, .top, .top, .top, .top, .top, .top, .top, .top, .top, .top, .top, .top, .top, .top, .top, .top, .top, .top, .top, .top, .top, .top, .top, .top, .top, .top, .top, .top, .top, .top, .top, .top, .top, .top, .top, .top, .top, .top, .top, .top, .top, .top, .top, .top, .top, .top, .top, .top, .top, .top, .top, .top, .top, .top, .top, .top, .top, .top, .top, .top, .top, .top, .top, .top, .top, .top, .top, .top, .top, .top, .top, .top, .top, .top, .top, .top, .top, .top, .top, .top, .top], [.cells [.ch 3], .row 2 v.a6, .bg 2 0 v.a7 none, .chn 0 v.a8 v.a9]⟩
def gR3_4v1 (v : W3_4v1) : Tr (W3_4v1 ⊕ (Bool × W3_4v1)) :=
  .br (decide (v.a5 < (v.a7.length : Int))) (
   .opt (iter gR3_6v1 1000000 (W3_6v1.mk (v.a0) (v.a1) (v.a2) (v.a3) (v.a4) (v.a5) (0) (v.a6) (v.a7) (v.a8) (v.a9))) fun r109 =>
    .br r109.1 (
     .fail) (
     .leaf (.inl (W3_4v1.mk (r109.2.a0) (r109.2.a1) (r109.2.a2) (r109.2.a3) (r109.2.a4) ((IntKind.i64.wrap (r109.2.a5 + 1))) (r109.2.a7) (r109.2.a8) (r109.2.a9) (r109.2.a10))))) (
   .leaf (.inr (false, v)))
structure W3_4v2 where
  a0 : List S1
  a1 : Bool
  a2 : Int
  a3 : Int
  a4 : Int
  a5 : Int
  a6 : List S2
  a7 : List S0
  a8 : List (List S0)
  a9 : Nat
  a10 : List (List S0)
def hd3_4v2 (v : W3_4v2) : St := ⟨[.top, .c (.rs 1 v.a0), .top, .top, .c (.bool v.a1), .c (.int .i64 v.a2), .c (.ptr 0 0), .top, .c (.slw 1), .c (.int .i64 v.a3), .top, .top, .c (.slw 2), .top, .c (.int .i64 v.a4), .c (.jk 3 .whole), .c (.int .i64 v.a5), .top, .top, .top, .top, .top, .top, .top, .top, .top, .top, .top, .top, .top, .top, .top, .top, .top, .top, .top, .top, .top, .top, .top, .top, .top, .top, .top, .top, .top, .top, .top, .top, .top, .top, .top, .top, .top, .top, .top, .top, .top, .top, .top, .top, .top, .top, .top, .top, .top, .top, .top, .top, .top, .top, .top, .top, .top, .top, .top, .top, .top, .top, .top, .top, .top, .top, .top, .top, .top, .top, .top, .top, .top, .top, .top, .top, .top, .top, .top, .top, .top, .top, .top, .top, .top, .top, .top, .top, .top, .top, .top, .top, .top, .top, .top, .top, .top, .top, .top, .top, .top, .top, .top, .top, .top, .top, .top, .top, .top, .top, .top, .top, .top, .top, .top, .top, .top, .top, .top, .top, .top, .top, .top, .top, .top, .top, .top, .top, .top, .top, .top, .top, .top, .top, .top, .top, .top, .top, .top, .top, .top, .top, .top, .top, .top], [.cells [.ch 4], .row 2 v.a6, .row 0 v.a7, .bg 2 0 v.a8 none, .chn 0 v.a9 v.a10]⟩
def gR3_4v2 (v : W3_4v2) : Tr (W3_4v2 ⊕ (Bool × W3_4v2)) :=
  .br (decide (v.a5 < (v.a8.length : Int))) (
   .opt (iter gR3_6v2 1000000 (W3_6v2.mk (v.a0) (v.a1) (v.a2) (v.a3) (v.a4) (v.a5) (0) (v.a6) (v.a7) (v.a8) (v.a9) (v.a10))) fun r134 =>
    .br r134.1 (
     .fail) (
     .leaf (.inl (W3_4v2.mk (r134.2.a0) (r134.2.a1) (r134.2.a2) (r134.2.a3) (r134.2.a4) ((IntKind.i64.wrap (r134.2.a5 + 1))) (r134.2.a7) (r134.2.a8) (r134.2.a9) (r134.2.a10) (r134.2.a11))))) (
   .leaf (.inr (false, v)))
noncomputable def lb3_4 : Code := match findB 4 (Go.Proofs.Try.f3.body.getD .skip) with | [.loop b] => b | _ => .skip
def pa3_4x0 : List PA := [.any, .c (.rs 1), .any, .any, .c (.bool), .c (.int .i64), .c (.ptr 0 0), .any, .c (.slw 1), .c (.int .i64), .any, .any, .top, .any, .top, .c (.jk 3), .c (.int .i64), .top, .any, .any, .any, .any, .any, .any, .any, .any, .any, .any, .any, .any, .any, .any, .any, .any, .any, .any, .any, .any, .any, .any, .any, .any, .any, .any, .any, .any, .any, .any, .any, .any, .any, .any, .any, .any, .any, .any, .any, .any, .any, .any, .any, .any, .any, .any, .any, .any, .any, .any, .any, .any, .any, .any, .any, .any, .any, .any, .any, .any, .any, .any, .any, .any, .any, .any, .any, .any, .any, .any, .any, .any, .any, .any, .any, .any, .any, .any, .any, .any, .any, .any, .any, .any, .any, .any, .any, .any, .any, .any, .any, .any, .any, .any, .any, .any, .any, .any, .any, .any, .any, .any, .any, .any, .any, .any, .any, .any, .any, .any, .any, .any, .any, .any, .any, .any, .any, .any, .any, .any, .any, .any, .any, .any, .any, .any, .any, .any, .any, .any, .any, .any, .any, .any, .any, .any, .any, .any, .any, .any, .any, .any, .any, .any]
def pb3_4x0 : List PB := [.cells [.ch 2], .row 2, .chn 0, .bg 2 0]
def ini3_4x0 (s : St) : W3_4 := ⟨rC 1 (aC (s.tmps.getD 1 .top)), bC (aC (s.tmps.getD 4 .top)), iC (aC (s.tmps.getD 5 .top)), iC (aC (s.tmps.getD 9 .top)), iC (aC (s.tmps.getD 16 .top)), bR 2 (s.heap.getD 1 .dead), bBg 0 (s.heap.getD 3 .dead), bCap (s.heap.getD 2 .dead), bChn 0 (s.heap.getD 2 .dead)⟩
noncomputable def F3_4x0 : St → Res (Ex × St) := loopF pa3_4x0 pb3_4x0 1000000 hd3_4 gR3_4 ini3_4x0 false
theorem F3_4x0_ok (s : St) (r : Ex × St) (h : (F3_4x0 s).eval = some r) : (codeR e3 0 (.block 4 (.loop lb3_4)) s).eval = some r :=
  blk_ok (e := e3) (T := lookT [(6, F3_6)]) (fun s v => by kernel_rfl) (fun s => by kernel_rfl) (tab_cons (by kernel_rfl) F3_6_ok (tab_nil)) s r h
def pa3_4x1 : List PA := [.any, .c (.rs 1), .any, .any, .c (.bool), .c (.int .i64), .c (.ptr 0 0), .any, .c (.slw 4), .c (.int .i64), .any, .any, .top, .any, .top, .c (.jk 5), .c (.int .i64), .top, .any, .any, .any, .any, .any, .any, .any, .any, .any, .any, .any, .any, .any, .any, .any, .any, .any, .any, .any, .any, .any, .any, .any, .any, .any, .any, .any, .any, .any, .any, .any, .any, .any, .any, .any, .any, .any, .any, .any, .any, .any, .any, .any, .any, .any, .any, .any, .any, .any, .any, .any, .any, .any, .any, .any, .any, .any, .any, .any, .any, .any, .any, .any, .any, .any, .any, .any, .any, .any, .any, .any, .any, .any, .any, .any, .any, .any, .any, .any, .any, .any, .any, .any, .any, .any, .any, .any, .any, .any, .any, .any, .any, .any, .any, .any, .any, .any, .any, .any, .any, .any, .any, .any, .any, .any, .any, .any, .any, .any, .any, .any, .any, .any, .any, .any, .any, .any, .any, .any, .any, .any, .any, .any, .any, .any, .any, .any, .any, .any, .any, .any, .any, .any, .any, .any, .any, .any, .any, .any, .any, .any, .any, .any, .any]
def pb3_4x1 : List PB := [.cells [.ch 2], .dead, .chn 0, .row 0, .row 2, .bg 2 0]
def ini3_4x1 (s : St) : W3_4 := ⟨rC 1 (aC (s.tmps.getD 1 .top)), bC (aC (s.tmps.getD 4 .top)), iC (aC (s.tmps.getD 5 .top)), iC (aC (s.tmps.getD 9 .top)), iC (aC (s.tmps.getD 16 .top)), bR 2 (s.heap.getD 4 .dead), bBg 0 (s.heap.getD 5 .dead), bCap (s.heap.getD 2 .dead), bChn 0 (s.heap.getD 2 .dead)⟩
noncomputable def F3_4x1 : St → Res (Ex × St) := loopF pa3_4x1 pb3_4x1 1000000 hd3_4 gR3_4 ini3_4x1 false
theorem F3_4x1_ok (s : St) (r : Ex × St) (h : (F3_4x1 s).eval = some r) : (codeR e3 0 (.block 4 (.loop lb3_4)) s).eval = some r :=
  blk_ok (e := e3) (T := lookT [(6, F3_6)]) (fun s v => by kernel_rfl) (fun s => by kernel_rfl) (tab_cons (by kernel_rfl) F3_6_ok (tab_nil)) s r h
def pa3_4x2 : List PA := [.any, .c (.rs 1), .any, .any, .c (.bool), .c (.int .i64), .c (.ptr 0 0), .any, .c (.slw 1), .c (.int .i64), .any, .any, .c (.ez), .any, .c (.int .i64), .c (.jk 3), .c (.int .i64), .top, .any, .any, .any, .any, .any, .any, .any, .any, .any, .any, .any, .any, .any, .any, .any, .any, .any, .any, .any, .any, .any, .any, .any, .any, .any, .any, .any, .any, .any, .any, .any, .any, .any, .any, .any, .any, .any, .any, .any, .any, .any, .any, .any, .any, .any, .any, .any, .any, .any, .any, .any, .any, .any, .any, .any, .any, .any, .any, .any, .any, .any, .any, .any, .any, .any, .any, .any, .any, .any, .any, .any, .any, .any, .any, .any, .any, .any, .any, .any, .any, .any, .any, .any, .any, .any, .any, .any, .any, .any, .any, .any, .any, .any, .any, .any, .any, .any, .any, .any, .any, .any, .any, .any, .any, .any, .any, .any, .any, .any, .any, .any, .any, .any, .any, .any, .any, .any, .any, .any, .any, .any, .any, .any, .any, .any, .any, .any, .any, .any, .any, .any, .any, .any, .any, .any, .any, .any, .any, .any, .any, .any, .any, .any, .any]
def pb3_4x2 : List PB := [.cells [.ch 2], .row 2, .chn 0, .bg 2 0]
def ini3_4x2 (s : St) : W3_4v1 := ⟨rC 1 (aC (s.tmps.getD 1 .top)), bC (aC (s.tmps.getD 4 .top)), iC (aC (s.tmps.getD 5 .top)), iC (aC (s.tmps.getD 9 .top)), iC (aC (s.tmps.getD 14 .top)), iC (aC (s.tmps.getD 16 .top)), bR 2 (s.heap.getD 1 .dead), bBg 0 (s.heap.getD 3 .dead), bCap (s.heap.getD 2 .dead), bChn 0 (s.heap.getD 2 .dead)⟩
noncomputable def F3_4x2 : St → Res (Ex × St) := loopF pa3_4x2 pb3_4x2 1000000 hd3_4v1 gR3_4v1 ini3_4x2 false
theorem F3_4x2_ok (s : St) (r : Ex × St) (h : (F3_4x2 s).eval = some r) : (codeR e3 0 (.block 4 (.loop lb3_4)) s).eval = some r :=
  blk_ok (e := e3) (T := lookT [(6, F3_6)]) (fun s v => by kernel_rfl) (fun s => by kernel_rfl) (tab_cons (by kernel_rfl) F3_6_ok (tab_nil)) s r h
def pa3_4x3 : List PA := [.any, .c (.rs 1), .any, .any, .c (.bool), .c (.int .i64), .c (.ptr 0 0), .any, .c (.slw 1), .c (.int .i64), .any, .any, .c (.slw 2), .any, .c (.int .i64), .c (.jk 4), .c (.int .i64), .top, .any, .any, .any, .any, .any, .any, .any, .any, .any, .any, .any, .any, .any, .any, .any, .any, .any, .any, .any, .any, .any, .any, .any, .any, .any, .any, .any, .any, .any, .any, .any, .any, .any, .any, .any, .any, .any, .any, .any, .any, .any, .any, .any, .any, .any, .any, .any, .any, .any, .any, .any, .any, .any, .any, .any, .any, .any, .any, .any, .any, .any, .any, .any, .any, .any, .any, .any, .any, .any, .any, .any, .any, .any, .any, .any, .any, .any, .any, .any, .any, .any, .any, .any, .any, .any, .any, .any, .any, .any, .any, .any, .any, .any, .any, .any, .any, .any, .any, .any, .any, .any, .any, .any, .any, .any, .any, .any, .any, .any, .any, .any, .any, .any, .any, .any, .any, .any, .any, .any, .any, .any, .any, .any, .any, .any, .any, .any, .any, .any, .any, .any, .any, .any, .any, .any, .any, .any, .any, .any, .any, .any, .any, .any, .any]
def pb3_4x3 : List PB := [.cells [.ch 3], .row 2, .row 0, .chn 0, .bg 2 0]
def ini3_4x3 (s : St) : W3_4v2 := ⟨rC 1 (aC (s.tmps.getD 1 .top)), bC (aC (s.tmps.getD 4 .top)), iC (aC (s.tmps.getD 5 .top)), iC (aC (s.tmps.getD 9 .top)), iC (aC (s.tmps.getD 14 .top)), iC (aC (s.tmps.getD 16 .top)), bR 2 (s.heap.getD 1 .dead), bR 0 (s.heap.getD 2 .dead), bBg 0 (s.heap.getD 4 .dead), bCap (s.heap.getD 3 .dead), bChn 0 (s.heap.getD 3 .dead)⟩
noncomputable def F3_4x3 : St → Res (Ex × St) := loopF pa3_4x3 pb3_4x3 1000000 hd3_4v2 gR3_4v2 ini3_4x3 false
theorem F3_4x3_ok (s : St) (r : Ex × St) (h : (F3_4x3 s).eval = some r) : (codeR e3 0 (.block 4 (.loop lb3_4)) s).eval = some r :=
  blk_ok (e := e3) (T := lookT [(6, F3_6)]) (fun s v => by kernel_rfl) (fun s => by kernel_rfl) (tab_cons (by kernel_rfl) F3_6_ok (tab_nil)) s r h
noncomputable def F3_4 : St → Res (Ex × St) := (orF pa3_4x0 pb3_4x0 F3_4x0 (orF pa3_4x1 pb3_4x1 F3_4x1 (orF pa3_4x2 pb3_4x2 F3_4x2 F3_4x3)))
theorem F3_4_ok (s : St) (r : Ex × St) (h : (F3_4 s).eval = some r) : (codeR e3 0 (.block 4 (.loop lb3_4)) s).eval = some r := (orF_ok F3_4x0_ok (orF_ok F3_4x1_ok (orF_ok F3_4x2_ok F3_4x3_ok))) s r h
structure W3_2 where
  a0 : List S1
  a1 : Bool
  a2 : Int
  a3 : Int
  a4 : Int
  a5 : List S2
  a6 : Nat
  a7 : List (List S0)
def hd3_2 (v : W3_2) : St := ⟨[.top, .c (.rs 1 v.a0), .top, .top, .c (.bool v.a1), .c (.int .i64 v.a2), .c (.ptr 0 0), .top, .c (.slw 1), .c (.int .i64 v.a3), .top, .top, .c (.ez), .top, .c (.int .i64 v.a4), .top, .top, .top, .top, .top, .top, .top, .top, .top, .top, .top, .top, .top, .top, .top, .top, .top, .top, .top, .top, .top, .top, .top, .top, .top, .top, .top, .top, .top, .top, .top, .top, .top, .top, .top, .top, .top, .top, .top, .top, .top, .top, .top, .top, .top, .top, .top, .top, .top, .top, .top, .top, .top, .top, .top, .top, .top, .top, .top, .top, .top, .top, .top, .top, .top, .top, .top, .top, .top, .top, .top, .top, .top, .top, .top, .top, .top, .top, .top, .top, .top, .top, .top, .top, .top, .top, .top, .top, .top, .top, .top, .top, .top, .top, .top, .top, .top, .top, .top, .top, .top, .top, .top, .top, .top, .top, .top, .top, .top, .top, .top, .top, .top, .top, .top, .top, .top, .top, .top, .top, .top, .top, .top, .top, .top, .top, .top, .top, .top, .top, .top, .top, .top, .top, .top, .top, .top, .top, .top, .top, .top, .top, .top, .top, .top, .top, .top], [.cells [.ch 2], .row 2 v.a5, .chn 0 v.a6 v.a7]⟩
def gR3_2 (v : W3_2) : Tr (W3_2 ⊕ (Bool × W3_2)) :=
  .br (decide (v.a4 < 0)) (
   .fail) (
   .leaf (.inr (false, v)))
structure W3_2v1 where
  a0 : List S1
  a1 : Bool
  a2 : Int
  a3 : Int
  a4 : Int
  a5 : List S2
  a6 : List S0
  a7 : Nat
  a8 : List (List S0)
def hd3_2v1 (v : W3_2v1) : St := ⟨[.top, .c (.rs 1 v.a0), .top, .top, .c (.bool v.a1), .c (.int .i64 v.a2), .c (.ptr 0 0), .top, .c (.slw 1), .c (.int .i64 v.a3), .top, .top, .c (.slw 2), .top, .c (.int .i64 v.a4), .top, .top, .top, .top, .top, .top, .top, .top, .top, .top, .top, .top, .top, .top, .top, .top, .top, .top, .top, .top, .top, .top, .top, .top, .top, .top, .top, .top, .top, .top, .top, .top, .top, .top, .top, .top, .top, .top, .top, .top, .top, .top, .top, .top, .top, .top, .top, .top, .top, .top, .top, .top, .top, .top, .top, .top, .top, .top, .top, .top, .top, .top, .top, .top, .top, .top, .top, .top, .top, .top, .top, .top, .top, .top, .top, .top, .top, .top, .top, .top, .top, .top, .top, .top, .top, .top, .top, .top, .top, .top, .top, .top, .top, .top, .top, .top, .top, .top, .top, .top, .top, .top, .top, .top, .top, .top, .top, .top, .top, .top, .top, .top, .top, .top, .top, .top, .top, .top, .top, .top, .top, .top, .top, .top, .top, .top, .top, .top, .top, .top, .top, .top, .top, .top, .top, .top, .top, .top, .top, .top, .top, .top, .top, .top, .top, .top, .top], [.cells [.ch 3], .row 2 v.a5, .row 0 v.a6, .chn 0 v.a7 v.a8]⟩
def gR3_2v1 (v : W3_2v1) : Tr (W3_2v1 ⊕ (Bool × W3_2v1)) :=
  .br (decide (v.a4 < (v.a6.length : Int))) (
   .br (decide (0 ≤ v.a4) && decide (v.a4 < (v.a6.length : Int))) (
    .opt (v.a6[(Int.toNat v.a4)]?) fun y118 =>
     .br (decide (0 ≤ v.a4) && decide (v.a4 < (v.a6.length : Int))) (
      .opt (v.a6[(Int.toNat v.a4)]?) fun y119 =>
       .leaf (.inl ({ v with a4 := (IntKind.i64.wrap (v.a4 + 1)), a6 := (List.set v.a6 (Int.toNat v.a4) (S0.mk (xorI .u8 y118.f0 255))) }))) (
      .fail)) (
    .fail)) (
   .leaf (.inr (false, v)))
noncomputable def lb3_2 : Code := match findB 2 (Go.Proofs.Try.f3.body.getD .skip) with | [.loop b] => b | _ => .skip
def pa3_2x0 : List PA := [.any, .c (.rs 1), .any, .any, .c (.bool), .c (.int .i64), .c (.ptr 0 0), .any, .c (.slw 4), .c (.int .i64), .any, .any, .c (.ez), .any, .c (.int .i64), .top, .top, .top, .any, .any, .any, .any, .any, .any, .any, .any, .any, .any, .any, .any, .any, .any, .any, .any, .any, .any, .any, .any, .any, .any, .any, .any, .any, .any, .any, .any, .any, .any, .any, .any, .any, .any, .any, .any, .any, .any, .any, .any, .any, .any, .any, .any, .any, .any, .any, .any, .any, .any, .any, .any, .any, .any, .any, .any, .any, .any, .any, .any, .any, .any, .any, .any, .any, .any, .any, .any, .any, .any, .any, .any, .any, .any, .any, .any, .any, .any, .any, .any, .any, .any, .any, .any, .any, .any, .any, .any, .any, .any, .any, .any, .any, .any, .any, .any, .any, .any, .any, .any, .any, .any, .any, .any, .any, .any, .any, .any, .any, .any, .any, .any, .any, .any, .any, .any, .any, .any, .any, .any, .any, .any, .any, .any, .any, .any, .any, .any, .any, .any, .any, .any, .any, .any, .any, .any, .any, .any, .any, .any, .any, .any, .any, .any]
def pb3_2x0 : List PB := [.cells [.ch 2], .dead, .chn 0, .cells [.rs 0], .row 2]
def ini3_2x0 (s : St) : W3_2 := ⟨rC 1 (aC (s.tmps.getD 1 .top)), bC (aC (s.tmps.getD 4 .top)), iC (aC (s.tmps.getD 5 .top)), iC (aC (s.tmps.getD 9 .top)), iC (aC (s.tmps.getD 14 .top)), bR 2 (s.heap.getD 4 .dead), bCap (s.heap.getD 2 .dead), bChn 0 (s.heap.getD 2 .dead)⟩
noncomputable def F3_2x0 : St → Res (Ex × St) := loopF pa3_2x0 pb3_2x0 1000000 hd3_2 gR3_2 ini3_2x0 false
theorem F3_2x0_ok (s : St) (r : Ex × St) (h : (F3_2x0 s).eval = some r) : (codeR e3 0 (.block 2 (.loop lb3_2)) s).eval = some r :=
  blk_ok (e := e3) (T := lookT []) (fun s v => by kernel_rfl) (fun s => by kernel_rfl) (tab_nil) s r h
def pa3_2x1 : List PA := [.any, .c (.rs 1), .any, .any, .c (.bool), .c (.int .i64), .c (.ptr 0 0), .any, .c (.slw 1), .c (.int .i64), .any, .any, .c (.ez), .any, .c (.int .i64), .top, .top, .top, .any, .any, .any, .any, .any, .any, .any, .any, .any, .any, .any, .any, .any, .any, .any, .any, .any, .any, .any, .any, .any, .any, .any, .any, .any, .any, .any, .any, .any, .any, .any, .any, .any, .any, .any, .any, .any, .any, .any, .any, .any, .any, .any, .any, .any, .any, .any, .any, .any, .any, .any, .any, .any, .any, .any, .any, .any, .any, .any, .any, .any, .any, .any, .any, .any, .any, .any, .any, .any, .any, .any, .any, .any, .any, .any, .any, .any, .any, .any, .any, .any, .any, .any, .any, .any, .any, .any, .any, .any, .any, .any, .any, .any, .any, .any, .any, .any, .any, .any, .any, .any, .any, .any, .any, .any, .any, .any, .any, .any, .any, .any, .any, .any, .any, .any, .any, .any, .any, .any, .any, .any, .any, .any, .any, .any, .any, .any, .any, .any, .any, .any, .any, .any, .any, .any, .any, .any, .any, .any, .any, .any, .any, .any, .any]
def pb3_2x1 : List PB := [.cells [.ch 2], .row 2, .chn 0]
def ini3_2x1 (s : St) : W3_2 := ⟨rC 1 (aC (s.tmps.getD 1 .top)), bC (aC (s.tmps.getD 4 .top)), iC (aC (s.tmps.getD 5 .top)), iC (aC (s.tmps.getD 9 .top)), iC (aC (s.tmps.getD 14 .top)), bR 2 (s.heap.getD 1 .dead), bCap (s.heap.getD 2 .dead), bChn 0 (s.heap.getD 2 .dead)⟩
noncomputable def F3_2x1 : St → Res (Ex × St) := loopF pa3_2x1 pb3_2x1 1000000 hd3_2 gR3_2 ini3_2x1 false
theorem F3_2x1_ok (s : St) (r : Ex × St) (h : (F3_2x1 s).eval = some r) : (codeR e3 0 (.block 2 (.loop lb3_2)) s).eval = some r :=
  blk_ok (e := e3) (T := lookT []) (fun s v => by kernel_rfl) (fun s => by kernel_rfl) (tab_nil) s r h
def pa3_2x2 : List PA := [.any, .c (.rs 1), .any, .any, .c (.bool), .c (.int .i64), .c (.ptr 0 0), .any, .c (.slw 5), .c (.int .i64), .any, .any, .c (.slw 3), .any, .c (.int .i64), .top, .top, .top, .any, .any, .any, .any, .any, .any, .any, .any, .any, .any, .any, .any, .any, .any, .any, .any, .any, .any, .any, .any, .any, .any, .any, .any, .any, .any, .any, .any, .any, .any, .any, .any, .any, .any, .any, .any, .any, .any, .any, .any, .any, .any, .any, .any, .any, .any, .any, .any, .any, .any, .any, .any, .any, .any, .any, .any, .any, .any, .any, .any, .any, .any, .any, .any, .any, .any, .any, .any, .any, .any, .any, .any, .any, .any, .any, .any, .any, .any, .any, .any, .any, .any, .any, .any, .any, .any, .any, .any, .any, .any, .any, .any, .any, .any, .any, .any, .any, .any, .any, .any, .any, .any, .any, .any, .any, .any, .any, .any, .any, .any, .any, .any, .any, .any, .any, .any, .any, .any, .any, .any, .any, .any, .any, .any, .any, .any, .any, .any, .any, .any, .any, .any, .any, .any, .any, .any, .any, .any, .any, .any, .any, .any, .any, .any]
def pb3_2x2 : List PB := [.cells [.ch 2], .dead, .chn 0, .row 0, .cells [.rs 0], .row 2]
def ini3_2x2 (s : St) : W3_2v1 := ⟨rC 1 (aC (s.tmps.getD 1 .top)), bC (aC (s.tmps.getD 4 .top)), iC (aC (s.tmps.getD 5 .top)), iC (aC (s.tmps.getD 9 .top)), iC (aC (s.tmps.getD 14 .top)), bR 2 (s.heap.getD 5 .dead), bR 0 (s.heap.getD 3 .dead), bCap (s.heap.getD 2 .dead), bChn 0 (s.heap.getD 2 .dead)⟩
noncomputable def F3_2x2 : St → Res (Ex × St) := loopF pa3_2x2 pb3_2x2 1000000 hd3_2v1 gR3_2v1 ini3_2x2 false
theorem F3_2x2_ok (s : St) (r : Ex × St) (h : (F3_2x2 s).eval = some r) : (codeR e3 0 (.block 2 (.loop lb3_2)) s).eval = some r :=
  blk_ok (e := e3) (T := lookT []) (fun s v => by kernel_rfl) (fun s => by kernel_rfl) (tab_nil) s r h
def pa3_2x3 : List PA := [.any, .c (.rs 1), .any, .any, .c (.bool), .c (.int .i64), .c (.ptr 0 0), .any, .c (.slw 6), .c (.int .i64), .any, .any, .c (.slw 3), .any, .c (.int .i64), .top, .top, .top, .any, .any, .any, .any, .any, .any, .any, .any, .any, .any, .any, .any, .any, .any, .any, .any, .any, .any, .any, .any, .any, .any, .any, .any, .any, .any, .any, .any, .any, .any, .any, .any, .any, .any, .any, .any, .any, .any, .any, .any, .any, .any, .any, .any, .any, .any, .any, .any, .any, .any, .any, .any, .any, .any, .any, .any, .any, .any, .any, .any, .any, .any, .any, .any, .any, .any, .any, .any, .any, .any, .any, .any, .any, .any, .any, .any, .any, .any, .any, .any, .any, .any, .any, .any, .any, .any, .any, .any, .any, .any, .any, .any, .any, .any, .any, .any, .any, .any, .any, .any, .any, .any, .any, .any, .any, .any, .any, .any, .any, .any, .any, .any, .any, .any, .any, .any, .any, .any, .any, .any, .any, .any, .any, .any, .any, .any, .any, .any, .any, .any, .any, .any, .any, .any, .any, .any, .any, .any, .any, .any, .any, .any, .any, .any]
def pb3_2x3 : List PB := [.cells [.ch 2], .dead, .chn 0, .row 0, .dead, .cells [.rs 0], .row 2]
def ini3_2x3 (s : St) : W3_2v1 := ⟨rC 1 (aC (s.tmps.getD 1 .top)), bC (aC (s.tmps.getD 4 .top)), iC (aC (s.tmps.getD 5 .top)), iC (aC (s.tmps.getD 9 .top)), iC (aC (s.tmps.getD 14 .top)), bR 2 (s.heap.getD 6 .dead), bR 0 (s.heap.getD 3 .dead), bCap (s.heap.getD 2 .dead), bChn 0 (s.heap.getD 2 .dead)⟩
noncomputable def F3_2x3 : St → Res (Ex × St) := loopF pa3_2x3 pb3_2x3 1000000 hd3_2v1 gR3_2v1 ini3_2x3 false
theorem F3_2x3_ok (s : St) (r : Ex × St) (h : (F3_2x3 s).eval = some r) : (codeR e3 0 (.block 2 (.loop lb3_2)) s).eval = some r :=
  blk_ok (e := e3) (T := lookT []) (fun s v => by kernel_rfl) (fun s => by kernel_rfl) (tab_nil) s r h
def pa3_2x4 : List PA := [.any, .c (.rs 1), .any, .any, .c (.bool), .c (.int .i64), .c (.ptr 0 0), .any, .c (.slw 1), .c (.int .i64), .any, .any, .c (.slw 3), .any, .c (.int .i64), .top, .top, .top, .any, .any, .any, .any, .any, .any, .any, .any, .any, .any, .any, .any, .any, .any, .any, .any, .any, .any, .any, .any, .any, .any, .any, .any, .any, .any, .any, .any, .any, .any, .any, .any, .any, .any, .any, .any, .any, .any, .any, .any, .any, .any, .any, .any, .any, .any, .any, .any, .any, .any, .any, .any, .any, .any, .any, .any, .any, .any, .any, .any, .any, .any, .any, .any, .any, .any, .any, .any, .any, .any, .any, .any, .any, .any, .any, .any, .any, .any, .any, .any, .any, .any, .any, .any, .any, .any, .any, .any, .any, .any, .any, .any, .any, .any, .any, .any, .any, .any, .any, .any, .any, .any, .any, .any, .any, .any, .any, .any, .any, .any, .any, .any, .any, .any, .any, .any, .any, .any, .any, .any, .any, .any, .any, .any, .any, .any, .any, .any, .any, .any, .any, .any, .any, .any, .any, .any, .any, .any, .any, .any, .any, .any, .any, .any]
def pb3_2x4 : List PB := [.cells [.ch 2], .row 2, .chn 0, .row 0]
def ini3_2x4 (s : St) : W3_2v1 := ⟨rC 1 (aC (s.tmps.getD 1 .top)), bC (aC (s.tmps.getD 4 .top)), iC (aC (s.tmps.getD 5 .top)), iC (aC (s.tmps.getD 9 .top)), iC (aC (s.tmps.getD 14 .top)), bR 2 (s.heap.getD 1 .dead), bR 0 (s.heap.getD 3 .dead), bCap (s.heap.getD 2 .dead), bChn 0 (s.heap.getD 2 .dead)⟩
noncomputable def F3_2x4 : St → Res (Ex × St) := loopF pa3_2x4 pb3_2x4 1000000 hd3_2v1 gR3_2v1 ini3_2x4 false
theorem F3_2x4_ok (s : St) (r : Ex × St) (h : (F3_2x4 s).eval = some r) : (codeR e3 0 (.block 2 (.loop lb3_2)) s).eval = some r :=
  blk_ok (e := e3) (T := lookT []) (fun s v => by kernel_rfl) (fun s => by kernel_rfl) (tab_nil) s r h
noncomputable def F3_2 : St → Res (Ex × St) := (orF pa3_2x0 pb3_2x0 F3_2x0 (orF pa3_2x1 pb3_2x1 F3_2x1 (orF pa3_2x2 pb3_2x2 F3_2x2 (orF pa3_2x3 pb3_2x3 F3_2x3 F3_2x4))))
theorem F3_2_ok (s : St) (r : Ex × St) (h : (F3_2 s).eval = some r) : (codeR e3 0 (.block 2 (.loop lb3_2)) s).eval = some r := (orF_ok F3_2x0_ok (orF_ok F3_2x1_ok (orF_ok F3_2x2_ok (orF_ok F3_2x3_ok F3_2x4_ok)))) s r h
structure W3_0 where
  a0 : List S1
  a1 : Bool
  a2 : Int
  a3 : Int
  a4 : List S2
  a5 : Nat
  a6 : List (List S0)
def hd3_0 (v : W3_0) : St := ⟨[.top, .c (.rs 1 v.a0), .top, .top, .c (.bool v.a1), .c (.int .i64 v.a2), .c (.ptr 0 0), .top, .c (.slw 1), .c (.int .i64 v.a3), .top, .top, .top, .top, .top, .top, .top, .top, .top, .top, .top, .top, .top, .top, .top, .top, .top, .top, .top, .top, .top, .top, .top, .top, .top, .top, .top, .top, .top, .top, .top, .top, .top, .top, .top, .top, .top, .top, .top, .top, .top, .top, .top, .top, .top, .top, .top, .top, .top, .top, .top, .top, .top, .top, .top, .top, .top, .top, .top, .top, .top, .top, .top, .top, .top, .top, .top, .top, .top, .top, .top, .top, .top, .top, .top, .top, .top, .top, .top, .top, .top, .top, .top, .top, .top, .top, .top, .top, .top, .top, .top, .top, .top, .top, .top, .top, .top, .top, .top, .top, .top, .top, .top, .top, .top, .top, .top, .top, .top, .top, .top, .top, .top, .top, .top, .top, .top, .top, .top, .top, .top, .top, .top, .top, .top, .top, .top, .top, .top, .top, .top, .top, .top, .top, .top, .top, .top, .top, .top, .top, .top, .top, .top, .top, .top, .top, .top, .top, .top, .top, .top, .top], [.cells [.ch 2], .row 2 v.a4, .chn 0 v.a5 v.a6]⟩
structure U3_0 where
  a0 : Bool
def hu3_0 (u : U3_0) : St := ⟨[.top, .top, .top, .top, .c (.bool u.a0), .top, .top, .top, .top, .top, .top, .top, .top, .top, .top, .top, .top, .top, .top, .top, .top, .top, .top, .top, .top, .top, .top, .top, .top, .top, .top, .top, .top, .top, .top, .top, .top, .top, .top, .top, .top, .top, .top, .top, .top, .top, .top, .top, .top, .top, .top, .top, .top, .top, .top, .top, .top, .top, .top, .top, .top, .top, .top, .top, .top, .top, .top, .top, .top, .top, .top, .top, .top, .top, .top, .top, .top, .top, .top, .top, .top, .top, .top, .top, .top, .top, .top, .top, .top, .top, .top, .top, .top, .top, .top, .top, .top, .top, .top, .top, .top, .top, .top, .top, .top, .top, .top, .top, .top, .top, .top, .top, .top, .top, .top, .top, .top, .top, .top, .top, .top, .top, .top, .top, .top, .top, .top, .top, .top, .top, .top, .top, .top, .top, .top, .top, .top, .top, .top, .top, .top, .top, .top, .top, .top, .top, .top, .top, .top, .top, .top, .top, .top, .top, .top, .top, .top, .top, .top, .top, .top, .top], []⟩
def gR3_0 (v : W3_0) : Tr (W3_0 ⊕ (W3_0 ⊕ U3_0)) :=
  .br (bif (decide (v.a3 < (v.a0.length : Int))) then (decide (v.a3 < 80)) else false) (
   .br (decide (0 ≤ v.a3)) (
    .opt (v.a0[Int.toNat v.a3]?) fun y68 =>
     .br ((remI y68.f0 2) == 0) (
      .br (List.isEmpty v.a6) (
       .br (!(false == (decide ((v.a4.length : Int) > 0)))) (
        .leaf (.inr (.inr ⟨false⟩))) (
        let z71 := g10_0 (V10_0.mk (v.a5) (v.a6))
        .br (!(decide (z71.b0 > v.a2))) (
         let z72 := g10_0 (V10_0.mk (v.a5) (v.a6))
         let z73 := g11_0 (V11_0.mk (v.a5) (v.a6))
         .br ((IntKind.i64.wrap (z72.b0 + z73.b0)) != v.a2) (
          .leaf (.inr (.inr ⟨false⟩))) (
          .opt (g12_0 (V12_0.mk (v.a5) (v.a6))) fun z74 =>
           .opt (iter gR3_4 1000000 (W3_4.mk (v.a0) (v.a1) (v.a2) (v.a3) (0) (v.a4) (z74.b2) (z74.b0) (z74.b1))) fun r85 =>
            .br r85.1 (
             .fail) (
             .leaf (.inl (W3_0.mk (r85.2.a0) (r85.2.a1) (r85.2.a2) ((IntKind.i64.wrap (r85.2.a3 + 1))) (r85.2.a5) (r85.2.a7) (r85.2.a8)))))) (
         .leaf (.inr (.inr ⟨false⟩))))) (
       .opt (List.head? v.a6) fun y70 =>
        .br (!(true == (decide ((v.a4.length : Int) > 0)))) (
         .leaf (.inr (.inr ⟨false⟩))) (
         .br (decide (0 ≤ 0) && decide (0 < (v.a4.length : Int))) (
          .opt (v.a4[(Int.toNat 0)]?) fun y86 =>
           .br (!((strO 0 y70) == (strO 0 y86.f0))) (
            .leaf (.inr (.inr ⟨false⟩))) (
            .br (decide (0 ≤ 1) && decide (1 ≤ (v.a4.length : Int)) && Nat.blt 0 v.a4.length) (
             let z87 := g10_0 (V10_0.mk (v.a5) ((List.tail v.a6)))
             .br (!(decide (z87.b0 > v.a2))) (
              let z88 := g10_0 (V10_0.mk (v.a5) ((List.tail v.a6)))
              let z89 := g11_0 (V11_0.mk (v.a5) ((List.tail v.a6)))
              .br ((IntKind.i64.wrap (z88.b0 + z89.b0)) != v.a2) (
               .leaf (.inr (.inr ⟨false⟩))) (
               .opt (g12_0 (V12_0.mk (v.a5) ((List.tail v.a6)))) fun z90 =>
                .opt (iter gR3_4 1000000 (W3_4.mk (v.a0) (v.a1) (v.a2) (v.a3) (0) ((List.drop (Int.toNat 1) v.a4)) (z90.b2) (z90.b0) (z90.b1))) fun r91 =>
                 .br r91.1 (
                  .fail) (
                  .leaf (.inl (W3_0.mk (r91.2.a0) (r91.2.a1) (r91.2.a2) ((IntKind.i64.wrap (r91.2.a3 + 1))) (r91.2.a5) (r91.2.a7) (r91.2.a8)))))) (
              .leaf (.inr (.inr ⟨false⟩)))) (
             .fail))) (
          .fail)))) (
      .br (decide (0 ≤ v.a3)) (
       .opt (v.a0[Int.toNat v.a3]?) fun y92 =>
        .br (decide (0 ≤ v.a3)) (
         .opt (v.a0[Int.toNat v.a3]?) fun y93 =>
          .br (decide (0 ≤ (mnI (y93.f1.length : Int) 100)) && decide ((mnI (y93.f1.length : Int) 100) ≤ (y92.f1.length : Int))) (
           .br ((List.take (Int.toNat (mnI (y93.f1.length : Int) 100)) y92.f1).isEmpty) (
            .opt (g9_2 (V9_2.mk (v.a5) (v.a6))) fun z94 =>
             .br (!((z94.b0 == 0) == (decide ((v.a4.length : Int) < v.a2)))) (
              .leaf (.inr (.inr ⟨false⟩))) (
              .br (z94.b0 == 0) (
               .br (Nat.ble (v.a4.length + 1) 140737488355328 && Nat.ble ((v.a4.length + 1) * 24) 140737488355328) (
                .opt (iter gR3_2 1000000 (W3_2.mk (v.a0) (v.a1) (v.a2) (v.a3) (0) ((v.a4 ++ [(S2.mk [])])) (v.a5) (z94.b1))) fun r95 =>
                 .br r95.1 (
                  .fail) (
                  let z96 := g10_0 (V10_0.mk (r95.2.a6) (r95.2.a7))
                  .br (!(decide (z96.b0 > r95.2.a2))) (
                   let z97 := g10_0 (V10_0.mk (r95.2.a6) (r95.2.a7))
                   let z98 := g11_0 (V11_0.mk (r95.2.a6) (r95.2.a7))
                   .br ((IntKind.i64.wrap (z97.b0 + z98.b0)) != r95.2.a2) (
                    .leaf (.inr (.inr ⟨false⟩))) (
                    .opt (g12_0 (V12_0.mk (r95.2.a6) (r95.2.a7))) fun z99 =>
                     .opt (iter gR3_4v1 1000000 (W3_4v1.mk (r95.2.a0) (r95.2.a1) (r95.2.a2) (r95.2.a3) (r95.2.a4) (0) (r95.2.a5) (z99.b2) (z99.b0) (z99.b1))) fun r110 =>
                      .br r110.1 (
                       .fail) (
                       .leaf (.inl (W3_0.mk (r110.2.a0) (r110.2.a1) (r110.2.a2) ((IntKind.i64.wrap (r110.2.a3 + 1))) (r110.2.a6) (r110.2.a8) (r110.2.a9)))))) (
                   .leaf (.inr (.inr ⟨false⟩))))) (
                .fail)) (
               .opt (iter gR3_2 1000000 (W3_2.mk (v.a0) (v.a1) (v.a2) (v.a3) (0) (v.a4) (v.a5) (z94.b1))) fun r111 =>
                .br r111.1 (
                 .fail) (
                 let z112 := g10_0 (V10_0.mk (r111.2.a6) (r111.2.a7))
                 .br (!(decide (z112.b0 > r111.2.a2))) (
                  let z113 := g10_0 (V10_0.mk (r111.2.a6) (r111.2.a7))
                  let z114 := g11_0 (V11_0.mk (r111.2.a6) (r111.2.a7))
                  .br ((IntKind.i64.wrap (z113.b0 + z114.b0)) != r111.2.a2) (
                   .leaf (.inr (.inr ⟨false⟩))) (
                   .opt (g12_0 (V12_0.mk (r111.2.a6) (r111.2.a7))) fun z115 =>
                    .opt (iter gR3_4v1 1000000 (W3_4v1.mk (r111.2.a0) (r111.2.a1) (r111.2.a2) (r111.2.a3) (r111.2.a4) (0) (r111.2.a5) (z115.b2) (z115.b0) (z115.b1))) fun r116 =>
                     .br r116.1 (
                      .fail) (
                      .leaf (.inl (W3_0.mk (r116.2.a0) (r116.2.a1) (r116.2.a2) ((IntKind.i64.wrap (r116.2.a3 + 1))) (r116.2.a6) (r116.2.a8) (r116.2.a9)))))) (
                  .leaf (.inr (.inr ⟨false⟩))))))) (
            .br (Nat.ble (0 + (List.take (Int.toNat (mnI (y93.f1.length : Int) 100)) y92.f1).length) 140737488355328 && Nat.ble ((0 + (List.take (Int.toNat (mnI (y93.f1.length : Int) 100)) y92.f1).length) * 1) 140737488355328) (
             .opt (g9_1 (V9_1.mk ((List.take (Int.toNat (mnI (y93.f1.length : Int) 100)) y92.f1)) (v.a5) (v.a6))) fun z117 =>
              .br (!((z117.b0 == 0) == (decide ((v.a4.length : Int) < v.a2)))) (
               .leaf (.inr (.inr ⟨false⟩))) (
               .br (z117.b0 == 0) (
                .br ((List.take (Int.toNat (mnI (y93.f1.length : Int) 100)) y92.f1).isEmpty) (
                 .br (Nat.ble (v.a4.length + 1) 140737488355328 && Nat.ble ((v.a4.length + 1) * 24) 140737488355328) (
                  .opt (iter gR3_2v1 1000000 (W3_2v1.mk (v.a0) (v.a1) (v.a2) (v.a3) (0) ((v.a4 ++ [(S2.mk [])])) ((List.take (Int.toNat (mnI (y93.f1.length : Int) 100)) y92.f1)) (v.a5) (z117.b1))) fun r120 =>
                   .br r120.1 (
                    .fail) (
                    let z121 := g10_0 (V10_0.mk (r120.2.a7) (r120.2.a8))
                    .br (!(decide (z121.b0 > r120.2.a2))) (
                     let z122 := g10_0 (V10_0.mk (r120.2.a7) (r120.2.a8))
                     let z123 := g11_0 (V11_0.mk (r120.2.a7) (r120.2.a8))
                     .br ((IntKind.i64.wrap (z122.b0 + z123.b0)) != r120.2.a2) (
                      .leaf (.inr (.inr ⟨false⟩))) (
                      .opt (g12_0 (V12_0.mk (r120.2.a7) (r120.2.a8))) fun z124 =>
                       .opt (iter gR3_4v2 1000000 (W3_4v2.mk (r120.2.a0) (r120.2.a1) (r120.2.a2) (r120.2.a3) (r120.2.a4) (0) (r120.2.a5) (r120.2.a6) (z124.b2) (z124.b0) (z124.b1))) fun r135 =>
                        .br r135.1 (
                         .fail) (
                         .leaf (.inl (W3_0.mk (r135.2.a0) (r135.2.a1) (r135.2.a2) ((IntKind.i64.wrap (r135.2.a3 + 1))) (r135.2.a6) (r135.2.a9) (r135.2.a10)))))) (
                     .leaf (.inr (.inr ⟨false⟩))))) (
                  .fail)) (
                 .br (Nat.ble (0 + (List.take (Int.toNat (mnI (y93.f1.length : Int) 100)) y92.f1).length) 140737488355328 && Nat.ble ((0 + (List.take (Int.toNat (mnI (y93.f1.length : Int) 100)) y92.f1).length) * 1) 140737488355328) (
                  .br (Nat.ble (v.a4.length + 1) 140737488355328 && Nat.ble ((v.a4.length + 1) * 24) 140737488355328) (
                   .opt (iter gR3_2v1 1000000 (W3_2v1.mk (v.a0) (v.a1) (v.a2) (v.a3) (0) ((v.a4 ++ [(S2.mk (List.take (Int.toNat (mnI (y93.f1.length : Int) 100)) y92.f1))])) ((List.take (Int.toNat (mnI (y93.f1.length : Int) 100)) y92.f1)) (v.a5) (z117.b1))) fun r136 =>
                    .br r136.1 (
                     .fail) (
                     let z137 := g10_0 (V10_0.mk (r136.2.a7) (r136.2.a8))
                     .br (!(decide (z137.b0 > r136.2.a2))) (
                      let z138 := g10_0 (V10_0.mk (r136.2.a7) (r136.2.a8))
                      let z139 := g11_0 (V11_0.mk (r136.2.a7) (r136.2.a8))
                      .br ((IntKind.i64.wrap (z138.b0 + z139.b0)) != r136.2.a2) (
                       .leaf (.inr (.inr ⟨false⟩))) (
                       .opt (g12_0 (V12_0.mk (r136.2.a7) (r136.2.a8))) fun z140 =>
                        .opt (iter gR3_4v2 1000000 (W3_4v2.mk (r136.2.a0) (r136.2.a1) (r136.2.a2) (r136.2.a3) (r136.2.a4) (0) (r136.2.a5) (r136.2.a6) (z140.b2) (z140.b0) (z140.b1))) fun r141 =>
                         .br r141.1 (
                          .fail) (
                          .leaf (.inl (W3_0.mk (r141.2.a0) (r141.2.a1) (r141.2.a2) ((IntKind.i64.wrap (r141.2.a3 + 1))) (r141.2.a6) (r141.2.a9) (r141.2.a10)))))) (
                      .leaf (.inr (.inr ⟨false⟩))))) (
                   .fail)) (
                  .fail))) (
                .opt (iter gR3_2v1 1000000 (W3_2v1.mk (v.a0) (v.a1) (v.a2) (v.a3) (0) (v.a4) ((List.take (Int.toNat (mnI (y93.f1.length : Int) 100)) y92.f1)) (v.a5) (z117.b1))) fun r142 =>
                 .br r142.1 (
                  .fail) (
                  let z143 := g10_0 (V10_0.mk (r142.2.a7) (r142.2.a8))
                  .br (!(decide (z143.b0 > r142.2.a2))) (
                   let z144 := g10_0 (V10_0.mk (r142.2.a7) (r142.2.a8))
                   let z145 := g11_0 (V11_0.mk (r142.2.a7) (r142.2.a8))
                   .br ((IntKind.i64.wrap (z144.b0 + z145.b0)) != r142.2.a2) (
                    .leaf (.inr (.inr ⟨false⟩))) (
                    .opt (g12_0 (V12_0.mk (r142.2.a7) (r142.2.a8))) fun z146 =>
                     .opt (iter gR3_4v2 1000000 (W3_4v2.mk (r142.2.a0) (r142.2.a1) (r142.2.a2) (r142.2.a3) (r142.2.a4) (0) (r142.2.a5) (r142.2.a6) (z146.b2) (z146.b0) (z146.b1))) fun r147 =>
                      .br r147.1 (
                       .fail) (
                       .leaf (.inl (W3_0.mk (r147.2.a0) (r147.2.a1) (r147.2.a2) ((IntKind.i64.wrap (r147.2.a3 + 1))) (r147.2.a6) (r147.2.a9) (r147.2.a10)))))) (
                   .leaf (.inr (.inr ⟨false⟩))))))) (
             .fail))) (
           .fail)) (
         .fail)) (
       .fail))) (
    .fail)) (
   .leaf (.inr (.inl (v))))
noncomputable def lb3_0 : Code := match findB 0 (Go.Proofs.Try.f3.body.getD .skip) with | [.loop b] => b | _ => .skip
def pa3_0 : List PA := [.any, .c (.rs 1), .any, .any, .c (.bool), .c (.int .i64), .c (.ptr 0 0), .any, .c (.nils), .c (.int .i64), .any, .any, .top, .any, .top, .top, .top, .top, .any, .any, .any, .any, .any, .any, .any, .any, .any, .any, .any, .any, .any, .any, .any, .any, .any, .any, .any, .any, .any, .any, .any, .any, .any, .any, .any, .any, .any, .any, .any, .any, .any, .any, .any, .any, .any, .any, .any, .any, .any, .any, .any, .any, .any, .any, .any, .any, .any, .any, .any, .any, .any, .any, .any, .any, .any, .any, .any, .any, .any, .any, .any, .any, .any, .any, .any, .any, .any, .any, .any, .any, .any, .any, .any, .any, .any, .any, .any, .any, .any, .any, .any, .any, .any, .any, .any, .any, .any, .any, .any, .any, .any, .any, .any, .any, .any, .any, .any, .any, .any, .any, .any, .any, .any, .any, .any, .any, .any, .any, .any, .any, .any, .any, .any, .any, .any, .any, .any, .any, .any, .any, .any, .any, .any, .any, .any, .any, .any, .any, .any, .any, .any, .any, .any, .any, .any, .any, .any, .any, .any, .any, .any, .any]
def pb3_0 : List PB := [.cells [.ch 1], .chn 0]
def ini3_0 (s : St) : W3_0 := ⟨rC 1 (aC (s.tmps.getD 1 .top)), bC (aC (s.tmps.getD 4 .top)), iC (aC (s.tmps.getD 5 .top)), iC (aC (s.tmps.getD 9 .top)), [], bCap (s.heap.getD 1 .dead), bChn 0 (s.heap.getD 1 .dead)⟩
noncomputable def F3_0 : St → Res (Ex × St) := loopF2 pa3_0 pb3_0 1000000 hd3_0 hu3_0 gR3_0 ini3_0
theorem F3_0_ok (s : St) (r : Ex × St) (h : (F3_0 s).eval = some r) : (codeR e3 0 (.block 0 (.loop lb3_0)) s).eval = some r :=
  blk_ok2 (e := e3) (T := lookT [(2, F3_2), (4, F3_4), (6, F3_6)]) (fun s v => by kernel_rfl) (fun s => by kernel_rfl) (tab_cons (by kernel_rfl) F3_2_ok (tab_cons (by kernel_rfl) F3_4_ok (tab_cons (by kernel_rfl) F3_6_ok (tab_nil)))) s r h
def g3T (x0 : Int) (x1 : List S1) : Tr (Bool) :=
  .br (bif (decide ((IntKind.i64.wrap (1 + (remI (IntKind.i64.wrap x0) 8))) < 1)) then true else (decide ((IntKind.i64.wrap (1 + (remI (IntKind.i64.wrap x0) 8))) > 32))) (
   .leaf (false)) (
   .br (decide (0 ≤ (IntKind.i64.wrap (1 + (remI (IntKind.i64.wrap x0) 8)))) && decide ((IntKind.i64.wrap (1 + (remI (IntKind.i64.wrap x0) 8))) ≤ 9223372036854775807) && decide ((24 : Int) * (IntKind.i64.wrap (1 + (remI (IntKind.i64.wrap x0) 8))) ≤ 281474976710544) && Nat.ble 1 1) (
    .opt (g7 ) fun z67 =>
     .br (!z67) (
      .leaf (false)) (
      .opt (iter2 gR3_0 1000000 (W3_0.mk (x1) (false) ((IntKind.i64.wrap (1 + (remI (IntKind.i64.wrap x0) 8)))) (0) ([]) ((Int.toNat (IntKind.i64.wrap (1 + (remI (IntKind.i64.wrap x0) 8))))) ([]))) fun r148 =>
       .br r148.isRight (
        .opt (r148.getRight?) fun u149 =>
         .leaf (u149.a0)) (
        .opt (r148.getLeft?) fun w150 =>
         .opt (g12_0 (V12_0.mk (w150.a5) (w150.a6))) fun z151 =>
          .opt (g13 (List.map S2.mk z151.b2) w150.a4) fun z152 =>
           .leaf (z152)))) (
    .fail))
def g3 (x0 : Int) (x1 : List S1) : Option (Bool) := (g3T x0 x1).get?
noncomputable def T3 : TL := [(6, F3_6), (4, F3_4), (2, F3_2), (0, F3_0)]
noncomputable def q3 : Ab.Spec := runQ0 e3 (lookT T3) Go.Proofs.Try.f3
theorem q3_ok : SpecOk Go.Proofs.Try.prog 3 q3 := (runQ0_ok (runR_ok  (e := e3) follows (allTI ti_ok _ _ _ _ _) (callsOk_cons s6_ok (callsOk_cons s7_ok (callsOk_cons s8_ok (callsOk_cons s19_ok (callsOk_cons s9_ok (callsOk_cons s20_ok (callsOk_cons s10_ok (callsOk_cons s11_ok (callsOk_cons s12_ok (callsOk_cons s13_ok (callsOk_nil))))))))))) Go.Proofs.Try.func3 Go.Proofs.Try.call3) (fun c hc => by
  have hb : c = Go.Proofs.Try.f3.body.getD .skip := by rw [hc]; rfl
  subst hb
  exact tab_cons (by kernel_rfl) F3_6_ok (tab_cons (by kernel_rfl) F3_4_ok (tab_cons (by kernel_rfl) F3_2_ok (tab_cons (by kernel_rfl) F3_0_ok (tab_nil))))))
theorem g3_run (x0 : Int) (x1 : List S1) : (q3 [.c (.int .u8 x0), .c (.rs 1 x1)] []).eval = (g3T x0 x1).ev fun r => ((.c (.bool r) : AV), ([] : List Blk)) := by kernel_rfl
noncomputable def s3_0 : Ab.Spec := fun args h =>
  dN h <| dL args fun v0 a0 => dC v0 fun c0 => dI .u8 c0 fun x0 => dL a0 fun v1 a1 => dC v1 fun c1 => dR0 1 c1 fun x1 => dN a1 <|
  .opt (g3 x0 x1) fun r => .val (.c (.bool r), [])
theorem s3_0_ok : SpecOk Go.Proofs.Try.prog 3 s3_0 :=
  q3_ok.less fun args hs r h => by
    unfold s3_0 at h
    obtain ⟨rfl, hh1⟩ := dN_inv h
    obtain ⟨v0, a0, rfl, hh2⟩ := dL_inv hh1
    obtain ⟨c0, rfl, hh3⟩ := dC_inv hh2
    obtain ⟨x0, rfl, hh4⟩ := dI_inv hh3
    obtain ⟨v1, a1, rfl, hh5⟩ := dL_inv hh4
    obtain ⟨c1, rfl, hh6⟩ := dC_inv hh5
    obtain ⟨x1, rfl, hh7⟩ := dR0_inv hh6
    obtain ⟨rfl, hh8⟩ := dN_inv hh7
    rw [g3_run, Tr.ev_get?]
    change (Res.opt (g3 x0 x1) _).eval = some r at hh8
    rw [eval_opt] at hh8
    obtain ⟨z, hz, hh9⟩ := Option.bind_eq_some_iff.mp hh8
    unfold g3 at hz
    rw [hz]; exact hh9
noncomputable def s3 : Ab.Spec := fun args h => s3_0 (coeA [[], [some 1]] args) h
theorem s3_ok : SpecOk Go.Proofs.Try.prog 3 s3 := s3_0_ok.pre [[], [some 1]]
end Ab21o
