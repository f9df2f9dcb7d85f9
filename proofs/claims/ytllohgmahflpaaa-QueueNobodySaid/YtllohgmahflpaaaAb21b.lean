/- Seat 21: the functions. -/
import Derived.Test.YtllohgmahflpaaaAb21a
set_option maxRecDepth 100000
set_option maxHeartbeats 4000000
set_option linter.unusedVariables false
set_option linter.unusedSimpArgs false
namespace Ab21
open Go Ab
/-- pontage/queue.New -/
noncomputable def L6 : SL := []
noncomputable def e6 : Env := ⟨ti, fun g => lookS g L6, 1000000, [], [], none⟩
noncomputable def s6 : Ab.Spec := runR e6 Go.Proofs.Try.f6
theorem s6_ok : SpecOk Go.Proofs.Try.prog 6 s6 := runR_ok  (e := e6) follows (allTI ti_ok _ _ _ _ _) (callsOk_nil) Go.Proofs.Try.func6 Go.Proofs.Try.call6
/-- pontage/pontageref21.New -/
noncomputable def L14 : SL := []
noncomputable def e14 : Env := ⟨ti, fun g => lookS g L14, 1000000, [], [], none⟩
def g14T (x0 : Int) : Tr (S5 × Int) :=
  .br (bif (decide (x0 < 1)) then true else (decide (x0 > 32))) (
   .leaf ((S5.mk 0 []), 210)) (
   .leaf ((S5.mk x0 []), 0))
def g14 (x0 : Int) : S5 × Int := (g14T x0).get default
noncomputable def T14 : TL := []
noncomputable def q14 : Ab.Spec := frzR [[none, some 2], []] (runQ0 e14 (lookT T14) Go.Proofs.Try.f14)
theorem q14_ok : SpecOk Go.Proofs.Try.prog 14 q14 := (runQ0_ok (runR_ok  (e := e14) follows (allTI ti_ok _ _ _ _ _) (callsOk_nil) Go.Proofs.Try.func14 Go.Proofs.Try.call14) (fun c hc => by
  have hb : c = Go.Proofs.Try.f14.body.getD .skip := by rw [hc]; rfl
  subst hb
  exact tab_nil)).froze [[none, some 2], []]
theorem g14_run (x0 : Int) : (q14 [.c (.int .i64 x0)] []).eval = (g14T x0).ev fun r => ((.tup [some (true, Cod.enc 5 r.1), some (false, [.int .i64 r.2])] : AV), ([] : List Blk)) := by kernel_rfl
noncomputable def s14 : Ab.Spec := fun args h =>
  dN h <| dL args fun v0 a0 => dC v0 fun c0 => dI .i64 c0 fun x0 => dN a0 <|
  let r := g14 x0; .val (.tup [some (true, Cod.enc 5 r.1), some (false, [.int .i64 r.2])], [])
theorem s14_ok : SpecOk Go.Proofs.Try.prog 14 s14 :=
  q14_ok.less fun args hs r h => by
    unfold s14 at h
    obtain ⟨rfl, hh1⟩ := dN_inv h
    obtain ⟨v0, a0, rfl, hh2⟩ := dL_inv hh1
    obtain ⟨c0, rfl, hh3⟩ := dC_inv hh2
    obtain ⟨x0, rfl, hh4⟩ := dI_inv hh3
    obtain ⟨rfl, hh5⟩ := dN_inv hh4
    rw [g14_run, Tr.ev_get (d := default) (by kernel_rfl)]
    exact hh5
/-- (*pontage/queue.Queue).none -/
noncomputable def L19 : SL := []
noncomputable def e19 : Env := ⟨ti, fun g => lookS g L19, 1000000, [], [], none⟩
structure V19_0 where
  a0 : Nat
  a1 : List (List S0)
structure Y19_0 where

  deriving Inhabited
def hS19_0 (v : V19_0) : St := ⟨[.c (.ptr 0 0)], [.cells [.ch 1], .chn 0 v.a0 v.a1]⟩
def iS19_0 (s : St) : V19_0 := ⟨bCap (s.heap.getD 1 .dead), bChn 0 (s.heap.getD 1 .dead)⟩
def aS19_0 : List PA := [.c (.ptr 0 0)]
def bS19_0 : List PB := [.cells [.ch 1], .chn 0]
def g19_0T (v : V19_0) : Tr Y19_0 :=
  .leaf (⟨⟩)
def g19_0 (v : V19_0) : Y19_0 := (g19_0T v).get default
def k19_0 (v : V19_0) (r : Y19_0) : AV × List Blk := (.c (.bool false), [.cells [.ch 1], .chn 0 v.a0 v.a1])
noncomputable def q19_0 : Ab.Spec := runQh 2 e19 (lookT []) Go.Proofs.Try.f19
theorem q19_0_ok : SpecOk Go.Proofs.Try.prog 19 q19_0 := runQh_ok (runR_ok  (e := e19) follows (allTI ti_ok _ _ _ _ _) (callsOk_nil) Go.Proofs.Try.func19 Go.Proofs.Try.call19) (fun c hc => by
  have hb : c = Go.Proofs.Try.f19.body.getD .skip := by rw [hc]; rfl
  subst hb
  exact tab_nil)
theorem g19_0_run (v : V19_0) : (q19_0 (hS19_0 v).tmps (hS19_0 v).heap).eval = (g19_0T v).ev (k19_0 v) := by kernel_rfl
noncomputable def sp19_0 (v : V19_0) : Res (AV × List Blk) := let r := g19_0 v; .val (k19_0 v r)
theorem sp19_0_ok (v : V19_0) (r : AV × List Blk) (h : (sp19_0 v).eval = some r) : (q19_0 (hS19_0 v).tmps (hS19_0 v).heap).eval = some r := by
  rw [g19_0_run, Tr.ev_get (d := default) (by kernel_rfl)]
  exact h
structure V19_1 where

structure Y19_1 where

  deriving Inhabited
def hS19_1 (v : V19_1) : St := ⟨[.c (.nilp)], []⟩
def iS19_1 (s : St) : V19_1 := ⟨⟩
def aS19_1 : List PA := [.c (.nilp)]
def bS19_1 : List PB := []
def g19_1T (v : V19_1) : Tr Y19_1 :=
  .leaf (⟨⟩)
def g19_1 (v : V19_1) : Y19_1 := (g19_1T v).get default
def k19_1 (v : V19_1) (r : Y19_1) : AV × List Blk := (.c (.bool true), [])
noncomputable def q19_1 : Ab.Spec := runQh 0 e19 (lookT []) Go.Proofs.Try.f19
theorem q19_1_ok : SpecOk Go.Proofs.Try.prog 19 q19_1 := runQh_ok (runR_ok  (e := e19) follows (allTI ti_ok _ _ _ _ _) (callsOk_nil) Go.Proofs.Try.func19 Go.Proofs.Try.call19) (fun c hc => by
  have hb : c = Go.Proofs.Try.f19.body.getD .skip := by rw [hc]; rfl
  subst hb
  exact tab_nil)
theorem g19_1_run (v : V19_1) : (q19_1 (hS19_1 v).tmps (hS19_1 v).heap).eval = (g19_1T v).ev (k19_1 v) := by kernel_rfl
noncomputable def sp19_1 (v : V19_1) : Res (AV × List Blk) := let r := g19_1 v; .val (k19_1 v r)
theorem sp19_1_ok (v : V19_1) (r : AV × List Blk) (h : (sp19_1 v).eval = some r) : (q19_1 (hS19_1 v).tmps (hS19_1 v).heap).eval = some r := by
  rw [g19_1_run, Tr.ev_get (d := default) (by kernel_rfl)]
  exact h
structure V19_2 where

structure Y19_2 where

  deriving Inhabited
def hS19_2 (v : V19_2) : St := ⟨[.c (.ptr 0 0)], [.cells [.nilch]]⟩
def iS19_2 (s : St) : V19_2 := ⟨⟩
def aS19_2 : List PA := [.c (.ptr 0 0)]
def bS19_2 : List PB := [.cells [.nilch]]
def g19_2T (v : V19_2) : Tr Y19_2 :=
  .leaf (⟨⟩)
def g19_2 (v : V19_2) : Y19_2 := (g19_2T v).get default
def k19_2 (v : V19_2) (r : Y19_2) : AV × List Blk := (.c (.bool true), [.cells [.nilch]])
noncomputable def q19_2 : Ab.Spec := runQh 1 e19 (lookT []) Go.Proofs.Try.f19
theorem q19_2_ok : SpecOk Go.Proofs.Try.prog 19 q19_2 := runQh_ok (runR_ok  (e := e19) follows (allTI ti_ok _ _ _ _ _) (callsOk_nil) Go.Proofs.Try.func19 Go.Proofs.Try.call19) (fun c hc => by
  have hb : c = Go.Proofs.Try.f19.body.getD .skip := by rw [hc]; rfl
  subst hb
  exact tab_nil)
theorem g19_2_run (v : V19_2) : (q19_2 (hS19_2 v).tmps (hS19_2 v).heap).eval = (g19_2T v).ev (k19_2 v) := by kernel_rfl
noncomputable def sp19_2 (v : V19_2) : Res (AV × List Blk) := let r := g19_2 v; .val (k19_2 v r)
theorem sp19_2_ok (v : V19_2) (r : AV × List Blk) (h : (sp19_2 v).eval = some r) : (q19_2 (hS19_2 v).tmps (hS19_2 v).heap).eval = some r := by
  rw [g19_2_run, Tr.ev_get (d := default) (by kernel_rfl)]
  exact h
noncomputable def s19 : Ab.Spec := shapeS aS19_2 bS19_2 (fun args h => sp19_2 (iS19_2 ⟨args, h⟩)) (shapeS aS19_1 bS19_1 (fun args h => sp19_1 (iS19_1 ⟨args, h⟩)) (shapeS aS19_0 bS19_0 (fun args h => sp19_0 (iS19_0 ⟨args, h⟩)) (runR e19 Go.Proofs.Try.f19)))
theorem s19_ok : SpecOk Go.Proofs.Try.prog 19 s19 := shape_ok hS19_2 iS19_2 q19_2_ok (shape_ok hS19_1 iS19_1 q19_1_ok (shape_ok hS19_0 iS19_0 q19_0_ok ((runR_ok  (e := e19) follows (allTI ti_ok _ _ _ _ _) (callsOk_nil) Go.Proofs.Try.func19 Go.Proofs.Try.call19)) (fun s => by kernel_rfl) sp19_0_ok) (fun s => by kernel_rfl) sp19_1_ok) (fun s => by kernel_rfl) sp19_2_ok
/-- slices.Clone[[]byte,byte] -/
noncomputable def L20 : SL := []
noncomputable def e20 : Env := ⟨ti, fun g => lookS g L20, 1000000, [], [], none⟩
theorem s20_a : (runR e20 Go.Proofs.Try.f20 [.c (.rn true 0 [])] []).eval = some (.c .nils, []) := by kernel_rfl
theorem s20_b (L : List S0) : (runR e20 Go.Proofs.Try.f20 [.c (.rn false 0 L)] []).eval = bif L.isEmpty then some (.c .ez, []) else bif cloneB 0 1 L then some (.c (.slw 0), [.row 0 L]) else none := by
  cases L with
  | nil => kernel_rfl
  | cons x L => kernel_rfl
noncomputable def s20 : Ab.Spec := fun args h => cloneS 0 1 (coeA [[some 0]] args) h
theorem s20_ok : SpecOk Go.Proofs.Try.prog 20 s20 := (clone_ok (e := e20) (c := 0) (bytes := 1) (runR_ok  (e := e20) follows (allTI ti_ok _ _ _ _ _) (callsOk_nil) Go.Proofs.Try.func20 Go.Proofs.Try.call20) s20_a s20_b).pre [[some 0]]
/-- (*pontage/queue.Queue).Put -/
noncomputable def L9 : SL := [(19, .byHeap, s19), (20, .byNew, s20)]
noncomputable def e9 : Env := ⟨ti, fun g => lookS g L9, 1000000, [], [], none⟩
structure V9_0 where
  a0 : List S0
  a1 : Nat
  a2 : List (List S0)
structure Y9_0 where
  b0 : Int
  b1 : List (List S0)
  deriving Inhabited
def hS9_0 (v : V9_0) : St := ⟨[.c (.ptr 0 0), .c (.rs 0 v.a0)], [.cells [.ch 2], .dead, .chn 0 v.a1 v.a2]⟩
def iS9_0 (s : St) : V9_0 := ⟨rC 0 (aC (s.tmps.getD 1 .top)), bCap (s.heap.getD 2 .dead), bChn 0 (s.heap.getD 2 .dead)⟩
def aS9_0 : List PA := [.c (.ptr 0 0), .c (.rs 0)]
def bS9_0 : List PB := [.cells [.ch 2], .dead, .chn 0]
def g9_0T (v : V9_0) : Tr Y9_0 :=
  .br (decide ((v.a0.length : Int) > 2048)) (
   .leaf (⟨2, v.a2⟩)) (
   .br (v.a0.isEmpty || cloneB 0 1 v.a0) (
    .br (decide (v.a2.length < v.a1)) (
     .leaf (⟨0, (v.a2 ++ [v.a0])⟩)) (
     .leaf (⟨71, v.a2⟩))) (
    .fail))
def g9_0 (v : V9_0) : Option Y9_0 := (g9_0T v).get?
def k9_0 (v : V9_0) (r : Y9_0) : AV × List Blk := (.c (.int .i64 r.b0), [.cells [.ch 2], .dead, .chn 0 v.a1 r.b1])
noncomputable def q9_0 : Ab.Spec := runSh 3 e9 Go.Proofs.Try.f9
theorem q9_0_ok : SpecOk Go.Proofs.Try.prog 9 q9_0 := runSh_ok (runS_ok  (e := e9) follows (allTI ti_ok _ _ _ _ _) (callsOk_cons s19_ok (callsOk_cons s20_ok (callsOk_nil))) Go.Proofs.Try.func9 Go.Proofs.Try.call9)
theorem g9_0_run (v : V9_0) : (q9_0 (hS9_0 v).tmps (hS9_0 v).heap).eval = (g9_0T v).ev (k9_0 v) := by kernel_rfl
noncomputable def sp9_0 (v : V9_0) : Res (AV × List Blk) := .opt (g9_0 v) fun r => .val (k9_0 v r)
theorem sp9_0_ok (v : V9_0) (r : AV × List Blk) (h : (sp9_0 v).eval = some r) : (q9_0 (hS9_0 v).tmps (hS9_0 v).heap).eval = some r := by
  rw [g9_0_run, Tr.ev_get?]
  unfold sp9_0 at h
  rw [eval_opt] at h
  obtain ⟨z, hz, h⟩ := Option.bind_eq_some_iff.mp h
  unfold g9_0 at hz
  rw [hz]; exact h
structure V9_1 where
  a0 : List S0
structure Y9_1 where

  deriving Inhabited
def hS9_1 (v : V9_1) : St := ⟨[.c (.nilp), .c (.rs 0 v.a0)], []⟩
def iS9_1 (s : St) : V9_1 := ⟨rC 0 (aC (s.tmps.getD 1 .top))⟩
def aS9_1 : List PA := [.c (.nilp), .c (.rs 0)]
def bS9_1 : List PB := []
def g9_1T (v : V9_1) : Tr Y9_1 :=
  .leaf (⟨⟩)
def g9_1 (v : V9_1) : Y9_1 := (g9_1T v).get default
def k9_1 (v : V9_1) (r : Y9_1) : AV × List Blk := (.c (.int .i64 4), [])
noncomputable def q9_1 : Ab.Spec := runSh 0 e9 Go.Proofs.Try.f9
theorem q9_1_ok : SpecOk Go.Proofs.Try.prog 9 q9_1 := runSh_ok (runS_ok  (e := e9) follows (allTI ti_ok _ _ _ _ _) (callsOk_cons s19_ok (callsOk_cons s20_ok (callsOk_nil))) Go.Proofs.Try.func9 Go.Proofs.Try.call9)
theorem g9_1_run (v : V9_1) : (q9_1 (hS9_1 v).tmps (hS9_1 v).heap).eval = (g9_1T v).ev (k9_1 v) := by kernel_rfl
noncomputable def sp9_1 (v : V9_1) : Res (AV × List Blk) := let r := g9_1 v; .val (k9_1 v r)
theorem sp9_1_ok (v : V9_1) (r : AV × List Blk) (h : (sp9_1 v).eval = some r) : (q9_1 (hS9_1 v).tmps (hS9_1 v).heap).eval = some r := by
  rw [g9_1_run, Tr.ev_get (d := default) (by kernel_rfl)]
  exact h
structure V9_2 where
  a0 : List S0
  a1 : Nat
  a2 : List (List S0)
structure Y9_2 where
  b0 : Int
  b1 : List (List S0)
  deriving Inhabited
def hS9_2 (v : V9_2) : St := ⟨[.c (.ptr 0 0), .c (.rs 0 v.a0)], [.cells [.ch 1], .chn 0 v.a1 v.a2]⟩
def iS9_2 (s : St) : V9_2 := ⟨rC 0 (aC (s.tmps.getD 1 .top)), bCap (s.heap.getD 1 .dead), bChn 0 (s.heap.getD 1 .dead)⟩
def aS9_2 : List PA := [.c (.ptr 0 0), .c (.rs 0)]
def bS9_2 : List PB := [.cells [.ch 1], .chn 0]
def g9_2T (v : V9_2) : Tr Y9_2 :=
  .br (decide ((v.a0.length : Int) > 2048)) (
   .leaf (⟨2, v.a2⟩)) (
   .br (v.a0.isEmpty || cloneB 0 1 v.a0) (
    .br (decide (v.a2.length < v.a1)) (
     .leaf (⟨0, (v.a2 ++ [v.a0])⟩)) (
     .leaf (⟨71, v.a2⟩))) (
    .fail))
def g9_2 (v : V9_2) : Option Y9_2 := (g9_2T v).get?
def k9_2 (v : V9_2) (r : Y9_2) : AV × List Blk := (.c (.int .i64 r.b0), [.cells [.ch 1], .chn 0 v.a1 r.b1])
noncomputable def q9_2 : Ab.Spec := runSh 2 e9 Go.Proofs.Try.f9
theorem q9_2_ok : SpecOk Go.Proofs.Try.prog 9 q9_2 := runSh_ok (runS_ok  (e := e9) follows (allTI ti_ok _ _ _ _ _) (callsOk_cons s19_ok (callsOk_cons s20_ok (callsOk_nil))) Go.Proofs.Try.func9 Go.Proofs.Try.call9)
theorem g9_2_run (v : V9_2) : (q9_2 (hS9_2 v).tmps (hS9_2 v).heap).eval = (g9_2T v).ev (k9_2 v) := by kernel_rfl
noncomputable def sp9_2 (v : V9_2) : Res (AV × List Blk) := .opt (g9_2 v) fun r => .val (k9_2 v r)
theorem sp9_2_ok (v : V9_2) (r : AV × List Blk) (h : (sp9_2 v).eval = some r) : (q9_2 (hS9_2 v).tmps (hS9_2 v).heap).eval = some r := by
  rw [g9_2_run, Tr.ev_get?]
  unfold sp9_2 at h
  rw [eval_opt] at h
  obtain ⟨z, hz, h⟩ := Option.bind_eq_some_iff.mp h
  unfold g9_2 at hz
  rw [hz]; exact h
structure V9_3 where
  a0 : List S0
structure Y9_3 where

  deriving Inhabited
def hS9_3 (v : V9_3) : St := ⟨[.c (.ptr 0 0), .c (.rs 0 v.a0)], [.cells [.nilch]]⟩
def iS9_3 (s : St) : V9_3 := ⟨rC 0 (aC (s.tmps.getD 1 .top))⟩
def aS9_3 : List PA := [.c (.ptr 0 0), .c (.rs 0)]
def bS9_3 : List PB := [.cells [.nilch]]
def g9_3T (v : V9_3) : Tr Y9_3 :=
  .leaf (⟨⟩)
def g9_3 (v : V9_3) : Y9_3 := (g9_3T v).get default
def k9_3 (v : V9_3) (r : Y9_3) : AV × List Blk := (.c (.int .i64 4), [.cells [.nilch]])
noncomputable def q9_3 : Ab.Spec := runSh 1 e9 Go.Proofs.Try.f9
theorem q9_3_ok : SpecOk Go.Proofs.Try.prog 9 q9_3 := runSh_ok (runS_ok  (e := e9) follows (allTI ti_ok _ _ _ _ _) (callsOk_cons s19_ok (callsOk_cons s20_ok (callsOk_nil))) Go.Proofs.Try.func9 Go.Proofs.Try.call9)
theorem g9_3_run (v : V9_3) : (q9_3 (hS9_3 v).tmps (hS9_3 v).heap).eval = (g9_3T v).ev (k9_3 v) := by kernel_rfl
noncomputable def sp9_3 (v : V9_3) : Res (AV × List Blk) := let r := g9_3 v; .val (k9_3 v r)
theorem sp9_3_ok (v : V9_3) (r : AV × List Blk) (h : (sp9_3 v).eval = some r) : (q9_3 (hS9_3 v).tmps (hS9_3 v).heap).eval = some r := by
  rw [g9_3_run, Tr.ev_get (d := default) (by kernel_rfl)]
  exact h
noncomputable def s9 : Ab.Spec := frzS [none, some 0] (shapeS aS9_3 bS9_3 (fun args h => sp9_3 (iS9_3 ⟨args, h⟩)) (shapeS aS9_2 bS9_2 (fun args h => sp9_2 (iS9_2 ⟨args, h⟩)) (shapeS aS9_1 bS9_1 (fun args h => sp9_1 (iS9_1 ⟨args, h⟩)) (shapeS aS9_0 bS9_0 (fun args h => sp9_0 (iS9_0 ⟨args, h⟩)) (runS e9 Go.Proofs.Try.f9)))))
theorem s9_ok : SpecOk Go.Proofs.Try.prog 9 s9 := (shape_ok hS9_3 iS9_3 q9_3_ok (shape_ok hS9_2 iS9_2 q9_2_ok (shape_ok hS9_1 iS9_1 q9_1_ok (shape_ok hS9_0 iS9_0 q9_0_ok ((runS_ok  (e := e9) follows (allTI ti_ok _ _ _ _ _) (callsOk_cons s19_ok (callsOk_cons s20_ok (callsOk_nil))) Go.Proofs.Try.func9 Go.Proofs.Try.call9)) (fun s => by kernel_rfl) sp9_0_ok) (fun s => by kernel_rfl) sp9_1_ok) (fun s => by kernel_rfl) sp9_2_ok) (fun s => by kernel_rfl) sp9_3_ok).frzArgs [none, some 0]
/-- (*pontage/queue.Queue).Take -/
noncomputable def L8 : SL := [(19, .byHeap, s19)]
noncomputable def e8 : Env := ⟨ti, fun g => lookS g L8, 1000000, [], [], none⟩
structure V8_0 where
  a0 : Nat
  a1 : List (List S0)
structure Y8_0 where
  b0 : List S0
  b1 : Bool
  b2 : List (List S0)
  deriving Inhabited
def hS8_0 (v : V8_0) : St := ⟨[.c (.ptr 0 0)], [.cells [.ch 1], .chn 0 v.a0 v.a1]⟩
def iS8_0 (s : St) : V8_0 := ⟨bCap (s.heap.getD 1 .dead), bChn 0 (s.heap.getD 1 .dead)⟩
def aS8_0 : List PA := [.c (.ptr 0 0)]
def bS8_0 : List PB := [.cells [.ch 1], .chn 0]
def g8_0T (v : V8_0) : Tr Y8_0 :=
  .br (List.isEmpty v.a1) (
   .leaf (⟨[], false, v.a1⟩)) (
   .opt (List.head? v.a1) fun y7 =>
    .leaf (⟨y7, true, (List.tail v.a1)⟩))
def g8_0 (v : V8_0) : Option Y8_0 := (g8_0T v).get?
def k8_0 (v : V8_0) (r : Y8_0) : AV × List Blk := (.tup [some (false, [.rs 0 r.b0]), some (false, [.bool r.b1])], [.cells [.ch 1], .chn 0 v.a0 r.b2])
noncomputable def q8_0 : Ab.Spec := (gcR (frcR [[some 0], []] (runSh 2 e8 Go.Proofs.Try.f8)))
theorem q8_0_ok : SpecOk Go.Proofs.Try.prog 8 q8_0 := ((runSh_ok (runS_ok  (e := e8) follows (allTI ti_ok _ _ _ _ _) (callsOk_cons s19_ok (callsOk_nil)) Go.Proofs.Try.func8 Go.Proofs.Try.call8)).forced [[some 0], []]).gc
theorem g8_0_run (v : V8_0) : (q8_0 (hS8_0 v).tmps (hS8_0 v).heap).eval = (g8_0T v).ev (k8_0 v) := by kernel_rfl
noncomputable def sp8_0 (v : V8_0) : Res (AV × List Blk) := .opt (g8_0 v) fun r => .val (k8_0 v r)
theorem sp8_0_ok (v : V8_0) (r : AV × List Blk) (h : (sp8_0 v).eval = some r) : (q8_0 (hS8_0 v).tmps (hS8_0 v).heap).eval = some r := by
  rw [g8_0_run, Tr.ev_get?]
  unfold sp8_0 at h
  rw [eval_opt] at h
  obtain ⟨z, hz, h⟩ := Option.bind_eq_some_iff.mp h
  unfold g8_0 at hz
  rw [hz]; exact h
structure V8_1 where

structure Y8_1 where
  b0 : List S0
  deriving Inhabited
def hS8_1 (v : V8_1) : St := ⟨[.c (.nilp)], []⟩
def iS8_1 (s : St) : V8_1 := ⟨⟩
def aS8_1 : List PA := [.c (.nilp)]
def bS8_1 : List PB := []
def g8_1T (v : V8_1) : Tr Y8_1 :=
  .leaf (⟨[]⟩)
def g8_1 (v : V8_1) : Y8_1 := (g8_1T v).get default
def k8_1 (v : V8_1) (r : Y8_1) : AV × List Blk := (.tup [some (false, [.rs 0 r.b0]), some (false, [.bool false])], [])
noncomputable def q8_1 : Ab.Spec := (gcR (frcR [[some 0], []] (runSh 0 e8 Go.Proofs.Try.f8)))
theorem q8_1_ok : SpecOk Go.Proofs.Try.prog 8 q8_1 := ((runSh_ok (runS_ok  (e := e8) follows (allTI ti_ok _ _ _ _ _) (callsOk_cons s19_ok (callsOk_nil)) Go.Proofs.Try.func8 Go.Proofs.Try.call8)).forced [[some 0], []]).gc
theorem g8_1_run (v : V8_1) : (q8_1 (hS8_1 v).tmps (hS8_1 v).heap).eval = (g8_1T v).ev (k8_1 v) := by kernel_rfl
noncomputable def sp8_1 (v : V8_1) : Res (AV × List Blk) := let r := g8_1 v; .val (k8_1 v r)
theorem sp8_1_ok (v : V8_1) (r : AV × List Blk) (h : (sp8_1 v).eval = some r) : (q8_1 (hS8_1 v).tmps (hS8_1 v).heap).eval = some r := by
  rw [g8_1_run, Tr.ev_get (d := default) (by kernel_rfl)]
  exact h
structure V8_2 where

structure Y8_2 where
  b0 : List S0
  deriving Inhabited
def hS8_2 (v : V8_2) : St := ⟨[.c (.ptr 0 0)], [.cells [.nilch]]⟩
def iS8_2 (s : St) : V8_2 := ⟨⟩
def aS8_2 : List PA := [.c (.ptr 0 0)]
def bS8_2 : List PB := [.cells [.nilch]]
def g8_2T (v : V8_2) : Tr Y8_2 :=
  .leaf (⟨[]⟩)
def g8_2 (v : V8_2) : Y8_2 := (g8_2T v).get default
def k8_2 (v : V8_2) (r : Y8_2) : AV × List Blk := (.tup [some (false, [.rs 0 r.b0]), some (false, [.bool false])], [.cells [.nilch]])
noncomputable def q8_2 : Ab.Spec := (gcR (frcR [[some 0], []] (runSh 1 e8 Go.Proofs.Try.f8)))
theorem q8_2_ok : SpecOk Go.Proofs.Try.prog 8 q8_2 := ((runSh_ok (runS_ok  (e := e8) follows (allTI ti_ok _ _ _ _ _) (callsOk_cons s19_ok (callsOk_nil)) Go.Proofs.Try.func8 Go.Proofs.Try.call8)).forced [[some 0], []]).gc
theorem g8_2_run (v : V8_2) : (q8_2 (hS8_2 v).tmps (hS8_2 v).heap).eval = (g8_2T v).ev (k8_2 v) := by kernel_rfl
noncomputable def sp8_2 (v : V8_2) : Res (AV × List Blk) := let r := g8_2 v; .val (k8_2 v r)
theorem sp8_2_ok (v : V8_2) (r : AV × List Blk) (h : (sp8_2 v).eval = some r) : (q8_2 (hS8_2 v).tmps (hS8_2 v).heap).eval = some r := by
  rw [g8_2_run, Tr.ev_get (d := default) (by kernel_rfl)]
  exact h
noncomputable def s8 : Ab.Spec := shapeS aS8_2 bS8_2 (fun args h => sp8_2 (iS8_2 ⟨args, h⟩)) (shapeS aS8_1 bS8_1 (fun args h => sp8_1 (iS8_1 ⟨args, h⟩)) (shapeS aS8_0 bS8_0 (fun args h => sp8_0 (iS8_0 ⟨args, h⟩)) ((gcR (frcR [[some 0], []] (runS e8 Go.Proofs.Try.f8))))))
theorem s8_ok : SpecOk Go.Proofs.Try.prog 8 s8 := shape_ok hS8_2 iS8_2 q8_2_ok (shape_ok hS8_1 iS8_1 q8_1_ok (shape_ok hS8_0 iS8_0 q8_0_ok ((((runS_ok  (e := e8) follows (allTI ti_ok _ _ _ _ _) (callsOk_cons s19_ok (callsOk_nil)) Go.Proofs.Try.func8 Go.Proofs.Try.call8)).forced [[some 0], []]).gc) (fun s => by kernel_rfl) sp8_0_ok) (fun s => by kernel_rfl) sp8_1_ok) (fun s => by kernel_rfl) sp8_2_ok
/-- (*pontage/queue.Queue).Len -/
noncomputable def L10 : SL := [(19, .byHeap, s19)]
noncomputable def e10 : Env := ⟨ti, fun g => lookS g L10, 1000000, [], [], none⟩
structure V10_0 where
  a0 : Nat
  a1 : List (List S0)
structure Y10_0 where
  b0 : Int
  deriving Inhabited
def hS10_0 (v : V10_0) : St := ⟨[.c (.ptr 0 0)], [.cells [.ch 1], .chn 0 v.a0 v.a1]⟩
def iS10_0 (s : St) : V10_0 := ⟨bCap (s.heap.getD 1 .dead), bChn 0 (s.heap.getD 1 .dead)⟩
def aS10_0 : List PA := [.c (.ptr 0 0)]
def bS10_0 : List PB := [.cells [.ch 1], .chn 0]
def g10_0T (v : V10_0) : Tr Y10_0 :=
  .leaf (⟨(v.a1.length : Int)⟩)
def g10_0 (v : V10_0) : Y10_0 := (g10_0T v).get default
def k10_0 (v : V10_0) (r : Y10_0) : AV × List Blk := (.c (.int .i64 r.b0), [.cells [.ch 1], .chn 0 v.a0 v.a1])
noncomputable def q10_0 : Ab.Spec := runQh 2 e10 (lookT []) Go.Proofs.Try.f10
theorem q10_0_ok : SpecOk Go.Proofs.Try.prog 10 q10_0 := runQh_ok (runR_ok  (e := e10) follows (allTI ti_ok _ _ _ _ _) (callsOk_cons s19_ok (callsOk_nil)) Go.Proofs.Try.func10 Go.Proofs.Try.call10) (fun c hc => by
  have hb : c = Go.Proofs.Try.f10.body.getD .skip := by rw [hc]; rfl
  subst hb
  exact tab_nil)
theorem g10_0_run (v : V10_0) : (q10_0 (hS10_0 v).tmps (hS10_0 v).heap).eval = (g10_0T v).ev (k10_0 v) := by kernel_rfl
noncomputable def sp10_0 (v : V10_0) : Res (AV × List Blk) := let r := g10_0 v; .val (k10_0 v r)
theorem sp10_0_ok (v : V10_0) (r : AV × List Blk) (h : (sp10_0 v).eval = some r) : (q10_0 (hS10_0 v).tmps (hS10_0 v).heap).eval = some r := by
  rw [g10_0_run, Tr.ev_get (d := default) (by kernel_rfl)]
  exact h
structure V10_1 where

structure Y10_1 where

  deriving Inhabited
def hS10_1 (v : V10_1) : St := ⟨[.c (.nilp)], []⟩
def iS10_1 (s : St) : V10_1 := ⟨⟩
def aS10_1 : List PA := [.c (.nilp)]
def bS10_1 : List PB := []
def g10_1T (v : V10_1) : Tr Y10_1 :=
  .leaf (⟨⟩)
def g10_1 (v : V10_1) : Y10_1 := (g10_1T v).get default
def k10_1 (v : V10_1) (r : Y10_1) : AV × List Blk := (.c (.int .i64 0), [])
noncomputable def q10_1 : Ab.Spec := runQh 0 e10 (lookT []) Go.Proofs.Try.f10
theorem q10_1_ok : SpecOk Go.Proofs.Try.prog 10 q10_1 := runQh_ok (runR_ok  (e := e10) follows (allTI ti_ok _ _ _ _ _) (callsOk_cons s19_ok (callsOk_nil)) Go.Proofs.Try.func10 Go.Proofs.Try.call10) (fun c hc => by
  have hb : c = Go.Proofs.Try.f10.body.getD .skip := by rw [hc]; rfl
  subst hb
  exact tab_nil)
theorem g10_1_run (v : V10_1) : (q10_1 (hS10_1 v).tmps (hS10_1 v).heap).eval = (g10_1T v).ev (k10_1 v) := by kernel_rfl
noncomputable def sp10_1 (v : V10_1) : Res (AV × List Blk) := let r := g10_1 v; .val (k10_1 v r)
theorem sp10_1_ok (v : V10_1) (r : AV × List Blk) (h : (sp10_1 v).eval = some r) : (q10_1 (hS10_1 v).tmps (hS10_1 v).heap).eval = some r := by
  rw [g10_1_run, Tr.ev_get (d := default) (by kernel_rfl)]
  exact h
structure V10_2 where

structure Y10_2 where

  deriving Inhabited
def hS10_2 (v : V10_2) : St := ⟨[.c (.ptr 0 0)], [.cells [.nilch]]⟩
def iS10_2 (s : St) : V10_2 := ⟨⟩
def aS10_2 : List PA := [.c (.ptr 0 0)]
def bS10_2 : List PB := [.cells [.nilch]]
def g10_2T (v : V10_2) : Tr Y10_2 :=
  .leaf (⟨⟩)
def g10_2 (v : V10_2) : Y10_2 := (g10_2T v).get default
def k10_2 (v : V10_2) (r : Y10_2) : AV × List Blk := (.c (.int .i64 0), [.cells [.nilch]])
noncomputable def q10_2 : Ab.Spec := runQh 1 e10 (lookT []) Go.Proofs.Try.f10
theorem q10_2_ok : SpecOk Go.Proofs.Try.prog 10 q10_2 := runQh_ok (runR_ok  (e := e10) follows (allTI ti_ok _ _ _ _ _) (callsOk_cons s19_ok (callsOk_nil)) Go.Proofs.Try.func10 Go.Proofs.Try.call10) (fun c hc => by
  have hb : c = Go.Proofs.Try.f10.body.getD .skip := by rw [hc]; rfl
  subst hb
  exact tab_nil)
theorem g10_2_run (v : V10_2) : (q10_2 (hS10_2 v).tmps (hS10_2 v).heap).eval = (g10_2T v).ev (k10_2 v) := by kernel_rfl
noncomputable def sp10_2 (v : V10_2) : Res (AV × List Blk) := let r := g10_2 v; .val (k10_2 v r)
theorem sp10_2_ok (v : V10_2) (r : AV × List Blk) (h : (sp10_2 v).eval = some r) : (q10_2 (hS10_2 v).tmps (hS10_2 v).heap).eval = some r := by
  rw [g10_2_run, Tr.ev_get (d := default) (by kernel_rfl)]
  exact h
noncomputable def s10 : Ab.Spec := shapeS aS10_2 bS10_2 (fun args h => sp10_2 (iS10_2 ⟨args, h⟩)) (shapeS aS10_1 bS10_1 (fun args h => sp10_1 (iS10_1 ⟨args, h⟩)) (shapeS aS10_0 bS10_0 (fun args h => sp10_0 (iS10_0 ⟨args, h⟩)) (runR e10 Go.Proofs.Try.f10)))
theorem s10_ok : SpecOk Go.Proofs.Try.prog 10 s10 := shape_ok hS10_2 iS10_2 q10_2_ok (shape_ok hS10_1 iS10_1 q10_1_ok (shape_ok hS10_0 iS10_0 q10_0_ok ((runR_ok  (e := e10) follows (allTI ti_ok _ _ _ _ _) (callsOk_cons s19_ok (callsOk_nil)) Go.Proofs.Try.func10 Go.Proofs.Try.call10)) (fun s => by kernel_rfl) sp10_0_ok) (fun s => by kernel_rfl) sp10_1_ok) (fun s => by kernel_rfl) sp10_2_ok
/-- (*pontage/queue.Queue).Room -/
noncomputable def L11 : SL := [(19, .byHeap, s19)]
noncomputable def e11 : Env := ⟨ti, fun g => lookS g L11, 1000000, [], [], none⟩
structure V11_0 where
  a0 : Nat
  a1 : List (List S0)
structure Y11_0 where
  b0 : Int
  deriving Inhabited
def hS11_0 (v : V11_0) : St := ⟨[.c (.ptr 0 0)], [.cells [.ch 1], .chn 0 v.a0 v.a1]⟩
def iS11_0 (s : St) : V11_0 := ⟨bCap (s.heap.getD 1 .dead), bChn 0 (s.heap.getD 1 .dead)⟩
def aS11_0 : List PA := [.c (.ptr 0 0)]
def bS11_0 : List PB := [.cells [.ch 1], .chn 0]
def g11_0T (v : V11_0) : Tr Y11_0 :=
  .leaf (⟨(IntKind.i64.wrap ((v.a0 : Int) - (v.a1.length : Int)))⟩)
def g11_0 (v : V11_0) : Y11_0 := (g11_0T v).get default
def k11_0 (v : V11_0) (r : Y11_0) : AV × List Blk := (.c (.int .i64 r.b0), [.cells [.ch 1], .chn 0 v.a0 v.a1])
noncomputable def q11_0 : Ab.Spec := runQh 2 e11 (lookT []) Go.Proofs.Try.f11
theorem q11_0_ok : SpecOk Go.Proofs.Try.prog 11 q11_0 := runQh_ok (runR_ok  (e := e11) follows (allTI ti_ok _ _ _ _ _) (callsOk_cons s19_ok (callsOk_nil)) Go.Proofs.Try.func11 Go.Proofs.Try.call11) (fun c hc => by
  have hb : c = Go.Proofs.Try.f11.body.getD .skip := by rw [hc]; rfl
  subst hb
  exact tab_nil)
theorem g11_0_run (v : V11_0) : (q11_0 (hS11_0 v).tmps (hS11_0 v).heap).eval = (g11_0T v).ev (k11_0 v) := by kernel_rfl
noncomputable def sp11_0 (v : V11_0) : Res (AV × List Blk) := let r := g11_0 v; .val (k11_0 v r)
theorem sp11_0_ok (v : V11_0) (r : AV × List Blk) (h : (sp11_0 v).eval = some r) : (q11_0 (hS11_0 v).tmps (hS11_0 v).heap).eval = some r := by
  rw [g11_0_run, Tr.ev_get (d := default) (by kernel_rfl)]
  exact h
structure V11_1 where

structure Y11_1 where

  deriving Inhabited
def hS11_1 (v : V11_1) : St := ⟨[.c (.nilp)], []⟩
def iS11_1 (s : St) : V11_1 := ⟨⟩
def aS11_1 : List PA := [.c (.nilp)]
def bS11_1 : List PB := []
def g11_1T (v : V11_1) : Tr Y11_1 :=
  .leaf (⟨⟩)
def g11_1 (v : V11_1) : Y11_1 := (g11_1T v).get default
def k11_1 (v : V11_1) (r : Y11_1) : AV × List Blk := (.c (.int .i64 0), [])
noncomputable def q11_1 : Ab.Spec := runQh 0 e11 (lookT []) Go.Proofs.Try.f11
theorem q11_1_ok : SpecOk Go.Proofs.Try.prog 11 q11_1 := runQh_ok (runR_ok  (e := e11) follows (allTI ti_ok _ _ _ _ _) (callsOk_cons s19_ok (callsOk_nil)) Go.Proofs.Try.func11 Go.Proofs.Try.call11) (fun c hc => by
  have hb : c = Go.Proofs.Try.f11.body.getD .skip := by rw [hc]; rfl
  subst hb
  exact tab_nil)
theorem g11_1_run (v : V11_1) : (q11_1 (hS11_1 v).tmps (hS11_1 v).heap).eval = (g11_1T v).ev (k11_1 v) := by kernel_rfl
noncomputable def sp11_1 (v : V11_1) : Res (AV × List Blk) := let r := g11_1 v; .val (k11_1 v r)
theorem sp11_1_ok (v : V11_1) (r : AV × List Blk) (h : (sp11_1 v).eval = some r) : (q11_1 (hS11_1 v).tmps (hS11_1 v).heap).eval = some r := by
  rw [g11_1_run, Tr.ev_get (d := default) (by kernel_rfl)]
  exact h
structure V11_2 where

structure Y11_2 where

  deriving Inhabited
def hS11_2 (v : V11_2) : St := ⟨[.c (.ptr 0 0)], [.cells [.nilch]]⟩
def iS11_2 (s : St) : V11_2 := ⟨⟩
def aS11_2 : List PA := [.c (.ptr 0 0)]
def bS11_2 : List PB := [.cells [.nilch]]
def g11_2T (v : V11_2) : Tr Y11_2 :=
  .leaf (⟨⟩)
def g11_2 (v : V11_2) : Y11_2 := (g11_2T v).get default
def k11_2 (v : V11_2) (r : Y11_2) : AV × List Blk := (.c (.int .i64 0), [.cells [.nilch]])
noncomputable def q11_2 : Ab.Spec := runQh 1 e11 (lookT []) Go.Proofs.Try.f11
theorem q11_2_ok : SpecOk Go.Proofs.Try.prog 11 q11_2 := runQh_ok (runR_ok  (e := e11) follows (allTI ti_ok _ _ _ _ _) (callsOk_cons s19_ok (callsOk_nil)) Go.Proofs.Try.func11 Go.Proofs.Try.call11) (fun c hc => by
  have hb : c = Go.Proofs.Try.f11.body.getD .skip := by rw [hc]; rfl
  subst hb
  exact tab_nil)
theorem g11_2_run (v : V11_2) : (q11_2 (hS11_2 v).tmps (hS11_2 v).heap).eval = (g11_2T v).ev (k11_2 v) := by kernel_rfl
noncomputable def sp11_2 (v : V11_2) : Res (AV × List Blk) := let r := g11_2 v; .val (k11_2 v r)
theorem sp11_2_ok (v : V11_2) (r : AV × List Blk) (h : (sp11_2 v).eval = some r) : (q11_2 (hS11_2 v).tmps (hS11_2 v).heap).eval = some r := by
  rw [g11_2_run, Tr.ev_get (d := default) (by kernel_rfl)]
  exact h
noncomputable def s11 : Ab.Spec := shapeS aS11_2 bS11_2 (fun args h => sp11_2 (iS11_2 ⟨args, h⟩)) (shapeS aS11_1 bS11_1 (fun args h => sp11_1 (iS11_1 ⟨args, h⟩)) (shapeS aS11_0 bS11_0 (fun args h => sp11_0 (iS11_0 ⟨args, h⟩)) (runR e11 Go.Proofs.Try.f11)))
theorem s11_ok : SpecOk Go.Proofs.Try.prog 11 s11 := shape_ok hS11_2 iS11_2 q11_2_ok (shape_ok hS11_1 iS11_1 q11_1_ok (shape_ok hS11_0 iS11_0 q11_0_ok ((runR_ok  (e := e11) follows (allTI ti_ok _ _ _ _ _) (callsOk_cons s19_ok (callsOk_nil)) Go.Proofs.Try.func11 Go.Proofs.Try.call11)) (fun s => by kernel_rfl) sp11_0_ok) (fun s => by kernel_rfl) sp11_1_ok) (fun s => by kernel_rfl) sp11_2_ok
/-- pontage/pontagelaw21.awake -/
noncomputable def L7 : SL := [(6, .byHeap, s6), (9, .byHeap, s9), (19, .byHeap, s19), (20, .byNew, s20), (8, .byHeap, s8), (10, .byHeap, s10), (11, .byHeap, s11)]
noncomputable def e7 : Env := ⟨ti, fun g => lookS g L7, 1000000, [], [], none⟩
def g7T  : Tr (Bool) :=
  .opt (g9_0 (V9_0.mk ([(S0.mk 97)]) (2) ([]))) fun z3 =>
   .opt (g9_0 (V9_0.mk ([(S0.mk 98)]) (2) (z3.b1))) fun z4 =>
    .opt (g9_0 (V9_0.mk ([(S0.mk 99)]) (2) (z4.b1))) fun z5 =>
     .opt (g8_0 (V8_0.mk (2) (z5.b1))) fun z8 =>
      .br (bif (bif (bif (bif (z3.b0 == 0) then (z4.b0 == 0) else false) then (z5.b0 == 71) else false) then ((strO 0 z8.b0) == ⟨#[97]⟩) else false) then z8.b1 else false) (
       .opt (g9_0 (V9_0.mk ([(S0.mk 99)]) (2) (z8.b2))) fun z9 =>
        .br (z9.b0 == 0) (
         let z11 := g10_0 (V10_0.mk (2) (z9.b1))
         .br (z11.b0 == 2) (
          let z13 := g11_0 (V11_0.mk (2) (z9.b1))
          .leaf ((z13.b0 == 0))) (
          .leaf (false))) (
         .leaf (false))) (
       .leaf (false))
def g7  : Option (Bool) := (g7T ).get?
noncomputable def T7 : TL := []
noncomputable def q7 : Ab.Spec := runQ0 e7 (lookT T7) Go.Proofs.Try.f7
theorem q7_ok : SpecOk Go.Proofs.Try.prog 7 q7 := (runQ0_ok (runR_ok  (e := e7) follows (allTI ti_ok _ _ _ _ _) (callsOk_cons s6_ok (callsOk_cons s9_ok (callsOk_cons s19_ok (callsOk_cons s20_ok (callsOk_cons s8_ok (callsOk_cons s10_ok (callsOk_cons s11_ok (callsOk_nil)))))))) Go.Proofs.Try.func7 Go.Proofs.Try.call7) (fun c hc => by
  have hb : c = Go.Proofs.Try.f7.body.getD .skip := by rw [hc]; rfl
  subst hb
  exact tab_nil))
theorem g7_run  : (q7 [] []).eval = (g7T ).ev fun r => ((.c (.bool r) : AV), ([] : List Blk)) := by kernel_rfl
noncomputable def s7 : Ab.Spec := fun args h =>
  dN h <| dN args <|
  .opt (g7) fun r => .val (.c (.bool r), [])
theorem s7_ok : SpecOk Go.Proofs.Try.prog 7 s7 :=
  q7_ok.less fun args hs r h => by
    unfold s7 at h
    obtain ⟨rfl, hh1⟩ := dN_inv h
    obtain ⟨rfl, hh2⟩ := dN_inv hh1
    rw [g7_run, Tr.ev_get?]
    change (Res.opt (g7) _).eval = some r at hh2
    rw [eval_opt] at hh2
    obtain ⟨z, hz, hh3⟩ := Option.bind_eq_some_iff.mp hh2
    unfold g7 at hz
    rw [hz]; exact hh3
/-- pontage/pontageref21.Put -/
noncomputable def L15 : SL := []
noncomputable def e15 : Env := ⟨ti, fun g => lookS g L15, 1000000, [], [23], none⟩
def g15T (x0 : S5) (x1 : List S0) : Tr (S5 × Int) :=
  .br (decide ((x1.length : Int) > 2048)) (
   .leaf (x0, 2)) (
   .br (decide ((x0.f1.length : Int) ≥ x0.f0)) (
    .leaf (x0, 71)) (
    .br (x0.f1.isEmpty) (
     .br (x1.isEmpty) (
      .leaf ({ x0 with f1 := [(S2.mk [])] }, 0)) (
      .br (Nat.ble (0 + x1.length) 140737488355328 && Nat.ble ((0 + x1.length) * 1) 140737488355328) (
       .leaf ({ x0 with f1 := [(S2.mk x1)] }, 0)) (
       .fail))) (
     .br (Nat.ble (0 + x0.f1.length) 140737488355328 && Nat.ble ((0 + x0.f1.length) * 24) 140737488355328) (
      .br (x1.isEmpty) (
       .br (Nat.ble (x0.f1.length + 1) 140737488355328 && Nat.ble ((x0.f1.length + 1) * 24) 140737488355328) (
        .leaf ({ x0 with f1 := (x0.f1 ++ [(S2.mk [])]) }, 0)) (
        .fail)) (
       .br (Nat.ble (0 + x1.length) 140737488355328 && Nat.ble ((0 + x1.length) * 1) 140737488355328) (
        .br (Nat.ble (x0.f1.length + 1) 140737488355328 && Nat.ble ((x0.f1.length + 1) * 24) 140737488355328) (
         .leaf ({ x0 with f1 := (x0.f1 ++ [(S2.mk x1)]) }, 0)) (
         .fail)) (
        .fail))) (
      .fail))))
def g15 (x0 : S5) (x1 : List S0) : Option (S5 × Int) := (g15T x0 x1).get?
noncomputable def T15 : TL := []
noncomputable def q15 : Ab.Spec := frzR [[none, some 2], []] (runQ0 e15 (lookT T15) Go.Proofs.Try.f15)
theorem q15_ok : SpecOk Go.Proofs.Try.prog 15 q15 := (runQ0_ok (runR_ok  (e := e15) follows (allTI ti_ok _ _ _ _ _) (callsOk_nil) Go.Proofs.Try.func15 Go.Proofs.Try.call15) (fun c hc => by
  have hb : c = Go.Proofs.Try.f15.body.getD .skip := by rw [hc]; rfl
  subst hb
  exact tab_nil)).froze [[none, some 2], []]
theorem g15_run (x0 : S5) (x1 : List S0) : (q15 [.agg (Cod.enc 5 x0), .c (.rs 0 x1)] []).eval = (g15T x0 x1).ev fun r => ((.tup [some (true, Cod.enc 5 r.1), some (false, [.int .i64 r.2])] : AV), ([] : List Blk)) := by kernel_rfl
noncomputable def s15_0 : Ab.Spec := fun args h =>
  dN h <| dL args fun v0 a0 => dG v0 fun l0 => dE 5 l0 fun x0 => dL a0 fun v1 a1 => dC v1 fun c0 => dR0 0 c0 fun x1 => dN a1 <|
  .opt (g15 x0 x1) fun r => .val (.tup [some (true, Cod.enc 5 r.1), some (false, [.int .i64 r.2])], [])
theorem s15_0_ok : SpecOk Go.Proofs.Try.prog 15 s15_0 :=
  q15_ok.less fun args hs r h => by
    unfold s15_0 at h
    obtain ⟨rfl, hh1⟩ := dN_inv h
    obtain ⟨v0, a0, rfl, hh2⟩ := dL_inv hh1
    obtain ⟨l0, rfl, hh3⟩ := dG_inv hh2
    obtain ⟨x0, rfl, hh4⟩ := dE_inv hh3
    obtain ⟨v1, a1, rfl, hh5⟩ := dL_inv hh4
    obtain ⟨c0, rfl, hh6⟩ := dC_inv hh5
    obtain ⟨x1, rfl, hh7⟩ := dR0_inv hh6
    obtain ⟨rfl, hh8⟩ := dN_inv hh7
    rw [g15_run, Tr.ev_get?]
    change (Res.opt (g15 x0 x1) _).eval = some r at hh8
    rw [eval_opt] at hh8
    obtain ⟨z, hz, hh9⟩ := Option.bind_eq_some_iff.mp hh8
    unfold g15 at hz
    rw [hz]; exact hh9
noncomputable def s15 : Ab.Spec := fun args h => s15_0 (coeA [[none, some 2], [some 0]] args) h
theorem s15_ok : SpecOk Go.Proofs.Try.prog 15 s15 := s15_0_ok.pre [[none, some 2], [some 0]]
/-- pontage/pontageref21.Take -/
noncomputable def L16 : SL := []
noncomputable def e16 : Env := ⟨ti, fun g => lookS g L16, 1000000, [], [], none⟩
def g16T (x0 : S5) : Tr (S5 × List S0 × Bool) :=
  .br ((x0.f1.length : Int) == 0) (
   .leaf (x0, [], false)) (
   .opt (x0.f1[0]?) fun y14 =>
    .br (decide (0 ≤ 1) && decide (1 ≤ (x0.f1.length : Int))) (
     .br ((List.drop (Int.toNat 1) x0.f1).isEmpty) (
      .leaf ({ x0 with f1 := [] }, y14.f0, true)) (
      .br (Nat.ble (0 + (List.drop (Int.toNat 1) x0.f1).length) 140737488355328 && Nat.ble ((0 + (List.drop (Int.toNat 1) x0.f1).length) * 24) 140737488355328) (
       .leaf ({ x0 with f1 := (List.drop (Int.toNat 1) x0.f1) }, y14.f0, true)) (
       .fail))) (
     .fail))
def g16 (x0 : S5) : Option (S5 × List S0 × Bool) := (g16T x0).get?
noncomputable def T16 : TL := []
noncomputable def q16 : Ab.Spec := frzR [[none, some 2], [some 0], []] (runQ0 e16 (lookT T16) Go.Proofs.Try.f16)
theorem q16_ok : SpecOk Go.Proofs.Try.prog 16 q16 := (runQ0_ok (runR_ok  (e := e16) follows (allTI ti_ok _ _ _ _ _) (callsOk_nil) Go.Proofs.Try.func16 Go.Proofs.Try.call16) (fun c hc => by
  have hb : c = Go.Proofs.Try.f16.body.getD .skip := by rw [hc]; rfl
  subst hb
  exact tab_nil)).froze [[none, some 2], [some 0], []]
theorem g16_run (x0 : S5) : (q16 [.agg (Cod.enc 5 x0)] []).eval = (g16T x0).ev fun r => ((.tup [some (true, Cod.enc 5 r.1), some (false, [.rs 0 r.2.1]), some (false, [.bool r.2.2])] : AV), ([] : List Blk)) := by kernel_rfl
noncomputable def s16_0 : Ab.Spec := fun args h =>
  dN h <| dL args fun v0 a0 => dG v0 fun l0 => dE 5 l0 fun x0 => dN a0 <|
  .opt (g16 x0) fun r => .val (.tup [some (true, Cod.enc 5 r.1), some (false, [.rs 0 r.2.1]), some (false, [.bool r.2.2])], [])
theorem s16_0_ok : SpecOk Go.Proofs.Try.prog 16 s16_0 :=
  q16_ok.less fun args hs r h => by
    unfold s16_0 at h
    obtain ⟨rfl, hh1⟩ := dN_inv h
    obtain ⟨v0, a0, rfl, hh2⟩ := dL_inv hh1
    obtain ⟨l0, rfl, hh3⟩ := dG_inv hh2
    obtain ⟨x0, rfl, hh4⟩ := dE_inv hh3
    obtain ⟨rfl, hh5⟩ := dN_inv hh4
    rw [g16_run, Tr.ev_get?]
    change (Res.opt (g16 x0) _).eval = some r at hh5
    rw [eval_opt] at hh5
    obtain ⟨z, hz, hh6⟩ := Option.bind_eq_some_iff.mp hh5
    unfold g16 at hz
    rw [hz]; exact hh6
noncomputable def s16 : Ab.Spec := fun args h => s16_0 (coeA [[none, some 2]] args) h
theorem s16_ok : SpecOk Go.Proofs.Try.prog 16 s16 := s16_0_ok.pre [[none, some 2]]
/-- (*pontage/queue.Queue).Clear -/
noncomputable def L17 : SL := [(8, .byHeap, s8), (19, .byHeap, s19)]
noncomputable def e17 : Env := ⟨ti, fun g => lookS g L17, 1000000, [.drop 1, .drop 4, .drop 5, .drop 6, .drop 7, .drop 8, .drop 9, .drop 10, .drop 11, .drop 12, .drop 13, .drop 14, .drop 15], [], some [2]⟩
structure W17_0 where
  a0 : Int
  a1 : Int
def hd17_0 (v : W17_0) : St := ⟨[.c (.nilp), .top, .c (.int .i64 v.a0), .c (.int .i64 v.a1), .top, .top, .top, .top, .top, .top, .top, .top, .top, .top, .top, .top], []⟩
structure U17_0 where
  a0 : Int
def hu17_0 (u : U17_0) : St := ⟨[.top, .top, .c (.int .i64 u.a0), .top, .top, .top, .top, .top, .top, .top, .top, .top, .top, .top, .top, .top], []⟩
def gR17_0 (v : W17_0) : Tr (W17_0 ⊕ (W17_0 ⊕ U17_0)) :=
  let z44 := g8_1 V8_1.mk
  .leaf (.inr (.inr ⟨v.a1⟩))
noncomputable def lb17_0 : Code := match findB 0 (Go.Proofs.Try.f17.body.getD .skip) with | [.loop b] => b | _ => .skip
def pa17_0 : List PA := [.c (.nilp), .any, .c (.int .i64), .c (.int .i64), .any, .any, .any, .any, .any, .any, .any, .any, .any, .any, .any, .any]
def pb17_0 : List PB := []
def ini17_0 (s : St) : W17_0 := ⟨iC (aC (s.tmps.getD 2 .top)), iC (aC (s.tmps.getD 3 .top))⟩
noncomputable def F17_0 : St → Res (Ex × St) := loopF2 pa17_0 pb17_0 1000000 hd17_0 hu17_0 gR17_0 ini17_0
theorem F17_0_ok (s : St) (r : Ex × St) (h : (F17_0 s).eval = some r) : (codeR e17 0 (.block 0 (.loop lb17_0)) s).eval = some r :=
  blk_ok2 (e := e17) (T := lookT []) (fun s v => by kernel_rfl) (fun s => by kernel_rfl) (tab_nil) s r h
structure W17_0n2 where
  a0 : Int
  a1 : Int
  a2 : Nat
  a3 : List (List S0)
def hd17_0n2 (v : W17_0n2) : St := ⟨[.c (.ptr 0 0), .top, .c (.int .i64 v.a0), .c (.int .i64 v.a1), .top, .top, .top, .top, .top, .top, .top, .top, .top, .top, .top, .top], [.cells [.ch 1], .chn 0 v.a2 v.a3]⟩
structure U17_0n2 where
  a0 : Int
  a1 : Nat
  a2 : List (List S0)
def hu17_0n2 (u : U17_0n2) : St := ⟨[.top, .top, .c (.int .i64 u.a0), .top, .top, .top, .top, .top, .top, .top, .top, .top, .top, .top, .top, .top], [.cells [.ch 1], .chn 0 u.a1 u.a2]⟩
def gR17_0n2 (v : W17_0n2) : Tr (W17_0n2 ⊕ (W17_0n2 ⊕ U17_0n2)) :=
  .opt (g8_0 (V8_0.mk (v.a2) (v.a3))) fun z92 =>
   .br (!z92.b1) (
    .leaf (.inr (.inr ⟨v.a1, v.a2, z92.b2⟩))) (
    .leaf (.inl ({ v with a1 := (IntKind.i64.wrap (v.a1 + 1)), a3 := z92.b2 })))
noncomputable def lb17_0n2 : Code := match findB 0 (Go.Proofs.Try.f17.body.getD .skip) with | [.loop b] => b | _ => .skip
def pa17_0n2 : List PA := [.c (.ptr 0 0), .any, .c (.int .i64), .c (.int .i64), .any, .any, .any, .any, .any, .any, .any, .any, .any, .any, .any, .any]
def pb17_0n2 : List PB := [.cells [.ch 1], .chn 0]
def ini17_0n2 (s : St) : W17_0n2 := ⟨iC (aC (s.tmps.getD 2 .top)), iC (aC (s.tmps.getD 3 .top)), bCap (s.heap.getD 1 .dead), bChn 0 (s.heap.getD 1 .dead)⟩
noncomputable def F17_0n2 : St → Res (Ex × St) := loopF2 pa17_0n2 pb17_0n2 1000000 hd17_0n2 hu17_0n2 gR17_0n2 ini17_0n2
theorem F17_0n2_ok (s : St) (r : Ex × St) (h : (F17_0n2 s).eval = some r) : (codeR e17 2 (.block 0 (.loop lb17_0n2)) s).eval = some r :=
  blk_ok2 (e := e17) (T := lookT []) (fun s v => by kernel_rfl) (fun s => by kernel_rfl) (tab_nil) s r h
structure W17_0n1 where
  a0 : Int
  a1 : Int
def hd17_0n1 (v : W17_0n1) : St := ⟨[.c (.ptr 0 0), .top, .c (.int .i64 v.a0), .c (.int .i64 v.a1), .top, .top, .top, .top, .top, .top, .top, .top, .top, .top, .top, .top], [.cells [.nilch]]⟩
structure U17_0n1 where
  a0 : Int
def hu17_0n1 (u : U17_0n1) : St := ⟨[.top, .top, .c (.int .i64 u.a0), .top, .top, .top, .top, .top, .top, .top, .top, .top, .top, .top, .top, .top], [.cells [.nilch]]⟩
def gR17_0n1 (v : W17_0n1) : Tr (W17_0n1 ⊕ (W17_0n1 ⊕ U17_0n1)) :=
  let z139 := g8_2 V8_2.mk
  .leaf (.inr (.inr ⟨v.a1⟩))
noncomputable def lb17_0n1 : Code := match findB 0 (Go.Proofs.Try.f17.body.getD .skip) with | [.loop b] => b | _ => .skip
def pa17_0n1 : List PA := [.c (.ptr 0 0), .any, .c (.int .i64), .c (.int .i64), .any, .any, .any, .any, .any, .any, .any, .any, .any, .any, .any, .any]
def pb17_0n1 : List PB := [.cells [.nilch]]
def ini17_0n1 (s : St) : W17_0n1 := ⟨iC (aC (s.tmps.getD 2 .top)), iC (aC (s.tmps.getD 3 .top))⟩
noncomputable def F17_0n1 : St → Res (Ex × St) := loopF2 pa17_0n1 pb17_0n1 1000000 hd17_0n1 hu17_0n1 gR17_0n1 ini17_0n1
theorem F17_0n1_ok (s : St) (r : Ex × St) (h : (F17_0n1 s).eval = some r) : (codeR e17 1 (.block 0 (.loop lb17_0n1)) s).eval = some r :=
  blk_ok2 (e := e17) (T := lookT []) (fun s v => by kernel_rfl) (fun s => by kernel_rfl) (tab_nil) s r h
structure V17_0 where

structure Y17_0 where
  b0 : Int
  deriving Inhabited
def hS17_0 (v : V17_0) : St := ⟨[.c (.nilp)], []⟩
def iS17_0 (s : St) : V17_0 := ⟨⟩
def aS17_0 : List PA := [.c (.nilp)]
def bS17_0 : List PB := []
def g17_0T (v : V17_0) : Tr Y17_0 :=
  .opt (iter2 gR17_0 1000000 (W17_0.mk (0) (0))) fun r45 =>
   .br r45.isRight (
    .opt (r45.getRight?) fun u46 =>
     .leaf (⟨u46.a0⟩)) (
    .opt (r45.getLeft?) fun w47 =>
     .leaf (⟨w47.a0⟩))
def g17_0 (v : V17_0) : Option Y17_0 := (g17_0T v).get?
def k17_0 (v : V17_0) (r : Y17_0) : AV × List Blk := (.c (.int .i64 r.b0), [])
noncomputable def q17_0 : Ab.Spec := runQh 0 e17 (lookT [(0, F17_0)]) Go.Proofs.Try.f17
theorem q17_0_ok : SpecOk Go.Proofs.Try.prog 17 q17_0 := runQh_ok (runR_ok  (e := e17) follows (allTI ti_ok _ _ _ _ _) (callsOk_cons s8_ok (callsOk_cons s19_ok (callsOk_nil))) Go.Proofs.Try.func17 Go.Proofs.Try.call17) (fun c hc => by
  have hb : c = Go.Proofs.Try.f17.body.getD .skip := by rw [hc]; rfl
  subst hb
  exact tab_cons (by kernel_rfl) F17_0_ok (tab_nil))
theorem g17_0_run (v : V17_0) : (q17_0 (hS17_0 v).tmps (hS17_0 v).heap).eval = (g17_0T v).ev (k17_0 v) := by kernel_rfl
noncomputable def sp17_0 (v : V17_0) : Res (AV × List Blk) := .opt (g17_0 v) fun r => .val (k17_0 v r)
theorem sp17_0_ok (v : V17_0) (r : AV × List Blk) (h : (sp17_0 v).eval = some r) : (q17_0 (hS17_0 v).tmps (hS17_0 v).heap).eval = some r := by
  rw [g17_0_run, Tr.ev_get?]
  unfold sp17_0 at h
  rw [eval_opt] at h
  obtain ⟨z, hz, h⟩ := Option.bind_eq_some_iff.mp h
  unfold g17_0 at hz
  rw [hz]; exact h
structure V17_1 where
  a0 : Nat
  a1 : List (List S0)
structure Y17_1 where
  b0 : Int
  b1 : Nat
  b2 : List (List S0)
  deriving Inhabited
def hS17_1 (v : V17_1) : St := ⟨[.c (.ptr 0 0)], [.cells [.ch 1], .chn 0 v.a0 v.a1]⟩
def iS17_1 (s : St) : V17_1 := ⟨bCap (s.heap.getD 1 .dead), bChn 0 (s.heap.getD 1 .dead)⟩
def aS17_1 : List PA := [.c (.ptr 0 0)]
def bS17_1 : List PB := [.cells [.ch 1], .chn 0]
def g17_1T (v : V17_1) : Tr Y17_1 :=
  .opt (iter2 gR17_0n2 1000000 (W17_0n2.mk (0) (0) (v.a0) (v.a1))) fun r93 =>
   .br r93.isRight (
    .opt (r93.getRight?) fun u94 =>
     .leaf (⟨u94.a0, u94.a1, u94.a2⟩)) (
    .opt (r93.getLeft?) fun w95 =>
     .leaf (⟨w95.a0, w95.a2, w95.a3⟩))
def g17_1 (v : V17_1) : Option Y17_1 := (g17_1T v).get?
def k17_1 (v : V17_1) (r : Y17_1) : AV × List Blk := (.c (.int .i64 r.b0), [.cells [.ch 1], .chn 0 r.b1 r.b2])
noncomputable def q17_1 : Ab.Spec := runQh 2 e17 (lookT [(0, F17_0n2)]) Go.Proofs.Try.f17
theorem q17_1_ok : SpecOk Go.Proofs.Try.prog 17 q17_1 := runQh_ok (runR_ok  (e := e17) follows (allTI ti_ok _ _ _ _ _) (callsOk_cons s8_ok (callsOk_cons s19_ok (callsOk_nil))) Go.Proofs.Try.func17 Go.Proofs.Try.call17) (fun c hc => by
  have hb : c = Go.Proofs.Try.f17.body.getD .skip := by rw [hc]; rfl
  subst hb
  exact tab_cons (by kernel_rfl) F17_0n2_ok (tab_nil))
theorem g17_1_run (v : V17_1) : (q17_1 (hS17_1 v).tmps (hS17_1 v).heap).eval = (g17_1T v).ev (k17_1 v) := by kernel_rfl
noncomputable def sp17_1 (v : V17_1) : Res (AV × List Blk) := .opt (g17_1 v) fun r => .val (k17_1 v r)
theorem sp17_1_ok (v : V17_1) (r : AV × List Blk) (h : (sp17_1 v).eval = some r) : (q17_1 (hS17_1 v).tmps (hS17_1 v).heap).eval = some r := by
  rw [g17_1_run, Tr.ev_get?]
  unfold sp17_1 at h
  rw [eval_opt] at h
  obtain ⟨z, hz, h⟩ := Option.bind_eq_some_iff.mp h
  unfold g17_1 at hz
  rw [hz]; exact h
structure V17_2 where

structure Y17_2 where
  b0 : Int
  deriving Inhabited
def hS17_2 (v : V17_2) : St := ⟨[.c (.ptr 0 0)], [.cells [.nilch]]⟩
def iS17_2 (s : St) : V17_2 := ⟨⟩
def aS17_2 : List PA := [.c (.ptr 0 0)]
def bS17_2 : List PB := [.cells [.nilch]]
def g17_2T (v : V17_2) : Tr Y17_2 :=
  .opt (iter2 gR17_0n1 1000000 (W17_0n1.mk (0) (0))) fun r140 =>
   .br r140.isRight (
    .opt (r140.getRight?) fun u141 =>
     .leaf (⟨u141.a0⟩)) (
    .opt (r140.getLeft?) fun w142 =>
     .leaf (⟨w142.a0⟩))
def g17_2 (v : V17_2) : Option Y17_2 := (g17_2T v).get?
def k17_2 (v : V17_2) (r : Y17_2) : AV × List Blk := (.c (.int .i64 r.b0), [.cells [.nilch]])
noncomputable def q17_2 : Ab.Spec := runQh 1 e17 (lookT [(0, F17_0n1)]) Go.Proofs.Try.f17
theorem q17_2_ok : SpecOk Go.Proofs.Try.prog 17 q17_2 := runQh_ok (runR_ok  (e := e17) follows (allTI ti_ok _ _ _ _ _) (callsOk_cons s8_ok (callsOk_cons s19_ok (callsOk_nil))) Go.Proofs.Try.func17 Go.Proofs.Try.call17) (fun c hc => by
  have hb : c = Go.Proofs.Try.f17.body.getD .skip := by rw [hc]; rfl
  subst hb
  exact tab_cons (by kernel_rfl) F17_0n1_ok (tab_nil))
theorem g17_2_run (v : V17_2) : (q17_2 (hS17_2 v).tmps (hS17_2 v).heap).eval = (g17_2T v).ev (k17_2 v) := by kernel_rfl
noncomputable def sp17_2 (v : V17_2) : Res (AV × List Blk) := .opt (g17_2 v) fun r => .val (k17_2 v r)
theorem sp17_2_ok (v : V17_2) (r : AV × List Blk) (h : (sp17_2 v).eval = some r) : (q17_2 (hS17_2 v).tmps (hS17_2 v).heap).eval = some r := by
  rw [g17_2_run, Tr.ev_get?]
  unfold sp17_2 at h
  rw [eval_opt] at h
  obtain ⟨z, hz, h⟩ := Option.bind_eq_some_iff.mp h
  unfold g17_2 at hz
  rw [hz]; exact h
noncomputable def s17 : Ab.Spec := shapeS aS17_2 bS17_2 (fun args h => sp17_2 (iS17_2 ⟨args, h⟩)) (shapeS aS17_1 bS17_1 (fun args h => sp17_1 (iS17_1 ⟨args, h⟩)) (shapeS aS17_0 bS17_0 (fun args h => sp17_0 (iS17_0 ⟨args, h⟩)) (runR e17 Go.Proofs.Try.f17)))
theorem s17_ok : SpecOk Go.Proofs.Try.prog 17 s17 := shape_ok hS17_2 iS17_2 q17_2_ok (shape_ok hS17_1 iS17_1 q17_1_ok (shape_ok hS17_0 iS17_0 q17_0_ok ((runR_ok  (e := e17) follows (allTI ti_ok _ _ _ _ _) (callsOk_cons s8_ok (callsOk_cons s19_ok (callsOk_nil))) Go.Proofs.Try.func17 Go.Proofs.Try.call17)) (fun s => by kernel_rfl) sp17_0_ok) (fun s => by kernel_rfl) sp17_1_ok) (fun s => by kernel_rfl) sp17_2_ok
/-- (*pontage/queue.Queue).All -/
noncomputable def L12 : SL := [(10, .byHeap, s10), (19, .byHeap, s19), (8, .byHeap, s8), (9, .byHeap, s9), (20, .byNew, s20)]
noncomputable def e12 : Env := ⟨ti, fun g => lookS g L12, 1000000, [.drop 1, .drop 4, .drop 5, .drop 6, .drop 9, .drop 10, .drop 11, .drop 12, .drop 13, .drop 14, .drop 15, .drop 16, .drop 17, .drop 18, .drop 19, .drop 20, .drop 21, .drop 22, .drop 23, .drop 24, .drop 25, .tmp 3 2], [], some [2]⟩
structure W12_0 where
  a0 : Int
  a1 : Int
  a2 : List S2
def hd12_0 (v : W12_0) : St := ⟨[.c (.nilp), .top, .c (.nils), .c (.slw 0), .top, .top, .top, .c (.int .i64 v.a0), .c (.int .i64 v.a1), .top, .top, .top, .top, .top, .top, .top, .top, .top, .top, .top, .top, .top, .top, .top, .top, .top], [.row 2 v.a2]⟩
def gR12_0 (v : W12_0) : Tr (W12_0 ⊕ (Bool × W12_0)) :=
  .br (decide (v.a1 < v.a0)) (
   let z35 := g8_1 V8_1.mk
   .leaf (.inr (false, v))) (
   .leaf (.inr (false, v)))
noncomputable def lb12_0 : Code := match findB 0 (Go.Proofs.Try.f12.body.getD .skip) with | [.loop b] => b | _ => .skip
def pa12_0 : List PA := [.c (.nilp), .any, .c (.nils), .c (.nils), .any, .any, .any, .c (.int .i64), .c (.int .i64), .any, .any, .any, .any, .any, .any, .any, .any, .any, .any, .any, .any, .any, .any, .any, .any, .any]
def pb12_0 : List PB := []
def ini12_0 (s : St) : W12_0 := ⟨iC (aC (s.tmps.getD 7 .top)), iC (aC (s.tmps.getD 8 .top)), []⟩
noncomputable def F12_0 : St → Res (Ex × St) := loopF pa12_0 pb12_0 1000000 hd12_0 gR12_0 ini12_0 false
theorem F12_0_ok (s : St) (r : Ex × St) (h : (F12_0 s).eval = some r) : (codeR e12 0 (.block 0 (.loop lb12_0)) s).eval = some r :=
  blk_ok (e := e12) (T := lookT []) (fun s v => by kernel_rfl) (fun s => by kernel_rfl) (tab_nil) s r h
structure W12_0n2 where
  a0 : Int
  a1 : Int
  a2 : Nat
  a3 : List (List S0)
  a4 : List S2
def hd12_0n2 (v : W12_0n2) : St := ⟨[.c (.ptr 0 0), .top, .c (.nils), .c (.slw 2), .top, .top, .top, .c (.int .i64 v.a0), .c (.int .i64 v.a1), .top, .top, .top, .top, .top, .top, .top, .top, .top, .top, .top, .top, .top, .top, .top, .top, .top], [.cells [.ch 1], .chn 0 v.a2 v.a3, .row 2 v.a4]⟩
def gR12_0n2 (v : W12_0n2) : Tr (W12_0n2 ⊕ (Bool × W12_0n2)) :=
  .br (decide (v.a1 < v.a0)) (
   .opt (g8_0 (V8_0.mk (v.a2) (v.a3))) fun z75 =>
    .br (!z75.b1) (
     .leaf (.inr (false, { v with a3 := z75.b2 }))) (
     .br (Nat.ble (v.a4.length + 1) 140737488355328 && Nat.ble ((v.a4.length + 1) * 24) 140737488355328) (
      .opt (g9_2 (V9_2.mk (z75.b0) (v.a2) (z75.b2))) fun z76 =>
       .leaf (.inl ({ v with a1 := (IntKind.i64.wrap (v.a1 + 1)), a3 := z76.b1, a4 := (v.a4 ++ [(S2.mk z75.b0)]) }))) (
      .fail))) (
   .leaf (.inr (false, v)))
noncomputable def lb12_0n2 : Code := match findB 0 (Go.Proofs.Try.f12.body.getD .skip) with | [.loop b] => b | _ => .skip
def pa12_0n2 : List PA := [.c (.ptr 0 0), .any, .c (.nils), .c (.nils), .any, .any, .any, .c (.int .i64), .c (.int .i64), .any, .any, .any, .any, .any, .any, .any, .any, .any, .any, .any, .any, .any, .any, .any, .any, .any]
def pb12_0n2 : List PB := [.cells [.ch 1], .chn 0]
def ini12_0n2 (s : St) : W12_0n2 := ⟨iC (aC (s.tmps.getD 7 .top)), iC (aC (s.tmps.getD 8 .top)), bCap (s.heap.getD 1 .dead), bChn 0 (s.heap.getD 1 .dead), []⟩
noncomputable def F12_0n2 : St → Res (Ex × St) := loopF pa12_0n2 pb12_0n2 1000000 hd12_0n2 gR12_0n2 ini12_0n2 false
theorem F12_0n2_ok (s : St) (r : Ex × St) (h : (F12_0n2 s).eval = some r) : (codeR e12 2 (.block 0 (.loop lb12_0n2)) s).eval = some r :=
  blk_ok (e := e12) (T := lookT []) (fun s v => by kernel_rfl) (fun s => by kernel_rfl) (tab_nil) s r h
structure W12_0n1 where
  a0 : Int
  a1 : Int
  a2 : List S2
def hd12_0n1 (v : W12_0n1) : St := ⟨[.c (.ptr 0 0), .top, .c (.nils), .c (.slw 1), .top, .top, .top, .c (.int .i64 v.a0), .c (.int .i64 v.a1), .top, .top, .top, .top, .top, .top, .top, .top, .top, .top, .top, .top, .top, .top, .top, .top, .top], [.cells [.nilch], .row 2 v.a2]⟩
def gR12_0n1 (v : W12_0n1) : Tr (W12_0n1 ⊕ (Bool × W12_0n1)) :=
  .br (decide (v.a1 < v.a0)) (
   let z136 := g8_2 V8_2.mk
   .leaf (.inr (false, v))) (
   .leaf (.inr (false, v)))
noncomputable def lb12_0n1 : Code := match findB 0 (Go.Proofs.Try.f12.body.getD .skip) with | [.loop b] => b | _ => .skip
def pa12_0n1 : List PA := [.c (.ptr 0 0), .any, .c (.nils), .c (.nils), .any, .any, .any, .c (.int .i64), .c (.int .i64), .any, .any, .any, .any, .any, .any, .any, .any, .any, .any, .any, .any, .any, .any, .any, .any, .any]
def pb12_0n1 : List PB := [.cells [.nilch]]
def ini12_0n1 (s : St) : W12_0n1 := ⟨iC (aC (s.tmps.getD 7 .top)), iC (aC (s.tmps.getD 8 .top)), []⟩
noncomputable def F12_0n1 : St → Res (Ex × St) := loopF pa12_0n1 pb12_0n1 1000000 hd12_0n1 gR12_0n1 ini12_0n1 false
theorem F12_0n1_ok (s : St) (r : Ex × St) (h : (F12_0n1 s).eval = some r) : (codeR e12 1 (.block 0 (.loop lb12_0n1)) s).eval = some r :=
  blk_ok (e := e12) (T := lookT []) (fun s v => by kernel_rfl) (fun s => by kernel_rfl) (tab_nil) s r h
structure V12_0 where

structure Y12_0 where
  b0 : List S2
  deriving Inhabited
def hS12_0 (v : V12_0) : St := ⟨[.c (.nilp)], []⟩
def iS12_0 (s : St) : V12_0 := ⟨⟩
def aS12_0 : List PA := [.c (.nilp)]
def bS12_0 : List PB := []
def g12_0T (v : V12_0) : Tr Y12_0 :=
  .opt (iter gR12_0 1000000 (W12_0.mk (0) (0) ([]))) fun r36 =>
   .br r36.1 (
    .fail) (
    .leaf (⟨r36.2.a2⟩))
def g12_0 (v : V12_0) : Option Y12_0 := (g12_0T v).get?
def k12_0 (v : V12_0) (r : Y12_0) : AV × List Blk := (.c (.rs 2 r.b0), [])
noncomputable def q12_0 : Ab.Spec := (gcR (frcR [[some 2]] (runQh 0 e12 (lookT [(0, F12_0)]) Go.Proofs.Try.f12)))
theorem q12_0_ok : SpecOk Go.Proofs.Try.prog 12 q12_0 := ((runQh_ok (runR_ok  (e := e12) follows (allTI ti_ok _ _ _ _ _) (callsOk_cons s10_ok (callsOk_cons s19_ok (callsOk_cons s8_ok (callsOk_cons s9_ok (callsOk_cons s20_ok (callsOk_nil)))))) Go.Proofs.Try.func12 Go.Proofs.Try.call12) (fun c hc => by
  have hb : c = Go.Proofs.Try.f12.body.getD .skip := by rw [hc]; rfl
  subst hb
  exact tab_cons (by kernel_rfl) F12_0_ok (tab_nil))).forced [[some 2]]).gc
theorem g12_0_run (v : V12_0) : (q12_0 (hS12_0 v).tmps (hS12_0 v).heap).eval = (g12_0T v).ev (k12_0 v) := by kernel_rfl
noncomputable def sp12_0 (v : V12_0) : Res (AV × List Blk) := .opt (g12_0 v) fun r => .val (k12_0 v r)
theorem sp12_0_ok (v : V12_0) (r : AV × List Blk) (h : (sp12_0 v).eval = some r) : (q12_0 (hS12_0 v).tmps (hS12_0 v).heap).eval = some r := by
  rw [g12_0_run, Tr.ev_get?]
  unfold sp12_0 at h
  rw [eval_opt] at h
  obtain ⟨z, hz, h⟩ := Option.bind_eq_some_iff.mp h
  unfold g12_0 at hz
  rw [hz]; exact h
structure V12_1 where
  a0 : Nat
  a1 : List (List S0)
structure Y12_1 where
  b0 : List S2
  b1 : Nat
  b2 : List (List S0)
  deriving Inhabited
def hS12_1 (v : V12_1) : St := ⟨[.c (.ptr 0 0)], [.cells [.ch 1], .chn 0 v.a0 v.a1]⟩
def iS12_1 (s : St) : V12_1 := ⟨bCap (s.heap.getD 1 .dead), bChn 0 (s.heap.getD 1 .dead)⟩
def aS12_1 : List PA := [.c (.ptr 0 0)]
def bS12_1 : List PB := [.cells [.ch 1], .chn 0]
def g12_1T (v : V12_1) : Tr Y12_1 :=
  let z74 := g10_0 (V10_0.mk (v.a0) (v.a1))
  .opt (iter gR12_0n2 1000000 (W12_0n2.mk (z74.b0) (0) (v.a0) (v.a1) ([]))) fun r77 =>
   .br r77.1 (
    .fail) (
    .leaf (⟨r77.2.a4, r77.2.a2, r77.2.a3⟩))
def g12_1 (v : V12_1) : Option Y12_1 := (g12_1T v).get?
def k12_1 (v : V12_1) (r : Y12_1) : AV × List Blk := (.c (.rs 2 r.b0), [.cells [.ch 1], .chn 0 r.b1 r.b2])
noncomputable def q12_1 : Ab.Spec := (gcR (frcR [[some 2]] (runQh 2 e12 (lookT [(0, F12_0n2)]) Go.Proofs.Try.f12)))
theorem q12_1_ok : SpecOk Go.Proofs.Try.prog 12 q12_1 := ((runQh_ok (runR_ok  (e := e12) follows (allTI ti_ok _ _ _ _ _) (callsOk_cons s10_ok (callsOk_cons s19_ok (callsOk_cons s8_ok (callsOk_cons s9_ok (callsOk_cons s20_ok (callsOk_nil)))))) Go.Proofs.Try.func12 Go.Proofs.Try.call12) (fun c hc => by
  have hb : c = Go.Proofs.Try.f12.body.getD .skip := by rw [hc]; rfl
  subst hb
  exact tab_cons (by kernel_rfl) F12_0n2_ok (tab_nil))).forced [[some 2]]).gc
theorem g12_1_run (v : V12_1) : (q12_1 (hS12_1 v).tmps (hS12_1 v).heap).eval = (g12_1T v).ev (k12_1 v) := by kernel_rfl
noncomputable def sp12_1 (v : V12_1) : Res (AV × List Blk) := .opt (g12_1 v) fun r => .val (k12_1 v r)
theorem sp12_1_ok (v : V12_1) (r : AV × List Blk) (h : (sp12_1 v).eval = some r) : (q12_1 (hS12_1 v).tmps (hS12_1 v).heap).eval = some r := by
  rw [g12_1_run, Tr.ev_get?]
  unfold sp12_1 at h
  rw [eval_opt] at h
  obtain ⟨z, hz, h⟩ := Option.bind_eq_some_iff.mp h
  unfold g12_1 at hz
  rw [hz]; exact h
structure V12_2 where

structure Y12_2 where
  b0 : List S2
  deriving Inhabited
def hS12_2 (v : V12_2) : St := ⟨[.c (.ptr 0 0)], [.cells [.nilch]]⟩
def iS12_2 (s : St) : V12_2 := ⟨⟩
def aS12_2 : List PA := [.c (.ptr 0 0)]
def bS12_2 : List PB := [.cells [.nilch]]
def g12_2T (v : V12_2) : Tr Y12_2 :=
  .opt (iter gR12_0n1 1000000 (W12_0n1.mk (0) (0) ([]))) fun r137 =>
   .br r137.1 (
    .fail) (
    .leaf (⟨r137.2.a2⟩))
def g12_2 (v : V12_2) : Option Y12_2 := (g12_2T v).get?
def k12_2 (v : V12_2) (r : Y12_2) : AV × List Blk := (.c (.rs 2 r.b0), [.cells [.nilch]])
noncomputable def q12_2 : Ab.Spec := (gcR (frcR [[some 2]] (runQh 1 e12 (lookT [(0, F12_0n1)]) Go.Proofs.Try.f12)))
theorem q12_2_ok : SpecOk Go.Proofs.Try.prog 12 q12_2 := ((runQh_ok (runR_ok  (e := e12) follows (allTI ti_ok _ _ _ _ _) (callsOk_cons s10_ok (callsOk_cons s19_ok (callsOk_cons s8_ok (callsOk_cons s9_ok (callsOk_cons s20_ok (callsOk_nil)))))) Go.Proofs.Try.func12 Go.Proofs.Try.call12) (fun c hc => by
  have hb : c = Go.Proofs.Try.f12.body.getD .skip := by rw [hc]; rfl
  subst hb
  exact tab_cons (by kernel_rfl) F12_0n1_ok (tab_nil))).forced [[some 2]]).gc
theorem g12_2_run (v : V12_2) : (q12_2 (hS12_2 v).tmps (hS12_2 v).heap).eval = (g12_2T v).ev (k12_2 v) := by kernel_rfl
noncomputable def sp12_2 (v : V12_2) : Res (AV × List Blk) := .opt (g12_2 v) fun r => .val (k12_2 v r)
theorem sp12_2_ok (v : V12_2) (r : AV × List Blk) (h : (sp12_2 v).eval = some r) : (q12_2 (hS12_2 v).tmps (hS12_2 v).heap).eval = some r := by
  rw [g12_2_run, Tr.ev_get?]
  unfold sp12_2 at h
  rw [eval_opt] at h
  obtain ⟨z, hz, h⟩ := Option.bind_eq_some_iff.mp h
  unfold g12_2 at hz
  rw [hz]; exact h
noncomputable def s12 : Ab.Spec := shapeS aS12_2 bS12_2 (fun args h => sp12_2 (iS12_2 ⟨args, h⟩)) (shapeS aS12_1 bS12_1 (fun args h => sp12_1 (iS12_1 ⟨args, h⟩)) (shapeS aS12_0 bS12_0 (fun args h => sp12_0 (iS12_0 ⟨args, h⟩)) ((gcR (frcR [[some 2]] (runR e12 Go.Proofs.Try.f12))))))
theorem s12_ok : SpecOk Go.Proofs.Try.prog 12 s12 := shape_ok hS12_2 iS12_2 q12_2_ok (shape_ok hS12_1 iS12_1 q12_1_ok (shape_ok hS12_0 iS12_0 q12_0_ok ((((runR_ok  (e := e12) follows (allTI ti_ok _ _ _ _ _) (callsOk_cons s10_ok (callsOk_cons s19_ok (callsOk_cons s8_ok (callsOk_cons s9_ok (callsOk_cons s20_ok (callsOk_nil)))))) Go.Proofs.Try.func12 Go.Proofs.Try.call12)).forced [[some 2]]).gc) (fun s => by kernel_rfl) sp12_0_ok) (fun s => by kernel_rfl) sp12_1_ok) (fun s => by kernel_rfl) sp12_2_ok
/-- (*pontage/queue.Queue).Fork -/
noncomputable def L18 : SL := [(19, .byHeap, s19), (12, .byHeap, s12), (10, .byHeap, s10), (8, .byHeap, s8), (9, .byHeap, s9), (20, .byNew, s20)]
noncomputable def e18 : Env := ⟨ti, fun g => lookS g L18, 1000000, [.drop 0, .drop 1, .drop 4, .drop 5, .drop 6, .drop 7, .drop 8, .drop 9, .drop 10, .drop 11, .drop 12, .drop 13, .drop 14, .drop 15, .drop 16, .drop 20, .drop 21, .drop 22, .drop 23, .drop 24, .drop 25, .drop 26, .drop 27], [], some [2]⟩
structure W18_0n2 where
  a0 : List S2
  a1 : Int
  a2 : Int
  a3 : Nat
  a4 : List (List S0)
  a5 : Nat
  a6 : List (List S0)
def hd18_0n2 (v : W18_0n2) : St := ⟨[.top, .top, .c (.nilp), .c (.ptr 2 0), .top, .top, .top, .top, .top, .top, .top, .top, .top, .top, .top, .top, .top, .c (.rs 2 v.a0), .c (.int .i64 v.a1), .c (.int .i64 v.a2), .top, .top, .top, .top, .top, .top, .top, .top], [.cells [.ch 1], .chn 0 v.a3 v.a4, .cells [.ch 3], .chn 0 v.a5 v.a6]⟩
def gR18_0n2 (v : W18_0n2) : Tr (W18_0n2 ⊕ (Bool × W18_0n2)) :=
  .br (decide (v.a2 < v.a1)) (
   .br (decide (0 ≤ v.a2)) (
    .opt (v.a0[Int.toNat v.a2]?) fun y103 =>
     .opt (g9_2 (V9_2.mk (y103.f0) (v.a5) (v.a6))) fun z104 =>
      .leaf (.inl ({ v with a2 := (IntKind.i64.wrap (v.a2 + 1)), a6 := z104.b1 }))) (
    .fail)) (
   .leaf (.inr (false, v)))
noncomputable def lb18_0n2 : Code := match findB 0 (Go.Proofs.Try.f18.body.getD .skip) with | [.loop b] => b | _ => .skip
def pa18_0n2 : List PA := [.any, .any, .c (.nilp), .c (.ptr 3 0), .any, .any, .any, .any, .any, .any, .any, .any, .any, .any, .any, .any, .any, .c (.rs 2), .c (.int .i64), .c (.int .i64), .any, .any, .any, .any, .any, .any, .any, .any]
def pb18_0n2 : List PB := [.cells [.ch 1], .chn 0, .chn 0, .cells [.ch 2]]
def ini18_0n2 (s : St) : W18_0n2 := ⟨rC 2 (aC (s.tmps.getD 17 .top)), iC (aC (s.tmps.getD 18 .top)), iC (aC (s.tmps.getD 19 .top)), bCap (s.heap.getD 1 .dead), bChn 0 (s.heap.getD 1 .dead), bCap (s.heap.getD 2 .dead), bChn 0 (s.heap.getD 2 .dead)⟩
noncomputable def F18_0n2 : St → Res (Ex × St) := loopF pa18_0n2 pb18_0n2 1000000 hd18_0n2 gR18_0n2 ini18_0n2 false
theorem F18_0n2_ok (s : St) (r : Ex × St) (h : (F18_0n2 s).eval = some r) : (codeR e18 2 (.block 0 (.loop lb18_0n2)) s).eval = some r :=
  blk_ok (e := e18) (T := lookT []) (fun s v => by kernel_rfl) (fun s => by kernel_rfl) (tab_nil) s r h
structure V18_0 where

structure Y18_0 where

  deriving Inhabited
def hS18_0 (v : V18_0) : St := ⟨[.c (.nilp)], []⟩
def iS18_0 (s : St) : V18_0 := ⟨⟩
def aS18_0 : List PA := [.c (.nilp)]
def bS18_0 : List PB := []
def g18_0T (v : V18_0) : Tr Y18_0 :=
  .leaf (⟨⟩)
def g18_0 (v : V18_0) : Y18_0 := (g18_0T v).get default
def k18_0 (v : V18_0) (r : Y18_0) : AV × List Blk := (.c (.nilp), [])
noncomputable def q18_0 : Ab.Spec := runQh 0 e18 (lookT []) Go.Proofs.Try.f18
theorem q18_0_ok : SpecOk Go.Proofs.Try.prog 18 q18_0 := runQh_ok (runR_ok  (e := e18) follows (allTI ti_ok _ _ _ _ _) (callsOk_cons s19_ok (callsOk_cons s12_ok (callsOk_cons s10_ok (callsOk_cons s8_ok (callsOk_cons s9_ok (callsOk_cons s20_ok (callsOk_nil))))))) Go.Proofs.Try.func18 Go.Proofs.Try.call18) (fun c hc => by
  have hb : c = Go.Proofs.Try.f18.body.getD .skip := by rw [hc]; rfl
  subst hb
  exact tab_nil)
theorem g18_0_run (v : V18_0) : (q18_0 (hS18_0 v).tmps (hS18_0 v).heap).eval = (g18_0T v).ev (k18_0 v) := by kernel_rfl
noncomputable def sp18_0 (v : V18_0) : Res (AV × List Blk) := let r := g18_0 v; .val (k18_0 v r)
theorem sp18_0_ok (v : V18_0) (r : AV × List Blk) (h : (sp18_0 v).eval = some r) : (q18_0 (hS18_0 v).tmps (hS18_0 v).heap).eval = some r := by
  rw [g18_0_run, Tr.ev_get (d := default) (by kernel_rfl)]
  exact h
structure V18_1 where
  a0 : Nat
  a1 : List (List S0)
structure Y18_1 where
  b0 : Nat
  b1 : List (List S0)
  b2 : Nat
  b3 : List (List S0)
  deriving Inhabited
def hS18_1 (v : V18_1) : St := ⟨[.c (.ptr 0 0)], [.cells [.ch 1], .chn 0 v.a0 v.a1]⟩
def iS18_1 (s : St) : V18_1 := ⟨bCap (s.heap.getD 1 .dead), bChn 0 (s.heap.getD 1 .dead)⟩
def aS18_1 : List PA := [.c (.ptr 0 0)]
def bS18_1 : List PB := [.cells [.ch 1], .chn 0]
def g18_1T (v : V18_1) : Tr Y18_1 :=
  .br (decide (0 ≤ (v.a0 : Int)) && decide ((v.a0 : Int) ≤ 9223372036854775807) && decide ((24 : Int) * (v.a0 : Int) ≤ 281474976710544) && Nat.ble 1 1) (
   .opt (g12_1 (V12_1.mk (v.a0) (v.a1))) fun z102 =>
    .opt (iter gR18_0n2 1000000 (W18_0n2.mk (z102.b0) ((z102.b0.length : Int)) (0) (z102.b1) (z102.b2) ((Int.toNat (v.a0 : Int))) ([]))) fun r105 =>
     .br r105.1 (
      .fail) (
      .leaf (⟨r105.2.a3, r105.2.a4, r105.2.a5, r105.2.a6⟩))) (
   .fail)
def g18_1 (v : V18_1) : Option Y18_1 := (g18_1T v).get?
def k18_1 (v : V18_1) (r : Y18_1) : AV × List Blk := (.c (.ptr 2 0), [.cells [.ch 1], .chn 0 r.b0 r.b1, .cells [.ch 3], .chn 0 r.b2 r.b3])
noncomputable def q18_1 : Ab.Spec := runQh 2 e18 (lookT [(0, F18_0n2)]) Go.Proofs.Try.f18
theorem q18_1_ok : SpecOk Go.Proofs.Try.prog 18 q18_1 := runQh_ok (runR_ok  (e := e18) follows (allTI ti_ok _ _ _ _ _) (callsOk_cons s19_ok (callsOk_cons s12_ok (callsOk_cons s10_ok (callsOk_cons s8_ok (callsOk_cons s9_ok (callsOk_cons s20_ok (callsOk_nil))))))) Go.Proofs.Try.func18 Go.Proofs.Try.call18) (fun c hc => by
  have hb : c = Go.Proofs.Try.f18.body.getD .skip := by rw [hc]; rfl
  subst hb
  exact tab_cons (by kernel_rfl) F18_0n2_ok (tab_nil))
theorem g18_1_run (v : V18_1) : (q18_1 (hS18_1 v).tmps (hS18_1 v).heap).eval = (g18_1T v).ev (k18_1 v) := by kernel_rfl
noncomputable def sp18_1 (v : V18_1) : Res (AV × List Blk) := .opt (g18_1 v) fun r => .val (k18_1 v r)
theorem sp18_1_ok (v : V18_1) (r : AV × List Blk) (h : (sp18_1 v).eval = some r) : (q18_1 (hS18_1 v).tmps (hS18_1 v).heap).eval = some r := by
  rw [g18_1_run, Tr.ev_get?]
  unfold sp18_1 at h
  rw [eval_opt] at h
  obtain ⟨z, hz, h⟩ := Option.bind_eq_some_iff.mp h
  unfold g18_1 at hz
  rw [hz]; exact h
structure V18_2 where

structure Y18_2 where

  deriving Inhabited
def hS18_2 (v : V18_2) : St := ⟨[.c (.ptr 0 0)], [.cells [.nilch]]⟩
def iS18_2 (s : St) : V18_2 := ⟨⟩
def aS18_2 : List PA := [.c (.ptr 0 0)]
def bS18_2 : List PB := [.cells [.nilch]]
def g18_2T (v : V18_2) : Tr Y18_2 :=
  .leaf (⟨⟩)
def g18_2 (v : V18_2) : Y18_2 := (g18_2T v).get default
def k18_2 (v : V18_2) (r : Y18_2) : AV × List Blk := (.c (.nilp), [.cells [.nilch]])
noncomputable def q18_2 : Ab.Spec := runQh 1 e18 (lookT []) Go.Proofs.Try.f18
theorem q18_2_ok : SpecOk Go.Proofs.Try.prog 18 q18_2 := runQh_ok (runR_ok  (e := e18) follows (allTI ti_ok _ _ _ _ _) (callsOk_cons s19_ok (callsOk_cons s12_ok (callsOk_cons s10_ok (callsOk_cons s8_ok (callsOk_cons s9_ok (callsOk_cons s20_ok (callsOk_nil))))))) Go.Proofs.Try.func18 Go.Proofs.Try.call18) (fun c hc => by
  have hb : c = Go.Proofs.Try.f18.body.getD .skip := by rw [hc]; rfl
  subst hb
  exact tab_nil)
theorem g18_2_run (v : V18_2) : (q18_2 (hS18_2 v).tmps (hS18_2 v).heap).eval = (g18_2T v).ev (k18_2 v) := by kernel_rfl
noncomputable def sp18_2 (v : V18_2) : Res (AV × List Blk) := let r := g18_2 v; .val (k18_2 v r)
theorem sp18_2_ok (v : V18_2) (r : AV × List Blk) (h : (sp18_2 v).eval = some r) : (q18_2 (hS18_2 v).tmps (hS18_2 v).heap).eval = some r := by
  rw [g18_2_run, Tr.ev_get (d := default) (by kernel_rfl)]
  exact h
noncomputable def s18 : Ab.Spec := shapeS aS18_2 bS18_2 (fun args h => sp18_2 (iS18_2 ⟨args, h⟩)) (shapeS aS18_1 bS18_1 (fun args h => sp18_1 (iS18_1 ⟨args, h⟩)) (shapeS aS18_0 bS18_0 (fun args h => sp18_0 (iS18_0 ⟨args, h⟩)) (runR e18 Go.Proofs.Try.f18)))
theorem s18_ok : SpecOk Go.Proofs.Try.prog 18 s18 := shape_ok hS18_2 iS18_2 q18_2_ok (shape_ok hS18_1 iS18_1 q18_1_ok (shape_ok hS18_0 iS18_0 q18_0_ok ((runR_ok  (e := e18) follows (allTI ti_ok _ _ _ _ _) (callsOk_cons s19_ok (callsOk_cons s12_ok (callsOk_cons s10_ok (callsOk_cons s8_ok (callsOk_cons s9_ok (callsOk_cons s20_ok (callsOk_nil))))))) Go.Proofs.Try.func18 Go.Proofs.Try.call18)) (fun s => by kernel_rfl) sp18_0_ok) (fun s => by kernel_rfl) sp18_1_ok) (fun s => by kernel_rfl) sp18_2_ok
/-- pontage/pontageref21.Same -/
noncomputable def L13 : SL := []
noncomputable def e13 : Env := ⟨ti, fun g => lookS g L13, 1000000, [.drop 2, .drop 3, .drop 6, .drop 7, .drop 8, .drop 9, .drop 10, .drop 11, .drop 12, .drop 13, .drop 14, .drop 15, .drop 16, .drop 17, .drop 18, .drop 19, .drop 20, .drop 21, .drop 22, .drop 23, .drop 24, .drop 25, .drop 26, .drop 27], [], some [4]⟩
structure W13_0 where
  a0 : List S2
  a1 : List S2
  a2 : Bool
  a3 : Int
def hd13_0 (v : W13_0) : St := ⟨[.c (.rs 2 v.a0), .c (.rs 2 v.a1), .top, .top, .c (.bool v.a2), .c (.int .i64 v.a3), .top, .top, .top, .top, .top, .top, .top, .top, .top, .top, .top, .top, .top, .top, .top, .top, .top, .top, .top, .top, .top, .top], []⟩
structure U13_0 where
  a0 : Bool
def hu13_0 (u : U13_0) : St := ⟨[.top, .top, .top, .top, .c (.bool u.a0), .top, .top, .top, .top, .top, .top, .top, .top, .top, .top, .top, .top, .top, .top, .top, .top, .top, .top, .top, .top, .top, .top, .top], []⟩
def gR13_0 (v : W13_0) : Tr (W13_0 ⊕ (W13_0 ⊕ U13_0)) :=
  .br (decide (v.a3 < (v.a0.length : Int))) (
   .br (decide (0 ≤ v.a3)) (
    .opt (v.a0[Int.toNat v.a3]?) fun y15 =>
     .br (decide (0 ≤ v.a3)) (
      .opt (v.a1[Int.toNat v.a3]?) fun y16 =>
       .br (!((strO 0 y15.f0) == (strO 0 y16.f0))) (
        .leaf (.inr (.inr ⟨false⟩))) (
        .leaf (.inl ({ v with a3 := (IntKind.i64.wrap (v.a3 + 1)) })))) (
      .fail)) (
    .fail)) (
   .leaf (.inr (.inl (v))))
noncomputable def lb13_0 : Code := match findB 0 (Go.Proofs.Try.f13.body.getD .skip) with | [.loop b] => b | _ => .skip
def pa13_0 : List PA := [.c (.rs 2), .c (.rs 2), .any, .any, .c (.bool), .c (.int .i64), .any, .any, .any, .any, .any, .any, .any, .any, .any, .any, .any, .any, .any, .any, .any, .any, .any, .any, .any, .any, .any, .any]
def pb13_0 : List PB := []
def ini13_0 (s : St) : W13_0 := ⟨rC 2 (aC (s.tmps.getD 0 .top)), rC 2 (aC (s.tmps.getD 1 .top)), bC (aC (s.tmps.getD 4 .top)), iC (aC (s.tmps.getD 5 .top))⟩
noncomputable def F13_0 : St → Res (Ex × St) := loopF2 pa13_0 pb13_0 1000000 hd13_0 hu13_0 gR13_0 ini13_0
theorem F13_0_ok (s : St) (r : Ex × St) (h : (F13_0 s).eval = some r) : (codeR e13 0 (.block 0 (.loop lb13_0)) s).eval = some r :=
  blk_ok2 (e := e13) (T := lookT []) (fun s v => by kernel_rfl) (fun s => by kernel_rfl) (tab_nil) s r h
def g13T (x0 : List S2) (x1 : List S2) : Tr (Bool) :=
  .br ((x0.length : Int) != (x1.length : Int)) (
   .leaf (false)) (
   .opt (iter2 gR13_0 1000000 (W13_0.mk (x0) (x1) (false) (0))) fun r17 =>
    .br r17.isRight (
     .opt (r17.getRight?) fun u18 =>
      .leaf (u18.a0)) (
     .opt (r17.getLeft?) fun w19 =>
      .leaf (true)))
def g13 (x0 : List S2) (x1 : List S2) : Option (Bool) := (g13T x0 x1).get?
noncomputable def T13 : TL := [(0, F13_0)]
noncomputable def q13 : Ab.Spec := runQ0 e13 (lookT T13) Go.Proofs.Try.f13
theorem q13_ok : SpecOk Go.Proofs.Try.prog 13 q13 := (runQ0_ok (runR_ok  (e := e13) follows (allTI ti_ok _ _ _ _ _) (callsOk_nil) Go.Proofs.Try.func13 Go.Proofs.Try.call13) (fun c hc => by
  have hb : c = Go.Proofs.Try.f13.body.getD .skip := by rw [hc]; rfl
  subst hb
  exact tab_cons (by kernel_rfl) F13_0_ok (tab_nil)))
theorem g13_run (x0 : List S2) (x1 : List S2) : (q13 [.c (.rs 2 x0), .c (.rs 2 x1)] []).eval = (g13T x0 x1).ev fun r => ((.c (.bool r) : AV), ([] : List Blk)) := by kernel_rfl
noncomputable def s13_0 : Ab.Spec := fun args h =>
  dN h <| dL args fun v0 a0 => dC v0 fun c0 => dR0 2 c0 fun x0 => dL a0 fun v1 a1 => dC v1 fun c1 => dR0 2 c1 fun x1 => dN a1 <|
  .opt (g13 x0 x1) fun r => .val (.c (.bool r), [])
theorem s13_0_ok : SpecOk Go.Proofs.Try.prog 13 s13_0 :=
  q13_ok.less fun args hs r h => by
    unfold s13_0 at h
    obtain ⟨rfl, hh1⟩ := dN_inv h
    obtain ⟨v0, a0, rfl, hh2⟩ := dL_inv hh1
    obtain ⟨c0, rfl, hh3⟩ := dC_inv hh2
    obtain ⟨x0, rfl, hh4⟩ := dR0_inv hh3
    obtain ⟨v1, a1, rfl, hh5⟩ := dL_inv hh4
    obtain ⟨c1, rfl, hh6⟩ := dC_inv hh5
    obtain ⟨x1, rfl, hh7⟩ := dR0_inv hh6
    obtain ⟨rfl, hh8⟩ := dN_inv hh7
    rw [g13_run, Tr.ev_get?]
    change (Res.opt (g13 x0 x1) _).eval = some r at hh8
    rw [eval_opt] at hh8
    obtain ⟨z, hz, hh9⟩ := Option.bind_eq_some_iff.mp hh8
    unfold g13 at hz
    rw [hz]; exact hh9
noncomputable def s13 : Ab.Spec := fun args h => s13_0 (coeA [[some 2], [some 2]] args) h
theorem s13_ok : SpecOk Go.Proofs.Try.prog 13 s13 := s13_0_ok.pre [[some 2], [some 2]]
/-- pontage/pontagelaw21.QueueRuns -/
noncomputable def L4 : SL := [(6, .byHeap, s6), (14, .byNew, s14), (7, .byVal, s7), (9, .byHeap, s9), (19, .byHeap, s19), (20, .byNew, s20), (15, .byNew, s15), (8, .byHeap, s8), (16, .byNew, s16), (17, .byHeap, s17), (18, .byHeap, s18), (12, .byHeap, s12), (10, .byHeap, s10), (11, .byHeap, s11), (13, .byVal, s13)]
noncomputable def e4 : Env := ⟨ti, fun g => lookS g L4, 1000000, [.drop 0, .drop 2, .drop 3, .drop 6, .drop 8, .drop 10, .drop 11, .drop 12, .drop 13, .drop 14, .drop 15, .drop 16, .drop 17, .drop 18, .drop 19, .drop 20, .drop 21, .drop 22, .drop 23, .drop 24, .drop 25, .drop 26, .drop 27, .drop 28, .drop 29, .drop 30, .drop 31, .drop 32, .drop 33, .drop 34, .drop 35, .drop 36, .drop 37, .drop 38, .drop 39, .drop 40, .drop 41, .drop 42, .drop 43, .drop 44, .drop 45, .drop 46, .drop 47, .drop 48, .drop 49, .drop 50, .drop 51, .drop 52, .drop 53, .drop 54, .drop 55, .drop 56, .drop 57, .drop 58, .drop 59, .drop 60, .drop 61, .drop 62, .drop 63, .drop 64, .drop 65, .drop 66, .drop 67, .drop 68, .drop 69, .drop 70, .drop 71, .drop 72, .drop 73, .drop 74, .drop 75, .drop 76, .drop 77, .drop 78, .drop 79, .drop 80, .drop 81, .drop 82, .drop 83, .drop 84, .drop 85, .drop 86, .drop 87, .drop 88, .drop 89, .drop 90, .drop 91, .drop 92, .drop 93, .drop 94, .drop 95, .drop 96, .drop 97, .drop 98, .drop 99, .drop 100, .drop 101, .drop 102, .drop 103, .drop 104, .drop 105, .drop 106, .drop 107, .drop 108, .drop 109, .drop 110, .drop 111, .drop 112, .drop 113, .drop 114, .drop 115, .drop 116, .drop 117, .drop 118, .drop 119, .drop 120, .drop 121, .drop 122, .drop 123, .drop 124, .drop 125, .drop 126, .drop 127, .drop 128, .drop 129, .drop 130, .drop 131, .drop 132, .drop 133, .drop 134, .drop 135, .drop 136, .drop 137, .drop 138, .drop 139, .drop 140, .drop 141, .drop 142, .drop 143, .drop 144, .drop 145, .drop 146, .drop 147, .drop 148, .drop 149, .drop 150, .drop 151, .drop 152, .drop 153, .drop 154, .drop 155, .drop 156, .drop 157, .drop 158, .drop 159, .drop 160, .drop 161, .drop 162], [4000000], some [4]⟩
structure W4_0 where
  a0 : List S1
  a1 : Bool
  a2 : Int
  a3 : Int
  a4 : List S2
def hd4_0 (v : W4_0) : St := ⟨[.top, .c (.rs 1 v.a0), .top, .top, .c (.bool v.a1), .c (.nilp), .top, .c (.ptr 0 0), .top, .c (.int .i64 v.a2), .top, .top, .top, .top, .top, .top, .top, .top, .top, .top, .top, .top, .top, .top, .top, .top, .top, .top, .top, .top, .top, .top, .top, .top, .top, .top, .top, .top, .top, .top, .top, .top, .top, .top, .top, .top, .top, .top, .top, .top, .top, .top, .top, .top, .top, .top, .top, .top, .top, .top, .top, .top, .top, .top, .top, .top, .top, .top, .top, .top, .top, .top, .top, .top, .top, .top, .top, .top, .top, .top, .top, .top, .top, .top, .top, .top, .top, .top, .top, .top, .top, .top, .top, .top, .top, .top, .top, .top, .top, .top, .top, .top, .top, .top, .top, .top, .top, .top, .top, .top, .top, .top, .top, .top, .top, .top, .top, .top, .top, .top, .top, .top, .top, .top, .top, .top, .top, .top, .top, .top, .top, .top, .top, .top, .top, .top, .top, .top, .top, .top, .top, .top, .top, .top, .top, .top, .top, .top, .top, .top, .top, .top, .top, .top, .top, .top, .top, .top, .top, .top, .top, .top, .top], [.cells [.int .i64 v.a3, .rs 2 v.a4]]⟩
structure U4_0 where
  a0 : Bool
def hu4_0 (u : U4_0) : St := ⟨[.top, .top, .top, .top, .c (.bool u.a0), .top, .top, .top, .top, .top, .top, .top, .top, .top, .top, .top, .top, .top, .top, .top, .top, .top, .top, .top, .top, .top, .top, .top, .top, .top, .top, .top, .top, .top, .top, .top, .top, .top, .top, .top, .top, .top, .top, .top, .top, .top, .top, .top, .top, .top, .top, .top, .top, .top, .top, .top, .top, .top, .top, .top, .top, .top, .top, .top, .top, .top, .top, .top, .top, .top, .top, .top, .top, .top, .top, .top, .top, .top, .top, .top, .top, .top, .top, .top, .top, .top, .top, .top, .top, .top, .top, .top, .top, .top, .top, .top, .top, .top, .top, .top, .top, .top, .top, .top, .top, .top, .top, .top, .top, .top, .top, .top, .top, .top, .top, .top, .top, .top, .top, .top, .top, .top, .top, .top, .top, .top, .top, .top, .top, .top, .top, .top, .top, .top, .top, .top, .top, .top, .top, .top, .top, .top, .top, .top, .top, .top, .top, .top, .top, .top, .top, .top, .top, .top, .top, .top, .top, .top, .top, .top, .top, .top, .top], []⟩
def gR4_0 (v : W4_0) : Tr (W4_0 ⊕ (W4_0 ⊕ U4_0)) :=
  .br (bif (bif (decide (v.a2 < (v.a0.length : Int))) then (decide (v.a2 < 80)) else false) then false else false) (
   .br (decide (0 ≤ v.a2)) (
    .opt (v.a0[Int.toNat v.a2]?) fun y23 =>
     .br (decide (0 ≤ v.a2)) (
      .opt (v.a0[Int.toNat v.a2]?) fun y24 =>
       .br (decide (0 ≤ (mnI (y24.f1.length : Int) 2100)) && decide ((mnI (y24.f1.length : Int) 2100) ≤ (y23.f1.length : Int))) (
        .br (decide (0 ≤ v.a2)) (
         .opt (v.a0[Int.toNat v.a2]?) fun y25 =>
          .br (y25.f0 == 1) (
           .opt (g15 (S5.mk v.a3 v.a4) (List.take (Int.toNat (mnI (y24.f1.length : Int) 2100)) y23.f1)) fun z27 =>
            .br (4 != z27.2) (
             .leaf (.inr (.inr ⟨false⟩))) (
             .br (!(0 != (z27.1.f1.length : Int))) (
              .br (!(0 != (IntKind.i64.wrap (z27.1.f0 - (z27.1.f1.length : Int))))) (
               .opt (g12_0 V12_0.mk) fun z30 =>
                .opt (g13 z30.b0 z27.1.f1) fun z31 =>
                 .br (!z31) (
                  .leaf (.inr (.inr ⟨false⟩))) (
                  .leaf (.inl ({ v with a2 := (IntKind.i64.wrap (v.a2 + 1)), a3 := z27.1.f0, a4 := z27.1.f1 })))) (
               .leaf (.inr (.inr ⟨false⟩)))) (
              .leaf (.inr (.inr ⟨false⟩))))) (
           .br (y25.f0 == 2) (
            .opt (g15 (S5.mk v.a3 v.a4) (List.take (Int.toNat (mnI (y24.f1.length : Int) 2100)) y23.f1)) fun z33 =>
             .br (4 != z33.2) (
              .leaf (.inr (.inr ⟨false⟩))) (
              .br (!(0 != (z33.1.f1.length : Int))) (
               .br (!(0 != (IntKind.i64.wrap (z33.1.f0 - (z33.1.f1.length : Int))))) (
                .opt (g12_0 V12_0.mk) fun z36 =>
                 .opt (g13 z36.b0 z33.1.f1) fun z37 =>
                  .br (!z37) (
                   .leaf (.inr (.inr ⟨false⟩))) (
                   .leaf (.inl ({ v with a2 := (IntKind.i64.wrap (v.a2 + 1)), a3 := z33.1.f0, a4 := z33.1.f1 })))) (
                .leaf (.inr (.inr ⟨false⟩)))) (
               .leaf (.inr (.inr ⟨false⟩))))) (
            .br (y25.f0 == 3) (
             let z38 := g8_1 V8_1.mk
             .opt (g16 (S5.mk v.a3 v.a4)) fun z39 =>
              .br (bif (!((strO 0 z38.b0) == (strO 0 z39.2.1))) then true else (!(false == z39.2.2))) (
               .leaf (.inr (.inr ⟨false⟩))) (
               .br (!(0 != (z39.1.f1.length : Int))) (
                .br (!(0 != (IntKind.i64.wrap (z39.1.f0 - (z39.1.f1.length : Int))))) (
                 .opt (g12_0 V12_0.mk) fun z42 =>
                  .opt (g13 z42.b0 z39.1.f1) fun z43 =>
                   .br (!z43) (
                    .leaf (.inr (.inr ⟨false⟩))) (
                    .leaf (.inl ({ v with a2 := (IntKind.i64.wrap (v.a2 + 1)), a3 := z39.1.f0, a4 := z39.1.f1 })))) (
                 .leaf (.inr (.inr ⟨false⟩)))) (
                .leaf (.inr (.inr ⟨false⟩))))) (
             .br (y25.f0 == 4) (
              .opt (g17_0 V17_0.mk) fun z48 =>
               .br (z48.b0 != (v.a4.length : Int)) (
                .leaf (.inr (.inr ⟨false⟩))) (
                .br (!(0 != (IntKind.i64.wrap (v.a3 - 0)))) (
                 .opt (g12_0 V12_0.mk) fun z51 =>
                  .opt (g13 z51.b0 []) fun z52 =>
                   .br (!z52) (
                    .leaf (.inr (.inr ⟨false⟩))) (
                    .leaf (.inl ({ v with a2 := (IntKind.i64.wrap (v.a2 + 1)), a4 := [] })))) (
                 .leaf (.inr (.inr ⟨false⟩))))) (
              .br (y25.f0 == 5) (
               .leaf (.inr (.inr ⟨false⟩))) (
               .br (!(0 != (v.a4.length : Int))) (
                .br (!(0 != (IntKind.i64.wrap (v.a3 - (v.a4.length : Int))))) (
                 .opt (g12_0 V12_0.mk) fun z57 =>
                  .opt (g13 z57.b0 v.a4) fun z58 =>
                   .br (!z58) (
                    .leaf (.inr (.inr ⟨false⟩))) (
                    .leaf (.inl ({ v with a2 := (IntKind.i64.wrap (v.a2 + 1)) })))) (
                 .leaf (.inr (.inr ⟨false⟩)))) (
                .leaf (.inr (.inr ⟨false⟩))))))))) (
         .fail)) (
        .fail)) (
      .fail)) (
    .fail)) (
   .leaf (.inr (.inl (v))))
structure W4_0v1 where
  a0 : List S1
  a1 : Bool
  a2 : Int
  a3 : Int
  a4 : List S2
  a5 : Nat
  a6 : List (List S0)
def hd4_0v1 (v : W4_0v1) : St := ⟨[.top, .c (.rs 1 v.a0), .top, .top, .c (.bool v.a1), .c (.ptr 0 0), .top, .c (.ptr 1 0), .top, .c (.int .i64 v.a2), .top, .top, .top, .top, .top, .top, .top, .top, .top, .top, .top, .top, .top, .top, .top, .top, .top, .top, .top, .top, .top, .top, .top, .top, .top, .top, .top, .top, .top, .top, .top, .top, .top, .top, .top, .top, .top, .top, .top, .top, .top, .top, .top, .top, .top, .top, .top, .top, .top, .top, .top, .top, .top, .top, .top, .top, .top, .top, .top, .top, .top, .top, .top, .top, .top, .top, .top, .top, .top, .top, .top, .top, .top, .top, .top, .top, .top, .top, .top, .top, .top, .top, .top, .top, .top, .top, .top, .top, .top, .top, .top, .top, .top, .top, .top, .top, .top, .top, .top, .top, .top, .top, .top, .top, .top, .top, .top, .top, .top, .top, .top, .top, .top, .top, .top, .top, .top, .top, .top, .top, .top, .top, .top, .top, .top, .top, .top, .top, .top, .top, .top, .top, .top, .top, .top, .top, .top, .top, .top, .top, .top, .top, .top, .top, .top, .top, .top, .top, .top, .top, .top, .top, .top], [.cells [.ch 2], .cells [.int .i64 v.a3, .rs 2 v.a4], .chn 0 v.a5 v.a6]⟩
structure U4_0v1 where
  a0 : Bool
def hu4_0v1 (u : U4_0v1) : St := ⟨[.top, .top, .top, .top, .c (.bool u.a0), .top, .top, .top, .top, .top, .top, .top, .top, .top, .top, .top, .top, .top, .top, .top, .top, .top, .top, .top, .top, .top, .top, .top, .top, .top, .top, .top, .top, .top, .top, .top, .top, .top, .top, .top, .top, .top, .top, .top, .top, .top, .top, .top, .top, .top, .top, .top, .top, .top, .top, .top, .top, .top, .top, .top, .top, .top, .top, .top, .top, .top, .top, .top, .top, .top, .top, .top, .top, .top, .top, .top, .top, .top, .top, .top, .top, .top, .top, .top, .top, .top, .top, .top, .top, .top, .top, .top, .top, .top, .top, .top, .top, .top, .top, .top, .top, .top, .top, .top, .top, .top, .top, .top, .top, .top, .top, .top, .top, .top, .top, .top, .top, .top, .top, .top, .top, .top, .top, .top, .top, .top, .top, .top, .top, .top, .top, .top, .top, .top, .top, .top, .top, .top, .top, .top, .top, .top, .top, .top, .top, .top, .top, .top, .top, .top, .top, .top, .top, .top, .top, .top, .top, .top, .top, .top, .top, .top, .top], []⟩
def gR4_0v1 (v : W4_0v1) : Tr (W4_0v1 ⊕ (W4_0v1 ⊕ U4_0v1)) :=
  .br (bif (bif (decide (v.a2 < (v.a0.length : Int))) then (decide (v.a2 < 80)) else false) then true else false) (
   .br (decide (0 ≤ v.a2)) (
    .opt (v.a0[Int.toNat v.a2]?) fun y65 =>
     .br (decide (0 ≤ v.a2)) (
      .opt (v.a0[Int.toNat v.a2]?) fun y66 =>
       .br (decide (0 ≤ (mnI (y66.f1.length : Int) 2100)) && decide ((mnI (y66.f1.length : Int) 2100) ≤ (y65.f1.length : Int))) (
        .br (decide (0 ≤ v.a2)) (
         .opt (v.a0[Int.toNat v.a2]?) fun y67 =>
          .br (y67.f0 == 1) (
           .opt (g9_2 (V9_2.mk ((List.take (Int.toNat (mnI (y66.f1.length : Int) 2100)) y65.f1)) (v.a5) (v.a6))) fun z70 =>
            .opt (g15 (S5.mk v.a3 v.a4) (List.take (Int.toNat (mnI (y66.f1.length : Int) 2100)) y65.f1)) fun z71 =>
             .br (z70.b0 != z71.2) (
              .leaf (.inr (.inr ⟨false⟩))) (
              let z72 := g10_0 (V10_0.mk (v.a5) (z70.b1))
              .br (!(z72.b0 != (z71.1.f1.length : Int))) (
               let z73 := g11_0 (V11_0.mk (v.a5) (z70.b1))
               .br (!(z73.b0 != (IntKind.i64.wrap (z71.1.f0 - (z71.1.f1.length : Int))))) (
                .opt (g12_1 (V12_1.mk (v.a5) (z70.b1))) fun z78 =>
                 .opt (g13 z78.b0 z71.1.f1) fun z79 =>
                  .br (!z79) (
                   .leaf (.inr (.inr ⟨false⟩))) (
                   .leaf (.inl ({ v with a2 := (IntKind.i64.wrap (v.a2 + 1)), a3 := z71.1.f0, a4 := z71.1.f1, a5 := z78.b1, a6 := z78.b2 })))) (
                .leaf (.inr (.inr ⟨false⟩)))) (
               .leaf (.inr (.inr ⟨false⟩))))) (
           .br (y67.f0 == 2) (
            .opt (g9_2 (V9_2.mk ((List.take (Int.toNat (mnI (y66.f1.length : Int) 2100)) y65.f1)) (v.a5) (v.a6))) fun z80 =>
             .opt (g15 (S5.mk v.a3 v.a4) (List.take (Int.toNat (mnI (y66.f1.length : Int) 2100)) y65.f1)) fun z81 =>
              .br (z80.b0 != z81.2) (
               .leaf (.inr (.inr ⟨false⟩))) (
               let z82 := g10_0 (V10_0.mk (v.a5) (z80.b1))
               .br (!(z82.b0 != (z81.1.f1.length : Int))) (
                let z83 := g11_0 (V11_0.mk (v.a5) (z80.b1))
                .br (!(z83.b0 != (IntKind.i64.wrap (z81.1.f0 - (z81.1.f1.length : Int))))) (
                 .opt (g12_1 (V12_1.mk (v.a5) (z80.b1))) fun z84 =>
                  .opt (g13 z84.b0 z81.1.f1) fun z85 =>
                   .br (!z85) (
                    .leaf (.inr (.inr ⟨false⟩))) (
                    .leaf (.inl ({ v with a2 := (IntKind.i64.wrap (v.a2 + 1)), a3 := z81.1.f0, a4 := z81.1.f1, a5 := z84.b1, a6 := z84.b2 })))) (
                 .leaf (.inr (.inr ⟨false⟩)))) (
                .leaf (.inr (.inr ⟨false⟩))))) (
            .br (y67.f0 == 3) (
             .opt (g8_0 (V8_0.mk (v.a5) (v.a6))) fun z86 =>
              .opt (g16 (S5.mk v.a3 v.a4)) fun z87 =>
               .br (bif (!((strO 0 z86.b0) == (strO 0 z87.2.1))) then true else (!(z86.b1 == z87.2.2))) (
                .leaf (.inr (.inr ⟨false⟩))) (
                let z88 := g10_0 (V10_0.mk (v.a5) (z86.b2))
                .br (!(z88.b0 != (z87.1.f1.length : Int))) (
                 let z89 := g11_0 (V11_0.mk (v.a5) (z86.b2))
                 .br (!(z89.b0 != (IntKind.i64.wrap (z87.1.f0 - (z87.1.f1.length : Int))))) (
                  .opt (g12_1 (V12_1.mk (v.a5) (z86.b2))) fun z90 =>
                   .opt (g13 z90.b0 z87.1.f1) fun z91 =>
                    .br (!z91) (
                     .leaf (.inr (.inr ⟨false⟩))) (
                     .leaf (.inl ({ v with a2 := (IntKind.i64.wrap (v.a2 + 1)), a3 := z87.1.f0, a4 := z87.1.f1, a5 := z90.b1, a6 := z90.b2 })))) (
                  .leaf (.inr (.inr ⟨false⟩)))) (
                 .leaf (.inr (.inr ⟨false⟩))))) (
             .br (y67.f0 == 4) (
              .opt (g17_1 (V17_1.mk (v.a5) (v.a6))) fun z96 =>
               .br (z96.b0 != (v.a4.length : Int)) (
                .leaf (.inr (.inr ⟨false⟩))) (
                let z97 := g10_0 (V10_0.mk (z96.b1) (z96.b2))
                .br (!(z97.b0 != 0)) (
                 let z98 := g11_0 (V11_0.mk (z96.b1) (z96.b2))
                 .br (!(z98.b0 != (IntKind.i64.wrap (v.a3 - 0)))) (
                  .opt (g12_1 (V12_1.mk (z96.b1) (z96.b2))) fun z99 =>
                   .opt (g13 z99.b0 []) fun z100 =>
                    .br (!z100) (
                     .leaf (.inr (.inr ⟨false⟩))) (
                     .leaf (.inl ({ v with a2 := (IntKind.i64.wrap (v.a2 + 1)), a4 := [], a5 := z99.b1, a6 := z99.b2 })))) (
                  .leaf (.inr (.inr ⟨false⟩)))) (
                 .leaf (.inr (.inr ⟨false⟩))))) (
              .br (y67.f0 == 5) (
               .opt (g18_1 (V18_1.mk (v.a5) (v.a6))) fun z106 =>
                .opt (g9_0 (V9_0.mk ([(S0.mk 111), (S0.mk 116), (S0.mk 104), (S0.mk 101), (S0.mk 114)]) (z106.b0) (z106.b1))) fun z107 =>
                 .opt (g8_0 (V8_0.mk (z106.b0) (z107.b1))) fun z108 =>
                  let z109 := g10_0 (V10_0.mk (z106.b2) (z106.b3))
                  .br (!(z109.b0 != (v.a4.length : Int))) (
                   let z110 := g11_0 (V11_0.mk (z106.b2) (z106.b3))
                   .br (!(z110.b0 != (IntKind.i64.wrap (v.a3 - (v.a4.length : Int))))) (
                    .opt (g12_1 (V12_1.mk (z106.b2) (z106.b3))) fun z111 =>
                     .opt (g13 z111.b0 v.a4) fun z112 =>
                      .br (!z112) (
                       .leaf (.inr (.inr ⟨false⟩))) (
                       .leaf (.inl ({ v with a2 := (IntKind.i64.wrap (v.a2 + 1)), a5 := z111.b1, a6 := z111.b2 })))) (
                    .leaf (.inr (.inr ⟨false⟩)))) (
                   .leaf (.inr (.inr ⟨false⟩)))) (
               let z113 := g10_0 (V10_0.mk (v.a5) (v.a6))
               .br (!(z113.b0 != (v.a4.length : Int))) (
                let z114 := g11_0 (V11_0.mk (v.a5) (v.a6))
                .br (!(z114.b0 != (IntKind.i64.wrap (v.a3 - (v.a4.length : Int))))) (
                 .opt (g12_1 (V12_1.mk (v.a5) (v.a6))) fun z115 =>
                  .opt (g13 z115.b0 v.a4) fun z116 =>
                   .br (!z116) (
                    .leaf (.inr (.inr ⟨false⟩))) (
                    .leaf (.inl ({ v with a2 := (IntKind.i64.wrap (v.a2 + 1)), a5 := z115.b1, a6 := z115.b2 })))) (
                 .leaf (.inr (.inr ⟨false⟩)))) (
                .leaf (.inr (.inr ⟨false⟩))))))))) (
         .fail)) (
        .fail)) (
      .fail)) (
    .fail)) (
   .leaf (.inr (.inl (v))))
noncomputable def lb4_0 : Code := match findB 0 (Go.Proofs.Try.f4.body.getD .skip) with | [.loop b] => b | _ => .skip
def pa4_0x0 : List PA := [.any, .c (.rs 1), .any, .any, .c (.bool), .c (.nilp), .any, .c (.ptr 0 0), .any, .c (.int .i64), .any, .any, .any, .any, .any, .any, .any, .any, .any, .any, .any, .any, .any, .any, .any, .any, .any, .any, .any, .any, .any, .any, .any, .any, .any, .any, .any, .any, .any, .any, .any, .any, .any, .any, .any, .any, .any, .any, .any, .any, .any, .any, .any, .any, .any, .any, .any, .any, .any, .any, .any, .any, .any, .any, .any, .any, .any, .any, .any, .any, .any, .any, .any, .any, .any, .any, .any, .any, .any, .any, .any, .any, .any, .any, .any, .any, .any, .any, .any, .any, .any, .any, .any, .any, .any, .any, .any, .any, .any, .any, .any, .any, .any, .any, .any, .any, .any, .any, .any, .any, .any, .any, .any, .any, .any, .any, .any, .any, .any, .any, .any, .any, .any, .any, .any, .any, .any, .any, .any, .any, .any, .any, .any, .any, .any, .any, .any, .any, .any, .any, .any, .any, .any, .any, .any, .any, .any, .any, .any, .any, .any, .any, .any, .any, .any, .any, .any, .any, .any, .any, .any, .any, .any]
def pb4_0x0 : List PB := [.cells [.int .i64, .rs 2]]
def ini4_0x0 (s : St) : W4_0 := ⟨rC 1 (aC (s.tmps.getD 1 .top)), bC (aC (s.tmps.getD 4 .top)), iC (aC (s.tmps.getD 9 .top)), iC ((bL (s.heap.getD 0 .dead)).getD 0 .top), rC 2 ((bL (s.heap.getD 0 .dead)).getD 1 .top)⟩
noncomputable def F4_0x0 : St → Res (Ex × St) := loopF2 pa4_0x0 pb4_0x0 1000000 hd4_0 hu4_0 gR4_0 ini4_0x0
theorem F4_0x0_ok (s : St) (r : Ex × St) (h : (F4_0x0 s).eval = some r) : (codeR e4 0 (.block 0 (.loop lb4_0)) s).eval = some r :=
  blk_ok2 (e := e4) (T := lookT []) (fun s v => by kernel_rfl) (fun s => by kernel_rfl) (tab_nil) s r h
def pa4_0x1 : List PA := [.any, .c (.rs 1), .any, .any, .c (.bool), .c (.ptr 0 0), .any, .c (.ptr 2 0), .any, .c (.int .i64), .any, .any, .any, .any, .any, .any, .any, .any, .any, .any, .any, .any, .any, .any, .any, .any, .any, .any, .any, .any, .any, .any, .any, .any, .any, .any, .any, .any, .any, .any, .any, .any, .any, .any, .any, .any, .any, .any, .any, .any, .any, .any, .any, .any, .any, .any, .any, .any, .any, .any, .any, .any, .any, .any, .any, .any, .any, .any, .any, .any, .any, .any, .any, .any, .any, .any, .any, .any, .any, .any, .any, .any, .any, .any, .any, .any, .any, .any, .any, .any, .any, .any, .any, .any, .any, .any, .any, .any, .any, .any, .any, .any, .any, .any, .any, .any, .any, .any, .any, .any, .any, .any, .any, .any, .any, .any, .any, .any, .any, .any, .any, .any, .any, .any, .any, .any, .any, .any, .any, .any, .any, .any, .any, .any, .any, .any, .any, .any, .any, .any, .any, .any, .any, .any, .any, .any, .any, .any, .any, .any, .any, .any, .any, .any, .any, .any, .any, .any, .any, .any, .any, .any, .any]
def pb4_0x1 : List PB := [.cells [.ch 1], .chn 0, .cells [.int .i64, .rs 2]]
def ini4_0x1 (s : St) : W4_0v1 := ⟨rC 1 (aC (s.tmps.getD 1 .top)), bC (aC (s.tmps.getD 4 .top)), iC (aC (s.tmps.getD 9 .top)), iC ((bL (s.heap.getD 2 .dead)).getD 0 .top), rC 2 ((bL (s.heap.getD 2 .dead)).getD 1 .top), bCap (s.heap.getD 1 .dead), bChn 0 (s.heap.getD 1 .dead)⟩
noncomputable def F4_0x1 : St → Res (Ex × St) := loopF2 pa4_0x1 pb4_0x1 1000000 hd4_0v1 hu4_0v1 gR4_0v1 ini4_0x1
theorem F4_0x1_ok (s : St) (r : Ex × St) (h : (F4_0x1 s).eval = some r) : (codeR e4 0 (.block 0 (.loop lb4_0)) s).eval = some r :=
  blk_ok2 (e := e4) (T := lookT []) (fun s v => by kernel_rfl) (fun s => by kernel_rfl) (tab_nil) s r h
noncomputable def F4_0 : St → Res (Ex × St) := (orF pa4_0x0 pb4_0x0 F4_0x0 F4_0x1)
theorem F4_0_ok (s : St) (r : Ex × St) (h : (F4_0 s).eval = some r) : (codeR e4 0 (.block 0 (.loop lb4_0)) s).eval = some r := (orF_ok F4_0x0_ok F4_0x1_ok) s r h
def g4T (x0 : Int) (x1 : List S1) : Tr (Bool) :=
  .br (bif (decide (x0 < 1)) then true else (decide (x0 > 32))) (
   let z20 := g14 x0
   .br (!(bif (210 != z20.2) then true else (!(false == (z20.2 == 0))))) (
    .opt (g7 ) fun z22 =>
     .br (!z22) (
      .leaf (false)) (
      .opt (iter2 gR4_0 1000000 (W4_0.mk (x1) (false) (0) (z20.1.f0) (z20.1.f1))) fun r59 =>
       .br r59.isRight (
        .opt (r59.getRight?) fun u60 =>
         .leaf (u60.a0)) (
        .opt (r59.getLeft?) fun w61 =>
         .leaf (true)))) (
    .leaf (false))) (
   .br (decide (0 ≤ x0) && decide (x0 ≤ 9223372036854775807) && decide ((24 : Int) * x0 ≤ 281474976710544) && Nat.ble 1 1) (
    let z62 := g14 x0
    .br (!(bif (0 != z62.2) then true else (!(true == (z62.2 == 0))))) (
     .opt (g7 ) fun z64 =>
      .br (!z64) (
       .leaf (false)) (
       .opt (iter2 gR4_0v1 1000000 (W4_0v1.mk (x1) (false) (0) (z62.1.f0) (z62.1.f1) ((Int.toNat x0)) ([]))) fun r117 =>
        .br r117.isRight (
         .opt (r117.getRight?) fun u118 =>
          .leaf (u118.a0)) (
         .opt (r117.getLeft?) fun w119 =>
          .leaf (true)))) (
     .leaf (false))) (
    .fail))
def g4 (x0 : Int) (x1 : List S1) : Option (Bool) := (g4T x0 x1).get?
noncomputable def T4 : TL := [(0, F4_0)]
noncomputable def q4 : Ab.Spec := runQ0 e4 (lookT T4) Go.Proofs.Try.f4
theorem q4_ok : SpecOk Go.Proofs.Try.prog 4 q4 := (runQ0_ok (runR_ok  (e := e4) follows (allTI ti_ok _ _ _ _ _) (callsOk_cons s6_ok (callsOk_cons s14_ok (callsOk_cons s7_ok (callsOk_cons s9_ok (callsOk_cons s19_ok (callsOk_cons s20_ok (callsOk_cons s15_ok (callsOk_cons s8_ok (callsOk_cons s16_ok (callsOk_cons s17_ok (callsOk_cons s18_ok (callsOk_cons s12_ok (callsOk_cons s10_ok (callsOk_cons s11_ok (callsOk_cons s13_ok (callsOk_nil)))))))))))))))) Go.Proofs.Try.func4 Go.Proofs.Try.call4) (fun c hc => by
  have hb : c = Go.Proofs.Try.f4.body.getD .skip := by rw [hc]; rfl
  subst hb
  exact tab_cons (by kernel_rfl) F4_0_ok (tab_nil)))
theorem g4_run (x0 : Int) (x1 : List S1) : (q4 [.c (.int .i64 x0), .c (.rs 1 x1)] []).eval = (g4T x0 x1).ev fun r => ((.c (.bool r) : AV), ([] : List Blk)) := by kernel_rfl
noncomputable def s4_0 : Ab.Spec := fun args h =>
  dN h <| dL args fun v0 a0 => dC v0 fun c0 => dI .i64 c0 fun x0 => dL a0 fun v1 a1 => dC v1 fun c1 => dR0 1 c1 fun x1 => dN a1 <|
  .opt (g4 x0 x1) fun r => .val (.c (.bool r), [])
theorem s4_0_ok : SpecOk Go.Proofs.Try.prog 4 s4_0 :=
  q4_ok.less fun args hs r h => by
    unfold s4_0 at h
    obtain ⟨rfl, hh1⟩ := dN_inv h
    obtain ⟨v0, a0, rfl, hh2⟩ := dL_inv hh1
    obtain ⟨c0, rfl, hh3⟩ := dC_inv hh2
    obtain ⟨x0, rfl, hh4⟩ := dI_inv hh3
    obtain ⟨v1, a1, rfl, hh5⟩ := dL_inv hh4
    obtain ⟨c1, rfl, hh6⟩ := dC_inv hh5
    obtain ⟨x1, rfl, hh7⟩ := dR0_inv hh6
    obtain ⟨rfl, hh8⟩ := dN_inv hh7
    rw [g4_run, Tr.ev_get?]
    change (Res.opt (g4 x0 x1) _).eval = some r at hh8
    rw [eval_opt] at hh8
    obtain ⟨z, hz, hh9⟩ := Option.bind_eq_some_iff.mp hh8
    unfold g4 at hz
    rw [hz]; exact hh9
noncomputable def s4 : Ab.Spec := fun args h => s4_0 (coeA [[], [some 1]] args) h
theorem s4_ok : SpecOk Go.Proofs.Try.prog 4 s4 := s4_0_ok.pre [[], [some 1]]
/-- pontage/pontagelaw21.QueueNobody -/
noncomputable def L5 : SL := [(8, .byHeap, s8), (19, .byHeap, s19), (9, .byHeap, s9), (20, .byNew, s20), (10, .byHeap, s10), (11, .byHeap, s11), (12, .byHeap, s12), (17, .byHeap, s17), (18, .byHeap, s18), (7, .byVal, s7)]
noncomputable def e5 : Env := ⟨ti, fun g => lookS g L5, 1000000, [.drop 1, .drop 3, .drop 4, .drop 5, .drop 6, .drop 7, .drop 8, .drop 9, .drop 10, .drop 14, .drop 15, .drop 16, .drop 17, .drop 18, .drop 19, .drop 20, .drop 21, .drop 22, .drop 23, .drop 24, .drop 25, .drop 26, .drop 27, .drop 28, .drop 29, .drop 30, .drop 31, .drop 32, .drop 33, .drop 34, .drop 35, .drop 36, .drop 37, .drop 38, .drop 39, .drop 40, .drop 41, .drop 42, .drop 43, .drop 44, .drop 45, .drop 46, .drop 47, .drop 48, .drop 49, .drop 50, .drop 51, .drop 52, .drop 53, .drop 54, .drop 55, .drop 56, .drop 57], [], some [2]⟩
def g5T (x0 : List S0) : Tr (Bool) :=
  let z120 := g8_1 V8_1.mk
  .br (decide (0 ≤ (mnI (x0.length : Int) 100)) && decide ((mnI (x0.length : Int) 100) ≤ (x0.length : Int))) (
   .opt (g12_0 V12_0.mk) fun z124 =>
    .opt (g17_0 V17_0.mk) fun z125 =>
     .br (!(bif ((IntKind.i64.wrap ((IntKind.i64.wrap ((IntKind.i64.wrap ((IntKind.i64.wrap ((z120.b0.length : Int) + 0)) + 0)) + (z124.b0.length : Int))) + z125.b0)) != 0) then true else false)) (
      let z128 := g8_2 V8_2.mk
      .br (decide (0 ≤ (mnI (x0.length : Int) 100)) && decide ((mnI (x0.length : Int) 100) ≤ (x0.length : Int))) (
       .opt (g12_2 V12_2.mk) fun z138 =>
        .opt (g17_2 V17_2.mk) fun z143 =>
         .br (!(bif ((IntKind.i64.wrap ((IntKind.i64.wrap ((IntKind.i64.wrap ((IntKind.i64.wrap ((z128.b0.length : Int) + 0)) + 0)) + (z138.b0.length : Int))) + z143.b0)) != 0) then true else false)) (
          .opt (g7 ) fun z146 =>
           .leaf (z146)) (
          .leaf (false))) (
       .fail)) (
      .leaf (false))) (
   .fail)
def g5 (x0 : List S0) : Option (Bool) := (g5T x0).get?
noncomputable def T5 : TL := []
noncomputable def q5 : Ab.Spec := runQ0 e5 (lookT T5) Go.Proofs.Try.f5
theorem q5_ok : SpecOk Go.Proofs.Try.prog 5 q5 := (runQ0_ok (runR_ok  (e := e5) follows (allTI ti_ok _ _ _ _ _) (callsOk_cons s8_ok (callsOk_cons s19_ok (callsOk_cons s9_ok (callsOk_cons s20_ok (callsOk_cons s10_ok (callsOk_cons s11_ok (callsOk_cons s12_ok (callsOk_cons s17_ok (callsOk_cons s18_ok (callsOk_cons s7_ok (callsOk_nil))))))))))) Go.Proofs.Try.func5 Go.Proofs.Try.call5) (fun c hc => by
  have hb : c = Go.Proofs.Try.f5.body.getD .skip := by rw [hc]; rfl
  subst hb
  exact tab_nil))
theorem g5_run (x0 : List S0) : (q5 [.c (.rs 0 x0)] []).eval = (g5T x0).ev fun r => ((.c (.bool r) : AV), ([] : List Blk)) := by kernel_rfl
noncomputable def s5_0 : Ab.Spec := fun args h =>
  dN h <| dL args fun v0 a0 => dC v0 fun c0 => dR0 0 c0 fun x0 => dN a0 <|
  .opt (g5 x0) fun r => .val (.c (.bool r), [])
theorem s5_0_ok : SpecOk Go.Proofs.Try.prog 5 s5_0 :=
  q5_ok.less fun args hs r h => by
    unfold s5_0 at h
    obtain ⟨rfl, hh1⟩ := dN_inv h
    obtain ⟨v0, a0, rfl, hh2⟩ := dL_inv hh1
    obtain ⟨c0, rfl, hh3⟩ := dC_inv hh2
    obtain ⟨x0, rfl, hh4⟩ := dR0_inv hh3
    obtain ⟨rfl, hh5⟩ := dN_inv hh4
    rw [g5_run, Tr.ev_get?]
    change (Res.opt (g5 x0) _).eval = some r at hh5
    rw [eval_opt] at hh5
    obtain ⟨z, hz, hh6⟩ := Option.bind_eq_some_iff.mp hh5
    unfold g5 at hz
    rw [hz]; exact hh6
noncomputable def s5 : Ab.Spec := fun args h => s5_0 (coeA [[some 0]] args) h
theorem s5_ok : SpecOk Go.Proofs.Try.prog 5 s5 := s5_0_ok.pre [[some 0]]
end Ab21
