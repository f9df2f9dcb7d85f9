/- Seat 14: the functions. -/
import Derived.Test.YthjfjnikbfdfaaaAb14a
set_option maxRecDepth 100000
set_option maxHeartbeats 4000000
set_option linter.unusedVariables false
set_option linter.unusedSimpArgs false
namespace Ab14
open Go Ab
/-- pontage/pontagelaw12.Few -/
noncomputable def L10 : SL := []
noncomputable def e10 : Env := ⟨ti, fun g => lookS g L10, 1000000, [], []⟩
def g10T (x0 : S5) : Tr (S5) :=
  .br (decide ((x0.f16.length : Int) > 12)) (
   .br (decide (0 ≤ 12) && decide (12 ≤ (x0.f16.length : Int))) (
    .leaf ({ x0 with f16 := (List.take (Int.toNat 12) x0.f16) })) (
    .fail)) (
   .leaf (x0))
def g10 (x0 : S5) : Option (S5) := (g10T x0).get?
noncomputable def T10 : TL := []
noncomputable def q10 : Ab.Spec := frzR [[none, none, none, none, none, none, none, none, none, none, none, none, none, none, none, none, some 0]] (runQ0 e10 (lookT T10) Go.Proofs.Try.f10)
theorem q10_ok : SpecOk Go.Proofs.Try.prog 10 q10 := (runQ0_ok (runR_ok (e := e10) follows (allTI ti_ok _ _ _ _) (callsOk_nil) Go.Proofs.Try.func10 Go.Proofs.Try.call10) (fun c hc => by
  have hb : c = Go.Proofs.Try.f10.body.getD .skip := by rw [hc]; rfl
  subst hb
  exact tab_nil)).froze [[none, none, none, none, none, none, none, none, none, none, none, none, none, none, none, none, some 0]]
theorem g10_run (x0 : S5) : (q10 [.agg (Cod.enc 5 x0)] []).eval = (g10T x0).ev fun r => ((.agg (Cod.enc 5 r) : AV), ([] : List Blk)) := by kernel_rfl
noncomputable def s10_0 : Ab.Spec := fun args h =>
  dN h <| dL args fun v0 a0 => dG v0 fun l0 => dE 5 l0 fun x0 => dN a0 <|
  .opt (g10 x0) fun r => .val (.agg (Cod.enc 5 r), [])
theorem s10_0_ok : SpecOk Go.Proofs.Try.prog 10 s10_0 :=
  q10_ok.less fun args hs r h => by
    unfold s10_0 at h
    obtain ⟨rfl, hh1⟩ := dN_inv h
    obtain ⟨v0, a0, rfl, hh2⟩ := dL_inv hh1
    obtain ⟨l0, rfl, hh3⟩ := dG_inv hh2
    obtain ⟨x0, rfl, hh4⟩ := dE_inv hh3
    obtain ⟨rfl, hh5⟩ := dN_inv hh4
    rw [g10_run, Tr.ev_get?]
    change (Res.opt (g10 x0) _).eval = some r at hh5
    rw [eval_opt] at hh5
    obtain ⟨z, hz, hh6⟩ := Option.bind_eq_some_iff.mp hh5
    unfold g10 at hz
    rw [hz]; exact hh6
noncomputable def s10 : Ab.Spec := fun args h => s10_0 (coeA [[none, none, none, none, none, none, none, none, none, none, none, none, none, none, none, none, some 0]] args) h
theorem s10_ok : SpecOk Go.Proofs.Try.prog 10 s10 := s10_0_ok.pre [[none, none, none, none, none, none, none, none, none, none, none, none, none, none, none, none, some 0]]
/-- pontage/change.has -/
noncomputable def L21 : SL := []
noncomputable def e21 : Env := ⟨ti, fun g => lookS g L21, 1000000, [], []⟩
def g21T (x0 : S5) (x1 : Int) : Tr (Bool) :=
  .leaf ((bif (decide (x1 ≥ 0)) then (decide (x1 < (x0.f16.length : Int))) else false))
def g21 (x0 : S5) (x1 : Int) : Bool := (g21T x0 x1).get default
noncomputable def T21 : TL := []
noncomputable def q21 : Ab.Spec := runQ0 e21 (lookT T21) Go.Proofs.Try.f21
theorem q21_ok : SpecOk Go.Proofs.Try.prog 21 q21 := (runQ0_ok (runR_ok (e := e21) follows (allTI ti_ok _ _ _ _) (callsOk_nil) Go.Proofs.Try.func21 Go.Proofs.Try.call21) (fun c hc => by
  have hb : c = Go.Proofs.Try.f21.body.getD .skip := by rw [hc]; rfl
  subst hb
  exact tab_nil))
theorem g21_run (x0 : S5) (x1 : Int) : (q21 [.agg (Cod.enc 5 x0), .c (.int .i64 x1)] []).eval = (g21T x0 x1).ev fun r => ((.c (.bool r) : AV), ([] : List Blk)) := by kernel_rfl
noncomputable def s21_0 : Ab.Spec := fun args h =>
  dN h <| dL args fun v0 a0 => dG v0 fun l0 => dE 5 l0 fun x0 => dL a0 fun v1 a1 => dC v1 fun c0 => dI .i64 c0 fun x1 => dN a1 <|
  let r := g21 x0 x1; .val (.c (.bool r), [])
theorem s21_0_ok : SpecOk Go.Proofs.Try.prog 21 s21_0 :=
  q21_ok.less fun args hs r h => by
    unfold s21_0 at h
    obtain ⟨rfl, hh1⟩ := dN_inv h
    obtain ⟨v0, a0, rfl, hh2⟩ := dL_inv hh1
    obtain ⟨l0, rfl, hh3⟩ := dG_inv hh2
    obtain ⟨x0, rfl, hh4⟩ := dE_inv hh3
    obtain ⟨v1, a1, rfl, hh5⟩ := dL_inv hh4
    obtain ⟨c0, rfl, hh6⟩ := dC_inv hh5
    obtain ⟨x1, rfl, hh7⟩ := dI_inv hh6
    obtain ⟨rfl, hh8⟩ := dN_inv hh7
    rw [g21_run, Tr.ev_get (d := default) (by kernel_rfl)]
    exact hh8
noncomputable def s21 : Ab.Spec := fun args h => s21_0 (coeA [[none, none, none, none, none, none, none, none, none, none, none, none, none, none, none, none, some 0], []] args) h
theorem s21_ok : SpecOk Go.Proofs.Try.prog 21 s21 := s21_0_ok.pre [[none, none, none, none, none, none, none, none, none, none, none, none, none, none, none, none, some 0], []]
/-- slices.Clone[[]pontage/api.Port,pontage/api.Port] -/
noncomputable def L22 : SL := []
noncomputable def e22 : Env := ⟨ti, fun g => lookS g L22, 1000000, [], []⟩
theorem s22_a : (runR e22 Go.Proofs.Try.f22 [.c (.rn true 0 [])] []).eval = some (.c .nils, []) := by kernel_rfl
theorem s22_b (L : List S0) : (runR e22 Go.Proofs.Try.f22 [.c (.rn false 0 L)] []).eval = bif L.isEmpty then some (.c .ez, []) else bif cloneB 0 248 L then some (.c (.slw 0), [.row 0 L]) else none := by
  cases L with
  | nil => kernel_rfl
  | cons x L => kernel_rfl
noncomputable def s22 : Ab.Spec := fun args h => cloneS 0 248 (coeA [[some 0]] args) h
theorem s22_ok : SpecOk Go.Proofs.Try.prog 22 s22 := (clone_ok (e := e22) (c := 0) (bytes := 248) (runR_ok (e := e22) follows (allTI ti_ok _ _ _ _) (callsOk_nil) Go.Proofs.Try.func22 Go.Proofs.Try.call22) s22_a s22_b).pre [[some 0]]
/-- pontage/change.Prop -/
noncomputable def L12 : SL := [(21, .byVal, s21), (22, .byNew, s22)]
noncomputable def e12 : Env := ⟨ti, fun g => lookS g L12, 1000000, [.drop 0, .drop 3, .drop 6, .drop 7, .drop 8, .drop 9, .drop 10, .drop 11, .drop 12, .drop 13, .drop 14, .drop 15, .drop 16], []⟩
structure W12_0 where
  a0 : Int
  a1 : Int
  a2 : Int
  a3 : Int
  a4 : Int
  a5 : Int
  a6 : Int
  a7 : Int
  a8 : Int
  a9 : Bool
  a10 : Int
  a11 : Int
  a12 : Int
  a13 : Int
  a14 : Int
  a15 : Int
  a16 : Int
  a17 : Int
  a18 : Int
  a19 : Int
  a20 : Int
  a21 : Int
  a22 : Int
  a23 : Int
  a24 : Int
  a25 : Bool
  a26 : Int
  a27 : Int
  a28 : Int
  a29 : Int
  a30 : Int
  a31 : Int
  a32 : Int
  a33 : Int
  a34 : Int
  a35 : List S0
def hd12_0 (v : W12_0) : St := ⟨[.top, .c (.int .i64 v.a0), .c (.ptr 0 0), .top, .c (.ptr 1 0), .top, .top, .top, .top, .top, .top, .top, .top, .top, .top, .top, .top, .c (.int .i64 v.a1), .c (.int .i64 v.a2), .top, .top, .top, .top, .top, .top, .top, .top, .top, .top, .top, .top], [.cells [.int .u64 v.a3, .int .u8 v.a4, .int .u8 v.a5, .int .u8 v.a6, .int .u8 v.a7, .int .u8 v.a8, .bool v.a9, .int .u16 v.a10, .int .u64 v.a11, .int .u32 v.a12, .int .u64 v.a13, .int .u16 v.a14, .int .u8 v.a15, .int .u8 v.a16, .int .u8 v.a17, .int .u8 v.a18, .slw 2], .cells [.int .u64 v.a19, .int .u8 v.a20, .int .u8 v.a21, .int .u8 v.a22, .int .u8 v.a23, .int .u8 v.a24, .bool v.a25, .int .u16 v.a26, .int .u64 v.a27, .int .u32 v.a28, .int .u64 v.a29, .int .u16 v.a30, .int .u8 v.a31, .int .u8 v.a32, .int .u8 v.a33, .int .u8 v.a34, .nils], .row 0 v.a35]⟩
def gR12_0 (v : W12_0) : Tr (W12_0 ⊕ (Bool × W12_0)) :=
  .br (decide (v.a2 < v.a1)) (
   .br (v.a2 == v.a0) (
    .leaf (.inl ({ v with a2 := (IntKind.i64.wrap (v.a2 + 1)) }))) (
    .br (decide (0 ≤ v.a2) && decide (v.a2 < (v.a35.length : Int))) (
     .opt (v.a35[(Int.toNat v.a2)]?) fun y3 =>
      .leaf (.inl ({ v with a2 := (IntKind.i64.wrap (v.a2 + 1)), a35 := (List.set v.a35 (Int.toNat v.a2) { y3 with f27 := true }) }))) (
     .fail))) (
   .leaf (.inr (false, v)))
noncomputable def lb12_0 : Code := match findB 0 (Go.Proofs.Try.f12.body.getD .skip) with | [.loop b] => b | _ => .skip
def pa12_0 : List PA := [.any, .c (.int .i64), .c (.ptr 0 0), .any, .c (.ptr 1 0), .top, .any, .any, .any, .any, .any, .any, .any, .any, .any, .any, .any, .c (.int .i64), .c (.int .i64), .top, .top, .top, .top, .top, .top, .top, .top, .top, .top, .top, .top]
def pb12_0 : List PB := [.cells [.int .u64, .int .u8, .int .u8, .int .u8, .int .u8, .int .u8, .bool, .int .u16, .int .u64, .int .u32, .int .u64, .int .u16, .int .u8, .int .u8, .int .u8, .int .u8, .slw 2], .cells [.int .u64, .int .u8, .int .u8, .int .u8, .int .u8, .int .u8, .bool, .int .u16, .int .u64, .int .u32, .int .u64, .int .u16, .int .u8, .int .u8, .int .u8, .int .u8, .nils], .row 0]
def ini12_0 (s : St) : W12_0 := ⟨iC (aC (s.tmps.getD 1 .top)), iC (aC (s.tmps.getD 17 .top)), iC (aC (s.tmps.getD 18 .top)), iC ((bL (s.heap.getD 0 .dead)).getD 0 .top), iC ((bL (s.heap.getD 0 .dead)).getD 1 .top), iC ((bL (s.heap.getD 0 .dead)).getD 2 .top), iC ((bL (s.heap.getD 0 .dead)).getD 3 .top), iC ((bL (s.heap.getD 0 .dead)).getD 4 .top), iC ((bL (s.heap.getD 0 .dead)).getD 5 .top), bC ((bL (s.heap.getD 0 .dead)).getD 6 .top), iC ((bL (s.heap.getD 0 .dead)).getD 7 .top), iC ((bL (s.heap.getD 0 .dead)).getD 8 .top), iC ((bL (s.heap.getD 0 .dead)).getD 9 .top), iC ((bL (s.heap.getD 0 .dead)).getD 10 .top), iC ((bL (s.heap.getD 0 .dead)).getD 11 .top), iC ((bL (s.heap.getD 0 .dead)).getD 12 .top), iC ((bL (s.heap.getD 0 .dead)).getD 13 .top), iC ((bL (s.heap.getD 0 .dead)).getD 14 .top), iC ((bL (s.heap.getD 0 .dead)).getD 15 .top), iC ((bL (s.heap.getD 1 .dead)).getD 0 .top), iC ((bL (s.heap.getD 1 .dead)).getD 1 .top), iC ((bL (s.heap.getD 1 .dead)).getD 2 .top), iC ((bL (s.heap.getD 1 .dead)).getD 3 .top), iC ((bL (s.heap.getD 1 .dead)).getD 4 .top), iC ((bL (s.heap.getD 1 .dead)).getD 5 .top), bC ((bL (s.heap.getD 1 .dead)).getD 6 .top), iC ((bL (s.heap.getD 1 .dead)).getD 7 .top), iC ((bL (s.heap.getD 1 .dead)).getD 8 .top), iC ((bL (s.heap.getD 1 .dead)).getD 9 .top), iC ((bL (s.heap.getD 1 .dead)).getD 10 .top), iC ((bL (s.heap.getD 1 .dead)).getD 11 .top), iC ((bL (s.heap.getD 1 .dead)).getD 12 .top), iC ((bL (s.heap.getD 1 .dead)).getD 13 .top), iC ((bL (s.heap.getD 1 .dead)).getD 14 .top), iC ((bL (s.heap.getD 1 .dead)).getD 15 .top), bR 0 (s.heap.getD 2 .dead)⟩
noncomputable def F12_0 : St → Res (Ex × St) := loopF pa12_0 pb12_0 1000000 hd12_0 gR12_0 ini12_0 false
theorem F12_0_ok (s : St) (r : Ex × St) (h : (F12_0 s).eval = some r) : (codeR e12 0 (.block 0 (.loop lb12_0)) s).eval = some r :=
  blk_ok (e := e12) (T := lookT []) (fun s v => by kernel_rfl) (fun s => by kernel_rfl) (tab_nil) s r h
def g12T (x0 : S5) (x1 : Int) : Tr (S5) :=
  let z1 := g21 x0 x1
  .br (!z1) (
   .leaf (x0)) (
   .br (x0.f16.isEmpty || cloneB 0 248 x0.f16) (
    .opt (iter gR12_0 1000000 (W12_0.mk (x1) ((x0.f16.length : Int)) (0) (x0.f0) (x0.f1) (x0.f2) (x0.f3) (x0.f4) (x0.f5) (x0.f6) (x0.f7) (x0.f8) (x0.f9) (x0.f10) (x0.f11) (x0.f12) (x0.f13) (x0.f14) (x0.f15) (0) (0) (0) (0) (0) (0) (false) (0) (0) (0) (0) (0) (0) (0) (0) (0) (x0.f16))) fun r4 =>
     .br r4.1 (
      .fail) (
      .leaf ((S5.mk r4.2.a3 r4.2.a4 r4.2.a5 r4.2.a6 r4.2.a7 r4.2.a8 r4.2.a9 r4.2.a10 r4.2.a11 r4.2.a12 r4.2.a13 r4.2.a14 r4.2.a15 r4.2.a16 r4.2.a17 r4.2.a18 r4.2.a35)))) (
    .fail))
def g12 (x0 : S5) (x1 : Int) : Option (S5) := (g12T x0 x1).get?
noncomputable def T12 : TL := [(0, F12_0)]
noncomputable def q12 : Ab.Spec := frzR [[none, none, none, none, none, none, none, none, none, none, none, none, none, none, none, none, some 0]] (runQ0 e12 (lookT T12) Go.Proofs.Try.f12)
theorem q12_ok : SpecOk Go.Proofs.Try.prog 12 q12 := (runQ0_ok (runR_ok (e := e12) follows (allTI ti_ok _ _ _ _) (callsOk_cons s21_ok (callsOk_cons s22_ok (callsOk_nil))) Go.Proofs.Try.func12 Go.Proofs.Try.call12) (fun c hc => by
  have hb : c = Go.Proofs.Try.f12.body.getD .skip := by rw [hc]; rfl
  subst hb
  exact tab_cons (by kernel_rfl) F12_0_ok (tab_nil))).froze [[none, none, none, none, none, none, none, none, none, none, none, none, none, none, none, none, some 0]]
theorem g12_run (x0 : S5) (x1 : Int) : (q12 [.agg (Cod.enc 5 x0), .c (.int .i64 x1)] []).eval = (g12T x0 x1).ev fun r => ((.agg (Cod.enc 5 r) : AV), ([] : List Blk)) := by kernel_rfl
noncomputable def s12_0 : Ab.Spec := fun args h =>
  dN h <| dL args fun v0 a0 => dG v0 fun l0 => dE 5 l0 fun x0 => dL a0 fun v1 a1 => dC v1 fun c0 => dI .i64 c0 fun x1 => dN a1 <|
  .opt (g12 x0 x1) fun r => .val (.agg (Cod.enc 5 r), [])
theorem s12_0_ok : SpecOk Go.Proofs.Try.prog 12 s12_0 :=
  q12_ok.less fun args hs r h => by
    unfold s12_0 at h
    obtain ⟨rfl, hh1⟩ := dN_inv h
    obtain ⟨v0, a0, rfl, hh2⟩ := dL_inv hh1
    obtain ⟨l0, rfl, hh3⟩ := dG_inv hh2
    obtain ⟨x0, rfl, hh4⟩ := dE_inv hh3
    obtain ⟨v1, a1, rfl, hh5⟩ := dL_inv hh4
    obtain ⟨c0, rfl, hh6⟩ := dC_inv hh5
    obtain ⟨x1, rfl, hh7⟩ := dI_inv hh6
    obtain ⟨rfl, hh8⟩ := dN_inv hh7
    rw [g12_run, Tr.ev_get?]
    change (Res.opt (g12 x0 x1) _).eval = some r at hh8
    rw [eval_opt] at hh8
    obtain ⟨z, hz, hh9⟩ := Option.bind_eq_some_iff.mp hh8
    unfold g12 at hz
    rw [hz]; exact hh9
noncomputable def s12 : Ab.Spec := fun args h => s12_0 (coeA [[none, none, none, none, none, none, none, none, none, none, none, none, none, none, none, none, some 0], []] args) h
theorem s12_ok : SpecOk Go.Proofs.Try.prog 12 s12 := s12_0_ok.pre [[none, none, none, none, none, none, none, none, none, none, none, none, none, none, none, none, some 0], []]
/-- pontage/pontageref14.has -/
noncomputable def L23 : SL := []
noncomputable def e23 : Env := ⟨ti, fun g => lookS g L23, 1000000, [], []⟩
def g23T (x0 : S5) (x1 : Int) : Tr (Bool) :=
  .leaf ((bif (decide (x1 ≥ 0)) then (decide (x1 < (x0.f16.length : Int))) else false))
def g23 (x0 : S5) (x1 : Int) : Bool := (g23T x0 x1).get default
noncomputable def T23 : TL := []
noncomputable def q23 : Ab.Spec := runQ0 e23 (lookT T23) Go.Proofs.Try.f23
theorem q23_ok : SpecOk Go.Proofs.Try.prog 23 q23 := (runQ0_ok (runR_ok (e := e23) follows (allTI ti_ok _ _ _ _) (callsOk_nil) Go.Proofs.Try.func23 Go.Proofs.Try.call23) (fun c hc => by
  have hb : c = Go.Proofs.Try.f23.body.getD .skip := by rw [hc]; rfl
  subst hb
  exact tab_nil))
theorem g23_run (x0 : S5) (x1 : Int) : (q23 [.agg (Cod.enc 5 x0), .c (.int .i64 x1)] []).eval = (g23T x0 x1).ev fun r => ((.c (.bool r) : AV), ([] : List Blk)) := by kernel_rfl
noncomputable def s23_0 : Ab.Spec := fun args h =>
  dN h <| dL args fun v0 a0 => dG v0 fun l0 => dE 5 l0 fun x0 => dL a0 fun v1 a1 => dC v1 fun c0 => dI .i64 c0 fun x1 => dN a1 <|
  let r := g23 x0 x1; .val (.c (.bool r), [])
theorem s23_0_ok : SpecOk Go.Proofs.Try.prog 23 s23_0 :=
  q23_ok.less fun args hs r h => by
    unfold s23_0 at h
    obtain ⟨rfl, hh1⟩ := dN_inv h
    obtain ⟨v0, a0, rfl, hh2⟩ := dL_inv hh1
    obtain ⟨l0, rfl, hh3⟩ := dG_inv hh2
    obtain ⟨x0, rfl, hh4⟩ := dE_inv hh3
    obtain ⟨v1, a1, rfl, hh5⟩ := dL_inv hh4
    obtain ⟨c0, rfl, hh6⟩ := dC_inv hh5
    obtain ⟨x1, rfl, hh7⟩ := dI_inv hh6
    obtain ⟨rfl, hh8⟩ := dN_inv hh7
    rw [g23_run, Tr.ev_get (d := default) (by kernel_rfl)]
    exact hh8
noncomputable def s23 : Ab.Spec := fun args h => s23_0 (coeA [[none, none, none, none, none, none, none, none, none, none, none, none, none, none, none, none, some 0], []] args) h
theorem s23_ok : SpecOk Go.Proofs.Try.prog 23 s23 := s23_0_ok.pre [[none, none, none, none, none, none, none, none, none, none, none, none, none, none, none, none, some 0], []]
/-- pontage/pontageref14.Prop -/
noncomputable def L13 : SL := [(23, .byVal, s23)]
noncomputable def e13 : Env := ⟨ti, fun g => lookS g L13, 1000000, [.drop 0, .drop 3, .drop 8, .drop 9, .drop 10, .drop 11, .drop 12, .tmp 5 0], []⟩
structure W13_0 where
  a0 : Int
  a1 : Int
  a2 : Int
  a3 : Int
  a4 : Int
  a5 : Int
  a6 : Int
  a7 : Int
  a8 : Bool
  a9 : Int
  a10 : Int
  a11 : Int
  a12 : Int
  a13 : Int
  a14 : Int
  a15 : Int
  a16 : Int
  a17 : Int
  a18 : List S0
  a19 : Int
  a20 : Int
  a21 : Int
  a22 : Int
  a23 : Int
  a24 : Int
  a25 : Bool
  a26 : Int
  a27 : Int
  a28 : Int
  a29 : Int
  a30 : Int
  a31 : Int
  a32 : Int
  a33 : Int
  a34 : Int
  a35 : List S0
def hd13_0 (v : W13_0) : St := ⟨[.top, .c (.int .i64 v.a0), .c (.ptr 0 0), .top, .c (.ptr 1 0), .c (.slw 2), .c (.int .i64 v.a1), .top, .top, .top, .top, .top, .top, .top, .top, .top, .top, .top, .top, .top, .top, .top, .top, .top, .top, .top, .top, .top, .top, .top, .top, .top, .top, .top, .top, .top], [.cells [.int .u64 v.a2, .int .u8 v.a3, .int .u8 v.a4, .int .u8 v.a5, .int .u8 v.a6, .int .u8 v.a7, .bool v.a8, .int .u16 v.a9, .int .u64 v.a10, .int .u32 v.a11, .int .u64 v.a12, .int .u16 v.a13, .int .u8 v.a14, .int .u8 v.a15, .int .u8 v.a16, .int .u8 v.a17, .rs 0 v.a18], .cells [.int .u64 v.a19, .int .u8 v.a20, .int .u8 v.a21, .int .u8 v.a22, .int .u8 v.a23, .int .u8 v.a24, .bool v.a25, .int .u16 v.a26, .int .u64 v.a27, .int .u32 v.a28, .int .u64 v.a29, .int .u16 v.a30, .int .u8 v.a31, .int .u8 v.a32, .int .u8 v.a33, .int .u8 v.a34, .nils], .row 0 v.a35]⟩
def gR13_0 (v : W13_0) : Tr (W13_0 ⊕ (Bool × W13_0)) :=
  .br (decide (v.a1 < (v.a18.length : Int))) (
   .br (decide (0 ≤ v.a1)) (
    .opt (v.a18[Int.toNat v.a1]?) fun y8 =>
     .br (v.a1 != v.a0) (
      .br (Nat.ble (v.a35.length + 1) 140737488355328 && Nat.ble ((v.a35.length + 1) * 248) 140737488355328) (
       .leaf (.inl ({ v with a1 := (IntKind.i64.wrap (v.a1 + 1)), a35 := (v.a35 ++ [{ y8 with f27 := true }]) }))) (
       .fail)) (
      .br (Nat.ble (v.a35.length + 1) 140737488355328 && Nat.ble ((v.a35.length + 1) * 248) 140737488355328) (
       .leaf (.inl ({ v with a1 := (IntKind.i64.wrap (v.a1 + 1)), a35 := (v.a35 ++ [y8]) }))) (
       .fail))) (
    .fail)) (
   .leaf (.inr (false, v)))
noncomputable def lb13_0 : Code := match findB 0 (Go.Proofs.Try.f13.body.getD .skip) with | [.loop b] => b | _ => .skip
def pa13_0 : List PA := [.any, .c (.int .i64), .c (.ptr 0 0), .any, .c (.ptr 1 0), .c (.nils), .c (.int .i64), .top, .any, .any, .any, .any, .any, .top, .top, .top, .top, .top, .top, .top, .top, .top, .top, .top, .top, .top, .top, .top, .top, .top, .top, .top, .top, .top, .top, .top]
def pb13_0 : List PB := [.cells [.int .u64, .int .u8, .int .u8, .int .u8, .int .u8, .int .u8, .bool, .int .u16, .int .u64, .int .u32, .int .u64, .int .u16, .int .u8, .int .u8, .int .u8, .int .u8, .rs 0], .cells [.int .u64, .int .u8, .int .u8, .int .u8, .int .u8, .int .u8, .bool, .int .u16, .int .u64, .int .u32, .int .u64, .int .u16, .int .u8, .int .u8, .int .u8, .int .u8, .nils]]
def ini13_0 (s : St) : W13_0 := ⟨iC (aC (s.tmps.getD 1 .top)), iC (aC (s.tmps.getD 6 .top)), iC ((bL (s.heap.getD 0 .dead)).getD 0 .top), iC ((bL (s.heap.getD 0 .dead)).getD 1 .top), iC ((bL (s.heap.getD 0 .dead)).getD 2 .top), iC ((bL (s.heap.getD 0 .dead)).getD 3 .top), iC ((bL (s.heap.getD 0 .dead)).getD 4 .top), iC ((bL (s.heap.getD 0 .dead)).getD 5 .top), bC ((bL (s.heap.getD 0 .dead)).getD 6 .top), iC ((bL (s.heap.getD 0 .dead)).getD 7 .top), iC ((bL (s.heap.getD 0 .dead)).getD 8 .top), iC ((bL (s.heap.getD 0 .dead)).getD 9 .top), iC ((bL (s.heap.getD 0 .dead)).getD 10 .top), iC ((bL (s.heap.getD 0 .dead)).getD 11 .top), iC ((bL (s.heap.getD 0 .dead)).getD 12 .top), iC ((bL (s.heap.getD 0 .dead)).getD 13 .top), iC ((bL (s.heap.getD 0 .dead)).getD 14 .top), iC ((bL (s.heap.getD 0 .dead)).getD 15 .top), rC 0 ((bL (s.heap.getD 0 .dead)).getD 16 .top), iC ((bL (s.heap.getD 1 .dead)).getD 0 .top), iC ((bL (s.heap.getD 1 .dead)).getD 1 .top), iC ((bL (s.heap.getD 1 .dead)).getD 2 .top), iC ((bL (s.heap.getD 1 .dead)).getD 3 .top), iC ((bL (s.heap.getD 1 .dead)).getD 4 .top), iC ((bL (s.heap.getD 1 .dead)).getD 5 .top), bC ((bL (s.heap.getD 1 .dead)).getD 6 .top), iC ((bL (s.heap.getD 1 .dead)).getD 7 .top), iC ((bL (s.heap.getD 1 .dead)).getD 8 .top), iC ((bL (s.heap.getD 1 .dead)).getD 9 .top), iC ((bL (s.heap.getD 1 .dead)).getD 10 .top), iC ((bL (s.heap.getD 1 .dead)).getD 11 .top), iC ((bL (s.heap.getD 1 .dead)).getD 12 .top), iC ((bL (s.heap.getD 1 .dead)).getD 13 .top), iC ((bL (s.heap.getD 1 .dead)).getD 14 .top), iC ((bL (s.heap.getD 1 .dead)).getD 15 .top), []⟩
noncomputable def F13_0 : St → Res (Ex × St) := loopF pa13_0 pb13_0 1000000 hd13_0 gR13_0 ini13_0 false
theorem F13_0_ok (s : St) (r : Ex × St) (h : (F13_0 s).eval = some r) : (codeR e13 0 (.block 0 (.loop lb13_0)) s).eval = some r :=
  blk_ok (e := e13) (T := lookT []) (fun s v => by kernel_rfl) (fun s => by kernel_rfl) (tab_nil) s r h
def g13T (x0 : S5) (x1 : Int) : Tr (S5) :=
  let z7 := g23 x0 x1
  .br (!z7) (
   .leaf (x0)) (
   .opt (iter gR13_0 1000000 (W13_0.mk (x1) (0) (x0.f0) (x0.f1) (x0.f2) (x0.f3) (x0.f4) (x0.f5) (x0.f6) (x0.f7) (x0.f8) (x0.f9) (x0.f10) (x0.f11) (x0.f12) (x0.f13) (x0.f14) (x0.f15) (x0.f16) (0) (0) (0) (0) (0) (0) (false) (0) (0) (0) (0) (0) (0) (0) (0) (0) ([]))) fun r9 =>
    .br r9.1 (
     .fail) (
     .leaf ((S5.mk r9.2.a2 r9.2.a3 r9.2.a4 r9.2.a5 r9.2.a6 r9.2.a7 r9.2.a8 r9.2.a9 r9.2.a10 r9.2.a11 r9.2.a12 r9.2.a13 r9.2.a14 r9.2.a15 r9.2.a16 r9.2.a17 r9.2.a35))))
def g13 (x0 : S5) (x1 : Int) : Option (S5) := (g13T x0 x1).get?
noncomputable def T13 : TL := [(0, F13_0)]
noncomputable def q13 : Ab.Spec := frzR [[none, none, none, none, none, none, none, none, none, none, none, none, none, none, none, none, some 0]] (runQ0 e13 (lookT T13) Go.Proofs.Try.f13)
theorem q13_ok : SpecOk Go.Proofs.Try.prog 13 q13 := (runQ0_ok (runR_ok (e := e13) follows (allTI ti_ok _ _ _ _) (callsOk_cons s23_ok (callsOk_nil)) Go.Proofs.Try.func13 Go.Proofs.Try.call13) (fun c hc => by
  have hb : c = Go.Proofs.Try.f13.body.getD .skip := by rw [hc]; rfl
  subst hb
  exact tab_cons (by kernel_rfl) F13_0_ok (tab_nil))).froze [[none, none, none, none, none, none, none, none, none, none, none, none, none, none, none, none, some 0]]
theorem g13_run (x0 : S5) (x1 : Int) : (q13 [.agg (Cod.enc 5 x0), .c (.int .i64 x1)] []).eval = (g13T x0 x1).ev fun r => ((.agg (Cod.enc 5 r) : AV), ([] : List Blk)) := by kernel_rfl
noncomputable def s13_0 : Ab.Spec := fun args h =>
  dN h <| dL args fun v0 a0 => dG v0 fun l0 => dE 5 l0 fun x0 => dL a0 fun v1 a1 => dC v1 fun c0 => dI .i64 c0 fun x1 => dN a1 <|
  .opt (g13 x0 x1) fun r => .val (.agg (Cod.enc 5 r), [])
theorem s13_0_ok : SpecOk Go.Proofs.Try.prog 13 s13_0 :=
  q13_ok.less fun args hs r h => by
    unfold s13_0 at h
    obtain ⟨rfl, hh1⟩ := dN_inv h
    obtain ⟨v0, a0, rfl, hh2⟩ := dL_inv hh1
    obtain ⟨l0, rfl, hh3⟩ := dG_inv hh2
    obtain ⟨x0, rfl, hh4⟩ := dE_inv hh3
    obtain ⟨v1, a1, rfl, hh5⟩ := dL_inv hh4
    obtain ⟨c0, rfl, hh6⟩ := dC_inv hh5
    obtain ⟨x1, rfl, hh7⟩ := dI_inv hh6
    obtain ⟨rfl, hh8⟩ := dN_inv hh7
    rw [g13_run, Tr.ev_get?]
    change (Res.opt (g13 x0 x1) _).eval = some r at hh8
    rw [eval_opt] at hh8
    obtain ⟨z, hz, hh9⟩ := Option.bind_eq_some_iff.mp hh8
    unfold g13 at hz
    rw [hz]; exact hh9
noncomputable def s13 : Ab.Spec := fun args h => s13_0 (coeA [[none, none, none, none, none, none, none, none, none, none, none, none, none, none, none, none, some 0], []] args) h
theorem s13_ok : SpecOk Go.Proofs.Try.prog 13 s13 := s13_0_ok.pre [[none, none, none, none, none, none, none, none, none, none, none, none, none, none, none, none, some 0], []]
/-- pontage/pontageref12.Same -/
noncomputable def L11 : SL := []
noncomputable def e11 : Env := ⟨ti, fun g => lookS g L11, 1000000, [.drop 0, .drop 1, .drop 6, .drop 7, .drop 8, .drop 9, .drop 10, .drop 11, .drop 12, .drop 13, .drop 14, .drop 15, .drop 16, .drop 17, .drop 18, .drop 19, .drop 20, .drop 21, .drop 22, .drop 23, .drop 24, .drop 25, .drop 26, .drop 27, .drop 28, .drop 29, .drop 30, .drop 31, .drop 32, .drop 33, .drop 34, .drop 35, .drop 36, .drop 37, .drop 38, .drop 39, .drop 40, .drop 41, .drop 42, .drop 43, .drop 44, .drop 45, .drop 46, .drop 47, .drop 48, .drop 49, .drop 50, .drop 51, .drop 52, .drop 53, .drop 54, .drop 55, .drop 56, .drop 57, .drop 58, .drop 59, .drop 60, .drop 61], []⟩
structure W11_0 where
  a0 : Bool
  a1 : Int
  a2 : Int
  a3 : Int
  a4 : Int
  a5 : Int
  a6 : Int
  a7 : Int
  a8 : Bool
  a9 : Int
  a10 : Int
  a11 : Int
  a12 : Int
  a13 : Int
  a14 : Int
  a15 : Int
  a16 : Int
  a17 : Int
  a18 : List S0
  a19 : Int
  a20 : Int
  a21 : Int
  a22 : Int
  a23 : Int
  a24 : Int
  a25 : Bool
  a26 : Int
  a27 : Int
  a28 : Int
  a29 : Int
  a30 : Int
  a31 : Int
  a32 : Int
  a33 : Int
  a34 : Int
  a35 : List S0
def hd11_0 (v : W11_0) : St := ⟨[.top, .top, .c (.ptr 0 0), .c (.ptr 1 0), .c (.bool v.a0), .c (.int .i64 v.a1), .top, .top, .top, .top, .top, .top, .top, .top, .top, .top, .top, .top, .top, .top, .top, .top, .top, .top, .top, .top, .top, .top, .top, .top, .top, .top, .top, .top, .top, .top, .top, .top, .top, .top, .top, .top, .top, .top, .top, .top, .top, .top, .top, .top, .top, .top, .top, .top, .top, .top, .top, .top, .top, .top, .top, .top, .top, .top, .top, .top, .top, .top, .top, .top, .top, .top, .top, .top, .top, .top, .top, .top, .top, .top], [.cells [.int .u64 v.a2, .int .u8 v.a3, .int .u8 v.a4, .int .u8 v.a5, .int .u8 v.a6, .int .u8 v.a7, .bool v.a8, .int .u16 v.a9, .int .u64 v.a10, .int .u32 v.a11, .int .u64 v.a12, .int .u16 v.a13, .int .u8 v.a14, .int .u8 v.a15, .int .u8 v.a16, .int .u8 v.a17, .rs 0 v.a18], .cells [.int .u64 v.a19, .int .u8 v.a20, .int .u8 v.a21, .int .u8 v.a22, .int .u8 v.a23, .int .u8 v.a24, .bool v.a25, .int .u16 v.a26, .int .u64 v.a27, .int .u32 v.a28, .int .u64 v.a29, .int .u16 v.a30, .int .u8 v.a31, .int .u8 v.a32, .int .u8 v.a33, .int .u8 v.a34, .rs 0 v.a35]]⟩
def gR11_0 (v : W11_0) : Tr (W11_0 ⊕ (Bool × W11_0)) :=
  .br (decide (v.a1 < (v.a18.length : Int))) (
   .br (decide (0 ≤ v.a1)) (
    .opt (v.a18[Int.toNat v.a1]?) fun y10 =>
     .br (decide (0 ≤ v.a1)) (
      .opt (v.a35[Int.toNat v.a1]?) fun y11 =>
       .br (!(eqS0 y10 y11)) (
        .leaf (.inr (true, { v with a0 := false }))) (
        .leaf (.inl ({ v with a1 := (IntKind.i64.wrap (v.a1 + 1)) })))) (
      .fail)) (
    .fail)) (
   .leaf (.inr (false, v)))
noncomputable def lb11_0 : Code := match findB 0 (Go.Proofs.Try.f11.body.getD .skip) with | [.loop b] => b | _ => .skip
def pa11_0 : List PA := [.any, .any, .c (.ptr 0 0), .c (.ptr 1 0), .c (.bool), .c (.int .i64), .any, .any, .any, .any, .any, .any, .any, .any, .any, .any, .any, .any, .any, .any, .any, .any, .any, .any, .any, .any, .any, .any, .any, .any, .any, .any, .any, .any, .any, .any, .any, .any, .any, .any, .any, .any, .any, .any, .any, .any, .any, .any, .any, .any, .any, .any, .any, .any, .any, .any, .any, .any, .any, .any, .any, .any, .top, .top, .top, .top, .top, .top, .top, .top, .top, .top, .top, .top, .top, .top, .top, .top, .top, .top]
def pb11_0 : List PB := [.cells [.int .u64, .int .u8, .int .u8, .int .u8, .int .u8, .int .u8, .bool, .int .u16, .int .u64, .int .u32, .int .u64, .int .u16, .int .u8, .int .u8, .int .u8, .int .u8, .rs 0], .cells [.int .u64, .int .u8, .int .u8, .int .u8, .int .u8, .int .u8, .bool, .int .u16, .int .u64, .int .u32, .int .u64, .int .u16, .int .u8, .int .u8, .int .u8, .int .u8, .rs 0]]
def ini11_0 (s : St) : W11_0 := ⟨bC (aC (s.tmps.getD 4 .top)), iC (aC (s.tmps.getD 5 .top)), iC ((bL (s.heap.getD 0 .dead)).getD 0 .top), iC ((bL (s.heap.getD 0 .dead)).getD 1 .top), iC ((bL (s.heap.getD 0 .dead)).getD 2 .top), iC ((bL (s.heap.getD 0 .dead)).getD 3 .top), iC ((bL (s.heap.getD 0 .dead)).getD 4 .top), iC ((bL (s.heap.getD 0 .dead)).getD 5 .top), bC ((bL (s.heap.getD 0 .dead)).getD 6 .top), iC ((bL (s.heap.getD 0 .dead)).getD 7 .top), iC ((bL (s.heap.getD 0 .dead)).getD 8 .top), iC ((bL (s.heap.getD 0 .dead)).getD 9 .top), iC ((bL (s.heap.getD 0 .dead)).getD 10 .top), iC ((bL (s.heap.getD 0 .dead)).getD 11 .top), iC ((bL (s.heap.getD 0 .dead)).getD 12 .top), iC ((bL (s.heap.getD 0 .dead)).getD 13 .top), iC ((bL (s.heap.getD 0 .dead)).getD 14 .top), iC ((bL (s.heap.getD 0 .dead)).getD 15 .top), rC 0 ((bL (s.heap.getD 0 .dead)).getD 16 .top), iC ((bL (s.heap.getD 1 .dead)).getD 0 .top), iC ((bL (s.heap.getD 1 .dead)).getD 1 .top), iC ((bL (s.heap.getD 1 .dead)).getD 2 .top), iC ((bL (s.heap.getD 1 .dead)).getD 3 .top), iC ((bL (s.heap.getD 1 .dead)).getD 4 .top), iC ((bL (s.heap.getD 1 .dead)).getD 5 .top), bC ((bL (s.heap.getD 1 .dead)).getD 6 .top), iC ((bL (s.heap.getD 1 .dead)).getD 7 .top), iC ((bL (s.heap.getD 1 .dead)).getD 8 .top), iC ((bL (s.heap.getD 1 .dead)).getD 9 .top), iC ((bL (s.heap.getD 1 .dead)).getD 10 .top), iC ((bL (s.heap.getD 1 .dead)).getD 11 .top), iC ((bL (s.heap.getD 1 .dead)).getD 12 .top), iC ((bL (s.heap.getD 1 .dead)).getD 13 .top), iC ((bL (s.heap.getD 1 .dead)).getD 14 .top), iC ((bL (s.heap.getD 1 .dead)).getD 15 .top), rC 0 ((bL (s.heap.getD 1 .dead)).getD 16 .top)⟩
noncomputable def F11_0 : St → Res (Ex × St) := loopF pa11_0 pb11_0 1000000 hd11_0 gR11_0 ini11_0 true
theorem F11_0_ok (s : St) (r : Ex × St) (h : (F11_0 s).eval = some r) : (codeR e11 0 (.block 0 (.loop lb11_0)) s).eval = some r :=
  blk_ok (e := e11) (T := lookT []) (fun s v => by kernel_rfl) (fun s => by kernel_rfl) (tab_nil) s r h
def g11T (x0 : S5) (x1 : S5) : Tr (Bool) :=
  .br (bif (bif (bif (bif (bif (bif (bif (x0.f0 != x1.f0) then true else (!(eqS3 (S3.mk x0.f1 x0.f2 x0.f3 x0.f4) (S3.mk x1.f1 x1.f2 x1.f3 x1.f4)))) then true else (x0.f5 != x1.f5)) then true else (!(x0.f6 == x1.f6))) then true else (x0.f7 != x1.f7)) then true else (!(eqS4 (S4.mk x0.f8 x0.f9 x0.f10 x0.f11) (S4.mk x1.f8 x1.f9 x1.f10 x1.f11)))) then true else (!(eqS3 (S3.mk x0.f12 x0.f13 x0.f14 x0.f15) (S3.mk x1.f12 x1.f13 x1.f14 x1.f15)))) then true else ((x0.f16.length : Int) != (x1.f16.length : Int))) (
   .leaf (false)) (
   .opt (iter gR11_0 1000000 (W11_0.mk (false) (0) (x0.f0) (x0.f1) (x0.f2) (x0.f3) (x0.f4) (x0.f5) (x0.f6) (x0.f7) (x0.f8) (x0.f9) (x0.f10) (x0.f11) (x0.f12) (x0.f13) (x0.f14) (x0.f15) (x0.f16) (x1.f0) (x1.f1) (x1.f2) (x1.f3) (x1.f4) (x1.f5) (x1.f6) (x1.f7) (x1.f8) (x1.f9) (x1.f10) (x1.f11) (x1.f12) (x1.f13) (x1.f14) (x1.f15) (x1.f16))) fun r12 =>
    .br r12.1 (
     .leaf (r12.2.a0)) (
     .leaf (true)))
def g11 (x0 : S5) (x1 : S5) : Option (Bool) := (g11T x0 x1).get?
noncomputable def T11 : TL := [(0, F11_0)]
noncomputable def q11 : Ab.Spec := runQ0 e11 (lookT T11) Go.Proofs.Try.f11
theorem q11_ok : SpecOk Go.Proofs.Try.prog 11 q11 := (runQ0_ok (runR_ok (e := e11) follows (allTI ti_ok _ _ _ _) (callsOk_nil) Go.Proofs.Try.func11 Go.Proofs.Try.call11) (fun c hc => by
  have hb : c = Go.Proofs.Try.f11.body.getD .skip := by rw [hc]; rfl
  subst hb
  exact tab_cons (by kernel_rfl) F11_0_ok (tab_nil)))
theorem g11_run (x0 : S5) (x1 : S5) : (q11 [.agg (Cod.enc 5 x0), .agg (Cod.enc 5 x1)] []).eval = (g11T x0 x1).ev fun r => ((.c (.bool r) : AV), ([] : List Blk)) := by kernel_rfl
noncomputable def s11_0 : Ab.Spec := fun args h =>
  dN h <| dL args fun v0 a0 => dG v0 fun l0 => dE 5 l0 fun x0 => dL a0 fun v1 a1 => dG v1 fun l1 => dE 5 l1 fun x1 => dN a1 <|
  .opt (g11 x0 x1) fun r => .val (.c (.bool r), [])
theorem s11_0_ok : SpecOk Go.Proofs.Try.prog 11 s11_0 :=
  q11_ok.less fun args hs r h => by
    unfold s11_0 at h
    obtain ⟨rfl, hh1⟩ := dN_inv h
    obtain ⟨v0, a0, rfl, hh2⟩ := dL_inv hh1
    obtain ⟨l0, rfl, hh3⟩ := dG_inv hh2
    obtain ⟨x0, rfl, hh4⟩ := dE_inv hh3
    obtain ⟨v1, a1, rfl, hh5⟩ := dL_inv hh4
    obtain ⟨l1, rfl, hh6⟩ := dG_inv hh5
    obtain ⟨x1, rfl, hh7⟩ := dE_inv hh6
    obtain ⟨rfl, hh8⟩ := dN_inv hh7
    rw [g11_run, Tr.ev_get?]
    change (Res.opt (g11 x0 x1) _).eval = some r at hh8
    rw [eval_opt] at hh8
    obtain ⟨z, hz, hh9⟩ := Option.bind_eq_some_iff.mp hh8
    unfold g11 at hz
    rw [hz]; exact hh9
noncomputable def s11 : Ab.Spec := fun args h => s11_0 (coeA [[none, none, none, none, none, none, none, none, none, none, none, none, none, none, none, none, some 0], [none, none, none, none, none, none, none, none, none, none, none, none, none, none, none, none, some 0]] args) h
theorem s11_ok : SpecOk Go.Proofs.Try.prog 11 s11 := s11_0_ok.pre [[none, none, none, none, none, none, none, none, none, none, none, none, none, none, none, none, some 0], [none, none, none, none, none, none, none, none, none, none, none, none, none, none, none, none, some 0]]
/-- pontage/change.NewWhile$1 -/
noncomputable def L25 : SL := []
noncomputable def e25 : Env := ⟨ti, fun g => lookS g L25, 1000000, [], []⟩
noncomputable def s25 : Ab.Spec := runR e25 Go.Proofs.Try.f25
theorem s25_ok : SpecOk Go.Proofs.Try.prog 25 s25 := runR_ok (e := e25) follows (allTI ti_ok _ _ _ _) (callsOk_nil) Go.Proofs.Try.func25 Go.Proofs.Try.call25
/-- pontage/change.learns -/
noncomputable def L28 : SL := []
noncomputable def e28 : Env := ⟨ti, fun g => lookS g L28, 1000000, [], []⟩
noncomputable def s28 : Ab.Spec := runR e28 Go.Proofs.Try.f28
theorem s28_ok : SpecOk Go.Proofs.Try.prog 28 s28 := runR_ok (e := e28) follows (allTI ti_ok _ _ _ _) (callsOk_nil) Go.Proofs.Try.func28 Go.Proofs.Try.call28
/-- pontage/change.Tcm$1 -/
noncomputable def L29 : SL := []
noncomputable def e29 : Env := ⟨ti, fun g => lookS g L29, 1000000, [], []⟩
noncomputable def s29 : Ab.Spec := runR e29 Go.Proofs.Try.f29
theorem s29_ok : SpecOk Go.Proofs.Try.prog 29 s29 := runR_ok (e := e29) follows (allTI ti_ok _ _ _ _) (callsOk_nil) Go.Proofs.Try.func29 Go.Proofs.Try.call29
/-- pontage/change.quiet -/
noncomputable def L30 : SL := []
noncomputable def e30 : Env := ⟨ti, fun g => lookS g L30, 1000000, [], []⟩
noncomputable def s30 : Ab.Spec := runR e30 Go.Proofs.Try.f30
theorem s30_ok : SpecOk Go.Proofs.Try.prog 30 s30 := runR_ok (e := e30) follows (allTI ti_ok _ _ _ _) (callsOk_nil) Go.Proofs.Try.func30 Go.Proofs.Try.call30
/-- pontage/change.active$1 -/
noncomputable def L36 : SL := []
noncomputable def e36 : Env := ⟨ti, fun g => lookS g L36, 1000000, [], []⟩
noncomputable def s36 : Ab.Spec := runR e36 Go.Proofs.Try.f36
theorem s36_ok : SpecOk Go.Proofs.Try.prog 36 s36 := runR_ok (e := e36) follows (allTI ti_ok _ _ _ _) (callsOk_nil) Go.Proofs.Try.func36 Go.Proofs.Try.call36
/-- pontage/change.active$2 -/
noncomputable def L37 : SL := []
noncomputable def e37 : Env := ⟨ti, fun g => lookS g L37, 1000000, [], []⟩
noncomputable def s37 : Ab.Spec := runR e37 Go.Proofs.Try.f37
theorem s37_ok : SpecOk Go.Proofs.Try.prog 37 s37 := runR_ok (e := e37) follows (allTI ti_ok _ _ _ _) (callsOk_nil) Go.Proofs.Try.func37 Go.Proofs.Try.call37
/-- pontage/change.active$3 -/
noncomputable def L38 : SL := []
noncomputable def e38 : Env := ⟨ti, fun g => lookS g L38, 1000000, [], []⟩
noncomputable def s38 : Ab.Spec := runR e38 Go.Proofs.Try.f38
theorem s38_ok : SpecOk Go.Proofs.Try.prog 38 s38 := runR_ok (e := e38) follows (allTI ti_ok _ _ _ _) (callsOk_nil) Go.Proofs.Try.func38 Go.Proofs.Try.call38
/-- pontage/change.with -/
noncomputable def L24 : SL := [(22, .byNew, s22), (25, .byHeap, s25), (28, .byHeap, s28), (29, .byHeap, s29), (30, .byHeap, s30), (36, .byHeap, s36), (37, .byHeap, s37), (38, .byHeap, s38)]
noncomputable def e24 : Env := ⟨ti, fun g => lookS g L24, 1000000, [], []⟩
noncomputable def s24 : Ab.Spec := runR e24 Go.Proofs.Try.f24
theorem s24_ok : SpecOk Go.Proofs.Try.prog 24 s24 := runR_ok (e := e24) follows (allTI ti_ok _ _ _ _) (callsOk_cons s22_ok (callsOk_cons s25_ok (callsOk_cons s28_ok (callsOk_cons s29_ok (callsOk_cons s30_ok (callsOk_cons s36_ok (callsOk_cons s37_ok (callsOk_cons s38_ok (callsOk_nil))))))))) Go.Proofs.Try.func24 Go.Proofs.Try.call24
/-- pontage/change.NewWhile -/
noncomputable def L14 : SL := [(21, .byVal, s21), (25, .byHeap, s25), (24, .byHeap, s24), (22, .byNew, s22), (28, .byHeap, s28), (29, .byHeap, s29), (30, .byHeap, s30), (36, .byHeap, s36), (37, .byHeap, s37), (38, .byHeap, s38)]
noncomputable def e14 : Env := ⟨ti, fun g => lookS g L14, 1000000, [], []⟩
def g14T (x0 : S5) (x1 : Int) : Tr (S5) :=
  let z13 := g21 x0 x1
  .br (!(!z13)) (
   .br (decide (0 ≤ x1)) (
    .opt (x0.f16[Int.toNat x1]?) fun y15 =>
     .br (y15.f71 != 0) (
      .leaf (x0)) (
      .br (x0.f16.isEmpty || cloneB 0 248 x0.f16) (
       .br (decide (0 ≤ x1) && decide (x1 < (x0.f16.length : Int))) (
        .opt (x0.f16[(Int.toNat x1)]?) fun y17 =>
         .br y17.f23 (
          .opt (x0.f16[(Int.toNat x1)]?) fun y18 =>
           .opt ((List.set x0.f16 (Int.toNat x1) { y18 with f71 := (IntKind.u8.wrap (mnI 255 (IntKind.i64.wrap ((IntKind.i64.wrap x0.f14) + 1)))) })[(Int.toNat x1)]?) fun y19 =>
            .leaf ({ x0 with f16 := (List.set (List.set x0.f16 (Int.toNat x1) { y18 with f71 := (IntKind.u8.wrap (mnI 255 (IntKind.i64.wrap ((IntKind.i64.wrap x0.f14) + 1)))) }) (Int.toNat x1) { y19 with f11 := true }) })) (
          .opt (x0.f16[(Int.toNat x1)]?) fun y20 =>
           .leaf ({ x0 with f16 := (List.set x0.f16 (Int.toNat x1) { y20 with f71 := (IntKind.u8.wrap (mnI 255 (IntKind.i64.wrap ((IntKind.i64.wrap x0.f13) + (IntKind.i64.wrap x0.f15))))) }) }))) (
        .fail)) (
       .fail))) (
    .fail)) (
   .leaf (x0))
def g14 (x0 : S5) (x1 : Int) : Option (S5) := (g14T x0 x1).get?
noncomputable def T14 : TL := []
noncomputable def q14 : Ab.Spec := frzR [[none, none, none, none, none, none, none, none, none, none, none, none, none, none, none, none, some 0]] (runQ0 e14 (lookT T14) Go.Proofs.Try.f14)
theorem q14_ok : SpecOk Go.Proofs.Try.prog 14 q14 := (runQ0_ok (runR_ok (e := e14) follows (allTI ti_ok _ _ _ _) (callsOk_cons s21_ok (callsOk_cons s25_ok (callsOk_cons s24_ok (callsOk_cons s22_ok (callsOk_cons s28_ok (callsOk_cons s29_ok (callsOk_cons s30_ok (callsOk_cons s36_ok (callsOk_cons s37_ok (callsOk_cons s38_ok (callsOk_nil))))))))))) Go.Proofs.Try.func14 Go.Proofs.Try.call14) (fun c hc => by
  have hb : c = Go.Proofs.Try.f14.body.getD .skip := by rw [hc]; rfl
  subst hb
  exact tab_nil)).froze [[none, none, none, none, none, none, none, none, none, none, none, none, none, none, none, none, some 0]]
theorem g14_run (x0 : S5) (x1 : Int) : (q14 [.agg (Cod.enc 5 x0), .c (.int .i64 x1)] []).eval = (g14T x0 x1).ev fun r => ((.agg (Cod.enc 5 r) : AV), ([] : List Blk)) := by kernel_rfl
noncomputable def s14_0 : Ab.Spec := fun args h =>
  dN h <| dL args fun v0 a0 => dG v0 fun l0 => dE 5 l0 fun x0 => dL a0 fun v1 a1 => dC v1 fun c0 => dI .i64 c0 fun x1 => dN a1 <|
  .opt (g14 x0 x1) fun r => .val (.agg (Cod.enc 5 r), [])
theorem s14_0_ok : SpecOk Go.Proofs.Try.prog 14 s14_0 :=
  q14_ok.less fun args hs r h => by
    unfold s14_0 at h
    obtain ⟨rfl, hh1⟩ := dN_inv h
    obtain ⟨v0, a0, rfl, hh2⟩ := dL_inv hh1
    obtain ⟨l0, rfl, hh3⟩ := dG_inv hh2
    obtain ⟨x0, rfl, hh4⟩ := dE_inv hh3
    obtain ⟨v1, a1, rfl, hh5⟩ := dL_inv hh4
    obtain ⟨c0, rfl, hh6⟩ := dC_inv hh5
    obtain ⟨x1, rfl, hh7⟩ := dI_inv hh6
    obtain ⟨rfl, hh8⟩ := dN_inv hh7
    rw [g14_run, Tr.ev_get?]
    change (Res.opt (g14 x0 x1) _).eval = some r at hh8
    rw [eval_opt] at hh8
    obtain ⟨z, hz, hh9⟩ := Option.bind_eq_some_iff.mp hh8
    unfold g14 at hz
    rw [hz]; exact hh9
noncomputable def s14 : Ab.Spec := fun args h => s14_0 (coeA [[none, none, none, none, none, none, none, none, none, none, none, none, none, none, none, none, some 0], []] args) h
theorem s14_ok : SpecOk Go.Proofs.Try.prog 14 s14 := s14_0_ok.pre [[none, none, none, none, none, none, none, none, none, none, none, none, none, none, none, none, some 0], []]
/-- pontage/pontageref14.most -/
noncomputable def L26 : SL := []
noncomputable def e26 : Env := ⟨ti, fun g => lookS g L26, 1000000, [], []⟩
def g26T (x0 : Int) : Tr (Int) :=
  .br (decide (x0 > 255)) (
   .leaf (255)) (
   .leaf ((IntKind.u8.wrap x0)))
def g26 (x0 : Int) : Int := (g26T x0).get default
noncomputable def T26 : TL := []
noncomputable def q26 : Ab.Spec := runQ0 e26 (lookT T26) Go.Proofs.Try.f26
theorem q26_ok : SpecOk Go.Proofs.Try.prog 26 q26 := (runQ0_ok (runR_ok (e := e26) follows (allTI ti_ok _ _ _ _) (callsOk_nil) Go.Proofs.Try.func26 Go.Proofs.Try.call26) (fun c hc => by
  have hb : c = Go.Proofs.Try.f26.body.getD .skip := by rw [hc]; rfl
  subst hb
  exact tab_nil))
theorem g26_run (x0 : Int) : (q26 [.c (.int .i64 x0)] []).eval = (g26T x0).ev fun r => ((.c (.int .u8 r) : AV), ([] : List Blk)) := by kernel_rfl
noncomputable def s26 : Ab.Spec := fun args h =>
  dN h <| dL args fun v0 a0 => dC v0 fun c0 => dI .i64 c0 fun x0 => dN a0 <|
  let r := g26 x0; .val (.c (.int .u8 r), [])
theorem s26_ok : SpecOk Go.Proofs.Try.prog 26 s26 :=
  q26_ok.less fun args hs r h => by
    unfold s26 at h
    obtain ⟨rfl, hh1⟩ := dN_inv h
    obtain ⟨v0, a0, rfl, hh2⟩ := dL_inv hh1
    obtain ⟨c0, rfl, hh3⟩ := dC_inv hh2
    obtain ⟨x0, rfl, hh4⟩ := dI_inv hh3
    obtain ⟨rfl, hh5⟩ := dN_inv hh4
    rw [g26_run, Tr.ev_get (d := default) (by kernel_rfl)]
    exact hh5
/-- pontage/pontageref14.with -/
noncomputable def L27 : SL := []
noncomputable def e27 : Env := ⟨ti, fun g => lookS g L27, 1000000, [], []⟩
def g27T (x0 : S5) (x1 : Int) (x2 : S0) : Tr (S5) :=
  .br (x0.f16.isEmpty) (
   .fail) (
   .br (Nat.ble (0 + x0.f16.length) 140737488355328 && Nat.ble ((0 + x0.f16.length) * 248) 140737488355328) (
    .br (decide (0 ≤ x1) && decide (x1 < (x0.f16.length : Int))) (
     .opt (x0.f16[(Int.toNat x1)]?) fun y21 =>
      .leaf ({ x0 with f16 := (List.set x0.f16 (Int.toNat x1) x2) })) (
     .fail)) (
    .fail))
def g27 (x0 : S5) (x1 : Int) (x2 : S0) : Option (S5) := (g27T x0 x1 x2).get?
noncomputable def T27 : TL := []
noncomputable def q27 : Ab.Spec := frzR [[none, none, none, none, none, none, none, none, none, none, none, none, none, none, none, none, some 0]] (runQ0 e27 (lookT T27) Go.Proofs.Try.f27)
theorem q27_ok : SpecOk Go.Proofs.Try.prog 27 q27 := (runQ0_ok (runR_ok (e := e27) follows (allTI ti_ok _ _ _ _) (callsOk_nil) Go.Proofs.Try.func27 Go.Proofs.Try.call27) (fun c hc => by
  have hb : c = Go.Proofs.Try.f27.body.getD .skip := by rw [hc]; rfl
  subst hb
  exact tab_nil)).froze [[none, none, none, none, none, none, none, none, none, none, none, none, none, none, none, none, some 0]]
theorem g27_run (x0 : S5) (x1 : Int) (x2 : S0) : (q27 [.agg (Cod.enc 5 x0), .c (.int .i64 x1), .agg (Cod.enc 0 x2)] []).eval = (g27T x0 x1 x2).ev fun r => ((.agg (Cod.enc 5 r) : AV), ([] : List Blk)) := by kernel_rfl
noncomputable def s27_0 : Ab.Spec := fun args h =>
  dN h <| dL args fun v0 a0 => dG v0 fun l0 => dE 5 l0 fun x0 => dL a0 fun v1 a1 => dC v1 fun c0 => dI .i64 c0 fun x1 => dL a1 fun v2 a2 => dG v2 fun l2 => dE 0 l2 fun x2 => dN a2 <|
  .opt (g27 x0 x1 x2) fun r => .val (.agg (Cod.enc 5 r), [])
theorem s27_0_ok : SpecOk Go.Proofs.Try.prog 27 s27_0 :=
  q27_ok.less fun args hs r h => by
    unfold s27_0 at h
    obtain ⟨rfl, hh1⟩ := dN_inv h
    obtain ⟨v0, a0, rfl, hh2⟩ := dL_inv hh1
    obtain ⟨l0, rfl, hh3⟩ := dG_inv hh2
    obtain ⟨x0, rfl, hh4⟩ := dE_inv hh3
    obtain ⟨v1, a1, rfl, hh5⟩ := dL_inv hh4
    obtain ⟨c0, rfl, hh6⟩ := dC_inv hh5
    obtain ⟨x1, rfl, hh7⟩ := dI_inv hh6
    obtain ⟨v2, a2, rfl, hh8⟩ := dL_inv hh7
    obtain ⟨l2, rfl, hh9⟩ := dG_inv hh8
    obtain ⟨x2, rfl, hh10⟩ := dE_inv hh9
    obtain ⟨rfl, hh11⟩ := dN_inv hh10
    rw [g27_run, Tr.ev_get?]
    change (Res.opt (g27 x0 x1 x2) _).eval = some r at hh11
    rw [eval_opt] at hh11
    obtain ⟨z, hz, hh12⟩ := Option.bind_eq_some_iff.mp hh11
    unfold g27 at hz
    rw [hz]; exact hh12
noncomputable def s27 : Ab.Spec := fun args h => s27_0 (coeA [[none, none, none, none, none, none, none, none, none, none, none, none, none, none, none, none, some 0], [], []] args) h
theorem s27_ok : SpecOk Go.Proofs.Try.prog 27 s27 := s27_0_ok.pre [[none, none, none, none, none, none, none, none, none, none, none, none, none, none, none, none, some 0], [], []]
/-- pontage/pontageref14.NewWhile -/
noncomputable def L15 : SL := [(23, .byVal, s23), (26, .byVal, s26), (27, .byNew, s27)]
noncomputable def e15 : Env := ⟨ti, fun g => lookS g L15, 1000000, [], []⟩
def g15T (x0 : S5) (x1 : Int) : Tr (S5) :=
  let z22 := g23 x0 x1
  .br (!(!z22)) (
   .br (decide (0 ≤ x1)) (
    .opt (x0.f16[Int.toNat x1]?) fun y24 =>
     .br (y24.f71 != 0) (
      .leaf (x0)) (
      .br (decide (0 ≤ x1)) (
       .opt (x0.f16[Int.toNat x1]?) fun y25 =>
        .br y25.f23 (
         let z26 := g26 (IntKind.i64.wrap ((IntKind.i64.wrap x0.f14) + 1))
         .opt (g27 x0 x1 { y25 with f11 := true, f71 := z26 }) fun z27 =>
          .leaf (z27)) (
         let z28 := g26 (IntKind.i64.wrap ((IntKind.i64.wrap x0.f13) + (IntKind.i64.wrap x0.f15)))
         .opt (g27 x0 x1 { y25 with f71 := z28 }) fun z29 =>
          .leaf (z29))) (
       .fail))) (
    .fail)) (
   .leaf (x0))
def g15 (x0 : S5) (x1 : Int) : Option (S5) := (g15T x0 x1).get?
noncomputable def T15 : TL := []
noncomputable def q15 : Ab.Spec := frzR [[none, none, none, none, none, none, none, none, none, none, none, none, none, none, none, none, some 0]] (runQ0 e15 (lookT T15) Go.Proofs.Try.f15)
theorem q15_ok : SpecOk Go.Proofs.Try.prog 15 q15 := (runQ0_ok (runR_ok (e := e15) follows (allTI ti_ok _ _ _ _) (callsOk_cons s23_ok (callsOk_cons s26_ok (callsOk_cons s27_ok (callsOk_nil)))) Go.Proofs.Try.func15 Go.Proofs.Try.call15) (fun c hc => by
  have hb : c = Go.Proofs.Try.f15.body.getD .skip := by rw [hc]; rfl
  subst hb
  exact tab_nil)).froze [[none, none, none, none, none, none, none, none, none, none, none, none, none, none, none, none, some 0]]
theorem g15_run (x0 : S5) (x1 : Int) : (q15 [.agg (Cod.enc 5 x0), .c (.int .i64 x1)] []).eval = (g15T x0 x1).ev fun r => ((.agg (Cod.enc 5 r) : AV), ([] : List Blk)) := by kernel_rfl
noncomputable def s15_0 : Ab.Spec := fun args h =>
  dN h <| dL args fun v0 a0 => dG v0 fun l0 => dE 5 l0 fun x0 => dL a0 fun v1 a1 => dC v1 fun c0 => dI .i64 c0 fun x1 => dN a1 <|
  .opt (g15 x0 x1) fun r => .val (.agg (Cod.enc 5 r), [])
theorem s15_0_ok : SpecOk Go.Proofs.Try.prog 15 s15_0 :=
  q15_ok.less fun args hs r h => by
    unfold s15_0 at h
    obtain ⟨rfl, hh1⟩ := dN_inv h
    obtain ⟨v0, a0, rfl, hh2⟩ := dL_inv hh1
    obtain ⟨l0, rfl, hh3⟩ := dG_inv hh2
    obtain ⟨x0, rfl, hh4⟩ := dE_inv hh3
    obtain ⟨v1, a1, rfl, hh5⟩ := dL_inv hh4
    obtain ⟨c0, rfl, hh6⟩ := dC_inv hh5
    obtain ⟨x1, rfl, hh7⟩ := dI_inv hh6
    obtain ⟨rfl, hh8⟩ := dN_inv hh7
    rw [g15_run, Tr.ev_get?]
    change (Res.opt (g15 x0 x1) _).eval = some r at hh8
    rw [eval_opt] at hh8
    obtain ⟨z, hz, hh9⟩ := Option.bind_eq_some_iff.mp hh8
    unfold g15 at hz
    rw [hz]; exact hh9
noncomputable def s15 : Ab.Spec := fun args h => s15_0 (coeA [[none, none, none, none, none, none, none, none, none, none, none, none, none, none, none, none, some 0], []] args) h
theorem s15_ok : SpecOk Go.Proofs.Try.prog 15 s15 := s15_0_ok.pre [[none, none, none, none, none, none, none, none, none, none, none, none, none, none, none, none, some 0], []]
/-- pontage/change.active -/
noncomputable def L31 : SL := [(24, .byHeap, s24), (22, .byNew, s22), (25, .byHeap, s25), (28, .byHeap, s28), (29, .byHeap, s29), (30, .byHeap, s30), (36, .byHeap, s36), (37, .byHeap, s37), (38, .byHeap, s38), (14, .byNew, s14), (12, .byNew, s12)]
noncomputable def e31 : Env := ⟨ti, fun g => lookS g L31, 1000000, [], []⟩
def g31T (x0 : S5) (x1 : Int) (x2 : Bool) : Tr (S5 × Bool) :=
  .br (decide (0 ≤ x1)) (
   .opt (x0.f16[Int.toNat x1]?) fun y30 =>
    .br (!x2) (
     .br (x0.f16.isEmpty || cloneB 0 248 x0.f16) (
      .br (decide (0 ≤ x1) && decide (x1 < (x0.f16.length : Int))) (
       .opt (x0.f16[(Int.toNat x1)]?) fun y32 =>
        .opt ((List.set x0.f16 (Int.toNat x1) { y32 with f17 := false })[(Int.toNat x1)]?) fun y33 =>
         .opt ((List.set (List.set x0.f16 (Int.toNat x1) { y32 with f17 := false }) (Int.toNat x1) { y33 with f19 := false })[(Int.toNat x1)]?) fun y34 =>
          .opt ((List.set (List.set (List.set x0.f16 (Int.toNat x1) { y32 with f17 := false }) (Int.toNat x1) { y33 with f19 := false }) (Int.toNat x1) { y34 with f18 := false })[(Int.toNat x1)]?) fun y35 =>
           .opt ((List.set (List.set (List.set (List.set x0.f16 (Int.toNat x1) { y32 with f17 := false }) (Int.toNat x1) { y33 with f19 := false }) (Int.toNat x1) { y34 with f18 := false }) (Int.toNat x1) { y35 with f27 := false })[(Int.toNat x1)]?) fun y36 =>
            .leaf ({ x0 with f16 := (List.set (List.set (List.set (List.set (List.set x0.f16 (Int.toNat x1) { y32 with f17 := false }) (Int.toNat x1) { y33 with f19 := false }) (Int.toNat x1) { y34 with f18 := false }) (Int.toNat x1) { y35 with f27 := false }) (Int.toNat x1) { y36 with f74 := 2 }) }, true)) (
       .fail)) (
      .fail)) (
     .br (bif y30.f19 then true else y30.f17) (
      .br y30.f19 (
       .opt (g14 x0 x1) fun z37 =>
        .br (z37.f16.isEmpty || cloneB 0 248 z37.f16) (
         .br (decide (0 ≤ x1) && decide (x1 < (z37.f16.length : Int))) (
          .opt (z37.f16[(Int.toNat x1)]?) fun y39 =>
           .opt ((List.set z37.f16 (Int.toNat x1) { y39 with f19 := false })[(Int.toNat x1)]?) fun y40 =>
            .opt ((List.set (List.set z37.f16 (Int.toNat x1) { y39 with f19 := false }) (Int.toNat x1) { y40 with f17 := false })[(Int.toNat x1)]?) fun y41 =>
             .br (!y41.f26) (
              .opt ((List.set (List.set z37.f16 (Int.toNat x1) { y39 with f19 := false }) (Int.toNat x1) { y40 with f17 := false })[(Int.toNat x1)]?) fun y43 =>
               .opt ((List.set (List.set z37.f16 (Int.toNat x1) { y39 with f19 := false }) (Int.toNat x1) { y40 with f17 := false })[(Int.toNat x1)]?) fun y44 =>
                .opt (g12 { z37 with f16 := (List.set (List.set (List.set z37.f16 (Int.toNat x1) { y39 with f19 := false }) (Int.toNat x1) { y40 with f17 := false }) (Int.toNat x1) { y44 with f26 := (y43.f30 == 4) }) } x1) fun z46 =>
                 .leaf (z46, true)) (
              .opt ((List.set (List.set z37.f16 (Int.toNat x1) { y39 with f19 := false }) (Int.toNat x1) { y40 with f17 := false })[(Int.toNat x1)]?) fun y45 =>
               .opt (g12 { z37 with f16 := (List.set (List.set (List.set z37.f16 (Int.toNat x1) { y39 with f19 := false }) (Int.toNat x1) { y40 with f17 := false }) (Int.toNat x1) { y45 with f26 := true }) } x1) fun z47 =>
                .leaf (z47, true))) (
          .fail)) (
         .fail)) (
       .br (x0.f16.isEmpty || cloneB 0 248 x0.f16) (
        .br (decide (0 ≤ x1) && decide (x1 < (x0.f16.length : Int))) (
         .opt (x0.f16[(Int.toNat x1)]?) fun y49 =>
          .opt ((List.set x0.f16 (Int.toNat x1) { y49 with f19 := false })[(Int.toNat x1)]?) fun y50 =>
           .opt ((List.set (List.set x0.f16 (Int.toNat x1) { y49 with f19 := false }) (Int.toNat x1) { y50 with f17 := false })[(Int.toNat x1)]?) fun y51 =>
            .br (!y51.f26) (
             .opt ((List.set (List.set x0.f16 (Int.toNat x1) { y49 with f19 := false }) (Int.toNat x1) { y50 with f17 := false })[(Int.toNat x1)]?) fun y53 =>
              .opt ((List.set (List.set x0.f16 (Int.toNat x1) { y49 with f19 := false }) (Int.toNat x1) { y50 with f17 := false })[(Int.toNat x1)]?) fun y54 =>
               .opt (g12 { x0 with f16 := (List.set (List.set (List.set x0.f16 (Int.toNat x1) { y49 with f19 := false }) (Int.toNat x1) { y50 with f17 := false }) (Int.toNat x1) { y54 with f26 := (y53.f30 == 4) }) } x1) fun z56 =>
                .leaf (z56, true)) (
             .opt ((List.set (List.set x0.f16 (Int.toNat x1) { y49 with f19 := false }) (Int.toNat x1) { y50 with f17 := false })[(Int.toNat x1)]?) fun y55 =>
              .opt (g12 { x0 with f16 := (List.set (List.set (List.set x0.f16 (Int.toNat x1) { y49 with f19 := false }) (Int.toNat x1) { y50 with f17 := false }) (Int.toNat x1) { y55 with f26 := true }) } x1) fun z57 =>
               .leaf (z57, true))) (
         .fail)) (
        .fail))) (
      .br y30.f27 (
       .opt (g14 x0 x1) fun z58 =>
        .br (z58.f16.isEmpty || cloneB 0 248 z58.f16) (
         .br (decide (0 ≤ x1) && decide (x1 < (z58.f16.length : Int))) (
          .opt (z58.f16[(Int.toNat x1)]?) fun y60 =>
           .opt ((List.set z58.f16 (Int.toNat x1) { y60 with f6 := true })[(Int.toNat x1)]?) fun y61 =>
            .leaf ({ z58 with f16 := (List.set (List.set z58.f16 (Int.toNat x1) { y60 with f6 := true }) (Int.toNat x1) { y61 with f27 := false }) }, true)) (
          .fail)) (
         .fail)) (
       .br y30.f18 (
        .br (x0.f16.isEmpty || cloneB 0 248 x0.f16) (
         .br (decide (0 ≤ x1) && decide (x1 < (x0.f16.length : Int))) (
          .opt (x0.f16[(Int.toNat x1)]?) fun y63 =>
           .opt ((List.set x0.f16 (Int.toNat x1) { y63 with f71 := 0 })[(Int.toNat x1)]?) fun y64 =>
            .leaf ({ x0 with f16 := (List.set (List.set x0.f16 (Int.toNat x1) { y63 with f71 := 0 }) (Int.toNat x1) { y64 with f18 := false }) }, true)) (
          .fail)) (
         .fail)) (
        .leaf (x0, false)))))) (
   .fail)
def g31 (x0 : S5) (x1 : Int) (x2 : Bool) : Option (S5 × Bool) := (g31T x0 x1 x2).get?
noncomputable def T31 : TL := []
noncomputable def q31 : Ab.Spec := frzR [[none, none, none, none, none, none, none, none, none, none, none, none, none, none, none, none, some 0], []] (runQ0 e31 (lookT T31) Go.Proofs.Try.f31)
theorem q31_ok : SpecOk Go.Proofs.Try.prog 31 q31 := (runQ0_ok (runR_ok (e := e31) follows (allTI ti_ok _ _ _ _) (callsOk_cons s24_ok (callsOk_cons s22_ok (callsOk_cons s25_ok (callsOk_cons s28_ok (callsOk_cons s29_ok (callsOk_cons s30_ok (callsOk_cons s36_ok (callsOk_cons s37_ok (callsOk_cons s38_ok (callsOk_cons s14_ok (callsOk_cons s12_ok (callsOk_nil)))))))))))) Go.Proofs.Try.func31 Go.Proofs.Try.call31) (fun c hc => by
  have hb : c = Go.Proofs.Try.f31.body.getD .skip := by rw [hc]; rfl
  subst hb
  exact tab_nil)).froze [[none, none, none, none, none, none, none, none, none, none, none, none, none, none, none, none, some 0], []]
theorem g31_run (x0 : S5) (x1 : Int) (x2 : Bool) : (q31 [.agg (Cod.enc 5 x0), .c (.int .i64 x1), .c (.bool x2)] []).eval = (g31T x0 x1 x2).ev fun r => ((.tup [some (true, Cod.enc 5 r.1), some (false, [.bool r.2])] : AV), ([] : List Blk)) := by kernel_rfl
noncomputable def s31_0 : Ab.Spec := fun args h =>
  dN h <| dL args fun v0 a0 => dG v0 fun l0 => dE 5 l0 fun x0 => dL a0 fun v1 a1 => dC v1 fun c0 => dI .i64 c0 fun x1 => dL a1 fun v2 a2 => dC v2 fun c1 => dB c1 fun x2 => dN a2 <|
  .opt (g31 x0 x1 x2) fun r => .val (.tup [some (true, Cod.enc 5 r.1), some (false, [.bool r.2])], [])
theorem s31_0_ok : SpecOk Go.Proofs.Try.prog 31 s31_0 :=
  q31_ok.less fun args hs r h => by
    unfold s31_0 at h
    obtain ⟨rfl, hh1⟩ := dN_inv h
    obtain ⟨v0, a0, rfl, hh2⟩ := dL_inv hh1
    obtain ⟨l0, rfl, hh3⟩ := dG_inv hh2
    obtain ⟨x0, rfl, hh4⟩ := dE_inv hh3
    obtain ⟨v1, a1, rfl, hh5⟩ := dL_inv hh4
    obtain ⟨c0, rfl, hh6⟩ := dC_inv hh5
    obtain ⟨x1, rfl, hh7⟩ := dI_inv hh6
    obtain ⟨v2, a2, rfl, hh8⟩ := dL_inv hh7
    obtain ⟨c1, rfl, hh9⟩ := dC_inv hh8
    obtain ⟨x2, rfl, hh10⟩ := dB_inv hh9
    obtain ⟨rfl, hh11⟩ := dN_inv hh10
    rw [g31_run, Tr.ev_get?]
    change (Res.opt (g31 x0 x1 x2) _).eval = some r at hh11
    rw [eval_opt] at hh11
    obtain ⟨z, hz, hh12⟩ := Option.bind_eq_some_iff.mp hh11
    unfold g31 at hz
    rw [hz]; exact hh12
noncomputable def s31 : Ab.Spec := fun args h => s31_0 (coeA [[none, none, none, none, none, none, none, none, none, none, none, none, none, none, none, none, some 0], [], []] args) h
theorem s31_ok : SpecOk Go.Proofs.Try.prog 31 s31 := s31_0_ok.pre [[none, none, none, none, none, none, none, none, none, none, none, none, none, none, none, none, some 0], [], []]
/-- pontage/change.Tcm -/
noncomputable def L17 : SL := [(21, .byVal, s21), (24, .byHeap, s24), (22, .byNew, s22), (25, .byHeap, s25), (28, .byHeap, s28), (29, .byHeap, s29), (30, .byHeap, s30), (36, .byHeap, s36), (37, .byHeap, s37), (38, .byHeap, s38), (14, .byNew, s14), (12, .byNew, s12), (31, .byNew, s31)]
noncomputable def e17 : Env := ⟨ti, fun g => lookS g L17, 1000000, [], []⟩
def g17T (x0 : S5) (x1 : Int) : Tr (S5 × Bool) :=
  let z65 := g21 x0 x1
  .br (!z65) (
   .leaf (x0, false)) (
   .br (decide (0 ≤ x1)) (
    .opt (x0.f16[Int.toNat x1]?) fun y66 =>
     .br (y66.f74 == 1) (
      .br (bif y66.f9 then (!y66.f6) else false) (
       .br (x0.f16.isEmpty || cloneB 0 248 x0.f16) (
        .br (decide (0 ≤ x1) && decide (x1 < (x0.f16.length : Int))) (
         .opt (x0.f16[(Int.toNat x1)]?) fun y68 =>
          .opt ((List.set x0.f16 (Int.toNat x1) { y68 with f17 := false })[(Int.toNat x1)]?) fun y69 =>
           .opt ((List.set (List.set x0.f16 (Int.toNat x1) { y68 with f17 := false }) (Int.toNat x1) { y69 with f19 := false })[(Int.toNat x1)]?) fun y70 =>
            .opt ((List.set (List.set (List.set x0.f16 (Int.toNat x1) { y68 with f17 := false }) (Int.toNat x1) { y69 with f19 := false }) (Int.toNat x1) { y70 with f18 := false })[(Int.toNat x1)]?) fun y71 =>
             .opt ((List.set (List.set (List.set (List.set x0.f16 (Int.toNat x1) { y68 with f17 := false }) (Int.toNat x1) { y69 with f19 := false }) (Int.toNat x1) { y70 with f18 := false }) (Int.toNat x1) { y71 with f27 := false })[(Int.toNat x1)]?) fun y72 =>
              .leaf ({ x0 with f16 := (List.set (List.set (List.set (List.set (List.set x0.f16 (Int.toNat x1) { y68 with f17 := false }) (Int.toNat x1) { y69 with f19 := false }) (Int.toNat x1) { y70 with f18 := false }) (Int.toNat x1) { y71 with f27 := false }) (Int.toNat x1) { y72 with f74 := 2 }) }, true)) (
         .fail)) (
        .fail)) (
       .leaf (x0, false))) (
      .br (y66.f74 == 2) (
       .br (bif (bif (y66.f30 == 3) then true else (y66.f30 == 4)) then y66.f7 else false) (
        .opt (g14 x0 x1) fun z73 =>
         .opt (g12 z73 x1) fun z74 =>
          .br (z74.f16.isEmpty || cloneB 0 248 z74.f16) (
           .br (decide (0 ≤ x1) && decide (x1 < (z74.f16.length : Int))) (
            .opt (z74.f16[(Int.toNat x1)]?) fun y76 =>
             .opt ((List.set z74.f16 (Int.toNat x1) { y76 with f11 := true })[(Int.toNat x1)]?) fun y77 =>
              .leaf ({ z74 with f16 := (List.set (List.set z74.f16 (Int.toNat x1) { y76 with f11 := true }) (Int.toNat x1) { y77 with f74 := 3 }) }, true)) (
            .fail)) (
           .fail)) (
        .br (bif (bif (bif (!(bif (y66.f30 == 3) then true else (y66.f30 == 4))) then (!y66.f9) else false) then (!y66.f10) else false) then (!(bif (bif (bif y66.f17 then true else y66.f19) then true else y66.f18) then true else y66.f27)) else false) (
         .br (x0.f16.isEmpty || cloneB 0 248 x0.f16) (
          .br (decide (0 ≤ x1) && decide (x1 < (x0.f16.length : Int))) (
           .opt (x0.f16[(Int.toNat x1)]?) fun y79 =>
            .opt ((List.set x0.f16 (Int.toNat x1) { y79 with f6 := true })[(Int.toNat x1)]?) fun y80 =>
             .opt ((List.set (List.set x0.f16 (Int.toNat x1) { y79 with f6 := true }) (Int.toNat x1) { y80 with f71 := 0 })[(Int.toNat x1)]?) fun y81 =>
              .opt ((List.set (List.set (List.set x0.f16 (Int.toNat x1) { y79 with f6 := true }) (Int.toNat x1) { y80 with f71 := 0 }) (Int.toNat x1) { y81 with f26 := false })[(Int.toNat x1)]?) fun y82 =>
               .leaf ({ x0 with f16 := (List.set (List.set (List.set (List.set x0.f16 (Int.toNat x1) { y79 with f6 := true }) (Int.toNat x1) { y80 with f71 := 0 }) (Int.toNat x1) { y81 with f26 := false }) (Int.toNat x1) { y82 with f74 := 1 }) }, true)) (
           .fail)) (
          .fail)) (
         .br (bif (bif (bif y66.f17 then true else y66.f19) then true else y66.f18) then true else y66.f27) (
          .br (x0.f16.isEmpty || cloneB 0 248 x0.f16) (
           .br (decide (0 ≤ x1) && decide (x1 < (x0.f16.length : Int))) (
            .opt (x0.f16[(Int.toNat x1)]?) fun y84 =>
             .opt ((List.set x0.f16 (Int.toNat x1) { y84 with f17 := false })[(Int.toNat x1)]?) fun y85 =>
              .opt ((List.set (List.set x0.f16 (Int.toNat x1) { y84 with f17 := false }) (Int.toNat x1) { y85 with f19 := false })[(Int.toNat x1)]?) fun y86 =>
               .opt ((List.set (List.set (List.set x0.f16 (Int.toNat x1) { y84 with f17 := false }) (Int.toNat x1) { y85 with f19 := false }) (Int.toNat x1) { y86 with f18 := false })[(Int.toNat x1)]?) fun y87 =>
                .opt ((List.set (List.set (List.set (List.set x0.f16 (Int.toNat x1) { y84 with f17 := false }) (Int.toNat x1) { y85 with f19 := false }) (Int.toNat x1) { y86 with f18 := false }) (Int.toNat x1) { y87 with f27 := false })[(Int.toNat x1)]?) fun y88 =>
                 .leaf ({ x0 with f16 := (List.set (List.set (List.set (List.set (List.set x0.f16 (Int.toNat x1) { y84 with f17 := false }) (Int.toNat x1) { y85 with f19 := false }) (Int.toNat x1) { y86 with f18 := false }) (Int.toNat x1) { y87 with f27 := false }) (Int.toNat x1) { y88 with f74 := 2 }) }, true)) (
            .fail)) (
           .fail)) (
          .leaf (x0, false))))) (
       .br (y66.f74 == 3) (
        .opt (g31 x0 x1 (bif (y66.f30 == 3) then true else (y66.f30 == 4))) fun z89 =>
         .leaf (z89.1, z89.2)) (
        .br (x0.f16.isEmpty || cloneB 0 248 x0.f16) (
         .br (decide (0 ≤ x1) && decide (x1 < (x0.f16.length : Int))) (
          .opt (x0.f16[(Int.toNat x1)]?) fun y91 =>
           .opt ((List.set x0.f16 (Int.toNat x1) { y91 with f6 := true })[(Int.toNat x1)]?) fun y92 =>
            .opt ((List.set (List.set x0.f16 (Int.toNat x1) { y91 with f6 := true }) (Int.toNat x1) { y92 with f71 := 0 })[(Int.toNat x1)]?) fun y93 =>
             .opt ((List.set (List.set (List.set x0.f16 (Int.toNat x1) { y91 with f6 := true }) (Int.toNat x1) { y92 with f71 := 0 }) (Int.toNat x1) { y93 with f26 := false })[(Int.toNat x1)]?) fun y94 =>
              .leaf ({ x0 with f16 := (List.set (List.set (List.set (List.set x0.f16 (Int.toNat x1) { y91 with f6 := true }) (Int.toNat x1) { y92 with f71 := 0 }) (Int.toNat x1) { y93 with f26 := false }) (Int.toNat x1) { y94 with f74 := 1 }) }, true)) (
          .fail)) (
         .fail))))) (
    .fail))
def g17 (x0 : S5) (x1 : Int) : Option (S5 × Bool) := (g17T x0 x1).get?
noncomputable def T17 : TL := []
noncomputable def q17 : Ab.Spec := frzR [[none, none, none, none, none, none, none, none, none, none, none, none, none, none, none, none, some 0], []] (runQ0 e17 (lookT T17) Go.Proofs.Try.f17)
theorem q17_ok : SpecOk Go.Proofs.Try.prog 17 q17 := (runQ0_ok (runR_ok (e := e17) follows (allTI ti_ok _ _ _ _) (callsOk_cons s21_ok (callsOk_cons s24_ok (callsOk_cons s22_ok (callsOk_cons s25_ok (callsOk_cons s28_ok (callsOk_cons s29_ok (callsOk_cons s30_ok (callsOk_cons s36_ok (callsOk_cons s37_ok (callsOk_cons s38_ok (callsOk_cons s14_ok (callsOk_cons s12_ok (callsOk_cons s31_ok (callsOk_nil)))))))))))))) Go.Proofs.Try.func17 Go.Proofs.Try.call17) (fun c hc => by
  have hb : c = Go.Proofs.Try.f17.body.getD .skip := by rw [hc]; rfl
  subst hb
  exact tab_nil)).froze [[none, none, none, none, none, none, none, none, none, none, none, none, none, none, none, none, some 0], []]
theorem g17_run (x0 : S5) (x1 : Int) : (q17 [.agg (Cod.enc 5 x0), .c (.int .i64 x1)] []).eval = (g17T x0 x1).ev fun r => ((.tup [some (true, Cod.enc 5 r.1), some (false, [.bool r.2])] : AV), ([] : List Blk)) := by kernel_rfl
noncomputable def s17_0 : Ab.Spec := fun args h =>
  dN h <| dL args fun v0 a0 => dG v0 fun l0 => dE 5 l0 fun x0 => dL a0 fun v1 a1 => dC v1 fun c0 => dI .i64 c0 fun x1 => dN a1 <|
  .opt (g17 x0 x1) fun r => .val (.tup [some (true, Cod.enc 5 r.1), some (false, [.bool r.2])], [])
theorem s17_0_ok : SpecOk Go.Proofs.Try.prog 17 s17_0 :=
  q17_ok.less fun args hs r h => by
    unfold s17_0 at h
    obtain ⟨rfl, hh1⟩ := dN_inv h
    obtain ⟨v0, a0, rfl, hh2⟩ := dL_inv hh1
    obtain ⟨l0, rfl, hh3⟩ := dG_inv hh2
    obtain ⟨x0, rfl, hh4⟩ := dE_inv hh3
    obtain ⟨v1, a1, rfl, hh5⟩ := dL_inv hh4
    obtain ⟨c0, rfl, hh6⟩ := dC_inv hh5
    obtain ⟨x1, rfl, hh7⟩ := dI_inv hh6
    obtain ⟨rfl, hh8⟩ := dN_inv hh7
    rw [g17_run, Tr.ev_get?]
    change (Res.opt (g17 x0 x1) _).eval = some r at hh8
    rw [eval_opt] at hh8
    obtain ⟨z, hz, hh9⟩ := Option.bind_eq_some_iff.mp hh8
    unfold g17 at hz
    rw [hz]; exact hh9
noncomputable def s17 : Ab.Spec := fun args h => s17_0 (coeA [[none, none, none, none, none, none, none, none, none, none, none, none, none, none, none, none, some 0], []] args) h
theorem s17_ok : SpecOk Go.Proofs.Try.prog 17 s17 := s17_0_ok.pre [[none, none, none, none, none, none, none, none, none, none, none, none, none, none, none, none, some 0], []]
/-- pontage/pontagelaw14.awake -/
noncomputable def L16 : SL := [(17, .byNew, s17)]
noncomputable def e16 : Env := ⟨ti, fun g => lookS g L16, 1000000, [], []⟩
def g16T  : Tr (Bool) :=
  .opt (g17 (S5.mk 0 0 0 0 0 0 false 0 0 0 0 0 0 0 0 0 [(S0.mk 0 0 false false false false false true false true false false false false false false false false false false false false false false false false false false false 0 4 0 0 0 0 0 0 0 0 0 0 0 0 0 0 0 0 0 0 false false false false false false 0 0 0 0 0 0 0 0 0 0 0 0 0 0 0 0 0 0 0 2 0 0), (S0.mk 0 0 false false false false false false false false false false false false false false false false false false false false false false false false false false false 0 0 0 0 0 0 0 0 0 0 0 0 0 0 0 0 0 0 0 0 false false false false false false 0 0 0 0 0 0 0 0 0 0 0 0 0 0 0 0 0 0 0 0 0 0)]) 0) fun z95 =>
   .br (bif z95.2 then ((z95.1.f16.length : Int) == 2) else false) (
    .opt (z95.1.f16[0]?) fun y97 =>
     .br (y97.f74 == 3) (
      .opt (z95.1.f16[1]?) fun y99 =>
       .br y99.f27 (
        .opt (z95.1.f16[0]?) fun y101 =>
         .leaf ((!y101.f27))) (
        .leaf (false))) (
      .leaf (false))) (
    .leaf (false))
def g16  : Option (Bool) := (g16T ).get?
noncomputable def T16 : TL := []
noncomputable def q16 : Ab.Spec := runQ0 e16 (lookT T16) Go.Proofs.Try.f16
theorem q16_ok : SpecOk Go.Proofs.Try.prog 16 q16 := (runQ0_ok (runR_ok (e := e16) follows (allTI ti_ok _ _ _ _) (callsOk_cons s17_ok (callsOk_nil)) Go.Proofs.Try.func16 Go.Proofs.Try.call16) (fun c hc => by
  have hb : c = Go.Proofs.Try.f16.body.getD .skip := by rw [hc]; rfl
  subst hb
  exact tab_nil))
theorem g16_run  : (q16 [] []).eval = (g16T ).ev fun r => ((.c (.bool r) : AV), ([] : List Blk)) := by kernel_rfl
noncomputable def s16 : Ab.Spec := fun args h =>
  dN h <| dN args <|
  .opt (g16) fun r => .val (.c (.bool r), [])
theorem s16_ok : SpecOk Go.Proofs.Try.prog 16 s16 :=
  q16_ok.less fun args hs r h => by
    unfold s16 at h
    obtain ⟨rfl, hh1⟩ := dN_inv h
    obtain ⟨rfl, hh2⟩ := dN_inv hh1
    rw [g16_run, Tr.ev_get?]
    change (Res.opt (g16) _).eval = some r at hh2
    rw [eval_opt] at hh2
    obtain ⟨z, hz, hh3⟩ := Option.bind_eq_some_iff.mp hh2
    unfold g16 at hz
    rw [hz]; exact hh3
/-- pontage/pontagelaw14.ChangeTells -/
noncomputable def L3 : SL := [(10, .byNew, s10), (12, .byNew, s12), (13, .byNew, s13), (11, .byVal, s11), (14, .byNew, s14), (15, .byNew, s15), (16, .byVal, s16)]
noncomputable def e3 : Env := ⟨ti, fun g => lookS g L3, 1000000, [], []⟩
def g3T (x0 : S5) (x1 : Int) : Tr (Bool) :=
  .opt (g10 x0) fun z105 =>
   .opt (g12 z105 x1) fun z106 =>
    .opt (g13 z105 x1) fun z107 =>
     .opt (g11 z106 z107) fun z108 =>
      .br z108 (
       .opt (g14 z105 x1) fun z109 =>
        .opt (g15 z105 x1) fun z110 =>
         .opt (g11 z109 z110) fun z111 =>
          .br z111 (
           .opt (g16 ) fun z113 =>
            .leaf (z113)) (
           .leaf (false))) (
       .leaf (false))
def g3 (x0 : S5) (x1 : Int) : Option (Bool) := (g3T x0 x1).get?
noncomputable def T3 : TL := []
noncomputable def q3 : Ab.Spec := runQ0 e3 (lookT T3) Go.Proofs.Try.f3
theorem q3_ok : SpecOk Go.Proofs.Try.prog 3 q3 := (runQ0_ok (runR_ok (e := e3) follows (allTI ti_ok _ _ _ _) (callsOk_cons s10_ok (callsOk_cons s12_ok (callsOk_cons s13_ok (callsOk_cons s11_ok (callsOk_cons s14_ok (callsOk_cons s15_ok (callsOk_cons s16_ok (callsOk_nil)))))))) Go.Proofs.Try.func3 Go.Proofs.Try.call3) (fun c hc => by
  have hb : c = Go.Proofs.Try.f3.body.getD .skip := by rw [hc]; rfl
  subst hb
  exact tab_nil))
theorem g3_run (x0 : S5) (x1 : Int) : (q3 [.agg (Cod.enc 5 x0), .c (.int .i64 x1)] []).eval = (g3T x0 x1).ev fun r => ((.c (.bool r) : AV), ([] : List Blk)) := by kernel_rfl
noncomputable def s3_0 : Ab.Spec := fun args h =>
  dN h <| dL args fun v0 a0 => dG v0 fun l0 => dE 5 l0 fun x0 => dL a0 fun v1 a1 => dC v1 fun c0 => dI .i64 c0 fun x1 => dN a1 <|
  .opt (g3 x0 x1) fun r => .val (.c (.bool r), [])
theorem s3_0_ok : SpecOk Go.Proofs.Try.prog 3 s3_0 :=
  q3_ok.less fun args hs r h => by
    unfold s3_0 at h
    obtain ⟨rfl, hh1⟩ := dN_inv h
    obtain ⟨v0, a0, rfl, hh2⟩ := dL_inv hh1
    obtain ⟨l0, rfl, hh3⟩ := dG_inv hh2
    obtain ⟨x0, rfl, hh4⟩ := dE_inv hh3
    obtain ⟨v1, a1, rfl, hh5⟩ := dL_inv hh4
    obtain ⟨c0, rfl, hh6⟩ := dC_inv hh5
    obtain ⟨x1, rfl, hh7⟩ := dI_inv hh6
    obtain ⟨rfl, hh8⟩ := dN_inv hh7
    rw [g3_run, Tr.ev_get?]
    change (Res.opt (g3 x0 x1) _).eval = some r at hh8
    rw [eval_opt] at hh8
    obtain ⟨z, hz, hh9⟩ := Option.bind_eq_some_iff.mp hh8
    unfold g3 at hz
    rw [hz]; exact hh9
noncomputable def s3 : Ab.Spec := fun args h => s3_0 (coeA [[none, none, none, none, none, none, none, none, none, none, none, none, none, none, none, none, some 0], []] args) h
theorem s3_ok : SpecOk Go.Proofs.Try.prog 3 s3 := s3_0_ok.pre [[none, none, none, none, none, none, none, none, none, none, none, none, none, none, none, none, some 0], []]
/-- pontage/pontageref14.learns -/
noncomputable def L32 : SL := [(27, .byNew, s27)]
noncomputable def e32 : Env := ⟨ti, fun g => lookS g L32, 1000000, [], []⟩
def g32T (x0 : S5) (x1 : Int) : Tr (S5 × Bool) :=
  .br (decide (0 ≤ x1)) (
   .opt (x0.f16[Int.toNat x1]?) fun y115 =>
    .opt (g27 x0 x1 { y115 with f17 := false, f18 := false, f19 := false, f27 := false, f74 := 2 }) fun z116 =>
     .leaf (z116, true)) (
   .fail)
def g32 (x0 : S5) (x1 : Int) : Option (S5 × Bool) := (g32T x0 x1).get?
noncomputable def T32 : TL := []
noncomputable def q32 : Ab.Spec := frzR [[none, none, none, none, none, none, none, none, none, none, none, none, none, none, none, none, some 0], []] (runQ0 e32 (lookT T32) Go.Proofs.Try.f32)
theorem q32_ok : SpecOk Go.Proofs.Try.prog 32 q32 := (runQ0_ok (runR_ok (e := e32) follows (allTI ti_ok _ _ _ _) (callsOk_cons s27_ok (callsOk_nil)) Go.Proofs.Try.func32 Go.Proofs.Try.call32) (fun c hc => by
  have hb : c = Go.Proofs.Try.f32.body.getD .skip := by rw [hc]; rfl
  subst hb
  exact tab_nil)).froze [[none, none, none, none, none, none, none, none, none, none, none, none, none, none, none, none, some 0], []]
theorem g32_run (x0 : S5) (x1 : Int) : (q32 [.agg (Cod.enc 5 x0), .c (.int .i64 x1)] []).eval = (g32T x0 x1).ev fun r => ((.tup [some (true, Cod.enc 5 r.1), some (false, [.bool r.2])] : AV), ([] : List Blk)) := by kernel_rfl
noncomputable def s32_0 : Ab.Spec := fun args h =>
  dN h <| dL args fun v0 a0 => dG v0 fun l0 => dE 5 l0 fun x0 => dL a0 fun v1 a1 => dC v1 fun c0 => dI .i64 c0 fun x1 => dN a1 <|
  .opt (g32 x0 x1) fun r => .val (.tup [some (true, Cod.enc 5 r.1), some (false, [.bool r.2])], [])
theorem s32_0_ok : SpecOk Go.Proofs.Try.prog 32 s32_0 :=
  q32_ok.less fun args hs r h => by
    unfold s32_0 at h
    obtain ⟨rfl, hh1⟩ := dN_inv h
    obtain ⟨v0, a0, rfl, hh2⟩ := dL_inv hh1
    obtain ⟨l0, rfl, hh3⟩ := dG_inv hh2
    obtain ⟨x0, rfl, hh4⟩ := dE_inv hh3
    obtain ⟨v1, a1, rfl, hh5⟩ := dL_inv hh4
    obtain ⟨c0, rfl, hh6⟩ := dC_inv hh5
    obtain ⟨x1, rfl, hh7⟩ := dI_inv hh6
    obtain ⟨rfl, hh8⟩ := dN_inv hh7
    rw [g32_run, Tr.ev_get?]
    change (Res.opt (g32 x0 x1) _).eval = some r at hh8
    rw [eval_opt] at hh8
    obtain ⟨z, hz, hh9⟩ := Option.bind_eq_some_iff.mp hh8
    unfold g32 at hz
    rw [hz]; exact hh9
noncomputable def s32 : Ab.Spec := fun args h => s32_0 (coeA [[none, none, none, none, none, none, none, none, none, none, none, none, none, none, none, none, some 0], []] args) h
theorem s32_ok : SpecOk Go.Proofs.Try.prog 32 s32 := s32_0_ok.pre [[none, none, none, none, none, none, none, none, none, none, none, none, none, none, none, none, some 0], []]
/-- pontage/pontageref14.quiet -/
noncomputable def L35 : SL := [(27, .byNew, s27)]
noncomputable def e35 : Env := ⟨ti, fun g => lookS g L35, 1000000, [], []⟩
def g35T (x0 : S5) (x1 : Int) : Tr (S5 × Bool) :=
  .br (decide (0 ≤ x1)) (
   .opt (x0.f16[Int.toNat x1]?) fun y117 =>
    .opt (g27 x0 x1 { y117 with f6 := true, f26 := false, f71 := 0, f74 := 1 }) fun z118 =>
     .leaf (z118, true)) (
   .fail)
def g35 (x0 : S5) (x1 : Int) : Option (S5 × Bool) := (g35T x0 x1).get?
noncomputable def T35 : TL := []
noncomputable def q35 : Ab.Spec := frzR [[none, none, none, none, none, none, none, none, none, none, none, none, none, none, none, none, some 0], []] (runQ0 e35 (lookT T35) Go.Proofs.Try.f35)
theorem q35_ok : SpecOk Go.Proofs.Try.prog 35 q35 := (runQ0_ok (runR_ok (e := e35) follows (allTI ti_ok _ _ _ _) (callsOk_cons s27_ok (callsOk_nil)) Go.Proofs.Try.func35 Go.Proofs.Try.call35) (fun c hc => by
  have hb : c = Go.Proofs.Try.f35.body.getD .skip := by rw [hc]; rfl
  subst hb
  exact tab_nil)).froze [[none, none, none, none, none, none, none, none, none, none, none, none, none, none, none, none, some 0], []]
theorem g35_run (x0 : S5) (x1 : Int) : (q35 [.agg (Cod.enc 5 x0), .c (.int .i64 x1)] []).eval = (g35T x0 x1).ev fun r => ((.tup [some (true, Cod.enc 5 r.1), some (false, [.bool r.2])] : AV), ([] : List Blk)) := by kernel_rfl
noncomputable def s35_0 : Ab.Spec := fun args h =>
  dN h <| dL args fun v0 a0 => dG v0 fun l0 => dE 5 l0 fun x0 => dL a0 fun v1 a1 => dC v1 fun c0 => dI .i64 c0 fun x1 => dN a1 <|
  .opt (g35 x0 x1) fun r => .val (.tup [some (true, Cod.enc 5 r.1), some (false, [.bool r.2])], [])
theorem s35_0_ok : SpecOk Go.Proofs.Try.prog 35 s35_0 :=
  q35_ok.less fun args hs r h => by
    unfold s35_0 at h
    obtain ⟨rfl, hh1⟩ := dN_inv h
    obtain ⟨v0, a0, rfl, hh2⟩ := dL_inv hh1
    obtain ⟨l0, rfl, hh3⟩ := dG_inv hh2
    obtain ⟨x0, rfl, hh4⟩ := dE_inv hh3
    obtain ⟨v1, a1, rfl, hh5⟩ := dL_inv hh4
    obtain ⟨c0, rfl, hh6⟩ := dC_inv hh5
    obtain ⟨x1, rfl, hh7⟩ := dI_inv hh6
    obtain ⟨rfl, hh8⟩ := dN_inv hh7
    rw [g35_run, Tr.ev_get?]
    change (Res.opt (g35 x0 x1) _).eval = some r at hh8
    rw [eval_opt] at hh8
    obtain ⟨z, hz, hh9⟩ := Option.bind_eq_some_iff.mp hh8
    unfold g35 at hz
    rw [hz]; exact hh9
noncomputable def s35 : Ab.Spec := fun args h => s35_0 (coeA [[none, none, none, none, none, none, none, none, none, none, none, none, none, none, none, none, some 0], []] args) h
theorem s35_ok : SpecOk Go.Proofs.Try.prog 35 s35 := s35_0_ok.pre [[none, none, none, none, none, none, none, none, none, none, none, none, none, none, none, none, some 0], []]
/-- pontage/pontageref14.learning -/
noncomputable def L33 : SL := [(15, .byNew, s15), (13, .byNew, s13), (27, .byNew, s27), (35, .byNew, s35), (32, .byNew, s32)]
noncomputable def e33 : Env := ⟨ti, fun g => lookS g L33, 1000000, [], []⟩
def g33T (x0 : S5) (x1 : Int) (x2 : Bool) : Tr (S5 × Bool) :=
  .br (decide (0 ≤ x1)) (
   .opt (x0.f16[Int.toNat x1]?) fun y119 =>
    .br (bif x2 then y119.f7 else false) (
     .opt (g15 x0 x1) fun z120 =>
      .opt (g13 z120 x1) fun z121 =>
       .br (decide (0 ≤ x1)) (
        .opt (z121.f16[Int.toNat x1]?) fun y122 =>
         .opt (g27 z121 x1 { y122 with f11 := true, f74 := 3 }) fun z123 =>
          .leaf (z123, true)) (
        .fail)) (
     .br (bif (bif (bif (!x2) then (!y119.f9) else false) then (!y119.f10) else false) then (!(bif (bif (bif y119.f17 then true else y119.f19) then true else y119.f18) then true else y119.f27)) else false) (
      .opt (g35 x0 x1) fun z124 =>
       .leaf (z124.1, z124.2)) (
      .br (bif (bif (bif y119.f17 then true else y119.f19) then true else y119.f18) then true else y119.f27) (
       .opt (g32 x0 x1) fun z125 =>
        .leaf (z125.1, z125.2)) (
       .leaf (x0, false))))) (
   .fail)
def g33 (x0 : S5) (x1 : Int) (x2 : Bool) : Option (S5 × Bool) := (g33T x0 x1 x2).get?
noncomputable def T33 : TL := []
noncomputable def q33 : Ab.Spec := frzR [[none, none, none, none, none, none, none, none, none, none, none, none, none, none, none, none, some 0], []] (runQ0 e33 (lookT T33) Go.Proofs.Try.f33)
theorem q33_ok : SpecOk Go.Proofs.Try.prog 33 q33 := (runQ0_ok (runR_ok (e := e33) follows (allTI ti_ok _ _ _ _) (callsOk_cons s15_ok (callsOk_cons s13_ok (callsOk_cons s27_ok (callsOk_cons s35_ok (callsOk_cons s32_ok (callsOk_nil)))))) Go.Proofs.Try.func33 Go.Proofs.Try.call33) (fun c hc => by
  have hb : c = Go.Proofs.Try.f33.body.getD .skip := by rw [hc]; rfl
  subst hb
  exact tab_nil)).froze [[none, none, none, none, none, none, none, none, none, none, none, none, none, none, none, none, some 0], []]
theorem g33_run (x0 : S5) (x1 : Int) (x2 : Bool) : (q33 [.agg (Cod.enc 5 x0), .c (.int .i64 x1), .c (.bool x2)] []).eval = (g33T x0 x1 x2).ev fun r => ((.tup [some (true, Cod.enc 5 r.1), some (false, [.bool r.2])] : AV), ([] : List Blk)) := by kernel_rfl
noncomputable def s33_0 : Ab.Spec := fun args h =>
  dN h <| dL args fun v0 a0 => dG v0 fun l0 => dE 5 l0 fun x0 => dL a0 fun v1 a1 => dC v1 fun c0 => dI .i64 c0 fun x1 => dL a1 fun v2 a2 => dC v2 fun c1 => dB c1 fun x2 => dN a2 <|
  .opt (g33 x0 x1 x2) fun r => .val (.tup [some (true, Cod.enc 5 r.1), some (false, [.bool r.2])], [])
theorem s33_0_ok : SpecOk Go.Proofs.Try.prog 33 s33_0 :=
  q33_ok.less fun args hs r h => by
    unfold s33_0 at h
    obtain ⟨rfl, hh1⟩ := dN_inv h
    obtain ⟨v0, a0, rfl, hh2⟩ := dL_inv hh1
    obtain ⟨l0, rfl, hh3⟩ := dG_inv hh2
    obtain ⟨x0, rfl, hh4⟩ := dE_inv hh3
    obtain ⟨v1, a1, rfl, hh5⟩ := dL_inv hh4
    obtain ⟨c0, rfl, hh6⟩ := dC_inv hh5
    obtain ⟨x1, rfl, hh7⟩ := dI_inv hh6
    obtain ⟨v2, a2, rfl, hh8⟩ := dL_inv hh7
    obtain ⟨c1, rfl, hh9⟩ := dC_inv hh8
    obtain ⟨x2, rfl, hh10⟩ := dB_inv hh9
    obtain ⟨rfl, hh11⟩ := dN_inv hh10
    rw [g33_run, Tr.ev_get?]
    change (Res.opt (g33 x0 x1 x2) _).eval = some r at hh11
    rw [eval_opt] at hh11
    obtain ⟨z, hz, hh12⟩ := Option.bind_eq_some_iff.mp hh11
    unfold g33 at hz
    rw [hz]; exact hh12
noncomputable def s33 : Ab.Spec := fun args h => s33_0 (coeA [[none, none, none, none, none, none, none, none, none, none, none, none, none, none, none, none, some 0], [], []] args) h
theorem s33_ok : SpecOk Go.Proofs.Try.prog 33 s33 := s33_0_ok.pre [[none, none, none, none, none, none, none, none, none, none, none, none, none, none, none, none, some 0], [], []]
/-- pontage/pontageref14.active -/
noncomputable def L34 : SL := [(32, .byNew, s32), (15, .byNew, s15), (27, .byNew, s27), (13, .byNew, s13)]
noncomputable def e34 : Env := ⟨ti, fun g => lookS g L34, 1000000, [], []⟩
def g34T (x0 : S5) (x1 : Int) (x2 : Bool) : Tr (S5 × Bool) :=
  .br (decide (0 ≤ x1)) (
   .opt (x0.f16[Int.toNat x1]?) fun y126 =>
    .br (!x2) (
     .opt (g32 x0 x1) fun z127 =>
      .leaf (z127.1, z127.2)) (
     .br (bif y126.f19 then true else y126.f17) (
      .br y126.f19 (
       .opt (g15 x0 x1) fun z128 =>
        .br (decide (0 ≤ x1)) (
         .opt (z128.f16[Int.toNat x1]?) fun y129 =>
          .br (y129.f30 == 4) (
           .opt (g27 z128 x1 { y129 with f17 := false, f19 := false, f26 := true }) fun z130 =>
            .opt (g13 z130 x1) fun z131 =>
             .leaf (z131, true)) (
           .opt (g27 z128 x1 { y129 with f17 := false, f19 := false }) fun z132 =>
            .opt (g13 z132 x1) fun z133 =>
             .leaf (z133, true))) (
         .fail)) (
       .br (decide (0 ≤ x1)) (
        .opt (x0.f16[Int.toNat x1]?) fun y134 =>
         .br (y134.f30 == 4) (
          .opt (g27 x0 x1 { y134 with f17 := false, f19 := false, f26 := true }) fun z135 =>
           .opt (g13 z135 x1) fun z136 =>
            .leaf (z136, true)) (
          .opt (g27 x0 x1 { y134 with f17 := false, f19 := false }) fun z137 =>
           .opt (g13 z137 x1) fun z138 =>
            .leaf (z138, true))) (
        .fail))) (
      .br y126.f27 (
       .opt (g15 x0 x1) fun z139 =>
        .br (decide (0 ≤ x1)) (
         .opt (z139.f16[Int.toNat x1]?) fun y140 =>
          .opt (g27 z139 x1 { y140 with f6 := true, f27 := false }) fun z141 =>
           .leaf (z141, true)) (
         .fail)) (
       .br y126.f18 (
        .opt (g27 x0 x1 { y126 with f18 := false, f71 := 0 }) fun z142 =>
         .leaf (z142, true)) (
        .leaf (x0, false)))))) (
   .fail)
def g34 (x0 : S5) (x1 : Int) (x2 : Bool) : Option (S5 × Bool) := (g34T x0 x1 x2).get?
noncomputable def T34 : TL := []
noncomputable def q34 : Ab.Spec := frzR [[none, none, none, none, none, none, none, none, none, none, none, none, none, none, none, none, some 0], []] (runQ0 e34 (lookT T34) Go.Proofs.Try.f34)
theorem q34_ok : SpecOk Go.Proofs.Try.prog 34 q34 := (runQ0_ok (runR_ok (e := e34) follows (allTI ti_ok _ _ _ _) (callsOk_cons s32_ok (callsOk_cons s15_ok (callsOk_cons s27_ok (callsOk_cons s13_ok (callsOk_nil))))) Go.Proofs.Try.func34 Go.Proofs.Try.call34) (fun c hc => by
  have hb : c = Go.Proofs.Try.f34.body.getD .skip := by rw [hc]; rfl
  subst hb
  exact tab_nil)).froze [[none, none, none, none, none, none, none, none, none, none, none, none, none, none, none, none, some 0], []]
theorem g34_run (x0 : S5) (x1 : Int) (x2 : Bool) : (q34 [.agg (Cod.enc 5 x0), .c (.int .i64 x1), .c (.bool x2)] []).eval = (g34T x0 x1 x2).ev fun r => ((.tup [some (true, Cod.enc 5 r.1), some (false, [.bool r.2])] : AV), ([] : List Blk)) := by kernel_rfl
noncomputable def s34_0 : Ab.Spec := fun args h =>
  dN h <| dL args fun v0 a0 => dG v0 fun l0 => dE 5 l0 fun x0 => dL a0 fun v1 a1 => dC v1 fun c0 => dI .i64 c0 fun x1 => dL a1 fun v2 a2 => dC v2 fun c1 => dB c1 fun x2 => dN a2 <|
  .opt (g34 x0 x1 x2) fun r => .val (.tup [some (true, Cod.enc 5 r.1), some (false, [.bool r.2])], [])
theorem s34_0_ok : SpecOk Go.Proofs.Try.prog 34 s34_0 :=
  q34_ok.less fun args hs r h => by
    unfold s34_0 at h
    obtain ⟨rfl, hh1⟩ := dN_inv h
    obtain ⟨v0, a0, rfl, hh2⟩ := dL_inv hh1
    obtain ⟨l0, rfl, hh3⟩ := dG_inv hh2
    obtain ⟨x0, rfl, hh4⟩ := dE_inv hh3
    obtain ⟨v1, a1, rfl, hh5⟩ := dL_inv hh4
    obtain ⟨c0, rfl, hh6⟩ := dC_inv hh5
    obtain ⟨x1, rfl, hh7⟩ := dI_inv hh6
    obtain ⟨v2, a2, rfl, hh8⟩ := dL_inv hh7
    obtain ⟨c1, rfl, hh9⟩ := dC_inv hh8
    obtain ⟨x2, rfl, hh10⟩ := dB_inv hh9
    obtain ⟨rfl, hh11⟩ := dN_inv hh10
    rw [g34_run, Tr.ev_get?]
    change (Res.opt (g34 x0 x1 x2) _).eval = some r at hh11
    rw [eval_opt] at hh11
    obtain ⟨z, hz, hh12⟩ := Option.bind_eq_some_iff.mp hh11
    unfold g34 at hz
    rw [hz]; exact hh12
noncomputable def s34 : Ab.Spec := fun args h => s34_0 (coeA [[none, none, none, none, none, none, none, none, none, none, none, none, none, none, none, none, some 0], [], []] args) h
theorem s34_ok : SpecOk Go.Proofs.Try.prog 34 s34 := s34_0_ok.pre [[none, none, none, none, none, none, none, none, none, none, none, none, none, none, none, none, some 0], [], []]
/-- pontage/pontageref14.Tcm -/
noncomputable def L18 : SL := [(23, .byVal, s23), (32, .byNew, s32), (33, .byNew, s33), (34, .byNew, s34), (35, .byNew, s35)]
noncomputable def e18 : Env := ⟨ti, fun g => lookS g L18, 1000000, [], []⟩
def g18T (x0 : S5) (x1 : Int) : Tr (S5 × Bool) :=
  let z143 := g23 x0 x1
  .br (!z143) (
   .leaf (x0, false)) (
   .br (decide (0 ≤ x1)) (
    .opt (x0.f16[Int.toNat x1]?) fun y144 =>
     .br (y144.f74 == 1) (
      .br (bif y144.f9 then (!y144.f6) else false) (
       .opt (g32 x0 x1) fun z145 =>
        .leaf (z145.1, z145.2)) (
       .leaf (x0, false))) (
      .br (y144.f74 == 2) (
       .opt (g33 x0 x1 (bif (y144.f30 == 3) then true else (y144.f30 == 4))) fun z146 =>
        .leaf (z146.1, z146.2)) (
       .br (y144.f74 == 3) (
        .opt (g34 x0 x1 (bif (y144.f30 == 3) then true else (y144.f30 == 4))) fun z147 =>
         .leaf (z147.1, z147.2)) (
        .opt (g35 x0 x1) fun z148 =>
         .leaf (z148.1, z148.2))))) (
    .fail))
def g18 (x0 : S5) (x1 : Int) : Option (S5 × Bool) := (g18T x0 x1).get?
noncomputable def T18 : TL := []
noncomputable def q18 : Ab.Spec := frzR [[none, none, none, none, none, none, none, none, none, none, none, none, none, none, none, none, some 0], []] (runQ0 e18 (lookT T18) Go.Proofs.Try.f18)
theorem q18_ok : SpecOk Go.Proofs.Try.prog 18 q18 := (runQ0_ok (runR_ok (e := e18) follows (allTI ti_ok _ _ _ _) (callsOk_cons s23_ok (callsOk_cons s32_ok (callsOk_cons s33_ok (callsOk_cons s34_ok (callsOk_cons s35_ok (callsOk_nil)))))) Go.Proofs.Try.func18 Go.Proofs.Try.call18) (fun c hc => by
  have hb : c = Go.Proofs.Try.f18.body.getD .skip := by rw [hc]; rfl
  subst hb
  exact tab_nil)).froze [[none, none, none, none, none, none, none, none, none, none, none, none, none, none, none, none, some 0], []]
theorem g18_run (x0 : S5) (x1 : Int) : (q18 [.agg (Cod.enc 5 x0), .c (.int .i64 x1)] []).eval = (g18T x0 x1).ev fun r => ((.tup [some (true, Cod.enc 5 r.1), some (false, [.bool r.2])] : AV), ([] : List Blk)) := by kernel_rfl
noncomputable def s18_0 : Ab.Spec := fun args h =>
  dN h <| dL args fun v0 a0 => dG v0 fun l0 => dE 5 l0 fun x0 => dL a0 fun v1 a1 => dC v1 fun c0 => dI .i64 c0 fun x1 => dN a1 <|
  .opt (g18 x0 x1) fun r => .val (.tup [some (true, Cod.enc 5 r.1), some (false, [.bool r.2])], [])
theorem s18_0_ok : SpecOk Go.Proofs.Try.prog 18 s18_0 :=
  q18_ok.less fun args hs r h => by
    unfold s18_0 at h
    obtain ⟨rfl, hh1⟩ := dN_inv h
    obtain ⟨v0, a0, rfl, hh2⟩ := dL_inv hh1
    obtain ⟨l0, rfl, hh3⟩ := dG_inv hh2
    obtain ⟨x0, rfl, hh4⟩ := dE_inv hh3
    obtain ⟨v1, a1, rfl, hh5⟩ := dL_inv hh4
    obtain ⟨c0, rfl, hh6⟩ := dC_inv hh5
    obtain ⟨x1, rfl, hh7⟩ := dI_inv hh6
    obtain ⟨rfl, hh8⟩ := dN_inv hh7
    rw [g18_run, Tr.ev_get?]
    change (Res.opt (g18 x0 x1) _).eval = some r at hh8
    rw [eval_opt] at hh8
    obtain ⟨z, hz, hh9⟩ := Option.bind_eq_some_iff.mp hh8
    unfold g18 at hz
    rw [hz]; exact hh9
noncomputable def s18 : Ab.Spec := fun args h => s18_0 (coeA [[none, none, none, none, none, none, none, none, none, none, none, none, none, none, none, none, some 0], []] args) h
theorem s18_ok : SpecOk Go.Proofs.Try.prog 18 s18 := s18_0_ok.pre [[none, none, none, none, none, none, none, none, none, none, none, none, none, none, none, none, some 0], []]
/-- pontage/pontagelaw14.ChangeSteps -/
noncomputable def L4 : SL := [(10, .byNew, s10), (17, .byNew, s17), (18, .byNew, s18), (11, .byVal, s11), (16, .byVal, s16)]
noncomputable def e4 : Env := ⟨ti, fun g => lookS g L4, 1000000, [], [16]⟩
def g4T (x0 : S5) (x1 : Int) : Tr (Bool) :=
  .opt (g10 x0) fun z149 =>
   .br (z149.f16.isEmpty) (
    .opt (g17 z149 x1) fun z150 =>
     .opt (g18 { z149 with f16 := [] } x1) fun z151 =>
      .opt (g11 z150.1 z151.1) fun z152 =>
       .br (bif z152 then (z150.2 == z151.2) else false) (
        .opt (g11 z149 { z149 with f16 := [] }) fun z154 =>
         .br z154 (
          .opt (g16 ) fun z156 =>
           .leaf (z156)) (
          .leaf (false))) (
        .leaf (false))) (
    .br (Nat.ble (0 + z149.f16.length) 140737488355328 && Nat.ble ((0 + z149.f16.length) * 248) 140737488355328) (
     .opt (g17 z149 x1) fun z158 =>
      .opt (g18 z149 x1) fun z159 =>
       .opt (g11 z158.1 z159.1) fun z160 =>
        .br (bif z160 then (z158.2 == z159.2) else false) (
         .opt (g11 z149 z149) fun z162 =>
          .br z162 (
           .opt (g16 ) fun z164 =>
            .leaf (z164)) (
           .leaf (false))) (
         .leaf (false))) (
     .fail))
def g4 (x0 : S5) (x1 : Int) : Option (Bool) := (g4T x0 x1).get?
noncomputable def T4 : TL := []
noncomputable def q4 : Ab.Spec := runQ0 e4 (lookT T4) Go.Proofs.Try.f4
theorem q4_ok : SpecOk Go.Proofs.Try.prog 4 q4 := (runQ0_ok (runR_ok (e := e4) follows (allTI ti_ok _ _ _ _) (callsOk_cons s10_ok (callsOk_cons s17_ok (callsOk_cons s18_ok (callsOk_cons s11_ok (callsOk_cons s16_ok (callsOk_nil)))))) Go.Proofs.Try.func4 Go.Proofs.Try.call4) (fun c hc => by
  have hb : c = Go.Proofs.Try.f4.body.getD .skip := by rw [hc]; rfl
  subst hb
  exact tab_nil))
theorem g4_run (x0 : S5) (x1 : Int) : (q4 [.agg (Cod.enc 5 x0), .c (.int .i64 x1)] []).eval = (g4T x0 x1).ev fun r => ((.c (.bool r) : AV), ([] : List Blk)) := by kernel_rfl
noncomputable def s4_0 : Ab.Spec := fun args h =>
  dN h <| dL args fun v0 a0 => dG v0 fun l0 => dE 5 l0 fun x0 => dL a0 fun v1 a1 => dC v1 fun c0 => dI .i64 c0 fun x1 => dN a1 <|
  .opt (g4 x0 x1) fun r => .val (.c (.bool r), [])
theorem s4_0_ok : SpecOk Go.Proofs.Try.prog 4 s4_0 :=
  q4_ok.less fun args hs r h => by
    unfold s4_0 at h
    obtain ⟨rfl, hh1⟩ := dN_inv h
    obtain ⟨v0, a0, rfl, hh2⟩ := dL_inv hh1
    obtain ⟨l0, rfl, hh3⟩ := dG_inv hh2
    obtain ⟨x0, rfl, hh4⟩ := dE_inv hh3
    obtain ⟨v1, a1, rfl, hh5⟩ := dL_inv hh4
    obtain ⟨c0, rfl, hh6⟩ := dC_inv hh5
    obtain ⟨x1, rfl, hh7⟩ := dI_inv hh6
    obtain ⟨rfl, hh8⟩ := dN_inv hh7
    rw [g4_run, Tr.ev_get?]
    change (Res.opt (g4 x0 x1) _).eval = some r at hh8
    rw [eval_opt] at hh8
    obtain ⟨z, hz, hh9⟩ := Option.bind_eq_some_iff.mp hh8
    unfold g4 at hz
    rw [hz]; exact hh9
noncomputable def s4 : Ab.Spec := fun args h => s4_0 (coeA [[none, none, none, none, none, none, none, none, none, none, none, none, none, none, none, none, some 0], []] args) h
theorem s4_ok : SpecOk Go.Proofs.Try.prog 4 s4 := s4_0_ok.pre [[none, none, none, none, none, none, none, none, none, none, none, none, none, none, none, none, some 0], []]
/-- pontage/pontagelaw14.ChangeOthers -/
noncomputable def L5 : SL := [(10, .byNew, s10), (17, .byNew, s17), (11, .byVal, s11), (16, .byVal, s16)]
noncomputable def e5 : Env := ⟨ti, fun g => lookS g L5, 1000000, [.drop 0, .drop 3, .drop 5, .drop 6, .drop 10, .drop 11, .drop 12, .drop 13, .drop 14, .drop 15, .drop 16, .drop 17, .drop 18, .drop 19, .drop 20, .drop 21, .drop 22, .drop 23, .drop 24, .drop 25, .drop 26, .drop 27, .drop 28, .drop 29, .drop 30], []⟩
structure W5_0 where
  a0 : Int
  a1 : Bool
  a2 : Int
  a3 : Int
  a4 : Int
  a5 : Int
  a6 : Int
  a7 : Int
  a8 : Int
  a9 : Bool
  a10 : Int
  a11 : Int
  a12 : Int
  a13 : Int
  a14 : Int
  a15 : Int
  a16 : Int
  a17 : Int
  a18 : Int
  a19 : List S0
  a20 : Int
  a21 : Int
  a22 : Int
  a23 : Int
  a24 : Int
  a25 : Int
  a26 : Bool
  a27 : Int
  a28 : Int
  a29 : Int
  a30 : Int
  a31 : Int
  a32 : Int
  a33 : Int
  a34 : Int
  a35 : Int
def hd5_0 (v : W5_0) : St := ⟨[.top, .c (.int .i64 v.a0), .c (.ptr 0 0), .top, .c (.bool v.a1), .top, .top, .c (.ptr 1 0), .c (.int .i64 v.a2), .top, .top, .top, .top, .top, .top, .top, .top, .top, .top, .top, .top, .top, .top, .top, .top, .top, .top, .top, .top, .top, .top, .top, .top, .top, .top, .top, .top, .top, .top, .top, .top, .top, .top, .top, .top, .top, .top, .top, .top, .top, .top, .top, .top, .top, .top, .top, .top, .top, .top, .top, .top, .top, .top, .top, .top, .top, .top, .top, .top, .top, .top, .top, .top, .top, .top, .top, .top, .top, .top, .top, .top, .top, .top, .top, .top, .top, .top, .top], [.cells [.int .u64 v.a3, .int .u8 v.a4, .int .u8 v.a5, .int .u8 v.a6, .int .u8 v.a7, .int .u8 v.a8, .bool v.a9, .int .u16 v.a10, .int .u64 v.a11, .int .u32 v.a12, .int .u64 v.a13, .int .u16 v.a14, .int .u8 v.a15, .int .u8 v.a16, .int .u8 v.a17, .int .u8 v.a18, .rs 0 v.a19], .cells [.int .u64 v.a20, .int .u8 v.a21, .int .u8 v.a22, .int .u8 v.a23, .int .u8 v.a24, .int .u8 v.a25, .bool v.a26, .int .u16 v.a27, .int .u64 v.a28, .int .u32 v.a29, .int .u64 v.a30, .int .u16 v.a31, .int .u8 v.a32, .int .u8 v.a33, .int .u8 v.a34, .int .u8 v.a35, .ez]]⟩
def gR5_0 (v : W5_0) : Tr (W5_0 ⊕ (Bool × W5_0)) :=
  .br (decide (v.a2 < 0)) (
   .br (v.a2 == v.a0) (
    .br (decide (0 ≤ v.a2)) (
     .opt (v.a19[Int.toNat v.a2]?) fun y168 =>
      .fail) (
     .fail)) (
    .br (decide (0 ≤ v.a2)) (
     .opt (v.a19[Int.toNat v.a2]?) fun y169 =>
      .br y169.f27 (
       .fail) (
       .fail)) (
     .fail))) (
   .leaf (.inr (false, v)))
structure W5_0v1 where
  a0 : Int
  a1 : Bool
  a2 : Int
  a3 : Int
  a4 : Int
  a5 : Int
  a6 : Int
  a7 : Int
  a8 : Int
  a9 : Bool
  a10 : Int
  a11 : Int
  a12 : Int
  a13 : Int
  a14 : Int
  a15 : Int
  a16 : Int
  a17 : Int
  a18 : Int
  a19 : List S0
  a20 : Int
  a21 : Int
  a22 : Int
  a23 : Int
  a24 : Int
  a25 : Int
  a26 : Bool
  a27 : Int
  a28 : Int
  a29 : Int
  a30 : Int
  a31 : Int
  a32 : Int
  a33 : Int
  a34 : Int
  a35 : Int
  a36 : List S0
def hd5_0v1 (v : W5_0v1) : St := ⟨[.top, .c (.int .i64 v.a0), .c (.ptr 0 0), .top, .c (.bool v.a1), .top, .top, .c (.ptr 1 0), .c (.int .i64 v.a2), .top, .top, .top, .top, .top, .top, .top, .top, .top, .top, .top, .top, .top, .top, .top, .top, .top, .top, .top, .top, .top, .top, .top, .top, .top, .top, .top, .top, .top, .top, .top, .top, .top, .top, .top, .top, .top, .top, .top, .top, .top, .top, .top, .top, .top, .top, .top, .top, .top, .top, .top, .top, .top, .top, .top, .top, .top, .top, .top, .top, .top, .top, .top, .top, .top, .top, .top, .top, .top, .top, .top, .top, .top, .top, .top, .top, .top, .top, .top], [.cells [.int .u64 v.a3, .int .u8 v.a4, .int .u8 v.a5, .int .u8 v.a6, .int .u8 v.a7, .int .u8 v.a8, .bool v.a9, .int .u16 v.a10, .int .u64 v.a11, .int .u32 v.a12, .int .u64 v.a13, .int .u16 v.a14, .int .u8 v.a15, .int .u8 v.a16, .int .u8 v.a17, .int .u8 v.a18, .rs 0 v.a19], .cells [.int .u64 v.a20, .int .u8 v.a21, .int .u8 v.a22, .int .u8 v.a23, .int .u8 v.a24, .int .u8 v.a25, .bool v.a26, .int .u16 v.a27, .int .u64 v.a28, .int .u32 v.a29, .int .u64 v.a30, .int .u16 v.a31, .int .u8 v.a32, .int .u8 v.a33, .int .u8 v.a34, .int .u8 v.a35, .slw 2], .row 0 v.a36]⟩
def gR5_0v1 (v : W5_0v1) : Tr (W5_0v1 ⊕ (Bool × W5_0v1)) :=
  .br (decide (v.a2 < (v.a36.length : Int))) (
   .br (v.a2 == v.a0) (
    .br (decide (0 ≤ v.a2)) (
     .opt (v.a19[Int.toNat v.a2]?) fun y174 =>
      .br (decide (0 ≤ v.a2) && decide (v.a2 < (v.a36.length : Int))) (
       .opt (v.a36[(Int.toNat v.a2)]?) fun y175 =>
        .leaf (.inl ({ v with a2 := (IntKind.i64.wrap (v.a2 + 1)), a36 := (List.set v.a36 (Int.toNat v.a2) y174) }))) (
       .fail)) (
     .fail)) (
    .br (decide (0 ≤ v.a2)) (
     .opt (v.a19[Int.toNat v.a2]?) fun y176 =>
      .br y176.f27 (
       .br (decide (0 ≤ v.a2) && decide (v.a2 < (v.a36.length : Int))) (
        .opt (v.a36[(Int.toNat v.a2)]?) fun y177 =>
         .br (!y177.f27) (
          .leaf (.inr (true, { v with a1 := false }))) (
          .br (decide (0 ≤ v.a2) && decide (v.a2 < (v.a36.length : Int))) (
           .opt (v.a36[(Int.toNat v.a2)]?) fun y178 =>
            .br (decide (0 ≤ v.a2)) (
             .opt (v.a19[Int.toNat v.a2]?) fun y179 =>
              .br (decide (0 ≤ v.a2) && decide (v.a2 < (v.a36.length : Int))) (
               .opt (v.a36[(Int.toNat v.a2)]?) fun y180 =>
                .leaf (.inl ({ v with a2 := (IntKind.i64.wrap (v.a2 + 1)), a36 := (List.set v.a36 (Int.toNat v.a2) { y178 with f27 := y179.f27 }) }))) (
               .fail)) (
             .fail)) (
           .fail))) (
        .fail)) (
       .br (decide (0 ≤ v.a2) && decide (v.a2 < (v.a36.length : Int))) (
        .opt (v.a36[(Int.toNat v.a2)]?) fun y181 =>
         .br (decide (0 ≤ v.a2)) (
          .opt (v.a19[Int.toNat v.a2]?) fun y182 =>
           .br (decide (0 ≤ v.a2) && decide (v.a2 < (v.a36.length : Int))) (
            .opt (v.a36[(Int.toNat v.a2)]?) fun y183 =>
             .leaf (.inl ({ v with a2 := (IntKind.i64.wrap (v.a2 + 1)), a36 := (List.set v.a36 (Int.toNat v.a2) { y181 with f27 := y182.f27 }) }))) (
            .fail)) (
          .fail)) (
        .fail))) (
     .fail))) (
   .leaf (.inr (false, v)))
noncomputable def lb5_0 : Code := match findB 0 (Go.Proofs.Try.f5.body.getD .skip) with | [.loop b] => b | _ => .skip
def pa5_0x0 : List PA := [.any, .c (.int .i64), .c (.ptr 0 0), .any, .c (.bool), .any, .any, .c (.ptr 2 0), .c (.int .i64), .top, .any, .any, .any, .any, .any, .any, .any, .any, .any, .any, .any, .any, .any, .any, .any, .any, .any, .any, .any, .any, .any, .top, .top, .top, .top, .top, .top, .top, .top, .top, .top, .top, .top, .top, .top, .top, .top, .top, .top, .top, .top, .top, .top, .top, .top, .top, .top, .top, .top, .top, .top, .top, .top, .top, .top, .top, .top, .top, .top, .top, .top, .top, .top, .top, .top, .top, .top, .top, .top, .top, .top, .top, .top, .top, .top, .top, .top, .top]
def pb5_0x0 : List PB := [.cells [.int .u64, .int .u8, .int .u8, .int .u8, .int .u8, .int .u8, .bool, .int .u16, .int .u64, .int .u32, .int .u64, .int .u16, .int .u8, .int .u8, .int .u8, .int .u8, .rs 0], .cells [.int .u64, .int .u8, .int .u8, .int .u8, .int .u8, .int .u8, .bool, .int .u16, .int .u64, .int .u32, .int .u64, .int .u16, .int .u8, .int .u8, .int .u8, .int .u8, .rs 0], .cells [.int .u64, .int .u8, .int .u8, .int .u8, .int .u8, .int .u8, .bool, .int .u16, .int .u64, .int .u32, .int .u64, .int .u16, .int .u8, .int .u8, .int .u8, .int .u8, .ez]]
def ini5_0x0 (s : St) : W5_0 := ⟨iC (aC (s.tmps.getD 1 .top)), bC (aC (s.tmps.getD 4 .top)), iC (aC (s.tmps.getD 8 .top)), iC ((bL (s.heap.getD 0 .dead)).getD 0 .top), iC ((bL (s.heap.getD 0 .dead)).getD 1 .top), iC ((bL (s.heap.getD 0 .dead)).getD 2 .top), iC ((bL (s.heap.getD 0 .dead)).getD 3 .top), iC ((bL (s.heap.getD 0 .dead)).getD 4 .top), iC ((bL (s.heap.getD 0 .dead)).getD 5 .top), bC ((bL (s.heap.getD 0 .dead)).getD 6 .top), iC ((bL (s.heap.getD 0 .dead)).getD 7 .top), iC ((bL (s.heap.getD 0 .dead)).getD 8 .top), iC ((bL (s.heap.getD 0 .dead)).getD 9 .top), iC ((bL (s.heap.getD 0 .dead)).getD 10 .top), iC ((bL (s.heap.getD 0 .dead)).getD 11 .top), iC ((bL (s.heap.getD 0 .dead)).getD 12 .top), iC ((bL (s.heap.getD 0 .dead)).getD 13 .top), iC ((bL (s.heap.getD 0 .dead)).getD 14 .top), iC ((bL (s.heap.getD 0 .dead)).getD 15 .top), rC 0 ((bL (s.heap.getD 0 .dead)).getD 16 .top), iC ((bL (s.heap.getD 2 .dead)).getD 0 .top), iC ((bL (s.heap.getD 2 .dead)).getD 1 .top), iC ((bL (s.heap.getD 2 .dead)).getD 2 .top), iC ((bL (s.heap.getD 2 .dead)).getD 3 .top), iC ((bL (s.heap.getD 2 .dead)).getD 4 .top), iC ((bL (s.heap.getD 2 .dead)).getD 5 .top), bC ((bL (s.heap.getD 2 .dead)).getD 6 .top), iC ((bL (s.heap.getD 2 .dead)).getD 7 .top), iC ((bL (s.heap.getD 2 .dead)).getD 8 .top), iC ((bL (s.heap.getD 2 .dead)).getD 9 .top), iC ((bL (s.heap.getD 2 .dead)).getD 10 .top), iC ((bL (s.heap.getD 2 .dead)).getD 11 .top), iC ((bL (s.heap.getD 2 .dead)).getD 12 .top), iC ((bL (s.heap.getD 2 .dead)).getD 13 .top), iC ((bL (s.heap.getD 2 .dead)).getD 14 .top), iC ((bL (s.heap.getD 2 .dead)).getD 15 .top)⟩
noncomputable def F5_0x0 : St → Res (Ex × St) := loopF pa5_0x0 pb5_0x0 1000000 hd5_0 gR5_0 ini5_0x0 false
theorem F5_0x0_ok (s : St) (r : Ex × St) (h : (F5_0x0 s).eval = some r) : (codeR e5 0 (.block 0 (.loop lb5_0)) s).eval = some r :=
  blk_ok (e := e5) (T := lookT []) (fun s v => by kernel_rfl) (fun s => by kernel_rfl) (tab_nil) s r h
def pa5_0x1 : List PA := [.any, .c (.int .i64), .c (.ptr 0 0), .any, .c (.bool), .any, .any, .c (.ptr 2 0), .c (.int .i64), .top, .any, .any, .any, .any, .any, .any, .any, .any, .any, .any, .any, .any, .any, .any, .any, .any, .any, .any, .any, .any, .any, .top, .top, .top, .top, .top, .top, .top, .top, .top, .top, .top, .top, .top, .top, .top, .top, .top, .top, .top, .top, .top, .top, .top, .top, .top, .top, .top, .top, .top, .top, .top, .top, .top, .top, .top, .top, .top, .top, .top, .top, .top, .top, .top, .top, .top, .top, .top, .top, .top, .top, .top, .top, .top, .top, .top, .top, .top]
def pb5_0x1 : List PB := [.cells [.int .u64, .int .u8, .int .u8, .int .u8, .int .u8, .int .u8, .bool, .int .u16, .int .u64, .int .u32, .int .u64, .int .u16, .int .u8, .int .u8, .int .u8, .int .u8, .rs 0], .cells [.int .u64, .int .u8, .int .u8, .int .u8, .int .u8, .int .u8, .bool, .int .u16, .int .u64, .int .u32, .int .u64, .int .u16, .int .u8, .int .u8, .int .u8, .int .u8, .rs 0], .cells [.int .u64, .int .u8, .int .u8, .int .u8, .int .u8, .int .u8, .bool, .int .u16, .int .u64, .int .u32, .int .u64, .int .u16, .int .u8, .int .u8, .int .u8, .int .u8, .slw 3], .row 0]
def ini5_0x1 (s : St) : W5_0v1 := ⟨iC (aC (s.tmps.getD 1 .top)), bC (aC (s.tmps.getD 4 .top)), iC (aC (s.tmps.getD 8 .top)), iC ((bL (s.heap.getD 0 .dead)).getD 0 .top), iC ((bL (s.heap.getD 0 .dead)).getD 1 .top), iC ((bL (s.heap.getD 0 .dead)).getD 2 .top), iC ((bL (s.heap.getD 0 .dead)).getD 3 .top), iC ((bL (s.heap.getD 0 .dead)).getD 4 .top), iC ((bL (s.heap.getD 0 .dead)).getD 5 .top), bC ((bL (s.heap.getD 0 .dead)).getD 6 .top), iC ((bL (s.heap.getD 0 .dead)).getD 7 .top), iC ((bL (s.heap.getD 0 .dead)).getD 8 .top), iC ((bL (s.heap.getD 0 .dead)).getD 9 .top), iC ((bL (s.heap.getD 0 .dead)).getD 10 .top), iC ((bL (s.heap.getD 0 .dead)).getD 11 .top), iC ((bL (s.heap.getD 0 .dead)).getD 12 .top), iC ((bL (s.heap.getD 0 .dead)).getD 13 .top), iC ((bL (s.heap.getD 0 .dead)).getD 14 .top), iC ((bL (s.heap.getD 0 .dead)).getD 15 .top), rC 0 ((bL (s.heap.getD 0 .dead)).getD 16 .top), iC ((bL (s.heap.getD 2 .dead)).getD 0 .top), iC ((bL (s.heap.getD 2 .dead)).getD 1 .top), iC ((bL (s.heap.getD 2 .dead)).getD 2 .top), iC ((bL (s.heap.getD 2 .dead)).getD 3 .top), iC ((bL (s.heap.getD 2 .dead)).getD 4 .top), iC ((bL (s.heap.getD 2 .dead)).getD 5 .top), bC ((bL (s.heap.getD 2 .dead)).getD 6 .top), iC ((bL (s.heap.getD 2 .dead)).getD 7 .top), iC ((bL (s.heap.getD 2 .dead)).getD 8 .top), iC ((bL (s.heap.getD 2 .dead)).getD 9 .top), iC ((bL (s.heap.getD 2 .dead)).getD 10 .top), iC ((bL (s.heap.getD 2 .dead)).getD 11 .top), iC ((bL (s.heap.getD 2 .dead)).getD 12 .top), iC ((bL (s.heap.getD 2 .dead)).getD 13 .top), iC ((bL (s.heap.getD 2 .dead)).getD 14 .top), iC ((bL (s.heap.getD 2 .dead)).getD 15 .top), bR 0 (s.heap.getD 3 .dead)⟩
noncomputable def F5_0x1 : St → Res (Ex × St) := loopF pa5_0x1 pb5_0x1 1000000 hd5_0v1 gR5_0v1 ini5_0x1 true
theorem F5_0x1_ok (s : St) (r : Ex × St) (h : (F5_0x1 s).eval = some r) : (codeR e5 0 (.block 0 (.loop lb5_0)) s).eval = some r :=
  blk_ok (e := e5) (T := lookT []) (fun s v => by kernel_rfl) (fun s => by kernel_rfl) (tab_nil) s r h
noncomputable def F5_0 : St → Res (Ex × St) := (orF pa5_0x0 pb5_0x0 F5_0x0 F5_0x1)
theorem F5_0_ok (s : St) (r : Ex × St) (h : (F5_0 s).eval = some r) : (codeR e5 0 (.block 0 (.loop lb5_0)) s).eval = some r := (orF_ok F5_0x0_ok F5_0x1_ok) s r h
def g5T (x0 : S5) (x1 : Int) : Tr (Bool) :=
  .opt (g10 x0) fun z166 =>
   .opt (g17 z166 x1) fun z167 =>
    .br ((z167.1.f16.length : Int) != (z166.f16.length : Int)) (
     .leaf (false)) (
     .br (z167.1.f16.isEmpty) (
      .opt (iter gR5_0 1000000 (W5_0.mk (x1) (false) (0) (z166.f0) (z166.f1) (z166.f2) (z166.f3) (z166.f4) (z166.f5) (z166.f6) (z166.f7) (z166.f8) (z166.f9) (z166.f10) (z166.f11) (z166.f12) (z166.f13) (z166.f14) (z166.f15) (z166.f16) (z167.1.f0) (z167.1.f1) (z167.1.f2) (z167.1.f3) (z167.1.f4) (z167.1.f5) (z167.1.f6) (z167.1.f7) (z167.1.f8) (z167.1.f9) (z167.1.f10) (z167.1.f11) (z167.1.f12) (z167.1.f13) (z167.1.f14) (z167.1.f15))) fun r170 =>
       .br r170.1 (
        .fail) (
        .opt (g11 (S5.mk r170.2.a20 r170.2.a21 r170.2.a22 r170.2.a23 r170.2.a24 r170.2.a25 r170.2.a26 r170.2.a27 r170.2.a28 r170.2.a29 r170.2.a30 r170.2.a31 r170.2.a32 r170.2.a33 r170.2.a34 r170.2.a35 []) (S5.mk r170.2.a3 r170.2.a4 r170.2.a5 r170.2.a6 r170.2.a7 r170.2.a8 r170.2.a9 r170.2.a10 r170.2.a11 r170.2.a12 r170.2.a13 r170.2.a14 r170.2.a15 r170.2.a16 r170.2.a17 r170.2.a18 r170.2.a19)) fun z171 =>
         .br z171 (
          .opt (g16 ) fun z173 =>
           .leaf (z173)) (
          .leaf (false)))) (
      .br (Nat.ble (0 + z167.1.f16.length) 140737488355328 && Nat.ble ((0 + z167.1.f16.length) * 248) 140737488355328) (
       .opt (iter gR5_0v1 1000000 (W5_0v1.mk (x1) (false) (0) (z166.f0) (z166.f1) (z166.f2) (z166.f3) (z166.f4) (z166.f5) (z166.f6) (z166.f7) (z166.f8) (z166.f9) (z166.f10) (z166.f11) (z166.f12) (z166.f13) (z166.f14) (z166.f15) (z166.f16) (z167.1.f0) (z167.1.f1) (z167.1.f2) (z167.1.f3) (z167.1.f4) (z167.1.f5) (z167.1.f6) (z167.1.f7) (z167.1.f8) (z167.1.f9) (z167.1.f10) (z167.1.f11) (z167.1.f12) (z167.1.f13) (z167.1.f14) (z167.1.f15) (z167.1.f16))) fun r184 =>
        .br r184.1 (
         .leaf (r184.2.a1)) (
         .opt (g11 (S5.mk r184.2.a20 r184.2.a21 r184.2.a22 r184.2.a23 r184.2.a24 r184.2.a25 r184.2.a26 r184.2.a27 r184.2.a28 r184.2.a29 r184.2.a30 r184.2.a31 r184.2.a32 r184.2.a33 r184.2.a34 r184.2.a35 r184.2.a36) (S5.mk r184.2.a3 r184.2.a4 r184.2.a5 r184.2.a6 r184.2.a7 r184.2.a8 r184.2.a9 r184.2.a10 r184.2.a11 r184.2.a12 r184.2.a13 r184.2.a14 r184.2.a15 r184.2.a16 r184.2.a17 r184.2.a18 r184.2.a19)) fun z185 =>
          .br z185 (
           .opt (g16 ) fun z187 =>
            .leaf (z187)) (
           .leaf (false)))) (
       .fail)))
def g5 (x0 : S5) (x1 : Int) : Option (Bool) := (g5T x0 x1).get?
noncomputable def T5 : TL := [(0, F5_0)]
noncomputable def q5 : Ab.Spec := runQ0 e5 (lookT T5) Go.Proofs.Try.f5
theorem q5_ok : SpecOk Go.Proofs.Try.prog 5 q5 := (runQ0_ok (runR_ok (e := e5) follows (allTI ti_ok _ _ _ _) (callsOk_cons s10_ok (callsOk_cons s17_ok (callsOk_cons s11_ok (callsOk_cons s16_ok (callsOk_nil))))) Go.Proofs.Try.func5 Go.Proofs.Try.call5) (fun c hc => by
  have hb : c = Go.Proofs.Try.f5.body.getD .skip := by rw [hc]; rfl
  subst hb
  exact tab_cons (by kernel_rfl) F5_0_ok (tab_nil)))
theorem g5_run (x0 : S5) (x1 : Int) : (q5 [.agg (Cod.enc 5 x0), .c (.int .i64 x1)] []).eval = (g5T x0 x1).ev fun r => ((.c (.bool r) : AV), ([] : List Blk)) := by kernel_rfl
noncomputable def s5_0 : Ab.Spec := fun args h =>
  dN h <| dL args fun v0 a0 => dG v0 fun l0 => dE 5 l0 fun x0 => dL a0 fun v1 a1 => dC v1 fun c0 => dI .i64 c0 fun x1 => dN a1 <|
  .opt (g5 x0 x1) fun r => .val (.c (.bool r), [])
theorem s5_0_ok : SpecOk Go.Proofs.Try.prog 5 s5_0 :=
  q5_ok.less fun args hs r h => by
    unfold s5_0 at h
    obtain ⟨rfl, hh1⟩ := dN_inv h
    obtain ⟨v0, a0, rfl, hh2⟩ := dL_inv hh1
    obtain ⟨l0, rfl, hh3⟩ := dG_inv hh2
    obtain ⟨x0, rfl, hh4⟩ := dE_inv hh3
    obtain ⟨v1, a1, rfl, hh5⟩ := dL_inv hh4
    obtain ⟨c0, rfl, hh6⟩ := dC_inv hh5
    obtain ⟨x1, rfl, hh7⟩ := dI_inv hh6
    obtain ⟨rfl, hh8⟩ := dN_inv hh7
    rw [g5_run, Tr.ev_get?]
    change (Res.opt (g5 x0 x1) _).eval = some r at hh8
    rw [eval_opt] at hh8
    obtain ⟨z, hz, hh9⟩ := Option.bind_eq_some_iff.mp hh8
    unfold g5 at hz
    rw [hz]; exact hh9
noncomputable def s5 : Ab.Spec := fun args h => s5_0 (coeA [[none, none, none, none, none, none, none, none, none, none, none, none, none, none, none, none, some 0], []] args) h
theorem s5_ok : SpecOk Go.Proofs.Try.prog 5 s5 := s5_0_ok.pre [[none, none, none, none, none, none, none, none, none, none, none, none, none, none, none, none, some 0], []]
/-- pontage/pontagelaw14.ChangeRests -/
noncomputable def L6 : SL := [(10, .byNew, s10), (16, .byVal, s16), (17, .byNew, s17)]
noncomputable def e6 : Env := ⟨ti, fun g => lookS g L6, 1000000, [.drop 0, .drop 1, .drop 3, .drop 6, .drop 7, .drop 13, .drop 14, .drop 15, .drop 16, .drop 17, .drop 18, .drop 19, .drop 20, .drop 21, .drop 22, .drop 23, .drop 24, .drop 25, .drop 26, .drop 27, .drop 28, .drop 29, .drop 30, .drop 31, .drop 32, .drop 33, .drop 34, .drop 35, .drop 36, .drop 37, .drop 38, .drop 39, .drop 40, .drop 41, .drop 42, .drop 43], []⟩
def g6T (x0 : S5) (x1 : Int) : Tr (Bool) :=
  .opt (g10 x0) fun z188 =>
   .br ((z188.f16.length : Int) == 0) (
    .opt (g16 ) fun z189 =>
     .leaf (z189)) (
    .br ((z188.f16.length : Int) == 0) (
     .fail) (
     .br (z188.f16.isEmpty) (
      .fail) (
      .br (Nat.ble (0 + z188.f16.length) 140737488355328 && Nat.ble ((0 + z188.f16.length) * 248) 140737488355328) (
       .br (decide (0 ≤ (remI (IntKind.i64.wrap x1) (z188.f16.length : Int))) && decide ((remI (IntKind.i64.wrap x1) (z188.f16.length : Int)) < (z188.f16.length : Int))) (
        .opt (z188.f16[(Int.toNat (remI (IntKind.i64.wrap x1) (z188.f16.length : Int)))]?) fun y190 =>
         .br (decide (0 ≤ (remI (IntKind.i64.wrap x1) (z188.f16.length : Int))) && decide ((remI (IntKind.i64.wrap x1) (z188.f16.length : Int)) < (z188.f16.length : Int))) (
          .opt (z188.f16[(Int.toNat (remI (IntKind.i64.wrap x1) (z188.f16.length : Int)))]?) fun y191 =>
           .opt (g17 { z188 with f16 := (List.set z188.f16 (Int.toNat (remI (IntKind.i64.wrap x1) (z188.f16.length : Int))) { y190 with f17 := false, f18 := false, f19 := false, f27 := false }) } (remI (IntKind.i64.wrap x1) (z188.f16.length : Int))) fun z192 =>
            .br (!z192.2) (
             .opt (g16 ) fun z193 =>
              .leaf (z193)) (
             .opt (g17 z192.1 (remI (IntKind.i64.wrap x1) (z188.f16.length : Int))) fun z194 =>
              .br (!z194.2) (
               .opt (g16 ) fun z195 =>
                .leaf (z195)) (
               .opt (g17 z194.1 (remI (IntKind.i64.wrap x1) (z188.f16.length : Int))) fun z196 =>
                .br (!z196.2) (
                 .opt (g16 ) fun z197 =>
                  .leaf (z197)) (
                 .opt (g17 z196.1 (remI (IntKind.i64.wrap x1) (z188.f16.length : Int))) fun z198 =>
                  .br (!z198.2) (
                   .opt (g16 ) fun z200 =>
                    .leaf (z200)) (
                   .leaf (false)))))) (
          .fail)) (
        .fail)) (
       .fail))))
def g6 (x0 : S5) (x1 : Int) : Option (Bool) := (g6T x0 x1).get?
noncomputable def T6 : TL := []
noncomputable def q6 : Ab.Spec := runQ0 e6 (lookT T6) Go.Proofs.Try.f6
theorem q6_ok : SpecOk Go.Proofs.Try.prog 6 q6 := (runQ0_ok (runR_ok (e := e6) follows (allTI ti_ok _ _ _ _) (callsOk_cons s10_ok (callsOk_cons s16_ok (callsOk_cons s17_ok (callsOk_nil)))) Go.Proofs.Try.func6 Go.Proofs.Try.call6) (fun c hc => by
  have hb : c = Go.Proofs.Try.f6.body.getD .skip := by rw [hc]; rfl
  subst hb
  exact tab_nil))
theorem g6_run (x0 : S5) (x1 : Int) : (q6 [.agg (Cod.enc 5 x0), .c (.int .u8 x1)] []).eval = (g6T x0 x1).ev fun r => ((.c (.bool r) : AV), ([] : List Blk)) := by kernel_rfl
noncomputable def s6_0 : Ab.Spec := fun args h =>
  dN h <| dL args fun v0 a0 => dG v0 fun l0 => dE 5 l0 fun x0 => dL a0 fun v1 a1 => dC v1 fun c0 => dI .u8 c0 fun x1 => dN a1 <|
  .opt (g6 x0 x1) fun r => .val (.c (.bool r), [])
theorem s6_0_ok : SpecOk Go.Proofs.Try.prog 6 s6_0 :=
  q6_ok.less fun args hs r h => by
    unfold s6_0 at h
    obtain ⟨rfl, hh1⟩ := dN_inv h
    obtain ⟨v0, a0, rfl, hh2⟩ := dL_inv hh1
    obtain ⟨l0, rfl, hh3⟩ := dG_inv hh2
    obtain ⟨x0, rfl, hh4⟩ := dE_inv hh3
    obtain ⟨v1, a1, rfl, hh5⟩ := dL_inv hh4
    obtain ⟨c0, rfl, hh6⟩ := dC_inv hh5
    obtain ⟨x1, rfl, hh7⟩ := dI_inv hh6
    obtain ⟨rfl, hh8⟩ := dN_inv hh7
    rw [g6_run, Tr.ev_get?]
    change (Res.opt (g6 x0 x1) _).eval = some r at hh8
    rw [eval_opt] at hh8
    obtain ⟨z, hz, hh9⟩ := Option.bind_eq_some_iff.mp hh8
    unfold g6 at hz
    rw [hz]; exact hh9
noncomputable def s6 : Ab.Spec := fun args h => s6_0 (coeA [[none, none, none, none, none, none, none, none, none, none, none, none, none, none, none, none, some 0], []] args) h
theorem s6_ok : SpecOk Go.Proofs.Try.prog 6 s6 := s6_0_ok.pre [[none, none, none, none, none, none, none, none, none, none, none, none, none, none, none, none, some 0], []]
/-- pontage/pontagelaw14.ChangeFlushes -/
noncomputable def L7 : SL := [(10, .byNew, s10), (16, .byVal, s16), (17, .byNew, s17)]
noncomputable def e7 : Env := ⟨ti, fun g => lookS g L7, 1000000, [], []⟩
def g7T (x0 : S5) (x1 : Int) : Tr (Bool) :=
  .opt (g10 x0) fun z201 =>
   .br ((z201.f16.length : Int) == 0) (
    .opt (g16 ) fun z202 =>
     .leaf (z202)) (
    .br ((z201.f16.length : Int) == 0) (
     .fail) (
     .br (decide (0 ≤ (remI (IntKind.i64.wrap x1) (z201.f16.length : Int)))) (
      .opt (z201.f16[Int.toNat (remI (IntKind.i64.wrap x1) (z201.f16.length : Int))]?) fun y203 =>
       .opt (g17 z201 (remI (IntKind.i64.wrap x1) (z201.f16.length : Int))) fun z204 =>
        .br ((z204.1.f16.length : Int) != (z201.f16.length : Int)) (
         .leaf (false)) (
         .br (decide (0 ≤ (remI (IntKind.i64.wrap x1) (z201.f16.length : Int)))) (
          .opt (z204.1.f16[Int.toNat (remI (IntKind.i64.wrap x1) (z201.f16.length : Int))]?) fun y205 =>
           .br (y205.f6 == (bif (bif y203.f6 then true else (bif (bif (bif (bif (bif (bif z204.2 then (y203.f74 == 3) else false) then y203.f27 else false) then (!y205.f27) else false) then (y205.f74 == 3) else false) then (!y203.f17) else false) then (!y203.f19) else false)) then true else (bif z204.2 then (y205.f74 == 1) else false))) (
            .opt (g16 ) fun z207 =>
             .leaf (z207)) (
            .leaf (false))) (
          .fail))) (
      .fail)))
def g7 (x0 : S5) (x1 : Int) : Option (Bool) := (g7T x0 x1).get?
noncomputable def T7 : TL := []
noncomputable def q7 : Ab.Spec := runQ0 e7 (lookT T7) Go.Proofs.Try.f7
theorem q7_ok : SpecOk Go.Proofs.Try.prog 7 q7 := (runQ0_ok (runR_ok (e := e7) follows (allTI ti_ok _ _ _ _) (callsOk_cons s10_ok (callsOk_cons s16_ok (callsOk_cons s17_ok (callsOk_nil)))) Go.Proofs.Try.func7 Go.Proofs.Try.call7) (fun c hc => by
  have hb : c = Go.Proofs.Try.f7.body.getD .skip := by rw [hc]; rfl
  subst hb
  exact tab_nil))
theorem g7_run (x0 : S5) (x1 : Int) : (q7 [.agg (Cod.enc 5 x0), .c (.int .u8 x1)] []).eval = (g7T x0 x1).ev fun r => ((.c (.bool r) : AV), ([] : List Blk)) := by kernel_rfl
noncomputable def s7_0 : Ab.Spec := fun args h =>
  dN h <| dL args fun v0 a0 => dG v0 fun l0 => dE 5 l0 fun x0 => dL a0 fun v1 a1 => dC v1 fun c0 => dI .u8 c0 fun x1 => dN a1 <|
  .opt (g7 x0 x1) fun r => .val (.c (.bool r), [])
theorem s7_0_ok : SpecOk Go.Proofs.Try.prog 7 s7_0 :=
  q7_ok.less fun args hs r h => by
    unfold s7_0 at h
    obtain ⟨rfl, hh1⟩ := dN_inv h
    obtain ⟨v0, a0, rfl, hh2⟩ := dL_inv hh1
    obtain ⟨l0, rfl, hh3⟩ := dG_inv hh2
    obtain ⟨x0, rfl, hh4⟩ := dE_inv hh3
    obtain ⟨v1, a1, rfl, hh5⟩ := dL_inv hh4
    obtain ⟨c0, rfl, hh6⟩ := dC_inv hh5
    obtain ⟨x1, rfl, hh7⟩ := dI_inv hh6
    obtain ⟨rfl, hh8⟩ := dN_inv hh7
    rw [g7_run, Tr.ev_get?]
    change (Res.opt (g7 x0 x1) _).eval = some r at hh8
    rw [eval_opt] at hh8
    obtain ⟨z, hz, hh9⟩ := Option.bind_eq_some_iff.mp hh8
    unfold g7 at hz
    rw [hz]; exact hh9
noncomputable def s7 : Ab.Spec := fun args h => s7_0 (coeA [[none, none, none, none, none, none, none, none, none, none, none, none, none, none, none, none, some 0], []] args) h
theorem s7_ok : SpecOk Go.Proofs.Try.prog 7 s7 := s7_0_ok.pre [[none, none, none, none, none, none, none, none, none, none, none, none, none, none, none, none, some 0], []]
/-- pontage/change.Pst -/
noncomputable def L19 : SL := []
noncomputable def e19 : Env := ⟨ti, fun g => lookS g L19, 1000000, [], []⟩
def g19T (x0 : S0) : Tr (S0 × Bool) :=
  .br (bif (bif x0.f10 then true else x0.f8) then (!x0.f9) else false) (
   .leaf ({ x0 with f8 := false, f10 := false }, true)) (
   .br (bif x0.f8 then (!x0.f7) else false) (
    .leaf ({ x0 with f8 := false }, true)) (
    .br (bif x0.f9 then (!x0.f10) else false) (
     .leaf ({ x0 with f10 := true }, true)) (
     .br (bif (bif x0.f10 then x0.f7 else false) then (!x0.f8) else false) (
      .leaf ({ x0 with f8 := true }, true)) (
      .leaf (x0, false)))))
def g19 (x0 : S0) : S0 × Bool := (g19T x0).get default
noncomputable def T19 : TL := []
noncomputable def q19 : Ab.Spec := runQ0 e19 (lookT T19) Go.Proofs.Try.f19
theorem q19_ok : SpecOk Go.Proofs.Try.prog 19 q19 := (runQ0_ok (runR_ok (e := e19) follows (allTI ti_ok _ _ _ _) (callsOk_nil) Go.Proofs.Try.func19 Go.Proofs.Try.call19) (fun c hc => by
  have hb : c = Go.Proofs.Try.f19.body.getD .skip := by rw [hc]; rfl
  subst hb
  exact tab_nil))
theorem g19_run (x0 : S0) : (q19 [.agg (Cod.enc 0 x0)] []).eval = (g19T x0).ev fun r => ((.tup [some (true, Cod.enc 0 r.1), some (false, [.bool r.2])] : AV), ([] : List Blk)) := by kernel_rfl
noncomputable def s19 : Ab.Spec := fun args h =>
  dN h <| dL args fun v0 a0 => dG v0 fun l0 => dE 0 l0 fun x0 => dN a0 <|
  let r := g19 x0; .val (.tup [some (true, Cod.enc 0 r.1), some (false, [.bool r.2])], [])
theorem s19_ok : SpecOk Go.Proofs.Try.prog 19 s19 :=
  q19_ok.less fun args hs r h => by
    unfold s19 at h
    obtain ⟨rfl, hh1⟩ := dN_inv h
    obtain ⟨v0, a0, rfl, hh2⟩ := dL_inv hh1
    obtain ⟨l0, rfl, hh3⟩ := dG_inv hh2
    obtain ⟨x0, rfl, hh4⟩ := dE_inv hh3
    obtain ⟨rfl, hh5⟩ := dN_inv hh4
    rw [g19_run, Tr.ev_get (d := default) (by kernel_rfl)]
    exact hh5
/-- pontage/pontageref14.Pst -/
noncomputable def L20 : SL := []
noncomputable def e20 : Env := ⟨ti, fun g => lookS g L20, 1000000, [], []⟩
def g20T (x0 : S0) : Tr (S0 × Bool) :=
  .br (bif (bif x0.f10 then true else x0.f8) then (!x0.f9) else false) (
   .leaf ({ x0 with f8 := false, f10 := false }, true)) (
   .br (bif x0.f8 then (!x0.f7) else false) (
    .leaf ({ x0 with f8 := false }, true)) (
    .br (bif x0.f9 then (!x0.f10) else false) (
     .leaf ({ x0 with f10 := true }, true)) (
     .br (bif (bif x0.f10 then x0.f7 else false) then (!x0.f8) else false) (
      .leaf ({ x0 with f8 := true }, true)) (
      .leaf (x0, false)))))
def g20 (x0 : S0) : S0 × Bool := (g20T x0).get default
noncomputable def T20 : TL := []
noncomputable def q20 : Ab.Spec := runQ0 e20 (lookT T20) Go.Proofs.Try.f20
theorem q20_ok : SpecOk Go.Proofs.Try.prog 20 q20 := (runQ0_ok (runR_ok (e := e20) follows (allTI ti_ok _ _ _ _) (callsOk_nil) Go.Proofs.Try.func20 Go.Proofs.Try.call20) (fun c hc => by
  have hb : c = Go.Proofs.Try.f20.body.getD .skip := by rw [hc]; rfl
  subst hb
  exact tab_nil))
theorem g20_run (x0 : S0) : (q20 [.agg (Cod.enc 0 x0)] []).eval = (g20T x0).ev fun r => ((.tup [some (true, Cod.enc 0 r.1), some (false, [.bool r.2])] : AV), ([] : List Blk)) := by kernel_rfl
noncomputable def s20 : Ab.Spec := fun args h =>
  dN h <| dL args fun v0 a0 => dG v0 fun l0 => dE 0 l0 fun x0 => dN a0 <|
  let r := g20 x0; .val (.tup [some (true, Cod.enc 0 r.1), some (false, [.bool r.2])], [])
theorem s20_ok : SpecOk Go.Proofs.Try.prog 20 s20 :=
  q20_ok.less fun args hs r h => by
    unfold s20 at h
    obtain ⟨rfl, hh1⟩ := dN_inv h
    obtain ⟨v0, a0, rfl, hh2⟩ := dL_inv hh1
    obtain ⟨l0, rfl, hh3⟩ := dG_inv hh2
    obtain ⟨x0, rfl, hh4⟩ := dE_inv hh3
    obtain ⟨rfl, hh5⟩ := dN_inv hh4
    rw [g20_run, Tr.ev_get (d := default) (by kernel_rfl)]
    exact hh5
/-- pontage/pontagelaw14.ChangeStates -/
noncomputable def L8 : SL := [(19, .byVal, s19), (20, .byVal, s20), (16, .byVal, s16)]
noncomputable def e8 : Env := ⟨ti, fun g => lookS g L8, 1000000, [], []⟩
def g8T (x0 : S0) : Tr (Bool) :=
  let z208 := g19 x0
  let z209 := g20 x0
  .br (bif (eqS0 z208.1 z209.1) then (z208.2 == z209.2) else false) (
   .opt (g16 ) fun z211 =>
    .leaf (z211)) (
   .leaf (false))
def g8 (x0 : S0) : Option (Bool) := (g8T x0).get?
noncomputable def T8 : TL := []
noncomputable def q8 : Ab.Spec := runQ0 e8 (lookT T8) Go.Proofs.Try.f8
theorem q8_ok : SpecOk Go.Proofs.Try.prog 8 q8 := (runQ0_ok (runR_ok (e := e8) follows (allTI ti_ok _ _ _ _) (callsOk_cons s19_ok (callsOk_cons s20_ok (callsOk_cons s16_ok (callsOk_nil)))) Go.Proofs.Try.func8 Go.Proofs.Try.call8) (fun c hc => by
  have hb : c = Go.Proofs.Try.f8.body.getD .skip := by rw [hc]; rfl
  subst hb
  exact tab_nil))
theorem g8_run (x0 : S0) : (q8 [.agg (Cod.enc 0 x0)] []).eval = (g8T x0).ev fun r => ((.c (.bool r) : AV), ([] : List Blk)) := by kernel_rfl
noncomputable def s8 : Ab.Spec := fun args h =>
  dN h <| dL args fun v0 a0 => dG v0 fun l0 => dE 0 l0 fun x0 => dN a0 <|
  .opt (g8 x0) fun r => .val (.c (.bool r), [])
theorem s8_ok : SpecOk Go.Proofs.Try.prog 8 s8 :=
  q8_ok.less fun args hs r h => by
    unfold s8 at h
    obtain ⟨rfl, hh1⟩ := dN_inv h
    obtain ⟨v0, a0, rfl, hh2⟩ := dL_inv hh1
    obtain ⟨l0, rfl, hh3⟩ := dG_inv hh2
    obtain ⟨x0, rfl, hh4⟩ := dE_inv hh3
    obtain ⟨rfl, hh5⟩ := dN_inv hh4
    rw [g8_run, Tr.ev_get?]
    change (Res.opt (g8 x0) _).eval = some r at hh5
    rw [eval_opt] at hh5
    obtain ⟨z, hz, hh6⟩ := Option.bind_eq_some_iff.mp hh5
    unfold g8 at hz
    rw [hz]; exact hh6
/-- pontage/pontagelaw14.ChangeSettles -/
noncomputable def L9 : SL := [(19, .byVal, s19), (16, .byVal, s16)]
noncomputable def e9 : Env := ⟨ti, fun g => lookS g L9, 1000000, [.drop 0, .drop 7], []⟩
def g9T (x0 : S0) : Tr (Bool) :=
  let z212 := g19 x0
  .br (!z212.2) (
   .br (!(eqS0 z212.1 x0)) (
    .leaf (false)) (
    .br (bif (!(x0.f10 == x0.f9)) then true else (!(x0.f8 == (bif x0.f9 then x0.f7 else false)))) (
     .leaf (false)) (
     .br (eqS0 x0 x0) (
      .opt (g16 ) fun z214 =>
       .leaf (z214)) (
      .leaf (false))))) (
   let z215 := g19 z212.1
   .br (!z215.2) (
    .br (!(eqS0 z215.1 z212.1)) (
     .leaf (false)) (
     .br (bif (!(z212.1.f10 == x0.f9)) then true else (!(z212.1.f8 == (bif x0.f9 then x0.f7 else false)))) (
      .leaf (false)) (
      .br (eqS0 { z212.1 with f8 := x0.f8, f10 := x0.f10 } x0) (
       .opt (g16 ) fun z217 =>
        .leaf (z217)) (
       .leaf (false))))) (
    let z218 := g19 z215.1
    .br (!z218.2) (
     .br (!(eqS0 z218.1 z215.1)) (
      .leaf (false)) (
      .br (bif (!(z215.1.f10 == x0.f9)) then true else (!(z215.1.f8 == (bif x0.f9 then x0.f7 else false)))) (
       .leaf (false)) (
       .br (eqS0 { z215.1 with f8 := x0.f8, f10 := x0.f10 } x0) (
        .opt (g16 ) fun z220 =>
         .leaf (z220)) (
        .leaf (false))))) (
     .leaf (false))))
def g9 (x0 : S0) : Option (Bool) := (g9T x0).get?
noncomputable def T9 : TL := []
noncomputable def q9 : Ab.Spec := runQ0 e9 (lookT T9) Go.Proofs.Try.f9
theorem q9_ok : SpecOk Go.Proofs.Try.prog 9 q9 := (runQ0_ok (runR_ok (e := e9) follows (allTI ti_ok _ _ _ _) (callsOk_cons s19_ok (callsOk_cons s16_ok (callsOk_nil))) Go.Proofs.Try.func9 Go.Proofs.Try.call9) (fun c hc => by
  have hb : c = Go.Proofs.Try.f9.body.getD .skip := by rw [hc]; rfl
  subst hb
  exact tab_nil))
theorem g9_run (x0 : S0) : (q9 [.agg (Cod.enc 0 x0)] []).eval = (g9T x0).ev fun r => ((.c (.bool r) : AV), ([] : List Blk)) := by kernel_rfl
noncomputable def s9 : Ab.Spec := fun args h =>
  dN h <| dL args fun v0 a0 => dG v0 fun l0 => dE 0 l0 fun x0 => dN a0 <|
  .opt (g9 x0) fun r => .val (.c (.bool r), [])
theorem s9_ok : SpecOk Go.Proofs.Try.prog 9 s9 :=
  q9_ok.less fun args hs r h => by
    unfold s9 at h
    obtain ⟨rfl, hh1⟩ := dN_inv h
    obtain ⟨v0, a0, rfl, hh2⟩ := dL_inv hh1
    obtain ⟨l0, rfl, hh3⟩ := dG_inv hh2
    obtain ⟨x0, rfl, hh4⟩ := dE_inv hh3
    obtain ⟨rfl, hh5⟩ := dN_inv hh4
    rw [g9_run, Tr.ev_get?]
    change (Res.opt (g9 x0) _).eval = some r at hh5
    rw [eval_opt] at hh5
    obtain ⟨z, hz, hh6⟩ := Option.bind_eq_some_iff.mp hh5
    unfold g9 at hz
    rw [hz]; exact hh6
end Ab14
