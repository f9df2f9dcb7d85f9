/- Seat 13: the functions. -/
import Derived.Test.YtinfcoabfdegcaaAb13a
set_option maxRecDepth 100000
set_option maxHeartbeats 4000000
set_option linter.unusedVariables false
set_option linter.unusedSimpArgs false
namespace Ab13
open Go Ab
/-- pontage/pontagelaw09.Few -/
noncomputable def L8 : SL := []
noncomputable def e8 : Env := ⟨ti, fun g => lookS g L8, 1000000, [], []⟩
def g8T (x0 : S6) : Tr (S6) :=
  .br (decide (0 ≤ (mnI (x0.f16.length : Int) 10)) && decide ((mnI (x0.f16.length : Int) 10) ≤ (x0.f16.length : Int))) (
   .br ((List.take (Int.toNat (mnI (x0.f16.length : Int) 10)) x0.f16).isEmpty) (
    .leaf ({ x0 with f16 := [] })) (
    .br (Nat.ble (0 + (List.take (Int.toNat (mnI (x0.f16.length : Int) 10)) x0.f16).length) 140737488355328 && Nat.ble ((0 + (List.take (Int.toNat (mnI (x0.f16.length : Int) 10)) x0.f16).length) * 248) 140737488355328) (
     .leaf ({ x0 with f16 := (List.take (Int.toNat (mnI (x0.f16.length : Int) 10)) x0.f16) })) (
     .fail))) (
   .fail)
def g8 (x0 : S6) : Option (S6) := (g8T x0).get?
noncomputable def T8 : TL := []
noncomputable def q8 : Ab.Spec := frzR [[none, none, none, none, none, none, none, none, none, none, none, none, none, none, none, none, some 0]] (runQ0 e8 (lookT T8) Go.Proofs.Try.f8)
theorem q8_ok : SpecOk Go.Proofs.Try.prog 8 q8 := (runQ0_ok (runR_ok (e := e8) follows (allTI ti_ok _ _ _ _) (callsOk_nil) Go.Proofs.Try.func8 Go.Proofs.Try.call8) (fun c hc => by
  have hb : c = Go.Proofs.Try.f8.body.getD .skip := by rw [hc]; rfl
  subst hb
  exact tab_nil)).froze [[none, none, none, none, none, none, none, none, none, none, none, none, none, none, none, none, some 0]]
theorem g8_run (x0 : S6) : (q8 [.agg (Cod.enc 6 x0)] []).eval = (g8T x0).ev fun r => ((.agg (Cod.enc 6 r) : AV), ([] : List Blk)) := by kernel_rfl
noncomputable def s8_0 : Ab.Spec := fun args h =>
  dN h <| dL args fun v0 a0 => dG v0 fun l0 => dE 6 l0 fun x0 => dN a0 <|
  .opt (g8 x0) fun r => .val (.agg (Cod.enc 6 r), [])
theorem s8_0_ok : SpecOk Go.Proofs.Try.prog 8 s8_0 :=
  q8_ok.less fun args hs r h => by
    unfold s8_0 at h
    obtain ⟨rfl, hh1⟩ := dN_inv h
    obtain ⟨v0, a0, rfl, hh2⟩ := dL_inv hh1
    obtain ⟨l0, rfl, hh3⟩ := dG_inv hh2
    obtain ⟨x0, rfl, hh4⟩ := dE_inv hh3
    obtain ⟨rfl, hh5⟩ := dN_inv hh4
    rw [g8_run, Tr.ev_get?]
    change (Res.opt (g8 x0) _).eval = some r at hh5
    rw [eval_opt] at hh5
    obtain ⟨z, hz, hh6⟩ := Option.bind_eq_some_iff.mp hh5
    unfold g8 at hz
    rw [hz]; exact hh6
noncomputable def s8 : Ab.Spec := fun args h => s8_0 (coeA [[none, none, none, none, none, none, none, none, none, none, none, none, none, none, none, none, some 0]] args) h
theorem s8_ok : SpecOk Go.Proofs.Try.prog 8 s8 := s8_0_ok.pre [[none, none, none, none, none, none, none, none, none, none, none, none, none, none, none, none, some 0]]
/-- pontage/prt.open -/
noncomputable def L16 : SL := []
noncomputable def e16 : Env := ⟨ti, fun g => lookS g L16, 1000000, [], []⟩
noncomputable def s16 : Ab.Spec := runR e16 Go.Proofs.Try.f16
theorem s16_ok : SpecOk Go.Proofs.Try.prog 16 s16 := runR_ok (e := e16) follows (allTI ti_ok _ _ _ _) (callsOk_nil) Go.Proofs.Try.func16 Go.Proofs.Try.call16
/-- (*pontage/prt.work).begin -/
noncomputable def L17 : SL := []
noncomputable def e17 : Env := ⟨ti, fun g => lookS g L17, 1000000, [], []⟩
noncomputable def s17 : Ab.Spec := runR e17 Go.Proofs.Try.f17
theorem s17_ok : SpecOk Go.Proofs.Try.prog 17 s17 := runR_ok (e := e17) follows (allTI ti_ok _ _ _ _) (callsOk_nil) Go.Proofs.Try.func17 Go.Proofs.Try.call17
/-- (*pontage/prt.work).role -/
noncomputable def L18 : SL := []
noncomputable def e18 : Env := ⟨ti, fun g => lookS g L18, 1000000, [], []⟩
noncomputable def s18 : Ab.Spec := runR e18 Go.Proofs.Try.f18
theorem s18_ok : SpecOk Go.Proofs.Try.prog 18 s18 := runR_ok (e := e18) follows (allTI ti_ok _ _ _ _) (callsOk_nil) Go.Proofs.Try.func18 Go.Proofs.Try.call18
/-- (*pontage/prt.work).quiet -/
noncomputable def L36 : SL := []
noncomputable def e36 : Env := ⟨ti, fun g => lookS g L36, 1000000, [], []⟩
noncomputable def s36 : Ab.Spec := runR e36 Go.Proofs.Try.f36
theorem s36_ok : SpecOk Go.Proofs.Try.prog 36 s36 := runR_ok (e := e36) follows (allTI ti_ok _ _ _ _) (callsOk_nil) Go.Proofs.Try.func36 Go.Proofs.Try.call36
/-- (*pontage/prt.work).rest -/
noncomputable def L37 : SL := []
noncomputable def e37 : Env := ⟨ti, fun g => lookS g L37, 1000000, [], []⟩
noncomputable def s37 : Ab.Spec := runR e37 Go.Proofs.Try.f37
theorem s37_ok : SpecOk Go.Proofs.Try.prog 37 s37 := runR_ok (e := e37) follows (allTI ti_ok _ _ _ _) (callsOk_nil) Go.Proofs.Try.func37 Go.Proofs.Try.call37
/-- (*pontage/prt.work).disable -/
noncomputable def L19 : SL := [(36, .byHeap, s36), (37, .byHeap, s37)]
noncomputable def e19 : Env := ⟨ti, fun g => lookS g L19, 1000000, [], []⟩
noncomputable def s19 : Ab.Spec := runR e19 Go.Proofs.Try.f19
theorem s19_ok : SpecOk Go.Proofs.Try.prog 19 s19 := runR_ok (e := e19) follows (allTI ti_ok _ _ _ _) (callsOk_cons s36_ok (callsOk_cons s37_ok (callsOk_nil))) Go.Proofs.Try.func19 Go.Proofs.Try.call19
/-- (*pontage/prt.work).still -/
noncomputable def L38 : SL := []
noncomputable def e38 : Env := ⟨ti, fun g => lookS g L38, 1000000, [], []⟩
noncomputable def s38 : Ab.Spec := runR e38 Go.Proofs.Try.f38
theorem s38_ok : SpecOk Go.Proofs.Try.prog 38 s38 := runR_ok (e := e38) follows (allTI ti_ok _ _ _ _) (callsOk_nil) Go.Proofs.Try.func38 Go.Proofs.Try.call38
/-- (*pontage/prt.work).disabled -/
noncomputable def L20 : SL := [(38, .byHeap, s38), (37, .byHeap, s37)]
noncomputable def e20 : Env := ⟨ti, fun g => lookS g L20, 1000000, [], []⟩
noncomputable def s20 : Ab.Spec := runR e20 Go.Proofs.Try.f20
theorem s20_ok : SpecOk Go.Proofs.Try.prog 20 s20 := runR_ok (e := e20) follows (allTI ti_ok _ _ _ _) (callsOk_cons s38_ok (callsOk_cons s37_ok (callsOk_nil))) Go.Proofs.Try.func20 Go.Proofs.Try.call20
/-- slices.Clone[[]pontage/api.Port,pontage/api.Port] -/
noncomputable def L45 : SL := []
noncomputable def e45 : Env := ⟨ti, fun g => lookS g L45, 1000000, [], []⟩
theorem s45_a : (runR e45 Go.Proofs.Try.f45 [.c (.rn true 0 [])] []).eval = some (.c .nils, []) := by kernel_rfl
theorem s45_b (L : List S0) : (runR e45 Go.Proofs.Try.f45 [.c (.rn false 0 L)] []).eval = bif L.isEmpty then some (.c .ez, []) else bif cloneB 0 248 L then some (.c (.slw 0), [.row 0 L]) else none := by
  cases L with
  | nil => kernel_rfl
  | cons x L => kernel_rfl
noncomputable def s45 : Ab.Spec := fun args h => cloneS 0 248 (coeA [[some 0]] args) h
theorem s45_ok : SpecOk Go.Proofs.Try.prog 45 s45 := (clone_ok (e := e45) (c := 0) (bytes := 248) (runR_ok (e := e45) follows (allTI ti_ok _ _ _ _) (callsOk_nil) Go.Proofs.Try.func45 Go.Proofs.Try.call45) s45_a s45_b).pre [[some 0]]
/-- (*pontage/prt.work).tree -/
noncomputable def L25 : SL := [(45, .byNew, s45)]
noncomputable def e25 : Env := ⟨ti, fun g => lookS g L25, 1000000, [], []⟩
noncomputable def s25 : Ab.Spec := runR e25 Go.Proofs.Try.f25
theorem s25_ok : SpecOk Go.Proofs.Try.prog 25 s25 := runR_ok (e := e25) follows (allTI ti_ok _ _ _ _) (callsOk_cons s45_ok (callsOk_nil)) Go.Proofs.Try.func25 Go.Proofs.Try.call25
/-- pontage/rvar.Delay -/
noncomputable def L44 : SL := []
noncomputable def e44 : Env := ⟨ti, fun g => lookS g L44, 1000000, [], []⟩
def g44T (x0 : S0) : Tr (Int) :=
  .br x0.f23 (
   .leaf (x0.f42)) (
   .leaf (x0.f43))
def g44 (x0 : S0) : Int := (g44T x0).get default
noncomputable def T44 : TL := []
noncomputable def q44 : Ab.Spec := runQ0 e44 (lookT T44) Go.Proofs.Try.f44
theorem q44_ok : SpecOk Go.Proofs.Try.prog 44 q44 := (runQ0_ok (runR_ok (e := e44) follows (allTI ti_ok _ _ _ _) (callsOk_nil) Go.Proofs.Try.func44 Go.Proofs.Try.call44) (fun c hc => by
  have hb : c = Go.Proofs.Try.f44.body.getD .skip := by rw [hc]; rfl
  subst hb
  exact tab_nil))
theorem g44_run (x0 : S0) : (q44 [.agg (Cod.enc 0 x0)] []).eval = (g44T x0).ev fun r => ((.c (.int .u8 r) : AV), ([] : List Blk)) := by kernel_rfl
noncomputable def s44 : Ab.Spec := fun args h =>
  dN h <| dL args fun v0 a0 => dG v0 fun l0 => dE 0 l0 fun x0 => dN a0 <|
  let r := g44 x0; .val (.c (.int .u8 r), [])
theorem s44_ok : SpecOk Go.Proofs.Try.prog 44 s44 :=
  q44_ok.less fun args hs r h => by
    unfold s44 at h
    obtain ⟨rfl, hh1⟩ := dN_inv h
    obtain ⟨v0, a0, rfl, hh2⟩ := dL_inv hh1
    obtain ⟨l0, rfl, hh3⟩ := dG_inv hh2
    obtain ⟨x0, rfl, hh4⟩ := dE_inv hh3
    obtain ⟨rfl, hh5⟩ := dN_inv hh4
    rw [g44_run, Tr.ev_get (d := default) (by kernel_rfl)]
    exact hh5
/-- (*pontage/prt.work).learn -/
noncomputable def L43 : SL := [(44, .byVal, s44)]
noncomputable def e43 : Env := ⟨ti, fun g => lookS g L43, 1000000, [], []⟩
noncomputable def s43 : Ab.Spec := runR e43 Go.Proofs.Try.f43
theorem s43_ok : SpecOk Go.Proofs.Try.prog 43 s43 := runR_ok (e := e43) follows (allTI ti_ok _ _ _ _) (callsOk_cons s44_ok (callsOk_nil)) Go.Proofs.Try.func43 Go.Proofs.Try.call43
/-- (*pontage/prt.work).desig -/
noncomputable def L22 : SL := [(36, .byHeap, s36), (44, .byVal, s44), (43, .byHeap, s43)]
noncomputable def e22 : Env := ⟨ti, fun g => lookS g L22, 1000000, [], []⟩
noncomputable def s22 : Ab.Spec := runR e22 Go.Proofs.Try.f22
theorem s22_ok : SpecOk Go.Proofs.Try.prog 22 s22 := runR_ok (e := e22) follows (allTI ti_ok _ _ _ _) (callsOk_cons s36_ok (callsOk_cons s44_ok (callsOk_cons s43_ok (callsOk_nil)))) Go.Proofs.Try.func22 Go.Proofs.Try.call22
/-- (*pontage/prt.work).block -/
noncomputable def L23 : SL := [(36, .byHeap, s36), (37, .byHeap, s37)]
noncomputable def e23 : Env := ⟨ti, fun g => lookS g L23, 1000000, [], []⟩
noncomputable def s23 : Ab.Spec := runR e23 Go.Proofs.Try.f23
theorem s23_ok : SpecOk Go.Proofs.Try.prog 23 s23 := runR_ok (e := e23) follows (allTI ti_ok _ _ _ _) (callsOk_cons s36_ok (callsOk_cons s37_ok (callsOk_nil))) Go.Proofs.Try.func23 Go.Proofs.Try.call23
/-- pontage/rvar.Copy -/
noncomputable def L54 : SL := [(45, .byNew, s45)]
noncomputable def e54 : Env := ⟨ti, fun g => lookS g L54, 1000000, [], []⟩
def g54T (x0 : S6) : Tr (S6) :=
  .br (x0.f16.isEmpty || cloneB 0 248 x0.f16) (
   .leaf (x0)) (
   .fail)
def g54 (x0 : S6) : Option (S6) := (g54T x0).get?
noncomputable def T54 : TL := []
noncomputable def q54 : Ab.Spec := frsR [[none, none, none, none, none, none, none, none, none, none, none, none, none, none, none, none, some 0]] (runQ0 e54 (lookT T54) Go.Proofs.Try.f54)
theorem q54_ok : SpecOk Go.Proofs.Try.prog 54 q54 := (runQ0_ok (runR_ok (e := e54) follows (allTI ti_ok _ _ _ _) (callsOk_cons s45_ok (callsOk_nil)) Go.Proofs.Try.func54 Go.Proofs.Try.call54) (fun c hc => by
  have hb : c = Go.Proofs.Try.f54.body.getD .skip := by rw [hc]; rfl
  subst hb
  exact tab_nil)).fresh [[none, none, none, none, none, none, none, none, none, none, none, none, none, none, none, none, some 0]]
theorem g54_run (x0 : S6) : (q54 [.agg (Cod.enc 6 x0)] []).eval = (g54T x0).ev fun r => ((.agg ([.int .u64 r.f0, .int .u8 r.f1, .int .u8 r.f2, .int .u8 r.f3, .int .u8 r.f4, .int .u8 r.f5, .bool r.f6, .int .u16 r.f7, .int .u64 r.f8, .int .u32 r.f9, .int .u64 r.f10, .int .u16 r.f11, .int .u8 r.f12, .int .u8 r.f13, .int .u8 r.f14, .int .u8 r.f15, .slw 0]) : AV), ([.row 0 r.f16] : List Blk)) := by kernel_rfl
noncomputable def s54_0 : Ab.Spec := fun args h =>
  dN h <| dL args fun v0 a0 => dG v0 fun l0 => dE 6 l0 fun x0 => dN a0 <|
  .opt (g54 x0) fun r => .val (.agg ([.int .u64 r.f0, .int .u8 r.f1, .int .u8 r.f2, .int .u8 r.f3, .int .u8 r.f4, .int .u8 r.f5, .bool r.f6, .int .u16 r.f7, .int .u64 r.f8, .int .u32 r.f9, .int .u64 r.f10, .int .u16 r.f11, .int .u8 r.f12, .int .u8 r.f13, .int .u8 r.f14, .int .u8 r.f15, .slw 0]), [.row 0 r.f16])
theorem s54_0_ok : SpecOk Go.Proofs.Try.prog 54 s54_0 :=
  q54_ok.less fun args hs r h => by
    unfold s54_0 at h
    obtain ⟨rfl, hh1⟩ := dN_inv h
    obtain ⟨v0, a0, rfl, hh2⟩ := dL_inv hh1
    obtain ⟨l0, rfl, hh3⟩ := dG_inv hh2
    obtain ⟨x0, rfl, hh4⟩ := dE_inv hh3
    obtain ⟨rfl, hh5⟩ := dN_inv hh4
    rw [g54_run, Tr.ev_get?]
    change (Res.opt (g54 x0) _).eval = some r at hh5
    rw [eval_opt] at hh5
    obtain ⟨z, hz, hh6⟩ := Option.bind_eq_some_iff.mp hh5
    unfold g54 at hz
    rw [hz]; exact hh6
noncomputable def s54 : Ab.Spec := fun args h => s54_0 (coeA [[none, none, none, none, none, none, none, none, none, none, none, none, none, none, none, none, some 0]] args) h
theorem s54_ok : SpecOk Go.Proofs.Try.prog 54 s54 := s54_0_ok.pre [[none, none, none, none, none, none, none, none, none, none, none, none, none, none, none, none, some 0]]
/-- pontage/rvar.ReRootAll -/
noncomputable def L42 : SL := [(54, .byNew, s54)]
noncomputable def e42 : Env := ⟨ti, fun g => lookS g L42, 1000000, [.drop 0, .drop 4, .drop 5, .drop 6, .drop 7], []⟩
structure W42_0 where
  a0 : Int
  a1 : Int
  a2 : Int
  a3 : Int
  a4 : Int
  a5 : Int
  a6 : Int
  a7 : Int
  a8 : Bool
  a9 : Int
  a10 : Int
  a11 : Int
  a12 : Int
  a13 : Int
  a14 : Int
  a15 : Int
  a16 : Int
  a17 : Int
  a18 : Int
  a19 : Int
  a20 : Int
  a21 : Int
  a22 : Int
  a23 : Int
  a24 : Bool
  a25 : Int
  a26 : Int
  a27 : Int
  a28 : Int
  a29 : Int
  a30 : Int
  a31 : Int
  a32 : Int
  a33 : Int
  a34 : List S0
def hd42_0 (v : W42_0) : St := ⟨[.top, .c (.ptr 0 0), .c (.ptr 1 0), .top, .top, .top, .top, .top, .c (.int .i64 v.a0), .c (.int .i64 v.a1), .top, .top, .top, .top, .top, .top, .top, .top, .top], [.cells [.int .u64 v.a2, .int .u8 v.a3, .int .u8 v.a4, .int .u8 v.a5, .int .u8 v.a6, .int .u8 v.a7, .bool v.a8, .int .u16 v.a9, .int .u64 v.a10, .int .u32 v.a11, .int .u64 v.a12, .int .u16 v.a13, .int .u8 v.a14, .int .u8 v.a15, .int .u8 v.a16, .int .u8 v.a17, .slw 2], .cells [.int .u64 v.a18, .int .u8 v.a19, .int .u8 v.a20, .int .u8 v.a21, .int .u8 v.a22, .int .u8 v.a23, .bool v.a24, .int .u16 v.a25, .int .u64 v.a26, .int .u32 v.a27, .int .u64 v.a28, .int .u16 v.a29, .int .u8 v.a30, .int .u8 v.a31, .int .u8 v.a32, .int .u8 v.a33, .nils], .row 0 v.a34]⟩
def gR42_0 (v : W42_0) : Tr (W42_0 ⊕ (Bool × W42_0)) :=
  .br (decide (v.a1 < v.a0)) (
   .br (decide (0 ≤ v.a1) && decide (v.a1 < (v.a34.length : Int))) (
    .opt (v.a34[(Int.toNat v.a1)]?) fun y3 =>
     .leaf (.inl ({ v with a1 := (IntKind.i64.wrap (v.a1 + 1)), a34 := (List.set v.a34 (Int.toNat v.a1) { y3 with f20 := true }) }))) (
    .fail)) (
   .leaf (.inr (false, v)))
noncomputable def lb42_0 : Code := match findB 0 (Go.Proofs.Try.f42.body.getD .skip) with | [.loop b] => b | _ => .skip
def pa42_0 : List PA := [.any, .c (.ptr 0 0), .c (.ptr 1 0), .top, .any, .any, .any, .any, .c (.int .i64), .c (.int .i64), .top, .top, .top, .top, .top, .top, .top, .top, .top]
def pb42_0 : List PB := [.cells [.int .u64, .int .u8, .int .u8, .int .u8, .int .u8, .int .u8, .bool, .int .u16, .int .u64, .int .u32, .int .u64, .int .u16, .int .u8, .int .u8, .int .u8, .int .u8, .slw 2], .cells [.int .u64, .int .u8, .int .u8, .int .u8, .int .u8, .int .u8, .bool, .int .u16, .int .u64, .int .u32, .int .u64, .int .u16, .int .u8, .int .u8, .int .u8, .int .u8, .nils], .row 0]
def ini42_0 (s : St) : W42_0 := ⟨iC (aC (s.tmps.getD 8 .top)), iC (aC (s.tmps.getD 9 .top)), iC ((bL (s.heap.getD 0 .dead)).getD 0 .top), iC ((bL (s.heap.getD 0 .dead)).getD 1 .top), iC ((bL (s.heap.getD 0 .dead)).getD 2 .top), iC ((bL (s.heap.getD 0 .dead)).getD 3 .top), iC ((bL (s.heap.getD 0 .dead)).getD 4 .top), iC ((bL (s.heap.getD 0 .dead)).getD 5 .top), bC ((bL (s.heap.getD 0 .dead)).getD 6 .top), iC ((bL (s.heap.getD 0 .dead)).getD 7 .top), iC ((bL (s.heap.getD 0 .dead)).getD 8 .top), iC ((bL (s.heap.getD 0 .dead)).getD 9 .top), iC ((bL (s.heap.getD 0 .dead)).getD 10 .top), iC ((bL (s.heap.getD 0 .dead)).getD 11 .top), iC ((bL (s.heap.getD 0 .dead)).getD 12 .top), iC ((bL (s.heap.getD 0 .dead)).getD 13 .top), iC ((bL (s.heap.getD 0 .dead)).getD 14 .top), iC ((bL (s.heap.getD 0 .dead)).getD 15 .top), iC ((bL (s.heap.getD 1 .dead)).getD 0 .top), iC ((bL (s.heap.getD 1 .dead)).getD 1 .top), iC ((bL (s.heap.getD 1 .dead)).getD 2 .top), iC ((bL (s.heap.getD 1 .dead)).getD 3 .top), iC ((bL (s.heap.getD 1 .dead)).getD 4 .top), iC ((bL (s.heap.getD 1 .dead)).getD 5 .top), bC ((bL (s.heap.getD 1 .dead)).getD 6 .top), iC ((bL (s.heap.getD 1 .dead)).getD 7 .top), iC ((bL (s.heap.getD 1 .dead)).getD 8 .top), iC ((bL (s.heap.getD 1 .dead)).getD 9 .top), iC ((bL (s.heap.getD 1 .dead)).getD 10 .top), iC ((bL (s.heap.getD 1 .dead)).getD 11 .top), iC ((bL (s.heap.getD 1 .dead)).getD 12 .top), iC ((bL (s.heap.getD 1 .dead)).getD 13 .top), iC ((bL (s.heap.getD 1 .dead)).getD 14 .top), iC ((bL (s.heap.getD 1 .dead)).getD 15 .top), bR 0 (s.heap.getD 2 .dead)⟩
noncomputable def F42_0 : St → Res (Ex × St) := loopF pa42_0 pb42_0 1000000 hd42_0 gR42_0 ini42_0 false
theorem F42_0_ok (s : St) (r : Ex × St) (h : (F42_0 s).eval = some r) : (codeR e42 0 (.block 0 (.loop lb42_0)) s).eval = some r :=
  blk_ok (e := e42) (T := lookT []) (fun s v => by kernel_rfl) (fun s => by kernel_rfl) (tab_nil) s r h
def g42T (x0 : S6) : Tr (S6) :=
  .opt (g54 x0) fun z2 =>
   .opt (iter gR42_0 1000000 (W42_0.mk ((z2.f16.length : Int)) (0) (z2.f0) (z2.f1) (z2.f2) (z2.f3) (z2.f4) (z2.f5) (z2.f6) (z2.f7) (z2.f8) (z2.f9) (z2.f10) (z2.f11) (z2.f12) (z2.f13) (z2.f14) (z2.f15) (0) (0) (0) (0) (0) (0) (false) (0) (0) (0) (0) (0) (0) (0) (0) (0) (z2.f16))) fun r4 =>
    .br r4.1 (
     .fail) (
     .leaf ((S6.mk r4.2.a2 r4.2.a3 r4.2.a4 r4.2.a5 r4.2.a6 r4.2.a7 r4.2.a8 r4.2.a9 r4.2.a10 r4.2.a11 r4.2.a12 r4.2.a13 r4.2.a14 r4.2.a15 r4.2.a16 r4.2.a17 r4.2.a34)))
def g42 (x0 : S6) : Option (S6) := (g42T x0).get?
noncomputable def T42 : TL := [(0, F42_0)]
noncomputable def q42 : Ab.Spec := frzR [[none, none, none, none, none, none, none, none, none, none, none, none, none, none, none, none, some 0]] (runQ0 e42 (lookT T42) Go.Proofs.Try.f42)
theorem q42_ok : SpecOk Go.Proofs.Try.prog 42 q42 := (runQ0_ok (runR_ok (e := e42) follows (allTI ti_ok _ _ _ _) (callsOk_cons s54_ok (callsOk_nil)) Go.Proofs.Try.func42 Go.Proofs.Try.call42) (fun c hc => by
  have hb : c = Go.Proofs.Try.f42.body.getD .skip := by rw [hc]; rfl
  subst hb
  exact tab_cons (by kernel_rfl) F42_0_ok (tab_nil))).froze [[none, none, none, none, none, none, none, none, none, none, none, none, none, none, none, none, some 0]]
theorem g42_run (x0 : S6) : (q42 [.agg (Cod.enc 6 x0)] []).eval = (g42T x0).ev fun r => ((.agg (Cod.enc 6 r) : AV), ([] : List Blk)) := by kernel_rfl
noncomputable def s42_0 : Ab.Spec := fun args h =>
  dN h <| dL args fun v0 a0 => dG v0 fun l0 => dE 6 l0 fun x0 => dN a0 <|
  .opt (g42 x0) fun r => .val (.agg (Cod.enc 6 r), [])
theorem s42_0_ok : SpecOk Go.Proofs.Try.prog 42 s42_0 :=
  q42_ok.less fun args hs r h => by
    unfold s42_0 at h
    obtain ⟨rfl, hh1⟩ := dN_inv h
    obtain ⟨v0, a0, rfl, hh2⟩ := dL_inv hh1
    obtain ⟨l0, rfl, hh3⟩ := dG_inv hh2
    obtain ⟨x0, rfl, hh4⟩ := dE_inv hh3
    obtain ⟨rfl, hh5⟩ := dN_inv hh4
    rw [g42_run, Tr.ev_get?]
    change (Res.opt (g42 x0) _).eval = some r at hh5
    rw [eval_opt] at hh5
    obtain ⟨z, hz, hh6⟩ := Option.bind_eq_some_iff.mp hh5
    unfold g42 at hz
    rw [hz]; exact hh6
noncomputable def s42 : Ab.Spec := fun args h => s42_0 (coeA [[none, none, none, none, none, none, none, none, none, none, none, none, none, none, none, none, some 0]] args) h
theorem s42_ok : SpecOk Go.Proofs.Try.prog 42 s42 := s42_0_ok.pre [[none, none, none, none, none, none, none, none, none, none, none, none, none, none, none, none, some 0]]
/-- pontage/rvar.SyncAll -/
noncomputable def L52 : SL := [(54, .byNew, s54)]
noncomputable def e52 : Env := ⟨ti, fun g => lookS g L52, 1000000, [.drop 0, .drop 4, .drop 5, .drop 6, .drop 7], []⟩
structure W52_0 where
  a0 : Int
  a1 : Int
  a2 : Int
  a3 : Int
  a4 : Int
  a5 : Int
  a6 : Int
  a7 : Int
  a8 : Bool
  a9 : Int
  a10 : Int
  a11 : Int
  a12 : Int
  a13 : Int
  a14 : Int
  a15 : Int
  a16 : Int
  a17 : Int
  a18 : Int
  a19 : Int
  a20 : Int
  a21 : Int
  a22 : Int
  a23 : Int
  a24 : Bool
  a25 : Int
  a26 : Int
  a27 : Int
  a28 : Int
  a29 : Int
  a30 : Int
  a31 : Int
  a32 : Int
  a33 : Int
  a34 : List S0
def hd52_0 (v : W52_0) : St := ⟨[.top, .c (.ptr 0 0), .c (.ptr 1 0), .top, .top, .top, .top, .top, .c (.int .i64 v.a0), .c (.int .i64 v.a1), .top, .top, .top, .top, .top, .top, .top, .top, .top], [.cells [.int .u64 v.a2, .int .u8 v.a3, .int .u8 v.a4, .int .u8 v.a5, .int .u8 v.a6, .int .u8 v.a7, .bool v.a8, .int .u16 v.a9, .int .u64 v.a10, .int .u32 v.a11, .int .u64 v.a12, .int .u16 v.a13, .int .u8 v.a14, .int .u8 v.a15, .int .u8 v.a16, .int .u8 v.a17, .slw 2], .cells [.int .u64 v.a18, .int .u8 v.a19, .int .u8 v.a20, .int .u8 v.a21, .int .u8 v.a22, .int .u8 v.a23, .bool v.a24, .int .u16 v.a25, .int .u64 v.a26, .int .u32 v.a27, .int .u64 v.a28, .int .u16 v.a29, .int .u8 v.a30, .int .u8 v.a31, .int .u8 v.a32, .int .u8 v.a33, .nils], .row 0 v.a34]⟩
def gR52_0 (v : W52_0) : Tr (W52_0 ⊕ (Bool × W52_0)) :=
  .br (decide (v.a1 < v.a0)) (
   .br (decide (0 ≤ v.a1) && decide (v.a1 < (v.a34.length : Int))) (
    .opt (v.a34[(Int.toNat v.a1)]?) fun y6 =>
     .leaf (.inl ({ v with a1 := (IntKind.i64.wrap (v.a1 + 1)), a34 := (List.set v.a34 (Int.toNat v.a1) { y6 with f24 := true }) }))) (
    .fail)) (
   .leaf (.inr (false, v)))
noncomputable def lb52_0 : Code := match findB 0 (Go.Proofs.Try.f52.body.getD .skip) with | [.loop b] => b | _ => .skip
def pa52_0 : List PA := [.any, .c (.ptr 0 0), .c (.ptr 1 0), .top, .any, .any, .any, .any, .c (.int .i64), .c (.int .i64), .top, .top, .top, .top, .top, .top, .top, .top, .top]
def pb52_0 : List PB := [.cells [.int .u64, .int .u8, .int .u8, .int .u8, .int .u8, .int .u8, .bool, .int .u16, .int .u64, .int .u32, .int .u64, .int .u16, .int .u8, .int .u8, .int .u8, .int .u8, .slw 2], .cells [.int .u64, .int .u8, .int .u8, .int .u8, .int .u8, .int .u8, .bool, .int .u16, .int .u64, .int .u32, .int .u64, .int .u16, .int .u8, .int .u8, .int .u8, .int .u8, .nils], .row 0]
def ini52_0 (s : St) : W52_0 := ⟨iC (aC (s.tmps.getD 8 .top)), iC (aC (s.tmps.getD 9 .top)), iC ((bL (s.heap.getD 0 .dead)).getD 0 .top), iC ((bL (s.heap.getD 0 .dead)).getD 1 .top), iC ((bL (s.heap.getD 0 .dead)).getD 2 .top), iC ((bL (s.heap.getD 0 .dead)).getD 3 .top), iC ((bL (s.heap.getD 0 .dead)).getD 4 .top), iC ((bL (s.heap.getD 0 .dead)).getD 5 .top), bC ((bL (s.heap.getD 0 .dead)).getD 6 .top), iC ((bL (s.heap.getD 0 .dead)).getD 7 .top), iC ((bL (s.heap.getD 0 .dead)).getD 8 .top), iC ((bL (s.heap.getD 0 .dead)).getD 9 .top), iC ((bL (s.heap.getD 0 .dead)).getD 10 .top), iC ((bL (s.heap.getD 0 .dead)).getD 11 .top), iC ((bL (s.heap.getD 0 .dead)).getD 12 .top), iC ((bL (s.heap.getD 0 .dead)).getD 13 .top), iC ((bL (s.heap.getD 0 .dead)).getD 14 .top), iC ((bL (s.heap.getD 0 .dead)).getD 15 .top), iC ((bL (s.heap.getD 1 .dead)).getD 0 .top), iC ((bL (s.heap.getD 1 .dead)).getD 1 .top), iC ((bL (s.heap.getD 1 .dead)).getD 2 .top), iC ((bL (s.heap.getD 1 .dead)).getD 3 .top), iC ((bL (s.heap.getD 1 .dead)).getD 4 .top), iC ((bL (s.heap.getD 1 .dead)).getD 5 .top), bC ((bL (s.heap.getD 1 .dead)).getD 6 .top), iC ((bL (s.heap.getD 1 .dead)).getD 7 .top), iC ((bL (s.heap.getD 1 .dead)).getD 8 .top), iC ((bL (s.heap.getD 1 .dead)).getD 9 .top), iC ((bL (s.heap.getD 1 .dead)).getD 10 .top), iC ((bL (s.heap.getD 1 .dead)).getD 11 .top), iC ((bL (s.heap.getD 1 .dead)).getD 12 .top), iC ((bL (s.heap.getD 1 .dead)).getD 13 .top), iC ((bL (s.heap.getD 1 .dead)).getD 14 .top), iC ((bL (s.heap.getD 1 .dead)).getD 15 .top), bR 0 (s.heap.getD 2 .dead)⟩
noncomputable def F52_0 : St → Res (Ex × St) := loopF pa52_0 pb52_0 1000000 hd52_0 gR52_0 ini52_0 false
theorem F52_0_ok (s : St) (r : Ex × St) (h : (F52_0 s).eval = some r) : (codeR e52 0 (.block 0 (.loop lb52_0)) s).eval = some r :=
  blk_ok (e := e52) (T := lookT []) (fun s v => by kernel_rfl) (fun s => by kernel_rfl) (tab_nil) s r h
def g52T (x0 : S6) : Tr (S6) :=
  .opt (g54 x0) fun z5 =>
   .opt (iter gR52_0 1000000 (W52_0.mk ((z5.f16.length : Int)) (0) (z5.f0) (z5.f1) (z5.f2) (z5.f3) (z5.f4) (z5.f5) (z5.f6) (z5.f7) (z5.f8) (z5.f9) (z5.f10) (z5.f11) (z5.f12) (z5.f13) (z5.f14) (z5.f15) (0) (0) (0) (0) (0) (0) (false) (0) (0) (0) (0) (0) (0) (0) (0) (0) (z5.f16))) fun r7 =>
    .br r7.1 (
     .fail) (
     .leaf ((S6.mk r7.2.a2 r7.2.a3 r7.2.a4 r7.2.a5 r7.2.a6 r7.2.a7 r7.2.a8 r7.2.a9 r7.2.a10 r7.2.a11 r7.2.a12 r7.2.a13 r7.2.a14 r7.2.a15 r7.2.a16 r7.2.a17 r7.2.a34)))
def g52 (x0 : S6) : Option (S6) := (g52T x0).get?
noncomputable def T52 : TL := [(0, F52_0)]
noncomputable def q52 : Ab.Spec := frzR [[none, none, none, none, none, none, none, none, none, none, none, none, none, none, none, none, some 0]] (runQ0 e52 (lookT T52) Go.Proofs.Try.f52)
theorem q52_ok : SpecOk Go.Proofs.Try.prog 52 q52 := (runQ0_ok (runR_ok (e := e52) follows (allTI ti_ok _ _ _ _) (callsOk_cons s54_ok (callsOk_nil)) Go.Proofs.Try.func52 Go.Proofs.Try.call52) (fun c hc => by
  have hb : c = Go.Proofs.Try.f52.body.getD .skip := by rw [hc]; rfl
  subst hb
  exact tab_cons (by kernel_rfl) F52_0_ok (tab_nil))).froze [[none, none, none, none, none, none, none, none, none, none, none, none, none, none, none, none, some 0]]
theorem g52_run (x0 : S6) : (q52 [.agg (Cod.enc 6 x0)] []).eval = (g52T x0).ev fun r => ((.agg (Cod.enc 6 r) : AV), ([] : List Blk)) := by kernel_rfl
noncomputable def s52_0 : Ab.Spec := fun args h =>
  dN h <| dL args fun v0 a0 => dG v0 fun l0 => dE 6 l0 fun x0 => dN a0 <|
  .opt (g52 x0) fun r => .val (.agg (Cod.enc 6 r), [])
theorem s52_0_ok : SpecOk Go.Proofs.Try.prog 52 s52_0 :=
  q52_ok.less fun args hs r h => by
    unfold s52_0 at h
    obtain ⟨rfl, hh1⟩ := dN_inv h
    obtain ⟨v0, a0, rfl, hh2⟩ := dL_inv hh1
    obtain ⟨l0, rfl, hh3⟩ := dG_inv hh2
    obtain ⟨x0, rfl, hh4⟩ := dE_inv hh3
    obtain ⟨rfl, hh5⟩ := dN_inv hh4
    rw [g52_run, Tr.ev_get?]
    change (Res.opt (g52 x0) _).eval = some r at hh5
    rw [eval_opt] at hh5
    obtain ⟨z, hz, hh6⟩ := Option.bind_eq_some_iff.mp hh5
    unfold g52 at hz
    rw [hz]; exact hh6
noncomputable def s52 : Ab.Spec := fun args h => s52_0 (coeA [[none, none, none, none, none, none, none, none, none, none, none, none, none, none, none, none, some 0]] args) h
theorem s52_ok : SpecOk Go.Proofs.Try.prog 52 s52 := s52_0_ok.pre [[none, none, none, none, none, none, none, none, none, none, none, none, none, none, none, none, some 0]]
/-- (*pontage/prt.work).all -/
noncomputable def L41 : SL := [(25, .byHeap, s25), (45, .byNew, s45), (17, .byHeap, s17), (18, .byHeap, s18), (19, .byHeap, s19), (36, .byHeap, s36), (37, .byHeap, s37), (20, .byHeap, s20), (38, .byHeap, s38), (22, .byHeap, s22), (44, .byVal, s44), (43, .byHeap, s43), (23, .byHeap, s23), (42, .byNew, s42), (52, .byNew, s52)]
noncomputable def e41 : Env := ⟨ti, fun g => lookS g L41, 1000000, [], []⟩
noncomputable def s41 : Ab.Spec := runR e41 Go.Proofs.Try.f41
theorem s41_ok : SpecOk Go.Proofs.Try.prog 41 s41 := runR_ok (e := e41) follows (allTI ti_ok _ _ _ _) (callsOk_cons s25_ok (callsOk_cons s45_ok (callsOk_cons s17_ok (callsOk_cons s18_ok (callsOk_cons s19_ok (callsOk_cons s36_ok (callsOk_cons s37_ok (callsOk_cons s20_ok (callsOk_cons s38_ok (callsOk_cons s22_ok (callsOk_cons s44_ok (callsOk_cons s43_ok (callsOk_cons s23_ok (callsOk_cons s42_ok (callsOk_cons s52_ok (callsOk_nil)))))))))))))))) Go.Proofs.Try.func41 Go.Proofs.Try.call41
/-- pontage/rvar.AllSynced -/
noncomputable def L53 : SL := []
noncomputable def e53 : Env := ⟨ti, fun g => lookS g L53, 1000000, [.drop 0, .drop 2, .drop 3, .drop 7], []⟩
structure W53_0 where
  a0 : Int
  a1 : Bool
  a2 : List S0
  a3 : Int
  a4 : Int
def hd53_0 (v : W53_0) : St := ⟨[.top, .c (.int .i64 v.a0), .top, .top, .c (.bool v.a1), .top, .top, .top, .c (.rs 0 v.a2), .c (.int .i64 v.a3), .c (.int .i64 v.a4), .top, .top, .top, .top, .top, .top, .top, .top, .top, .top, .top, .top, .top, .top, .top, .top, .top, .top, .top, .top, .top, .top, .top, .top, .top, .top, .top, .top, .top, .top, .top, .top], []⟩
def gR53_0 (v : W53_0) : Tr (W53_0 ⊕ (Bool × W53_0)) :=
  .br (decide (v.a4 < v.a3)) (
   .br (decide (0 ≤ v.a4)) (
    .opt (v.a2[Int.toNat v.a4]?) fun y8 =>
     .br (bif (bif (!y8.f22) then true else y8.f28) then true else (y8.f30 != y8.f31)) (
      .leaf (.inr (true, { v with a1 := false }))) (
      .br (bif (bif (v.a4 != v.a0) then (!y8.f25) else false) then (y8.f30 != 3) else false) (
       .leaf (.inr (true, { v with a1 := false }))) (
       .leaf (.inl ({ v with a4 := (IntKind.i64.wrap (v.a4 + 1)) }))))) (
    .fail)) (
   .leaf (.inr (false, v)))
noncomputable def lb53_0 : Code := match findB 0 (Go.Proofs.Try.f53.body.getD .skip) with | [.loop b] => b | _ => .skip
def pa53_0 : List PA := [.any, .c (.int .i64), .any, .any, .c (.bool), .top, .top, .any, .c (.rs 0), .c (.int .i64), .c (.int .i64), .top, .top, .top, .top, .top, .top, .top, .top, .top, .top, .top, .top, .top, .top, .top, .top, .top, .top, .top, .top, .top, .top, .top, .top, .top, .top, .top, .top, .top, .top, .top, .top]
def pb53_0 : List PB := [.cells [.int .u64, .int .u8, .int .u8, .int .u8, .int .u8, .int .u8, .bool, .int .u16, .int .u64, .int .u32, .int .u64, .int .u16, .int .u8, .int .u8, .int .u8, .int .u8, .rs 0]]
def ini53_0 (s : St) : W53_0 := ⟨iC (aC (s.tmps.getD 1 .top)), bC (aC (s.tmps.getD 4 .top)), rC 0 (aC (s.tmps.getD 8 .top)), iC (aC (s.tmps.getD 9 .top)), iC (aC (s.tmps.getD 10 .top))⟩
noncomputable def F53_0 : St → Res (Ex × St) := loopF pa53_0 pb53_0 1000000 hd53_0 gR53_0 ini53_0 true
theorem F53_0_ok (s : St) (r : Ex × St) (h : (F53_0 s).eval = some r) : (codeR e53 0 (.block 0 (.loop lb53_0)) s).eval = some r :=
  blk_ok (e := e53) (T := lookT []) (fun s v => by kernel_rfl) (fun s => by kernel_rfl) (tab_nil) s r h
def g53T (x0 : S6) (x1 : Int) : Tr (Bool) :=
  .opt (iter gR53_0 1000000 (W53_0.mk (x1) (false) (x0.f16) ((x0.f16.length : Int)) (0))) fun r9 =>
   .br r9.1 (
    .leaf (r9.2.a1)) (
    .leaf (true))
def g53 (x0 : S6) (x1 : Int) : Option (Bool) := (g53T x0 x1).get?
noncomputable def T53 : TL := [(0, F53_0)]
noncomputable def q53 : Ab.Spec := runQ0 e53 (lookT T53) Go.Proofs.Try.f53
theorem q53_ok : SpecOk Go.Proofs.Try.prog 53 q53 := (runQ0_ok (runR_ok (e := e53) follows (allTI ti_ok _ _ _ _) (callsOk_nil) Go.Proofs.Try.func53 Go.Proofs.Try.call53) (fun c hc => by
  have hb : c = Go.Proofs.Try.f53.body.getD .skip := by rw [hc]; rfl
  subst hb
  exact tab_cons (by kernel_rfl) F53_0_ok (tab_nil)))
theorem g53_run (x0 : S6) (x1 : Int) : (q53 [.agg (Cod.enc 6 x0), .c (.int .i64 x1)] []).eval = (g53T x0 x1).ev fun r => ((.c (.bool r) : AV), ([] : List Blk)) := by kernel_rfl
noncomputable def s53_0 : Ab.Spec := fun args h =>
  dN h <| dL args fun v0 a0 => dG v0 fun l0 => dE 6 l0 fun x0 => dL a0 fun v1 a1 => dC v1 fun c0 => dI .i64 c0 fun x1 => dN a1 <|
  .opt (g53 x0 x1) fun r => .val (.c (.bool r), [])
theorem s53_0_ok : SpecOk Go.Proofs.Try.prog 53 s53_0 :=
  q53_ok.less fun args hs r h => by
    unfold s53_0 at h
    obtain ⟨rfl, hh1⟩ := dN_inv h
    obtain ⟨v0, a0, rfl, hh2⟩ := dL_inv hh1
    obtain ⟨l0, rfl, hh3⟩ := dG_inv hh2
    obtain ⟨x0, rfl, hh4⟩ := dE_inv hh3
    obtain ⟨v1, a1, rfl, hh5⟩ := dL_inv hh4
    obtain ⟨c0, rfl, hh6⟩ := dC_inv hh5
    obtain ⟨x1, rfl, hh7⟩ := dI_inv hh6
    obtain ⟨rfl, hh8⟩ := dN_inv hh7
    rw [g53_run, Tr.ev_get?]
    change (Res.opt (g53 x0 x1) _).eval = some r at hh8
    rw [eval_opt] at hh8
    obtain ⟨z, hz, hh9⟩ := Option.bind_eq_some_iff.mp hh8
    unfold g53 at hz
    rw [hz]; exact hh9
noncomputable def s53 : Ab.Spec := fun args h => s53_0 (coeA [[none, none, none, none, none, none, none, none, none, none, none, none, none, none, none, none, some 0], []] args) h
theorem s53_ok : SpecOk Go.Proofs.Try.prog 53 s53 := s53_0_ok.pre [[none, none, none, none, none, none, none, none, none, none, none, none, none, none, none, none, some 0], []]
/-- (*pontage/prt.work).agree -/
noncomputable def L39 : SL := [(41, .byHeap, s41), (25, .byHeap, s25), (45, .byNew, s45), (17, .byHeap, s17), (18, .byHeap, s18), (19, .byHeap, s19), (36, .byHeap, s36), (37, .byHeap, s37), (20, .byHeap, s20), (38, .byHeap, s38), (22, .byHeap, s22), (44, .byVal, s44), (43, .byHeap, s43), (23, .byHeap, s23), (42, .byNew, s42), (52, .byNew, s52), (53, .byVal, s53)]
noncomputable def e39 : Env := ⟨ti, fun g => lookS g L39, 1000000, [], []⟩
noncomputable def s39 : Ab.Spec := runR e39 Go.Proofs.Try.f39
theorem s39_ok : SpecOk Go.Proofs.Try.prog 39 s39 := runR_ok (e := e39) follows (allTI ti_ok _ _ _ _) (callsOk_cons s41_ok (callsOk_cons s25_ok (callsOk_cons s45_ok (callsOk_cons s17_ok (callsOk_cons s18_ok (callsOk_cons s19_ok (callsOk_cons s36_ok (callsOk_cons s37_ok (callsOk_cons s20_ok (callsOk_cons s38_ok (callsOk_cons s22_ok (callsOk_cons s44_ok (callsOk_cons s43_ok (callsOk_cons s23_ok (callsOk_cons s42_ok (callsOk_cons s52_ok (callsOk_cons s53_ok (callsOk_nil)))))))))))))))))) Go.Proofs.Try.func39 Go.Proofs.Try.call39
/-- pontage/rvar.ReRooted -/
noncomputable def L40 : SL := []
noncomputable def e40 : Env := ⟨ti, fun g => lookS g L40, 1000000, [.drop 0, .drop 2, .drop 3, .drop 7], []⟩
structure W40_0 where
  a0 : Int
  a1 : Bool
  a2 : List S0
  a3 : Int
  a4 : Int
def hd40_0 (v : W40_0) : St := ⟨[.top, .c (.int .i64 v.a0), .top, .top, .c (.bool v.a1), .top, .top, .top, .c (.rs 0 v.a2), .c (.int .i64 v.a3), .c (.int .i64 v.a4), .top, .top, .top, .top, .top, .top, .top, .top, .top, .top, .top, .top, .top], []⟩
def gR40_0 (v : W40_0) : Tr (W40_0 ⊕ (Bool × W40_0)) :=
  .br (decide (v.a4 < v.a3)) (
   .br (decide (0 ≤ v.a4)) (
    .opt (v.a2[Int.toNat v.a4]?) fun y10 =>
     .br (bif (v.a4 != v.a0) then (y10.f70 != 0) else false) (
      .leaf (.inr (true, { v with a1 := false }))) (
      .leaf (.inl ({ v with a4 := (IntKind.i64.wrap (v.a4 + 1)) })))) (
    .fail)) (
   .leaf (.inr (false, v)))
noncomputable def lb40_0 : Code := match findB 0 (Go.Proofs.Try.f40.body.getD .skip) with | [.loop b] => b | _ => .skip
def pa40_0 : List PA := [.any, .c (.int .i64), .any, .any, .c (.bool), .top, .top, .any, .c (.rs 0), .c (.int .i64), .c (.int .i64), .top, .top, .top, .top, .top, .top, .top, .top, .top, .top, .top, .top, .top]
def pb40_0 : List PB := [.cells [.int .u64, .int .u8, .int .u8, .int .u8, .int .u8, .int .u8, .bool, .int .u16, .int .u64, .int .u32, .int .u64, .int .u16, .int .u8, .int .u8, .int .u8, .int .u8, .rs 0]]
def ini40_0 (s : St) : W40_0 := ⟨iC (aC (s.tmps.getD 1 .top)), bC (aC (s.tmps.getD 4 .top)), rC 0 (aC (s.tmps.getD 8 .top)), iC (aC (s.tmps.getD 9 .top)), iC (aC (s.tmps.getD 10 .top))⟩
noncomputable def F40_0 : St → Res (Ex × St) := loopF pa40_0 pb40_0 1000000 hd40_0 gR40_0 ini40_0 true
theorem F40_0_ok (s : St) (r : Ex × St) (h : (F40_0 s).eval = some r) : (codeR e40 0 (.block 0 (.loop lb40_0)) s).eval = some r :=
  blk_ok (e := e40) (T := lookT []) (fun s v => by kernel_rfl) (fun s => by kernel_rfl) (tab_nil) s r h
def g40T (x0 : S6) (x1 : Int) : Tr (Bool) :=
  .opt (iter gR40_0 1000000 (W40_0.mk (x1) (false) (x0.f16) ((x0.f16.length : Int)) (0))) fun r11 =>
   .br r11.1 (
    .leaf (r11.2.a1)) (
    .leaf (true))
def g40 (x0 : S6) (x1 : Int) : Option (Bool) := (g40T x0 x1).get?
noncomputable def T40 : TL := [(0, F40_0)]
noncomputable def q40 : Ab.Spec := runQ0 e40 (lookT T40) Go.Proofs.Try.f40
theorem q40_ok : SpecOk Go.Proofs.Try.prog 40 q40 := (runQ0_ok (runR_ok (e := e40) follows (allTI ti_ok _ _ _ _) (callsOk_nil) Go.Proofs.Try.func40 Go.Proofs.Try.call40) (fun c hc => by
  have hb : c = Go.Proofs.Try.f40.body.getD .skip := by rw [hc]; rfl
  subst hb
  exact tab_cons (by kernel_rfl) F40_0_ok (tab_nil)))
theorem g40_run (x0 : S6) (x1 : Int) : (q40 [.agg (Cod.enc 6 x0), .c (.int .i64 x1)] []).eval = (g40T x0 x1).ev fun r => ((.c (.bool r) : AV), ([] : List Blk)) := by kernel_rfl
noncomputable def s40_0 : Ab.Spec := fun args h =>
  dN h <| dL args fun v0 a0 => dG v0 fun l0 => dE 6 l0 fun x0 => dL a0 fun v1 a1 => dC v1 fun c0 => dI .i64 c0 fun x1 => dN a1 <|
  .opt (g40 x0 x1) fun r => .val (.c (.bool r), [])
theorem s40_0_ok : SpecOk Go.Proofs.Try.prog 40 s40_0 :=
  q40_ok.less fun args hs r h => by
    unfold s40_0 at h
    obtain ⟨rfl, hh1⟩ := dN_inv h
    obtain ⟨v0, a0, rfl, hh2⟩ := dL_inv hh1
    obtain ⟨l0, rfl, hh3⟩ := dG_inv hh2
    obtain ⟨x0, rfl, hh4⟩ := dE_inv hh3
    obtain ⟨v1, a1, rfl, hh5⟩ := dL_inv hh4
    obtain ⟨c0, rfl, hh6⟩ := dC_inv hh5
    obtain ⟨x1, rfl, hh7⟩ := dI_inv hh6
    obtain ⟨rfl, hh8⟩ := dN_inv hh7
    rw [g40_run, Tr.ev_get?]
    change (Res.opt (g40 x0 x1) _).eval = some r at hh8
    rw [eval_opt] at hh8
    obtain ⟨z, hz, hh9⟩ := Option.bind_eq_some_iff.mp hh8
    unfold g40 at hz
    rw [hz]; exact hh9
noncomputable def s40 : Ab.Spec := fun args h => s40_0 (coeA [[none, none, none, none, none, none, none, none, none, none, none, none, none, none, none, none, some 0], []] args) h
theorem s40_ok : SpecOk Go.Proofs.Try.prog 40 s40 := s40_0_ok.pre [[none, none, none, none, none, none, none, none, none, none, none, none, none, none, none, none, some 0], []]
/-- (*pontage/prt.work).root -/
noncomputable def L21 : SL := [(39, .byHeap, s39), (41, .byHeap, s41), (25, .byHeap, s25), (45, .byNew, s45), (17, .byHeap, s17), (18, .byHeap, s18), (19, .byHeap, s19), (36, .byHeap, s36), (37, .byHeap, s37), (20, .byHeap, s20), (38, .byHeap, s38), (22, .byHeap, s22), (44, .byVal, s44), (43, .byHeap, s43), (23, .byHeap, s23), (42, .byNew, s42), (52, .byNew, s52), (53, .byVal, s53), (40, .byVal, s40)]
noncomputable def e21 : Env := ⟨ti, fun g => lookS g L21, 1000000, [], []⟩
noncomputable def s21 : Ab.Spec := runR e21 Go.Proofs.Try.f21
theorem s21_ok : SpecOk Go.Proofs.Try.prog 21 s21 := runR_ok (e := e21) follows (allTI ti_ok _ _ _ _) (callsOk_cons s39_ok (callsOk_cons s41_ok (callsOk_cons s25_ok (callsOk_cons s45_ok (callsOk_cons s17_ok (callsOk_cons s18_ok (callsOk_cons s19_ok (callsOk_cons s36_ok (callsOk_cons s37_ok (callsOk_cons s20_ok (callsOk_cons s38_ok (callsOk_cons s22_ok (callsOk_cons s44_ok (callsOk_cons s43_ok (callsOk_cons s23_ok (callsOk_cons s42_ok (callsOk_cons s52_ok (callsOk_cons s53_ok (callsOk_cons s40_ok (callsOk_nil)))))))))))))))))))) Go.Proofs.Try.func21 Go.Proofs.Try.call21
/-- (*pontage/prt.work).alternate -/
noncomputable def L24 : SL := [(39, .byHeap, s39), (41, .byHeap, s41), (25, .byHeap, s25), (45, .byNew, s45), (17, .byHeap, s17), (18, .byHeap, s18), (19, .byHeap, s19), (36, .byHeap, s36), (37, .byHeap, s37), (20, .byHeap, s20), (38, .byHeap, s38), (22, .byHeap, s22), (44, .byVal, s44), (43, .byHeap, s43), (23, .byHeap, s23), (42, .byNew, s42), (52, .byNew, s52), (53, .byVal, s53)]
noncomputable def e24 : Env := ⟨ti, fun g => lookS g L24, 1000000, [], []⟩
noncomputable def s24 : Ab.Spec := runR e24 Go.Proofs.Try.f24
theorem s24_ok : SpecOk Go.Proofs.Try.prog 24 s24 := runR_ok (e := e24) follows (allTI ti_ok _ _ _ _) (callsOk_cons s39_ok (callsOk_cons s41_ok (callsOk_cons s25_ok (callsOk_cons s45_ok (callsOk_cons s17_ok (callsOk_cons s18_ok (callsOk_cons s19_ok (callsOk_cons s36_ok (callsOk_cons s37_ok (callsOk_cons s20_ok (callsOk_cons s38_ok (callsOk_cons s22_ok (callsOk_cons s44_ok (callsOk_cons s43_ok (callsOk_cons s23_ok (callsOk_cons s42_ok (callsOk_cons s52_ok (callsOk_cons s53_ok (callsOk_nil))))))))))))))))))) Go.Proofs.Try.func24 Go.Proofs.Try.call24
/-- pontage/prt.Step -/
noncomputable def L9 : SL := [(16, .byHeap, s16), (17, .byHeap, s17), (18, .byHeap, s18), (19, .byHeap, s19), (36, .byHeap, s36), (37, .byHeap, s37), (20, .byHeap, s20), (38, .byHeap, s38), (21, .byHeap, s21), (39, .byHeap, s39), (41, .byHeap, s41), (25, .byHeap, s25), (45, .byNew, s45), (22, .byHeap, s22), (44, .byVal, s44), (43, .byHeap, s43), (23, .byHeap, s23), (42, .byNew, s42), (52, .byNew, s52), (53, .byVal, s53), (40, .byVal, s40), (24, .byHeap, s24)]
noncomputable def e9 : Env := ⟨ti, fun g => lookS g L9, 1000000, [.drop 0, .drop 1, .drop 3, .drop 9, .drop 10, .drop 11, .drop 12, .drop 13, .drop 14, .drop 15, .drop 16, .drop 17, .drop 18, .drop 19, .drop 20, .drop 21], []⟩
def g9T (x0 : S6) (x1 : Int) : Tr (S6 × Bool) :=
  .br (bif (decide (x1 < 0)) then true else (decide (x1 ≥ (x0.f16.length : Int)))) (
   .leaf (x0, false)) (
   .br (decide (0 ≤ x1)) (
    .opt (x0.f16[Int.toNat x1]?) fun y12 =>
     .br (bif (decide (y12.f73 < 1)) then true else (decide (y12.f73 > 6))) (
      .br (x0.f16.isEmpty || cloneB 0 248 x0.f16) (
       .br (decide (0 ≤ x1) && decide (x1 < (x0.f16.length : Int))) (
        .opt (x0.f16[(Int.toNat x1)]?) fun y14 =>
         .leaf ({ x0 with f16 := (List.set x0.f16 (Int.toNat x1) { y12 with f7 := false, f9 := false, f20 := true, f24 := true, f25 := false, f30 := 0, f65 := y12.f41, f68 := 0, f70 := y12.f43, f73 := 1 }) }, true)) (
        .fail)) (
       .fail)) (
      .br (bif (!y12.f22) then true else y12.f28) (
       .leaf (x0, false)) (
       .br (y12.f31 != y12.f30) (
        .br (y12.f31 == 3) (
         .br (x0.f16.isEmpty || cloneB 0 248 x0.f16) (
          .br (decide (0 ≤ x1) && decide (x1 < (x0.f16.length : Int))) (
           .opt (x0.f16[(Int.toNat x1)]?) fun y16 =>
            .leaf ({ x0 with f16 := (List.set x0.f16 (Int.toNat x1) { y12 with f30 := y12.f31, f70 := y12.f43, f73 := 3 }) }, true)) (
           .fail)) (
          .fail)) (
         .br (y12.f31 == 4) (
          .br (x0.f16.isEmpty || cloneB 0 248 x0.f16) (
           .br (decide (0 ≤ x1) && decide (x1 < (x0.f16.length : Int))) (
            .opt (x0.f16[(Int.toNat x1)]?) fun y18 =>
             .leaf ({ x0 with f16 := (List.set x0.f16 (Int.toNat x1) { y12 with f30 := y12.f31, f73 := 4 }) }, true)) (
            .fail)) (
           .fail)) (
          .br (y12.f31 == 0) (
           .br (x0.f16.isEmpty || cloneB 0 248 x0.f16) (
            .br (decide (0 ≤ x1) && decide (x1 < (x0.f16.length : Int))) (
             .opt (x0.f16[(Int.toNat x1)]?) fun y20 =>
              .leaf ({ x0 with f16 := (List.set x0.f16 (Int.toNat x1) { y12 with f7 := false, f9 := false, f30 := y12.f31, f73 := 1 }) }, true)) (
             .fail)) (
            .fail)) (
           .br (x0.f16.isEmpty || cloneB 0 248 x0.f16) (
            .br (decide (0 ≤ x1) && decide (x1 < (x0.f16.length : Int))) (
             .opt (x0.f16[(Int.toNat x1)]?) fun y22 =>
              .leaf ({ x0 with f16 := (List.set x0.f16 (Int.toNat x1) { y12 with f7 := false, f9 := false, f30 := y12.f31, f73 := 5 }) }, true)) (
             .fail)) (
            .fail))))) (
        .br (y12.f73 == 1) (
         .br (bif (!y12.f10) then (!y12.f8) else false) (
          .br (x0.f16.isEmpty || cloneB 0 248 x0.f16) (
           .br (decide (0 ≤ x1) && decide (x1 < (x0.f16.length : Int))) (
            .opt (x0.f16[(Int.toNat x1)]?) fun y24 =>
             .leaf ({ x0 with f16 := (List.set x0.f16 (Int.toNat x1) { y12 with f20 := false, f24 := false, f25 := true, f65 := y12.f41, f70 := 0, f73 := 2 }) }, true)) (
            .fail)) (
           .fail)) (
          .leaf (x0, false))) (
         .br (y12.f73 == 2) (
          .br (!(bif (bif (bif (y12.f65 == y12.f41) then (!y12.f24) else false) then (!y12.f20) else false) then y12.f25 else false)) (
           .br (x0.f16.isEmpty || cloneB 0 248 x0.f16) (
            .br (decide (0 ≤ x1) && decide (x1 < (x0.f16.length : Int))) (
             .opt (x0.f16[(Int.toNat x1)]?) fun y26 =>
              .leaf ({ x0 with f16 := (List.set x0.f16 (Int.toNat x1) { y12 with f20 := false, f24 := false, f25 := true, f65 := y12.f41, f70 := 0, f73 := 2 }) }, true)) (
             .fail)) (
            .fail)) (
           .leaf (x0, false))) (
          .br (y12.f73 == 3) (
           .br (bif y12.f12 then (!y12.f3) else false) (
            .br (x0.f16.isEmpty || cloneB 0 248 x0.f16) (
             .br (decide (0 ≤ x1) && decide (x1 < (x0.f16.length : Int))) (
              .opt (x0.f16[(Int.toNat x1)]?) fun y28 =>
               .opt (g52 { x0 with f16 := (List.set x0.f16 (Int.toNat x1) { y12 with f12 := false }) }) fun z29 =>
                .br (decide (0 ≤ x1)) (
                 .opt (z29.f16[Int.toNat x1]?) fun y30 =>
                  .br (z29.f16.isEmpty || cloneB 0 248 z29.f16) (
                   .br (decide (0 ≤ x1) && decide (x1 < (z29.f16.length : Int))) (
                    .opt (z29.f16[(Int.toNat x1)]?) fun y45 =>
                     .leaf ({ z29 with f16 := (List.set z29.f16 (Int.toNat x1) y30) }, true)) (
                    .fail)) (
                   .fail)) (
                 .fail)) (
              .fail)) (
             .fail)) (
            .opt (g53 x0 x1) fun z31 =>
             .br (bif (bif z31 then (!y12.f3) else false) then true else (bif y12.f12 then y12.f3 else false)) (
              .br (y12.f73 == 3) (
               .br (x0.f16.isEmpty || cloneB 0 248 x0.f16) (
                .br (decide (0 ≤ x1) && decide (x1 < (x0.f16.length : Int))) (
                 .opt (x0.f16[(Int.toNat x1)]?) fun y47 =>
                  .leaf ({ x0 with f16 := (List.set x0.f16 (Int.toNat x1) { y12 with f3 := true, f11 := true, f12 := false, f24 := false }) }, true)) (
                 .fail)) (
                .fail)) (
               .br (x0.f16.isEmpty || cloneB 0 248 x0.f16) (
                .br (decide (0 ≤ x1) && decide (x1 < (x0.f16.length : Int))) (
                 .opt (x0.f16[(Int.toNat x1)]?) fun y49 =>
                  .leaf ({ x0 with f16 := (List.set x0.f16 (Int.toNat x1) { y12 with f3 := true, f11 := true, f12 := false }) }, true)) (
                 .fail)) (
                .fail))) (
              .br (!(y12.f65 == 0)) (
               .opt (g40 x0 x1) fun z33 =>
                .br (bif (!y12.f7) then (!y12.f20) else false) (
                 .br (x0.f16.isEmpty || cloneB 0 248 x0.f16) (
                  .br (decide (0 ≤ x1) && decide (x1 < (x0.f16.length : Int))) (
                   .opt (x0.f16[(Int.toNat x1)]?) fun y35 =>
                    .opt (g42 { x0 with f16 := (List.set x0.f16 (Int.toNat x1) y12) }) fun z36 =>
                     .br (decide (0 ≤ x1)) (
                      .opt (z36.f16[Int.toNat x1]?) fun y37 =>
                       .br (z36.f16.isEmpty || cloneB 0 248 z36.f16) (
                        .br (decide (0 ≤ x1) && decide (x1 < (z36.f16.length : Int))) (
                         .opt (z36.f16[(Int.toNat x1)]?) fun y51 =>
                          .leaf ({ z36 with f16 := (List.set z36.f16 (Int.toNat x1) y37) }, true)) (
                         .fail)) (
                        .fail)) (
                      .fail)) (
                   .fail)) (
                  .fail)) (
                 .br (bif y12.f20 then y12.f7 else false) (
                  .br (x0.f16.isEmpty || cloneB 0 248 x0.f16) (
                   .br (decide (0 ≤ x1) && decide (x1 < (x0.f16.length : Int))) (
                    .opt (x0.f16[(Int.toNat x1)]?) fun y53 =>
                     .leaf ({ x0 with f16 := (List.set x0.f16 (Int.toNat x1) { y12 with f20 := false }) }, true)) (
                    .fail)) (
                   .fail)) (
                  .br (bif (bif z33 then (y12.f68 == 0) else false) then (!y12.f9) else false) (
                   let z38 := g44 y12
                   .br (x0.f16.isEmpty || cloneB 0 248 x0.f16) (
                    .br (decide (0 ≤ x1) && decide (x1 < (x0.f16.length : Int))) (
                     .opt (x0.f16[(Int.toNat x1)]?) fun y55 =>
                      .leaf ({ x0 with f16 := (List.set x0.f16 (Int.toNat x1) { y12 with f9 := true, f65 := z38 }) }, true)) (
                     .fail)) (
                    .fail)) (
                   .br (bif (bif z33 then (y12.f68 == 0) else false) then (!y12.f7) else false) (
                    .br (x0.f16.isEmpty || cloneB 0 248 x0.f16) (
                     .br (decide (0 ≤ x1) && decide (x1 < (x0.f16.length : Int))) (
                      .opt (x0.f16[(Int.toNat x1)]?) fun y57 =>
                       .leaf ({ x0 with f16 := (List.set x0.f16 (Int.toNat x1) { y12 with f7 := true, f65 := 0 }) }, true)) (
                      .fail)) (
                     .fail)) (
                    .br (y12.f70 != y12.f43) (
                     .br (x0.f16.isEmpty || cloneB 0 248 x0.f16) (
                      .br (decide (0 ≤ x1) && decide (x1 < (x0.f16.length : Int))) (
                       .opt (x0.f16[(Int.toNat x1)]?) fun y59 =>
                        .leaf ({ x0 with f16 := (List.set x0.f16 (Int.toNat x1) { y12 with f70 := y12.f43 }) }, true)) (
                       .fail)) (
                      .fail)) (
                     .leaf (x0, false))))))) (
               .br (bif (!y12.f7) then (!y12.f20) else false) (
                .br (x0.f16.isEmpty || cloneB 0 248 x0.f16) (
                 .br (decide (0 ≤ x1) && decide (x1 < (x0.f16.length : Int))) (
                  .opt (x0.f16[(Int.toNat x1)]?) fun y40 =>
                   .opt (g42 { x0 with f16 := (List.set x0.f16 (Int.toNat x1) y12) }) fun z41 =>
                    .br (decide (0 ≤ x1)) (
                     .opt (z41.f16[Int.toNat x1]?) fun y42 =>
                      .br (z41.f16.isEmpty || cloneB 0 248 z41.f16) (
                       .br (decide (0 ≤ x1) && decide (x1 < (z41.f16.length : Int))) (
                        .opt (z41.f16[(Int.toNat x1)]?) fun y61 =>
                         .leaf ({ z41 with f16 := (List.set z41.f16 (Int.toNat x1) y42) }, true)) (
                        .fail)) (
                       .fail)) (
                     .fail)) (
                  .fail)) (
                 .fail)) (
                .br (bif y12.f20 then y12.f7 else false) (
                 .br (x0.f16.isEmpty || cloneB 0 248 x0.f16) (
                  .br (decide (0 ≤ x1) && decide (x1 < (x0.f16.length : Int))) (
                   .opt (x0.f16[(Int.toNat x1)]?) fun y63 =>
                    .leaf ({ x0 with f16 := (List.set x0.f16 (Int.toNat x1) { y12 with f20 := false }) }, true)) (
                   .fail)) (
                  .fail)) (
                 .br (!y12.f9) (
                  let z43 := g44 y12
                  .br (x0.f16.isEmpty || cloneB 0 248 x0.f16) (
                   .br (decide (0 ≤ x1) && decide (x1 < (x0.f16.length : Int))) (
                    .opt (x0.f16[(Int.toNat x1)]?) fun y65 =>
                     .leaf ({ x0 with f16 := (List.set x0.f16 (Int.toNat x1) { y12 with f9 := true, f65 := z43 }) }, true)) (
                    .fail)) (
                   .fail)) (
                  .br (!y12.f7) (
                   .br (x0.f16.isEmpty || cloneB 0 248 x0.f16) (
                    .br (decide (0 ≤ x1) && decide (x1 < (x0.f16.length : Int))) (
                     .opt (x0.f16[(Int.toNat x1)]?) fun y67 =>
                      .leaf ({ x0 with f16 := (List.set x0.f16 (Int.toNat x1) { y12 with f7 := true, f65 := 0 }) }, true)) (
                     .fail)) (
                    .fail)) (
                   .br (y12.f70 != y12.f43) (
                    .br (x0.f16.isEmpty || cloneB 0 248 x0.f16) (
                     .br (decide (0 ≤ x1) && decide (x1 < (x0.f16.length : Int))) (
                      .opt (x0.f16[(Int.toNat x1)]?) fun y69 =>
                       .leaf ({ x0 with f16 := (List.set x0.f16 (Int.toNat x1) { y12 with f70 := y12.f43 }) }, true)) (
                      .fail)) (
                     .fail)) (
                    .leaf (x0, false)))))))))) (
           .br (y12.f73 == 4) (
            .br (bif (bif (!y12.f7) then (!y12.f4) else false) then (!y12.f13) else false) (
             .br (x0.f16.isEmpty || cloneB 0 248 x0.f16) (
              .br (decide (0 ≤ x1) && decide (x1 < (x0.f16.length : Int))) (
               .opt (x0.f16[(Int.toNat x1)]?) fun y73 =>
                .leaf ({ x0 with f16 := (List.set x0.f16 (Int.toNat x1) { y12 with f11 := true, f13 := true }) }, true)) (
               .fail)) (
              .fail)) (
             .br (bif (bif (!y12.f10) then (!y12.f8) else false) then (!y12.f25) else false) (
              .br (x0.f16.isEmpty || cloneB 0 248 x0.f16) (
               .br (decide (0 ≤ x1) && decide (x1 < (x0.f16.length : Int))) (
                .opt (x0.f16[(Int.toNat x1)]?) fun y75 =>
                 .leaf ({ x0 with f16 := (List.set x0.f16 (Int.toNat x1) { y12 with f24 := false, f25 := true, f70 := 0 }) }, true)) (
                .fail)) (
               .fail)) (
              .br (bif y12.f4 then (!y12.f25) else false) (
               .br (x0.f16.isEmpty || cloneB 0 248 x0.f16) (
                .br (decide (0 ≤ x1) && decide (x1 < (x0.f16.length : Int))) (
                 .opt (x0.f16[(Int.toNat x1)]?) fun y77 =>
                  .leaf ({ x0 with f16 := (List.set x0.f16 (Int.toNat x1) { y12 with f24 := false, f25 := true, f70 := 0 }) }, true)) (
                 .fail)) (
                .fail)) (
               .br (bif y12.f24 then y12.f25 else false) (
                .br (x0.f16.isEmpty || cloneB 0 248 x0.f16) (
                 .br (decide (0 ≤ x1) && decide (x1 < (x0.f16.length : Int))) (
                  .opt (x0.f16[(Int.toNat x1)]?) fun y79 =>
                   .leaf ({ x0 with f16 := (List.set x0.f16 (Int.toNat x1) { y12 with f24 := false, f25 := true, f70 := 0 }) }, true)) (
                  .fail)) (
                 .fail)) (
                .br (bif (y12.f70 == 0) then y12.f20 else false) (
                 .br (x0.f16.isEmpty || cloneB 0 248 x0.f16) (
                  .br (decide (0 ≤ x1) && decide (x1 < (x0.f16.length : Int))) (
                   .opt (x0.f16[(Int.toNat x1)]?) fun y81 =>
                    .leaf ({ x0 with f16 := (List.set x0.f16 (Int.toNat x1) { y12 with f20 := false }) }, true)) (
                   .fail)) (
                  .fail)) (
                 .br (bif (bif (bif (bif y12.f24 then (!y12.f25) else false) then true else (bif y12.f20 then (y12.f70 != 0) else false)) then true else y12.f5) then (bif y12.f9 then true else y12.f7) else false) (
                  let z70 := g44 y12
                  .br (x0.f16.isEmpty || cloneB 0 248 x0.f16) (
                   .br (decide (0 ≤ x1) && decide (x1 < (x0.f16.length : Int))) (
                    .opt (x0.f16[(Int.toNat x1)]?) fun y83 =>
                     .leaf ({ x0 with f16 := (List.set x0.f16 (Int.toNat x1) { y12 with f5 := false, f7 := false, f9 := false, f65 := z70 }) }, true)) (
                    .fail)) (
                   .fail)) (
                  .br (bif (bif (bif (bif (y12.f65 == 0) then true else y12.f4) then (bif (y12.f70 == 0) then true else (!y12.f20)) else false) then (!y12.f24) else false) then (!y12.f9) else false) (
                   let z71 := g44 y12
                   .br (x0.f16.isEmpty || cloneB 0 248 x0.f16) (
                    .br (decide (0 ≤ x1) && decide (x1 < (x0.f16.length : Int))) (
                     .opt (x0.f16[(Int.toNat x1)]?) fun y85 =>
                      .leaf ({ x0 with f16 := (List.set x0.f16 (Int.toNat x1) { y12 with f9 := true, f65 := z71 }) }, true)) (
                     .fail)) (
                    .fail)) (
                   .br (bif (bif (bif (bif (y12.f65 == 0) then true else y12.f4) then (bif (y12.f70 == 0) then true else (!y12.f20)) else false) then (!y12.f24) else false) then (!y12.f7) else false) (
                    .br (x0.f16.isEmpty || cloneB 0 248 x0.f16) (
                     .br (decide (0 ≤ x1) && decide (x1 < (x0.f16.length : Int))) (
                      .opt (x0.f16[(Int.toNat x1)]?) fun y87 =>
                       .leaf ({ x0 with f16 := (List.set x0.f16 (Int.toNat x1) { y12 with f4 := y12.f23, f7 := true, f65 := 0 }) }, true)) (
                      .fail)) (
                     .fail)) (
                    .leaf (x0, false)))))))))) (
            .br (y12.f73 == 5) (
             .br (bif (!y12.f10) then (!y12.f8) else false) (
              .br (x0.f16.isEmpty || cloneB 0 248 x0.f16) (
               .br (decide (0 ≤ x1) && decide (x1 < (x0.f16.length : Int))) (
                .opt (x0.f16[(Int.toNat x1)]?) fun y89 =>
                 .leaf ({ x0 with f16 := (List.set x0.f16 (Int.toNat x1) { y12 with f20 := false, f24 := false, f25 := true, f65 := y12.f43, f70 := 0, f73 := 6 }) }, true)) (
                .fail)) (
               .fail)) (
              .leaf (x0, false))) (
             .br (bif y12.f12 then (!y12.f3) else false) (
              .br (x0.f16.isEmpty || cloneB 0 248 x0.f16) (
               .br (decide (0 ≤ x1) && decide (x1 < (x0.f16.length : Int))) (
                .opt (x0.f16[(Int.toNat x1)]?) fun y91 =>
                 .opt (g52 { x0 with f16 := (List.set x0.f16 (Int.toNat x1) { y12 with f12 := false }) }) fun z92 =>
                  .br (decide (0 ≤ x1)) (
                   .opt (z92.f16[Int.toNat x1]?) fun y93 =>
                    .br (z92.f16.isEmpty || cloneB 0 248 z92.f16) (
                     .br (decide (0 ≤ x1) && decide (x1 < (z92.f16.length : Int))) (
                      .opt (z92.f16[(Int.toNat x1)]?) fun y96 =>
                       .leaf ({ z92 with f16 := (List.set z92.f16 (Int.toNat x1) y93) }, true)) (
                      .fail)) (
                     .fail)) (
                   .fail)) (
                .fail)) (
               .fail)) (
              .opt (g53 x0 x1) fun z94 =>
               .br (bif (bif z94 then (!y12.f3) else false) then true else (bif y12.f12 then y12.f3 else false)) (
                .br (y12.f73 == 3) (
                 .br (x0.f16.isEmpty || cloneB 0 248 x0.f16) (
                  .br (decide (0 ≤ x1) && decide (x1 < (x0.f16.length : Int))) (
                   .opt (x0.f16[(Int.toNat x1)]?) fun y98 =>
                    .leaf ({ x0 with f16 := (List.set x0.f16 (Int.toNat x1) { y12 with f3 := true, f11 := true, f12 := false, f24 := false }) }, true)) (
                   .fail)) (
                  .fail)) (
                 .br (x0.f16.isEmpty || cloneB 0 248 x0.f16) (
                  .br (decide (0 ≤ x1) && decide (x1 < (x0.f16.length : Int))) (
                   .opt (x0.f16[(Int.toNat x1)]?) fun y100 =>
                    .leaf ({ x0 with f16 := (List.set x0.f16 (Int.toNat x1) { y12 with f3 := true, f11 := true, f12 := false }) }, true)) (
                   .fail)) (
                  .fail))) (
                .br (!(bif (bif (bif (y12.f65 == y12.f43) then (!y12.f24) else false) then (!y12.f20) else false) then y12.f25 else false)) (
                 .br (x0.f16.isEmpty || cloneB 0 248 x0.f16) (
                  .br (decide (0 ≤ x1) && decide (x1 < (x0.f16.length : Int))) (
                   .opt (x0.f16[(Int.toNat x1)]?) fun y102 =>
                    .leaf ({ x0 with f16 := (List.set x0.f16 (Int.toNat x1) { y12 with f20 := false, f24 := false, f25 := true, f65 := y12.f43, f70 := 0, f73 := 6 }) }, true)) (
                   .fail)) (
                  .fail)) (
                 .br (bif (y12.f30 == 2) then (y12.f68 != (IntKind.u8.wrap (mnI 255 (IntKind.i64.wrap (2 * (IntKind.i64.wrap y12.f42)))))) else false) (
                  .br (x0.f16.isEmpty || cloneB 0 248 x0.f16) (
                   .br (decide (0 ≤ x1) && decide (x1 < (x0.f16.length : Int))) (
                    .opt (x0.f16[(Int.toNat x1)]?) fun y104 =>
                     .leaf ({ x0 with f16 := (List.set x0.f16 (Int.toNat x1) { y12 with f68 := (IntKind.u8.wrap (mnI 255 (IntKind.i64.wrap (2 * (IntKind.i64.wrap y12.f42))))) }) }, true)) (
                    .fail)) (
                   .fail)) (
                  .leaf (x0, false)))))))))))))) (
    .fail))
def g9 (x0 : S6) (x1 : Int) : Option (S6 × Bool) := (g9T x0 x1).get?
noncomputable def T9 : TL := []
noncomputable def q9 : Ab.Spec := frzR [[none, none, none, none, none, none, none, none, none, none, none, none, none, none, none, none, some 0], []] (runQ0 e9 (lookT T9) Go.Proofs.Try.f9)
theorem q9_ok : SpecOk Go.Proofs.Try.prog 9 q9 := (runQ0_ok (runR_ok (e := e9) follows (allTI ti_ok _ _ _ _) (callsOk_cons s16_ok (callsOk_cons s17_ok (callsOk_cons s18_ok (callsOk_cons s19_ok (callsOk_cons s36_ok (callsOk_cons s37_ok (callsOk_cons s20_ok (callsOk_cons s38_ok (callsOk_cons s21_ok (callsOk_cons s39_ok (callsOk_cons s41_ok (callsOk_cons s25_ok (callsOk_cons s45_ok (callsOk_cons s22_ok (callsOk_cons s44_ok (callsOk_cons s43_ok (callsOk_cons s23_ok (callsOk_cons s42_ok (callsOk_cons s52_ok (callsOk_cons s53_ok (callsOk_cons s40_ok (callsOk_cons s24_ok (callsOk_nil))))))))))))))))))))))) Go.Proofs.Try.func9 Go.Proofs.Try.call9) (fun c hc => by
  have hb : c = Go.Proofs.Try.f9.body.getD .skip := by rw [hc]; rfl
  subst hb
  exact tab_nil)).froze [[none, none, none, none, none, none, none, none, none, none, none, none, none, none, none, none, some 0], []]
theorem g9_run (x0 : S6) (x1 : Int) : (q9 [.agg (Cod.enc 6 x0), .c (.int .i64 x1)] []).eval = (g9T x0 x1).ev fun r => ((.tup [some (true, Cod.enc 6 r.1), some (false, [.bool r.2])] : AV), ([] : List Blk)) := by kernel_rfl
noncomputable def s9_0 : Ab.Spec := fun args h =>
  dN h <| dL args fun v0 a0 => dG v0 fun l0 => dE 6 l0 fun x0 => dL a0 fun v1 a1 => dC v1 fun c0 => dI .i64 c0 fun x1 => dN a1 <|
  .opt (g9 x0 x1) fun r => .val (.tup [some (true, Cod.enc 6 r.1), some (false, [.bool r.2])], [])
theorem s9_0_ok : SpecOk Go.Proofs.Try.prog 9 s9_0 :=
  q9_ok.less fun args hs r h => by
    unfold s9_0 at h
    obtain ⟨rfl, hh1⟩ := dN_inv h
    obtain ⟨v0, a0, rfl, hh2⟩ := dL_inv hh1
    obtain ⟨l0, rfl, hh3⟩ := dG_inv hh2
    obtain ⟨x0, rfl, hh4⟩ := dE_inv hh3
    obtain ⟨v1, a1, rfl, hh5⟩ := dL_inv hh4
    obtain ⟨c0, rfl, hh6⟩ := dC_inv hh5
    obtain ⟨x1, rfl, hh7⟩ := dI_inv hh6
    obtain ⟨rfl, hh8⟩ := dN_inv hh7
    rw [g9_run, Tr.ev_get?]
    change (Res.opt (g9 x0 x1) _).eval = some r at hh8
    rw [eval_opt] at hh8
    obtain ⟨z, hz, hh9⟩ := Option.bind_eq_some_iff.mp hh8
    unfold g9 at hz
    rw [hz]; exact hh9
noncomputable def s9 : Ab.Spec := fun args h => s9_0 (coeA [[none, none, none, none, none, none, none, none, none, none, none, none, none, none, none, none, some 0], []] args) h
theorem s9_ok : SpecOk Go.Proofs.Try.prog 9 s9 := s9_0_ok.pre [[none, none, none, none, none, none, none, none, none, none, none, none, none, none, none, none, some 0], []]
/-- pontage/pontageref09.Has -/
noncomputable def L13 : SL := []
noncomputable def e13 : Env := ⟨ti, fun g => lookS g L13, 1000000, [], []⟩
def g13T (x0 : S6) (x1 : Int) : Tr (Bool) :=
  .leaf ((bif (decide (x1 ≥ 0)) then (decide (x1 < (x0.f16.length : Int))) else false))
def g13 (x0 : S6) (x1 : Int) : Bool := (g13T x0 x1).get default
noncomputable def T13 : TL := []
noncomputable def q13 : Ab.Spec := runQ0 e13 (lookT T13) Go.Proofs.Try.f13
theorem q13_ok : SpecOk Go.Proofs.Try.prog 13 q13 := (runQ0_ok (runR_ok (e := e13) follows (allTI ti_ok _ _ _ _) (callsOk_nil) Go.Proofs.Try.func13 Go.Proofs.Try.call13) (fun c hc => by
  have hb : c = Go.Proofs.Try.f13.body.getD .skip := by rw [hc]; rfl
  subst hb
  exact tab_nil))
theorem g13_run (x0 : S6) (x1 : Int) : (q13 [.agg (Cod.enc 6 x0), .c (.int .i64 x1)] []).eval = (g13T x0 x1).ev fun r => ((.c (.bool r) : AV), ([] : List Blk)) := by kernel_rfl
noncomputable def s13_0 : Ab.Spec := fun args h =>
  dN h <| dL args fun v0 a0 => dG v0 fun l0 => dE 6 l0 fun x0 => dL a0 fun v1 a1 => dC v1 fun c0 => dI .i64 c0 fun x1 => dN a1 <|
  let r := g13 x0 x1; .val (.c (.bool r), [])
theorem s13_0_ok : SpecOk Go.Proofs.Try.prog 13 s13_0 :=
  q13_ok.less fun args hs r h => by
    unfold s13_0 at h
    obtain ⟨rfl, hh1⟩ := dN_inv h
    obtain ⟨v0, a0, rfl, hh2⟩ := dL_inv hh1
    obtain ⟨l0, rfl, hh3⟩ := dG_inv hh2
    obtain ⟨x0, rfl, hh4⟩ := dE_inv hh3
    obtain ⟨v1, a1, rfl, hh5⟩ := dL_inv hh4
    obtain ⟨c0, rfl, hh6⟩ := dC_inv hh5
    obtain ⟨x1, rfl, hh7⟩ := dI_inv hh6
    obtain ⟨rfl, hh8⟩ := dN_inv hh7
    rw [g13_run, Tr.ev_get (d := default) (by kernel_rfl)]
    exact hh8
noncomputable def s13 : Ab.Spec := fun args h => s13_0 (coeA [[none, none, none, none, none, none, none, none, none, none, none, none, none, none, none, none, some 0], []] args) h
theorem s13_ok : SpecOk Go.Proofs.Try.prog 13 s13 := s13_0_ok.pre [[none, none, none, none, none, none, none, none, none, none, none, none, none, none, none, none, some 0], []]
/-- pontage/pontageref13.begin -/
noncomputable def L26 : SL := []
noncomputable def e26 : Env := ⟨ti, fun g => lookS g L26, 1000000, [], []⟩
def g26T (x0 : S0) : Tr (S0) :=
  .leaf ({ x0 with f7 := false, f9 := false, f20 := true, f24 := true, f25 := false, f30 := 0, f65 := x0.f41, f68 := 0, f70 := x0.f43, f73 := 1 })
def g26 (x0 : S0) : S0 := (g26T x0).get default
noncomputable def T26 : TL := []
noncomputable def q26 : Ab.Spec := runQ0 e26 (lookT T26) Go.Proofs.Try.f26
theorem q26_ok : SpecOk Go.Proofs.Try.prog 26 q26 := (runQ0_ok (runR_ok (e := e26) follows (allTI ti_ok _ _ _ _) (callsOk_nil) Go.Proofs.Try.func26 Go.Proofs.Try.call26) (fun c hc => by
  have hb : c = Go.Proofs.Try.f26.body.getD .skip := by rw [hc]; rfl
  subst hb
  exact tab_nil))
theorem g26_run (x0 : S0) : (q26 [.agg (Cod.enc 0 x0)] []).eval = (g26T x0).ev fun r => ((.agg (Cod.enc 0 r) : AV), ([] : List Blk)) := by kernel_rfl
noncomputable def s26 : Ab.Spec := fun args h =>
  dN h <| dL args fun v0 a0 => dG v0 fun l0 => dE 0 l0 fun x0 => dN a0 <|
  let r := g26 x0; .val (.agg (Cod.enc 0 r), [])
theorem s26_ok : SpecOk Go.Proofs.Try.prog 26 s26 :=
  q26_ok.less fun args hs r h => by
    unfold s26 at h
    obtain ⟨rfl, hh1⟩ := dN_inv h
    obtain ⟨v0, a0, rfl, hh2⟩ := dL_inv hh1
    obtain ⟨l0, rfl, hh3⟩ := dG_inv hh2
    obtain ⟨x0, rfl, hh4⟩ := dE_inv hh3
    obtain ⟨rfl, hh5⟩ := dN_inv hh4
    rw [g26_run, Tr.ev_get (d := default) (by kernel_rfl)]
    exact hh5
/-- pontage/pontageref09.Copy -/
noncomputable def L35 : SL := []
noncomputable def e35 : Env := ⟨ti, fun g => lookS g L35, 1000000, [], []⟩
def g35T (x0 : S6) : Tr (S6) :=
  .br (x0.f16.isEmpty) (
   .leaf ({ x0 with f16 := [] })) (
   .br (Nat.ble (0 + x0.f16.length) 140737488355328 && Nat.ble ((0 + x0.f16.length) * 248) 140737488355328) (
    .leaf (x0)) (
    .fail))
def g35 (x0 : S6) : Option (S6) := (g35T x0).get?
noncomputable def T35 : TL := []
noncomputable def q35 : Ab.Spec := frsR [[none, none, none, none, none, none, none, none, none, none, none, none, none, none, none, none, some 0]] (runQ0 e35 (lookT T35) Go.Proofs.Try.f35)
theorem q35_ok : SpecOk Go.Proofs.Try.prog 35 q35 := (runQ0_ok (runR_ok (e := e35) follows (allTI ti_ok _ _ _ _) (callsOk_nil) Go.Proofs.Try.func35 Go.Proofs.Try.call35) (fun c hc => by
  have hb : c = Go.Proofs.Try.f35.body.getD .skip := by rw [hc]; rfl
  subst hb
  exact tab_nil)).fresh [[none, none, none, none, none, none, none, none, none, none, none, none, none, none, none, none, some 0]]
theorem g35_run (x0 : S6) : (q35 [.agg (Cod.enc 6 x0)] []).eval = (g35T x0).ev fun r => ((.agg ([.int .u64 r.f0, .int .u8 r.f1, .int .u8 r.f2, .int .u8 r.f3, .int .u8 r.f4, .int .u8 r.f5, .bool r.f6, .int .u16 r.f7, .int .u64 r.f8, .int .u32 r.f9, .int .u64 r.f10, .int .u16 r.f11, .int .u8 r.f12, .int .u8 r.f13, .int .u8 r.f14, .int .u8 r.f15, .slw 0]) : AV), ([.row 0 r.f16] : List Blk)) := by kernel_rfl
noncomputable def s35_0 : Ab.Spec := fun args h =>
  dN h <| dL args fun v0 a0 => dG v0 fun l0 => dE 6 l0 fun x0 => dN a0 <|
  .opt (g35 x0) fun r => .val (.agg ([.int .u64 r.f0, .int .u8 r.f1, .int .u8 r.f2, .int .u8 r.f3, .int .u8 r.f4, .int .u8 r.f5, .bool r.f6, .int .u16 r.f7, .int .u64 r.f8, .int .u32 r.f9, .int .u64 r.f10, .int .u16 r.f11, .int .u8 r.f12, .int .u8 r.f13, .int .u8 r.f14, .int .u8 r.f15, .slw 0]), [.row 0 r.f16])
theorem s35_0_ok : SpecOk Go.Proofs.Try.prog 35 s35_0 :=
  q35_ok.less fun args hs r h => by
    unfold s35_0 at h
    obtain ⟨rfl, hh1⟩ := dN_inv h
    obtain ⟨v0, a0, rfl, hh2⟩ := dL_inv hh1
    obtain ⟨l0, rfl, hh3⟩ := dG_inv hh2
    obtain ⟨x0, rfl, hh4⟩ := dE_inv hh3
    obtain ⟨rfl, hh5⟩ := dN_inv hh4
    rw [g35_run, Tr.ev_get?]
    change (Res.opt (g35 x0) _).eval = some r at hh5
    rw [eval_opt] at hh5
    obtain ⟨z, hz, hh6⟩ := Option.bind_eq_some_iff.mp hh5
    unfold g35 at hz
    rw [hz]; exact hh6
noncomputable def s35 : Ab.Spec := fun args h => s35_0 (coeA [[none, none, none, none, none, none, none, none, none, none, none, none, none, none, none, none, some 0]] args) h
theorem s35_ok : SpecOk Go.Proofs.Try.prog 35 s35 := s35_0_ok.pre [[none, none, none, none, none, none, none, none, none, none, none, none, none, none, none, none, some 0]]
/-- pontage/pontageref09.With -/
noncomputable def L15 : SL := [(35, .byNew, s35)]
noncomputable def e15 : Env := ⟨ti, fun g => lookS g L15, 1000000, [], []⟩
def g15T (x0 : S6) (x1 : Int) (x2 : S0) : Tr (S6) :=
  .opt (g35 x0) fun z105 =>
   .br (decide (0 ≤ x1) && decide (x1 < (z105.f16.length : Int))) (
    .opt (z105.f16[(Int.toNat x1)]?) fun y106 =>
     .leaf ({ z105 with f16 := (List.set z105.f16 (Int.toNat x1) x2) })) (
    .fail)
def g15 (x0 : S6) (x1 : Int) (x2 : S0) : Option (S6) := (g15T x0 x1 x2).get?
noncomputable def T15 : TL := []
noncomputable def q15 : Ab.Spec := frzR [[none, none, none, none, none, none, none, none, none, none, none, none, none, none, none, none, some 0]] (runQ0 e15 (lookT T15) Go.Proofs.Try.f15)
theorem q15_ok : SpecOk Go.Proofs.Try.prog 15 q15 := (runQ0_ok (runR_ok (e := e15) follows (allTI ti_ok _ _ _ _) (callsOk_cons s35_ok (callsOk_nil)) Go.Proofs.Try.func15 Go.Proofs.Try.call15) (fun c hc => by
  have hb : c = Go.Proofs.Try.f15.body.getD .skip := by rw [hc]; rfl
  subst hb
  exact tab_nil)).froze [[none, none, none, none, none, none, none, none, none, none, none, none, none, none, none, none, some 0]]
theorem g15_run (x0 : S6) (x1 : Int) (x2 : S0) : (q15 [.agg (Cod.enc 6 x0), .c (.int .i64 x1), .agg (Cod.enc 0 x2)] []).eval = (g15T x0 x1 x2).ev fun r => ((.agg (Cod.enc 6 r) : AV), ([] : List Blk)) := by kernel_rfl
noncomputable def s15_0 : Ab.Spec := fun args h =>
  dN h <| dL args fun v0 a0 => dG v0 fun l0 => dE 6 l0 fun x0 => dL a0 fun v1 a1 => dC v1 fun c0 => dI .i64 c0 fun x1 => dL a1 fun v2 a2 => dG v2 fun l2 => dE 0 l2 fun x2 => dN a2 <|
  .opt (g15 x0 x1 x2) fun r => .val (.agg (Cod.enc 6 r), [])
theorem s15_0_ok : SpecOk Go.Proofs.Try.prog 15 s15_0 :=
  q15_ok.less fun args hs r h => by
    unfold s15_0 at h
    obtain ⟨rfl, hh1⟩ := dN_inv h
    obtain ⟨v0, a0, rfl, hh2⟩ := dL_inv hh1
    obtain ⟨l0, rfl, hh3⟩ := dG_inv hh2
    obtain ⟨x0, rfl, hh4⟩ := dE_inv hh3
    obtain ⟨v1, a1, rfl, hh5⟩ := dL_inv hh4
    obtain ⟨c0, rfl, hh6⟩ := dC_inv hh5
    obtain ⟨x1, rfl, hh7⟩ := dI_inv hh6
    obtain ⟨v2, a2, rfl, hh8⟩ := dL_inv hh7
    obtain ⟨l2, rfl, hh9⟩ := dG_inv hh8
    obtain ⟨x2, rfl, hh10⟩ := dE_inv hh9
    obtain ⟨rfl, hh11⟩ := dN_inv hh10
    rw [g15_run, Tr.ev_get?]
    change (Res.opt (g15 x0 x1 x2) _).eval = some r at hh11
    rw [eval_opt] at hh11
    obtain ⟨z, hz, hh12⟩ := Option.bind_eq_some_iff.mp hh11
    unfold g15 at hz
    rw [hz]; exact hh12
noncomputable def s15 : Ab.Spec := fun args h => s15_0 (coeA [[none, none, none, none, none, none, none, none, none, none, none, none, none, none, none, none, some 0], [], []] args) h
theorem s15_ok : SpecOk Go.Proofs.Try.prog 15 s15 := s15_0_ok.pre [[none, none, none, none, none, none, none, none, none, none, none, none, none, none, none, none, some 0], [], []]
/-- pontage/pontageref13.role -/
noncomputable def L27 : SL := []
noncomputable def e27 : Env := ⟨ti, fun g => lookS g L27, 1000000, [], []⟩
def g27T (x0 : S0) : Tr (S0) :=
  .br (x0.f31 == 3) (
   .leaf ({ x0 with f30 := x0.f31, f70 := x0.f43, f73 := 3 })) (
   .br (x0.f31 == 4) (
    .leaf ({ x0 with f30 := x0.f31, f73 := 4 })) (
    .br (x0.f31 == 0) (
     .leaf ({ x0 with f7 := false, f9 := false, f30 := x0.f31, f73 := 1 })) (
     .leaf ({ x0 with f7 := false, f9 := false, f30 := x0.f31, f73 := 5 }))))
def g27 (x0 : S0) : S0 := (g27T x0).get default
noncomputable def T27 : TL := []
noncomputable def q27 : Ab.Spec := runQ0 e27 (lookT T27) Go.Proofs.Try.f27
theorem q27_ok : SpecOk Go.Proofs.Try.prog 27 q27 := (runQ0_ok (runR_ok (e := e27) follows (allTI ti_ok _ _ _ _) (callsOk_nil) Go.Proofs.Try.func27 Go.Proofs.Try.call27) (fun c hc => by
  have hb : c = Go.Proofs.Try.f27.body.getD .skip := by rw [hc]; rfl
  subst hb
  exact tab_nil))
theorem g27_run (x0 : S0) : (q27 [.agg (Cod.enc 0 x0)] []).eval = (g27T x0).ev fun r => ((.agg (Cod.enc 0 r) : AV), ([] : List Blk)) := by kernel_rfl
noncomputable def s27 : Ab.Spec := fun args h =>
  dN h <| dL args fun v0 a0 => dG v0 fun l0 => dE 0 l0 fun x0 => dN a0 <|
  let r := g27 x0; .val (.agg (Cod.enc 0 r), [])
theorem s27_ok : SpecOk Go.Proofs.Try.prog 27 s27 :=
  q27_ok.less fun args hs r h => by
    unfold s27 at h
    obtain ⟨rfl, hh1⟩ := dN_inv h
    obtain ⟨v0, a0, rfl, hh2⟩ := dL_inv hh1
    obtain ⟨l0, rfl, hh3⟩ := dG_inv hh2
    obtain ⟨x0, rfl, hh4⟩ := dE_inv hh3
    obtain ⟨rfl, hh5⟩ := dN_inv hh4
    rw [g27_run, Tr.ev_get (d := default) (by kernel_rfl)]
    exact hh5
/-- pontage/pontageref13.rests -/
noncomputable def L28 : SL := []
noncomputable def e28 : Env := ⟨ti, fun g => lookS g L28, 1000000, [], []⟩
def g28T (x0 : S0) (x1 : Int) (x2 : Int) : Tr (S0) :=
  .leaf ({ x0 with f20 := false, f24 := false, f25 := true, f65 := x1, f70 := 0, f73 := x2 })
def g28 (x0 : S0) (x1 : Int) (x2 : Int) : S0 := (g28T x0 x1 x2).get default
noncomputable def T28 : TL := []
noncomputable def q28 : Ab.Spec := runQ0 e28 (lookT T28) Go.Proofs.Try.f28
theorem q28_ok : SpecOk Go.Proofs.Try.prog 28 q28 := (runQ0_ok (runR_ok (e := e28) follows (allTI ti_ok _ _ _ _) (callsOk_nil) Go.Proofs.Try.func28 Go.Proofs.Try.call28) (fun c hc => by
  have hb : c = Go.Proofs.Try.f28.body.getD .skip := by rw [hc]; rfl
  subst hb
  exact tab_nil))
theorem g28_run (x0 : S0) (x1 : Int) (x2 : Int) : (q28 [.agg (Cod.enc 0 x0), .c (.int .u8 x1), .c (.int .i64 x2)] []).eval = (g28T x0 x1 x2).ev fun r => ((.agg (Cod.enc 0 r) : AV), ([] : List Blk)) := by kernel_rfl
noncomputable def s28 : Ab.Spec := fun args h =>
  dN h <| dL args fun v0 a0 => dG v0 fun l0 => dE 0 l0 fun x0 => dL a0 fun v1 a1 => dC v1 fun c0 => dI .u8 c0 fun x1 => dL a1 fun v2 a2 => dC v2 fun c1 => dI .i64 c1 fun x2 => dN a2 <|
  let r := g28 x0 x1 x2; .val (.agg (Cod.enc 0 r), [])
theorem s28_ok : SpecOk Go.Proofs.Try.prog 28 s28 :=
  q28_ok.less fun args hs r h => by
    unfold s28 at h
    obtain ⟨rfl, hh1⟩ := dN_inv h
    obtain ⟨v0, a0, rfl, hh2⟩ := dL_inv hh1
    obtain ⟨l0, rfl, hh3⟩ := dG_inv hh2
    obtain ⟨x0, rfl, hh4⟩ := dE_inv hh3
    obtain ⟨v1, a1, rfl, hh5⟩ := dL_inv hh4
    obtain ⟨c0, rfl, hh6⟩ := dC_inv hh5
    obtain ⟨x1, rfl, hh7⟩ := dI_inv hh6
    obtain ⟨v2, a2, rfl, hh8⟩ := dL_inv hh7
    obtain ⟨c1, rfl, hh9⟩ := dC_inv hh8
    obtain ⟨x2, rfl, hh10⟩ := dI_inv hh9
    obtain ⟨rfl, hh11⟩ := dN_inv hh10
    rw [g28_run, Tr.ev_get (d := default) (by kernel_rfl)]
    exact hh11
/-- pontage/pontageref13.loose -/
noncomputable def L29 : SL := []
noncomputable def e29 : Env := ⟨ti, fun g => lookS g L29, 1000000, [], []⟩
def g29T (x0 : S0) (x1 : Int) : Tr (Bool) :=
  .leaf ((bif (bif (bif (x0.f65 != x1) then true else x0.f24) then true else x0.f20) then true else (!x0.f25)))
def g29 (x0 : S0) (x1 : Int) : Bool := (g29T x0 x1).get default
noncomputable def T29 : TL := []
noncomputable def q29 : Ab.Spec := runQ0 e29 (lookT T29) Go.Proofs.Try.f29
theorem q29_ok : SpecOk Go.Proofs.Try.prog 29 q29 := (runQ0_ok (runR_ok (e := e29) follows (allTI ti_ok _ _ _ _) (callsOk_nil) Go.Proofs.Try.func29 Go.Proofs.Try.call29) (fun c hc => by
  have hb : c = Go.Proofs.Try.f29.body.getD .skip := by rw [hc]; rfl
  subst hb
  exact tab_nil))
theorem g29_run (x0 : S0) (x1 : Int) : (q29 [.agg (Cod.enc 0 x0), .c (.int .u8 x1)] []).eval = (g29T x0 x1).ev fun r => ((.c (.bool r) : AV), ([] : List Blk)) := by kernel_rfl
noncomputable def s29 : Ab.Spec := fun args h =>
  dN h <| dL args fun v0 a0 => dG v0 fun l0 => dE 0 l0 fun x0 => dL a0 fun v1 a1 => dC v1 fun c0 => dI .u8 c0 fun x1 => dN a1 <|
  let r := g29 x0 x1; .val (.c (.bool r), [])
theorem s29_ok : SpecOk Go.Proofs.Try.prog 29 s29 :=
  q29_ok.less fun args hs r h => by
    unfold s29 at h
    obtain ⟨rfl, hh1⟩ := dN_inv h
    obtain ⟨v0, a0, rfl, hh2⟩ := dL_inv hh1
    obtain ⟨l0, rfl, hh3⟩ := dG_inv hh2
    obtain ⟨x0, rfl, hh4⟩ := dE_inv hh3
    obtain ⟨v1, a1, rfl, hh5⟩ := dL_inv hh4
    obtain ⟨c0, rfl, hh6⟩ := dC_inv hh5
    obtain ⟨x1, rfl, hh7⟩ := dI_inv hh6
    obtain ⟨rfl, hh8⟩ := dN_inv hh7
    rw [g29_run, Tr.ev_get (d := default) (by kernel_rfl)]
    exact hh8
/-- pontage/pontageref09.SyncAll -/
noncomputable def L55 : SL := [(35, .byNew, s35)]
noncomputable def e55 : Env := ⟨ti, fun g => lookS g L55, 1000000, [.drop 0, .drop 4, .drop 5], []⟩
structure W55_0 where
  a0 : Int
  a1 : Int
  a2 : Int
  a3 : Int
  a4 : Int
  a5 : Int
  a6 : Int
  a7 : Bool
  a8 : Int
  a9 : Int
  a10 : Int
  a11 : Int
  a12 : Int
  a13 : Int
  a14 : Int
  a15 : Int
  a16 : Int
  a17 : Int
  a18 : Int
  a19 : Int
  a20 : Int
  a21 : Int
  a22 : Int
  a23 : Bool
  a24 : Int
  a25 : Int
  a26 : Int
  a27 : Int
  a28 : Int
  a29 : Int
  a30 : Int
  a31 : Int
  a32 : Int
  a33 : List S0
def hd55_0 (v : W55_0) : St := ⟨[.top, .c (.ptr 0 0), .c (.ptr 1 0), .c (.int .i64 v.a0), .top, .top, .top, .top, .top, .top, .top, .top, .top, .top, .top, .top, .top, .top, .top], [.cells [.int .u64 v.a1, .int .u8 v.a2, .int .u8 v.a3, .int .u8 v.a4, .int .u8 v.a5, .int .u8 v.a6, .bool v.a7, .int .u16 v.a8, .int .u64 v.a9, .int .u32 v.a10, .int .u64 v.a11, .int .u16 v.a12, .int .u8 v.a13, .int .u8 v.a14, .int .u8 v.a15, .int .u8 v.a16, .slw 2], .cells [.int .u64 v.a17, .int .u8 v.a18, .int .u8 v.a19, .int .u8 v.a20, .int .u8 v.a21, .int .u8 v.a22, .bool v.a23, .int .u16 v.a24, .int .u64 v.a25, .int .u32 v.a26, .int .u64 v.a27, .int .u16 v.a28, .int .u8 v.a29, .int .u8 v.a30, .int .u8 v.a31, .int .u8 v.a32, .nils], .row 0 v.a33]⟩
def gR55_0 (v : W55_0) : Tr (W55_0 ⊕ (Bool × W55_0)) :=
  .br (decide (v.a0 < (v.a33.length : Int))) (
   .br (decide (0 ≤ v.a0) && decide (v.a0 < (v.a33.length : Int))) (
    .opt (v.a33[(Int.toNat v.a0)]?) fun y108 =>
     .leaf (.inl ({ v with a0 := (IntKind.i64.wrap (v.a0 + 1)), a33 := (List.set v.a33 (Int.toNat v.a0) { y108 with f24 := true }) }))) (
    .fail)) (
   .leaf (.inr (false, v)))
noncomputable def lb55_0 : Code := match findB 0 (Go.Proofs.Try.f55.body.getD .skip) with | [.loop b] => b | _ => .skip
def pa55_0 : List PA := [.any, .c (.ptr 0 0), .c (.ptr 1 0), .c (.int .i64), .any, .any, .top, .top, .top, .top, .top, .top, .top, .top, .top, .top, .top, .top, .top]
def pb55_0 : List PB := [.cells [.int .u64, .int .u8, .int .u8, .int .u8, .int .u8, .int .u8, .bool, .int .u16, .int .u64, .int .u32, .int .u64, .int .u16, .int .u8, .int .u8, .int .u8, .int .u8, .slw 2], .cells [.int .u64, .int .u8, .int .u8, .int .u8, .int .u8, .int .u8, .bool, .int .u16, .int .u64, .int .u32, .int .u64, .int .u16, .int .u8, .int .u8, .int .u8, .int .u8, .nils], .row 0]
def ini55_0 (s : St) : W55_0 := ⟨iC (aC (s.tmps.getD 3 .top)), iC ((bL (s.heap.getD 0 .dead)).getD 0 .top), iC ((bL (s.heap.getD 0 .dead)).getD 1 .top), iC ((bL (s.heap.getD 0 .dead)).getD 2 .top), iC ((bL (s.heap.getD 0 .dead)).getD 3 .top), iC ((bL (s.heap.getD 0 .dead)).getD 4 .top), iC ((bL (s.heap.getD 0 .dead)).getD 5 .top), bC ((bL (s.heap.getD 0 .dead)).getD 6 .top), iC ((bL (s.heap.getD 0 .dead)).getD 7 .top), iC ((bL (s.heap.getD 0 .dead)).getD 8 .top), iC ((bL (s.heap.getD 0 .dead)).getD 9 .top), iC ((bL (s.heap.getD 0 .dead)).getD 10 .top), iC ((bL (s.heap.getD 0 .dead)).getD 11 .top), iC ((bL (s.heap.getD 0 .dead)).getD 12 .top), iC ((bL (s.heap.getD 0 .dead)).getD 13 .top), iC ((bL (s.heap.getD 0 .dead)).getD 14 .top), iC ((bL (s.heap.getD 0 .dead)).getD 15 .top), iC ((bL (s.heap.getD 1 .dead)).getD 0 .top), iC ((bL (s.heap.getD 1 .dead)).getD 1 .top), iC ((bL (s.heap.getD 1 .dead)).getD 2 .top), iC ((bL (s.heap.getD 1 .dead)).getD 3 .top), iC ((bL (s.heap.getD 1 .dead)).getD 4 .top), iC ((bL (s.heap.getD 1 .dead)).getD 5 .top), bC ((bL (s.heap.getD 1 .dead)).getD 6 .top), iC ((bL (s.heap.getD 1 .dead)).getD 7 .top), iC ((bL (s.heap.getD 1 .dead)).getD 8 .top), iC ((bL (s.heap.getD 1 .dead)).getD 9 .top), iC ((bL (s.heap.getD 1 .dead)).getD 10 .top), iC ((bL (s.heap.getD 1 .dead)).getD 11 .top), iC ((bL (s.heap.getD 1 .dead)).getD 12 .top), iC ((bL (s.heap.getD 1 .dead)).getD 13 .top), iC ((bL (s.heap.getD 1 .dead)).getD 14 .top), iC ((bL (s.heap.getD 1 .dead)).getD 15 .top), bR 0 (s.heap.getD 2 .dead)⟩
noncomputable def F55_0 : St → Res (Ex × St) := loopF pa55_0 pb55_0 1000000 hd55_0 gR55_0 ini55_0 false
theorem F55_0_ok (s : St) (r : Ex × St) (h : (F55_0 s).eval = some r) : (codeR e55 0 (.block 0 (.loop lb55_0)) s).eval = some r :=
  blk_ok (e := e55) (T := lookT []) (fun s v => by kernel_rfl) (fun s => by kernel_rfl) (tab_nil) s r h
def g55T (x0 : S6) : Tr (S6) :=
  .opt (g35 x0) fun z107 =>
   .opt (iter gR55_0 1000000 (W55_0.mk (0) (z107.f0) (z107.f1) (z107.f2) (z107.f3) (z107.f4) (z107.f5) (z107.f6) (z107.f7) (z107.f8) (z107.f9) (z107.f10) (z107.f11) (z107.f12) (z107.f13) (z107.f14) (z107.f15) (0) (0) (0) (0) (0) (0) (false) (0) (0) (0) (0) (0) (0) (0) (0) (0) (z107.f16))) fun r109 =>
    .br r109.1 (
     .fail) (
     .leaf ((S6.mk r109.2.a1 r109.2.a2 r109.2.a3 r109.2.a4 r109.2.a5 r109.2.a6 r109.2.a7 r109.2.a8 r109.2.a9 r109.2.a10 r109.2.a11 r109.2.a12 r109.2.a13 r109.2.a14 r109.2.a15 r109.2.a16 r109.2.a33)))
def g55 (x0 : S6) : Option (S6) := (g55T x0).get?
noncomputable def T55 : TL := [(0, F55_0)]
noncomputable def q55 : Ab.Spec := frzR [[none, none, none, none, none, none, none, none, none, none, none, none, none, none, none, none, some 0]] (runQ0 e55 (lookT T55) Go.Proofs.Try.f55)
theorem q55_ok : SpecOk Go.Proofs.Try.prog 55 q55 := (runQ0_ok (runR_ok (e := e55) follows (allTI ti_ok _ _ _ _) (callsOk_cons s35_ok (callsOk_nil)) Go.Proofs.Try.func55 Go.Proofs.Try.call55) (fun c hc => by
  have hb : c = Go.Proofs.Try.f55.body.getD .skip := by rw [hc]; rfl
  subst hb
  exact tab_cons (by kernel_rfl) F55_0_ok (tab_nil))).froze [[none, none, none, none, none, none, none, none, none, none, none, none, none, none, none, none, some 0]]
theorem g55_run (x0 : S6) : (q55 [.agg (Cod.enc 6 x0)] []).eval = (g55T x0).ev fun r => ((.agg (Cod.enc 6 r) : AV), ([] : List Blk)) := by kernel_rfl
noncomputable def s55_0 : Ab.Spec := fun args h =>
  dN h <| dL args fun v0 a0 => dG v0 fun l0 => dE 6 l0 fun x0 => dN a0 <|
  .opt (g55 x0) fun r => .val (.agg (Cod.enc 6 r), [])
theorem s55_0_ok : SpecOk Go.Proofs.Try.prog 55 s55_0 :=
  q55_ok.less fun args hs r h => by
    unfold s55_0 at h
    obtain ⟨rfl, hh1⟩ := dN_inv h
    obtain ⟨v0, a0, rfl, hh2⟩ := dL_inv hh1
    obtain ⟨l0, rfl, hh3⟩ := dG_inv hh2
    obtain ⟨x0, rfl, hh4⟩ := dE_inv hh3
    obtain ⟨rfl, hh5⟩ := dN_inv hh4
    rw [g55_run, Tr.ev_get?]
    change (Res.opt (g55 x0) _).eval = some r at hh5
    rw [eval_opt] at hh5
    obtain ⟨z, hz, hh6⟩ := Option.bind_eq_some_iff.mp hh5
    unfold g55 at hz
    rw [hz]; exact hh6
noncomputable def s55 : Ab.Spec := fun args h => s55_0 (coeA [[none, none, none, none, none, none, none, none, none, none, none, none, none, none, none, none, some 0]] args) h
theorem s55_ok : SpecOk Go.Proofs.Try.prog 55 s55 := s55_0_ok.pre [[none, none, none, none, none, none, none, none, none, none, none, none, none, none, none, none, some 0]]
/-- pontage/pontageref09.AllSynced -/
noncomputable def L14 : SL := []
noncomputable def e14 : Env := ⟨ti, fun g => lookS g L14, 1000000, [.drop 0, .drop 3], []⟩
structure W14_0 where
  a0 : Int
  a1 : Bool
  a2 : Int
  a3 : Int
  a4 : Int
  a5 : Int
  a6 : Int
  a7 : Int
  a8 : Int
  a9 : Bool
  a10 : Int
  a11 : Int
  a12 : Int
  a13 : Int
  a14 : Int
  a15 : Int
  a16 : Int
  a17 : Int
  a18 : Int
  a19 : List S0
def hd14_0 (v : W14_0) : St := ⟨[.top, .c (.int .i64 v.a0), .c (.ptr 0 0), .top, .c (.bool v.a1), .c (.int .i64 v.a2), .top, .top, .top, .top, .top, .top, .top, .top, .top, .top, .top, .top, .top, .top, .top, .top, .top, .top, .top, .top, .top, .top, .top, .top, .top, .top, .top, .top, .top, .top, .top, .top, .top, .top, .top, .top, .top, .top, .top, .top, .top, .top], [.cells [.int .u64 v.a3, .int .u8 v.a4, .int .u8 v.a5, .int .u8 v.a6, .int .u8 v.a7, .int .u8 v.a8, .bool v.a9, .int .u16 v.a10, .int .u64 v.a11, .int .u32 v.a12, .int .u64 v.a13, .int .u16 v.a14, .int .u8 v.a15, .int .u8 v.a16, .int .u8 v.a17, .int .u8 v.a18, .rs 0 v.a19]]⟩
def gR14_0 (v : W14_0) : Tr (W14_0 ⊕ (Bool × W14_0)) :=
  .br (decide (v.a2 < (v.a19.length : Int))) (
   .br (decide (0 ≤ v.a2)) (
    .opt (v.a19[Int.toNat v.a2]?) fun y110 =>
     .br (bif (bif (bif (!y110.f22) then true else y110.f28) then true else (y110.f30 != y110.f31)) then true else (bif (bif (v.a2 != v.a0) then (!y110.f25) else false) then (y110.f30 != 3) else false)) (
      .leaf (.inr (true, { v with a1 := false }))) (
      .leaf (.inl ({ v with a2 := (IntKind.i64.wrap (v.a2 + 1)) })))) (
    .fail)) (
   .leaf (.inr (false, v)))
noncomputable def lb14_0 : Code := match findB 0 (Go.Proofs.Try.f14.body.getD .skip) with | [.loop b] => b | _ => .skip
def pa14_0 : List PA := [.any, .c (.int .i64), .c (.ptr 0 0), .any, .c (.bool), .c (.int .i64), .top, .top, .top, .top, .top, .top, .top, .top, .top, .top, .top, .top, .top, .top, .top, .top, .top, .top, .top, .top, .top, .top, .top, .top, .top, .top, .top, .top, .top, .top, .top, .top, .top, .top, .top, .top, .top, .top, .top, .top, .top, .top]
def pb14_0 : List PB := [.cells [.int .u64, .int .u8, .int .u8, .int .u8, .int .u8, .int .u8, .bool, .int .u16, .int .u64, .int .u32, .int .u64, .int .u16, .int .u8, .int .u8, .int .u8, .int .u8, .rs 0]]
def ini14_0 (s : St) : W14_0 := ⟨iC (aC (s.tmps.getD 1 .top)), bC (aC (s.tmps.getD 4 .top)), iC (aC (s.tmps.getD 5 .top)), iC ((bL (s.heap.getD 0 .dead)).getD 0 .top), iC ((bL (s.heap.getD 0 .dead)).getD 1 .top), iC ((bL (s.heap.getD 0 .dead)).getD 2 .top), iC ((bL (s.heap.getD 0 .dead)).getD 3 .top), iC ((bL (s.heap.getD 0 .dead)).getD 4 .top), iC ((bL (s.heap.getD 0 .dead)).getD 5 .top), bC ((bL (s.heap.getD 0 .dead)).getD 6 .top), iC ((bL (s.heap.getD 0 .dead)).getD 7 .top), iC ((bL (s.heap.getD 0 .dead)).getD 8 .top), iC ((bL (s.heap.getD 0 .dead)).getD 9 .top), iC ((bL (s.heap.getD 0 .dead)).getD 10 .top), iC ((bL (s.heap.getD 0 .dead)).getD 11 .top), iC ((bL (s.heap.getD 0 .dead)).getD 12 .top), iC ((bL (s.heap.getD 0 .dead)).getD 13 .top), iC ((bL (s.heap.getD 0 .dead)).getD 14 .top), iC ((bL (s.heap.getD 0 .dead)).getD 15 .top), rC 0 ((bL (s.heap.getD 0 .dead)).getD 16 .top)⟩
noncomputable def F14_0 : St → Res (Ex × St) := loopF pa14_0 pb14_0 1000000 hd14_0 gR14_0 ini14_0 true
theorem F14_0_ok (s : St) (r : Ex × St) (h : (F14_0 s).eval = some r) : (codeR e14 0 (.block 0 (.loop lb14_0)) s).eval = some r :=
  blk_ok (e := e14) (T := lookT []) (fun s v => by kernel_rfl) (fun s => by kernel_rfl) (tab_nil) s r h
def g14T (x0 : S6) (x1 : Int) : Tr (Bool) :=
  .opt (iter gR14_0 1000000 (W14_0.mk (x1) (false) (0) (x0.f0) (x0.f1) (x0.f2) (x0.f3) (x0.f4) (x0.f5) (x0.f6) (x0.f7) (x0.f8) (x0.f9) (x0.f10) (x0.f11) (x0.f12) (x0.f13) (x0.f14) (x0.f15) (x0.f16))) fun r111 =>
   .br r111.1 (
    .leaf (r111.2.a1)) (
    .leaf (true))
def g14 (x0 : S6) (x1 : Int) : Option (Bool) := (g14T x0 x1).get?
noncomputable def T14 : TL := [(0, F14_0)]
noncomputable def q14 : Ab.Spec := runQ0 e14 (lookT T14) Go.Proofs.Try.f14
theorem q14_ok : SpecOk Go.Proofs.Try.prog 14 q14 := (runQ0_ok (runR_ok (e := e14) follows (allTI ti_ok _ _ _ _) (callsOk_nil) Go.Proofs.Try.func14 Go.Proofs.Try.call14) (fun c hc => by
  have hb : c = Go.Proofs.Try.f14.body.getD .skip := by rw [hc]; rfl
  subst hb
  exact tab_cons (by kernel_rfl) F14_0_ok (tab_nil)))
theorem g14_run (x0 : S6) (x1 : Int) : (q14 [.agg (Cod.enc 6 x0), .c (.int .i64 x1)] []).eval = (g14T x0 x1).ev fun r => ((.c (.bool r) : AV), ([] : List Blk)) := by kernel_rfl
noncomputable def s14_0 : Ab.Spec := fun args h =>
  dN h <| dL args fun v0 a0 => dG v0 fun l0 => dE 6 l0 fun x0 => dL a0 fun v1 a1 => dC v1 fun c0 => dI .i64 c0 fun x1 => dN a1 <|
  .opt (g14 x0 x1) fun r => .val (.c (.bool r), [])
theorem s14_0_ok : SpecOk Go.Proofs.Try.prog 14 s14_0 :=
  q14_ok.less fun args hs r h => by
    unfold s14_0 at h
    obtain ⟨rfl, hh1⟩ := dN_inv h
    obtain ⟨v0, a0, rfl, hh2⟩ := dL_inv hh1
    obtain ⟨l0, rfl, hh3⟩ := dG_inv hh2
    obtain ⟨x0, rfl, hh4⟩ := dE_inv hh3
    obtain ⟨v1, a1, rfl, hh5⟩ := dL_inv hh4
    obtain ⟨c0, rfl, hh6⟩ := dC_inv hh5
    obtain ⟨x1, rfl, hh7⟩ := dI_inv hh6
    obtain ⟨rfl, hh8⟩ := dN_inv hh7
    rw [g14_run, Tr.ev_get?]
    change (Res.opt (g14 x0 x1) _).eval = some r at hh8
    rw [eval_opt] at hh8
    obtain ⟨z, hz, hh9⟩ := Option.bind_eq_some_iff.mp hh8
    unfold g14 at hz
    rw [hz]; exact hh9
noncomputable def s14 : Ab.Spec := fun args h => s14_0 (coeA [[none, none, none, none, none, none, none, none, none, none, none, none, none, none, none, none, some 0], []] args) h
theorem s14_ok : SpecOk Go.Proofs.Try.prog 14 s14 := s14_0_ok.pre [[none, none, none, none, none, none, none, none, none, none, none, none, none, none, none, none, some 0], []]
/-- pontage/pontageref13.agrees -/
noncomputable def L46 : SL := [(15, .byNew, s15), (55, .byNew, s55), (14, .byVal, s14)]
noncomputable def e46 : Env := ⟨ti, fun g => lookS g L46, 1000000, [], []⟩
def g46T (x0 : S6) (x1 : Int) : Tr (S6 × Bool) :=
  .br (decide (0 ≤ x1)) (
   .opt (x0.f16[Int.toNat x1]?) fun y112 =>
    .br (bif y112.f12 then (!y112.f3) else false) (
     .opt (g15 x0 x1 { y112 with f12 := false }) fun z113 =>
      .opt (g55 z113) fun z114 =>
       .leaf (z114, true)) (
     .opt (g14 x0 x1) fun z115 =>
      .br (bif (bif z115 then (!y112.f3) else false) then true else (bif y112.f12 then y112.f3 else false)) (
       .br (y112.f73 == 3) (
        .opt (g15 x0 x1 { y112 with f3 := true, f11 := true, f12 := false, f24 := false }) fun z116 =>
         .leaf (z116, true)) (
        .opt (g15 x0 x1 { y112 with f3 := true, f11 := true, f12 := false }) fun z117 =>
         .leaf (z117, true))) (
       .leaf (x0, false)))) (
   .fail)
def g46 (x0 : S6) (x1 : Int) : Option (S6 × Bool) := (g46T x0 x1).get?
noncomputable def T46 : TL := []
noncomputable def q46 : Ab.Spec := frzR [[none, none, none, none, none, none, none, none, none, none, none, none, none, none, none, none, some 0], []] (runQ0 e46 (lookT T46) Go.Proofs.Try.f46)
theorem q46_ok : SpecOk Go.Proofs.Try.prog 46 q46 := (runQ0_ok (runR_ok (e := e46) follows (allTI ti_ok _ _ _ _) (callsOk_cons s15_ok (callsOk_cons s55_ok (callsOk_cons s14_ok (callsOk_nil)))) Go.Proofs.Try.func46 Go.Proofs.Try.call46) (fun c hc => by
  have hb : c = Go.Proofs.Try.f46.body.getD .skip := by rw [hc]; rfl
  subst hb
  exact tab_nil)).froze [[none, none, none, none, none, none, none, none, none, none, none, none, none, none, none, none, some 0], []]
theorem g46_run (x0 : S6) (x1 : Int) : (q46 [.agg (Cod.enc 6 x0), .c (.int .i64 x1)] []).eval = (g46T x0 x1).ev fun r => ((.tup [some (true, Cod.enc 6 r.1), some (false, [.bool r.2])] : AV), ([] : List Blk)) := by kernel_rfl
noncomputable def s46_0 : Ab.Spec := fun args h =>
  dN h <| dL args fun v0 a0 => dG v0 fun l0 => dE 6 l0 fun x0 => dL a0 fun v1 a1 => dC v1 fun c0 => dI .i64 c0 fun x1 => dN a1 <|
  .opt (g46 x0 x1) fun r => .val (.tup [some (true, Cod.enc 6 r.1), some (false, [.bool r.2])], [])
theorem s46_0_ok : SpecOk Go.Proofs.Try.prog 46 s46_0 :=
  q46_ok.less fun args hs r h => by
    unfold s46_0 at h
    obtain ⟨rfl, hh1⟩ := dN_inv h
    obtain ⟨v0, a0, rfl, hh2⟩ := dL_inv hh1
    obtain ⟨l0, rfl, hh3⟩ := dG_inv hh2
    obtain ⟨x0, rfl, hh4⟩ := dE_inv hh3
    obtain ⟨v1, a1, rfl, hh5⟩ := dL_inv hh4
    obtain ⟨c0, rfl, hh6⟩ := dC_inv hh5
    obtain ⟨x1, rfl, hh7⟩ := dI_inv hh6
    obtain ⟨rfl, hh8⟩ := dN_inv hh7
    rw [g46_run, Tr.ev_get?]
    change (Res.opt (g46 x0 x1) _).eval = some r at hh8
    rw [eval_opt] at hh8
    obtain ⟨z, hz, hh9⟩ := Option.bind_eq_some_iff.mp hh8
    unfold g46 at hz
    rw [hz]; exact hh9
noncomputable def s46 : Ab.Spec := fun args h => s46_0 (coeA [[none, none, none, none, none, none, none, none, none, none, none, none, none, none, none, none, some 0], []] args) h
theorem s46_ok : SpecOk Go.Proofs.Try.prog 46 s46 := s46_0_ok.pre [[none, none, none, none, none, none, none, none, none, none, none, none, none, none, none, none, some 0], []]
/-- pontage/pontageref09.ReRooted -/
noncomputable def L47 : SL := []
noncomputable def e47 : Env := ⟨ti, fun g => lookS g L47, 1000000, [.drop 0, .drop 3], []⟩
structure W47_0 where
  a0 : Int
  a1 : Bool
  a2 : Int
  a3 : Int
  a4 : Int
  a5 : Int
  a6 : Int
  a7 : Int
  a8 : Int
  a9 : Bool
  a10 : Int
  a11 : Int
  a12 : Int
  a13 : Int
  a14 : Int
  a15 : Int
  a16 : Int
  a17 : Int
  a18 : Int
  a19 : List S0
def hd47_0 (v : W47_0) : St := ⟨[.top, .c (.int .i64 v.a0), .c (.ptr 0 0), .top, .c (.bool v.a1), .c (.int .i64 v.a2), .top, .top, .top, .top, .top, .top, .top, .top, .top, .top, .top, .top, .top, .top, .top, .top, .top, .top, .top], [.cells [.int .u64 v.a3, .int .u8 v.a4, .int .u8 v.a5, .int .u8 v.a6, .int .u8 v.a7, .int .u8 v.a8, .bool v.a9, .int .u16 v.a10, .int .u64 v.a11, .int .u32 v.a12, .int .u64 v.a13, .int .u16 v.a14, .int .u8 v.a15, .int .u8 v.a16, .int .u8 v.a17, .int .u8 v.a18, .rs 0 v.a19]]⟩
def gR47_0 (v : W47_0) : Tr (W47_0 ⊕ (Bool × W47_0)) :=
  .br (decide (v.a2 < (v.a19.length : Int))) (
   .br (v.a2 != v.a0) (
    .br (decide (0 ≤ v.a2)) (
     .opt (v.a19[Int.toNat v.a2]?) fun y119 =>
      .br (y119.f70 != 0) (
       .leaf (.inr (true, { v with a1 := false }))) (
       .leaf (.inl ({ v with a2 := (IntKind.i64.wrap (v.a2 + 1)) })))) (
     .fail)) (
    .leaf (.inl ({ v with a2 := (IntKind.i64.wrap (v.a2 + 1)) })))) (
   .leaf (.inr (false, v)))
noncomputable def lb47_0 : Code := match findB 0 (Go.Proofs.Try.f47.body.getD .skip) with | [.loop b] => b | _ => .skip
def pa47_0 : List PA := [.any, .c (.int .i64), .c (.ptr 0 0), .any, .c (.bool), .c (.int .i64), .top, .top, .top, .top, .top, .top, .top, .top, .top, .top, .top, .top, .top, .top, .top, .top, .top, .top, .top]
def pb47_0 : List PB := [.cells [.int .u64, .int .u8, .int .u8, .int .u8, .int .u8, .int .u8, .bool, .int .u16, .int .u64, .int .u32, .int .u64, .int .u16, .int .u8, .int .u8, .int .u8, .int .u8, .rs 0]]
def ini47_0 (s : St) : W47_0 := ⟨iC (aC (s.tmps.getD 1 .top)), bC (aC (s.tmps.getD 4 .top)), iC (aC (s.tmps.getD 5 .top)), iC ((bL (s.heap.getD 0 .dead)).getD 0 .top), iC ((bL (s.heap.getD 0 .dead)).getD 1 .top), iC ((bL (s.heap.getD 0 .dead)).getD 2 .top), iC ((bL (s.heap.getD 0 .dead)).getD 3 .top), iC ((bL (s.heap.getD 0 .dead)).getD 4 .top), iC ((bL (s.heap.getD 0 .dead)).getD 5 .top), bC ((bL (s.heap.getD 0 .dead)).getD 6 .top), iC ((bL (s.heap.getD 0 .dead)).getD 7 .top), iC ((bL (s.heap.getD 0 .dead)).getD 8 .top), iC ((bL (s.heap.getD 0 .dead)).getD 9 .top), iC ((bL (s.heap.getD 0 .dead)).getD 10 .top), iC ((bL (s.heap.getD 0 .dead)).getD 11 .top), iC ((bL (s.heap.getD 0 .dead)).getD 12 .top), iC ((bL (s.heap.getD 0 .dead)).getD 13 .top), iC ((bL (s.heap.getD 0 .dead)).getD 14 .top), iC ((bL (s.heap.getD 0 .dead)).getD 15 .top), rC 0 ((bL (s.heap.getD 0 .dead)).getD 16 .top)⟩
noncomputable def F47_0 : St → Res (Ex × St) := loopF pa47_0 pb47_0 1000000 hd47_0 gR47_0 ini47_0 true
theorem F47_0_ok (s : St) (r : Ex × St) (h : (F47_0 s).eval = some r) : (codeR e47 0 (.block 0 (.loop lb47_0)) s).eval = some r :=
  blk_ok (e := e47) (T := lookT []) (fun s v => by kernel_rfl) (fun s => by kernel_rfl) (tab_nil) s r h
def g47T (x0 : S6) (x1 : Int) : Tr (Bool) :=
  .opt (iter gR47_0 1000000 (W47_0.mk (x1) (false) (0) (x0.f0) (x0.f1) (x0.f2) (x0.f3) (x0.f4) (x0.f5) (x0.f6) (x0.f7) (x0.f8) (x0.f9) (x0.f10) (x0.f11) (x0.f12) (x0.f13) (x0.f14) (x0.f15) (x0.f16))) fun r120 =>
   .br r120.1 (
    .leaf (r120.2.a1)) (
    .leaf (true))
def g47 (x0 : S6) (x1 : Int) : Option (Bool) := (g47T x0 x1).get?
noncomputable def T47 : TL := [(0, F47_0)]
noncomputable def q47 : Ab.Spec := runQ0 e47 (lookT T47) Go.Proofs.Try.f47
theorem q47_ok : SpecOk Go.Proofs.Try.prog 47 q47 := (runQ0_ok (runR_ok (e := e47) follows (allTI ti_ok _ _ _ _) (callsOk_nil) Go.Proofs.Try.func47 Go.Proofs.Try.call47) (fun c hc => by
  have hb : c = Go.Proofs.Try.f47.body.getD .skip := by rw [hc]; rfl
  subst hb
  exact tab_cons (by kernel_rfl) F47_0_ok (tab_nil)))
theorem g47_run (x0 : S6) (x1 : Int) : (q47 [.agg (Cod.enc 6 x0), .c (.int .i64 x1)] []).eval = (g47T x0 x1).ev fun r => ((.c (.bool r) : AV), ([] : List Blk)) := by kernel_rfl
noncomputable def s47_0 : Ab.Spec := fun args h =>
  dN h <| dL args fun v0 a0 => dG v0 fun l0 => dE 6 l0 fun x0 => dL a0 fun v1 a1 => dC v1 fun c0 => dI .i64 c0 fun x1 => dN a1 <|
  .opt (g47 x0 x1) fun r => .val (.c (.bool r), [])
theorem s47_0_ok : SpecOk Go.Proofs.Try.prog 47 s47_0 :=
  q47_ok.less fun args hs r h => by
    unfold s47_0 at h
    obtain ⟨rfl, hh1⟩ := dN_inv h
    obtain ⟨v0, a0, rfl, hh2⟩ := dL_inv hh1
    obtain ⟨l0, rfl, hh3⟩ := dG_inv hh2
    obtain ⟨x0, rfl, hh4⟩ := dE_inv hh3
    obtain ⟨v1, a1, rfl, hh5⟩ := dL_inv hh4
    obtain ⟨c0, rfl, hh6⟩ := dC_inv hh5
    obtain ⟨x1, rfl, hh7⟩ := dI_inv hh6
    obtain ⟨rfl, hh8⟩ := dN_inv hh7
    rw [g47_run, Tr.ev_get?]
    change (Res.opt (g47 x0 x1) _).eval = some r at hh8
    rw [eval_opt] at hh8
    obtain ⟨z, hz, hh9⟩ := Option.bind_eq_some_iff.mp hh8
    unfold g47 at hz
    rw [hz]; exact hh9
noncomputable def s47 : Ab.Spec := fun args h => s47_0 (coeA [[none, none, none, none, none, none, none, none, none, none, none, none, none, none, none, none, some 0], []] args) h
theorem s47_ok : SpecOk Go.Proofs.Try.prog 47 s47 := s47_0_ok.pre [[none, none, none, none, none, none, none, none, none, none, none, none, none, none, none, none, some 0], []]
/-- pontage/pontageref09.ReRootAll -/
noncomputable def L48 : SL := [(35, .byNew, s35)]
noncomputable def e48 : Env := ⟨ti, fun g => lookS g L48, 1000000, [.drop 0, .drop 4, .drop 5], []⟩
structure W48_0 where
  a0 : Int
  a1 : Int
  a2 : Int
  a3 : Int
  a4 : Int
  a5 : Int
  a6 : Int
  a7 : Bool
  a8 : Int
  a9 : Int
  a10 : Int
  a11 : Int
  a12 : Int
  a13 : Int
  a14 : Int
  a15 : Int
  a16 : Int
  a17 : Int
  a18 : Int
  a19 : Int
  a20 : Int
  a21 : Int
  a22 : Int
  a23 : Bool
  a24 : Int
  a25 : Int
  a26 : Int
  a27 : Int
  a28 : Int
  a29 : Int
  a30 : Int
  a31 : Int
  a32 : Int
  a33 : List S0
def hd48_0 (v : W48_0) : St := ⟨[.top, .c (.ptr 0 0), .c (.ptr 1 0), .c (.int .i64 v.a0), .top, .top, .top, .top, .top, .top, .top, .top, .top, .top, .top, .top, .top, .top, .top], [.cells [.int .u64 v.a1, .int .u8 v.a2, .int .u8 v.a3, .int .u8 v.a4, .int .u8 v.a5, .int .u8 v.a6, .bool v.a7, .int .u16 v.a8, .int .u64 v.a9, .int .u32 v.a10, .int .u64 v.a11, .int .u16 v.a12, .int .u8 v.a13, .int .u8 v.a14, .int .u8 v.a15, .int .u8 v.a16, .slw 2], .cells [.int .u64 v.a17, .int .u8 v.a18, .int .u8 v.a19, .int .u8 v.a20, .int .u8 v.a21, .int .u8 v.a22, .bool v.a23, .int .u16 v.a24, .int .u64 v.a25, .int .u32 v.a26, .int .u64 v.a27, .int .u16 v.a28, .int .u8 v.a29, .int .u8 v.a30, .int .u8 v.a31, .int .u8 v.a32, .nils], .row 0 v.a33]⟩
def gR48_0 (v : W48_0) : Tr (W48_0 ⊕ (Bool × W48_0)) :=
  .br (decide (v.a0 < (v.a33.length : Int))) (
   .br (decide (0 ≤ v.a0) && decide (v.a0 < (v.a33.length : Int))) (
    .opt (v.a33[(Int.toNat v.a0)]?) fun y122 =>
     .leaf (.inl ({ v with a0 := (IntKind.i64.wrap (v.a0 + 1)), a33 := (List.set v.a33 (Int.toNat v.a0) { y122 with f20 := true }) }))) (
    .fail)) (
   .leaf (.inr (false, v)))
noncomputable def lb48_0 : Code := match findB 0 (Go.Proofs.Try.f48.body.getD .skip) with | [.loop b] => b | _ => .skip
def pa48_0 : List PA := [.any, .c (.ptr 0 0), .c (.ptr 1 0), .c (.int .i64), .any, .any, .top, .top, .top, .top, .top, .top, .top, .top, .top, .top, .top, .top, .top]
def pb48_0 : List PB := [.cells [.int .u64, .int .u8, .int .u8, .int .u8, .int .u8, .int .u8, .bool, .int .u16, .int .u64, .int .u32, .int .u64, .int .u16, .int .u8, .int .u8, .int .u8, .int .u8, .slw 2], .cells [.int .u64, .int .u8, .int .u8, .int .u8, .int .u8, .int .u8, .bool, .int .u16, .int .u64, .int .u32, .int .u64, .int .u16, .int .u8, .int .u8, .int .u8, .int .u8, .nils], .row 0]
def ini48_0 (s : St) : W48_0 := ⟨iC (aC (s.tmps.getD 3 .top)), iC ((bL (s.heap.getD 0 .dead)).getD 0 .top), iC ((bL (s.heap.getD 0 .dead)).getD 1 .top), iC ((bL (s.heap.getD 0 .dead)).getD 2 .top), iC ((bL (s.heap.getD 0 .dead)).getD 3 .top), iC ((bL (s.heap.getD 0 .dead)).getD 4 .top), iC ((bL (s.heap.getD 0 .dead)).getD 5 .top), bC ((bL (s.heap.getD 0 .dead)).getD 6 .top), iC ((bL (s.heap.getD 0 .dead)).getD 7 .top), iC ((bL (s.heap.getD 0 .dead)).getD 8 .top), iC ((bL (s.heap.getD 0 .dead)).getD 9 .top), iC ((bL (s.heap.getD 0 .dead)).getD 10 .top), iC ((bL (s.heap.getD 0 .dead)).getD 11 .top), iC ((bL (s.heap.getD 0 .dead)).getD 12 .top), iC ((bL (s.heap.getD 0 .dead)).getD 13 .top), iC ((bL (s.heap.getD 0 .dead)).getD 14 .top), iC ((bL (s.heap.getD 0 .dead)).getD 15 .top), iC ((bL (s.heap.getD 1 .dead)).getD 0 .top), iC ((bL (s.heap.getD 1 .dead)).getD 1 .top), iC ((bL (s.heap.getD 1 .dead)).getD 2 .top), iC ((bL (s.heap.getD 1 .dead)).getD 3 .top), iC ((bL (s.heap.getD 1 .dead)).getD 4 .top), iC ((bL (s.heap.getD 1 .dead)).getD 5 .top), bC ((bL (s.heap.getD 1 .dead)).getD 6 .top), iC ((bL (s.heap.getD 1 .dead)).getD 7 .top), iC ((bL (s.heap.getD 1 .dead)).getD 8 .top), iC ((bL (s.heap.getD 1 .dead)).getD 9 .top), iC ((bL (s.heap.getD 1 .dead)).getD 10 .top), iC ((bL (s.heap.getD 1 .dead)).getD 11 .top), iC ((bL (s.heap.getD 1 .dead)).getD 12 .top), iC ((bL (s.heap.getD 1 .dead)).getD 13 .top), iC ((bL (s.heap.getD 1 .dead)).getD 14 .top), iC ((bL (s.heap.getD 1 .dead)).getD 15 .top), bR 0 (s.heap.getD 2 .dead)⟩
noncomputable def F48_0 : St → Res (Ex × St) := loopF pa48_0 pb48_0 1000000 hd48_0 gR48_0 ini48_0 false
theorem F48_0_ok (s : St) (r : Ex × St) (h : (F48_0 s).eval = some r) : (codeR e48 0 (.block 0 (.loop lb48_0)) s).eval = some r :=
  blk_ok (e := e48) (T := lookT []) (fun s v => by kernel_rfl) (fun s => by kernel_rfl) (tab_nil) s r h
def g48T (x0 : S6) : Tr (S6) :=
  .opt (g35 x0) fun z121 =>
   .opt (iter gR48_0 1000000 (W48_0.mk (0) (z121.f0) (z121.f1) (z121.f2) (z121.f3) (z121.f4) (z121.f5) (z121.f6) (z121.f7) (z121.f8) (z121.f9) (z121.f10) (z121.f11) (z121.f12) (z121.f13) (z121.f14) (z121.f15) (0) (0) (0) (0) (0) (0) (false) (0) (0) (0) (0) (0) (0) (0) (0) (0) (z121.f16))) fun r123 =>
    .br r123.1 (
     .fail) (
     .leaf ((S6.mk r123.2.a1 r123.2.a2 r123.2.a3 r123.2.a4 r123.2.a5 r123.2.a6 r123.2.a7 r123.2.a8 r123.2.a9 r123.2.a10 r123.2.a11 r123.2.a12 r123.2.a13 r123.2.a14 r123.2.a15 r123.2.a16 r123.2.a33)))
def g48 (x0 : S6) : Option (S6) := (g48T x0).get?
noncomputable def T48 : TL := [(0, F48_0)]
noncomputable def q48 : Ab.Spec := frzR [[none, none, none, none, none, none, none, none, none, none, none, none, none, none, none, none, some 0]] (runQ0 e48 (lookT T48) Go.Proofs.Try.f48)
theorem q48_ok : SpecOk Go.Proofs.Try.prog 48 q48 := (runQ0_ok (runR_ok (e := e48) follows (allTI ti_ok _ _ _ _) (callsOk_cons s35_ok (callsOk_nil)) Go.Proofs.Try.func48 Go.Proofs.Try.call48) (fun c hc => by
  have hb : c = Go.Proofs.Try.f48.body.getD .skip := by rw [hc]; rfl
  subst hb
  exact tab_cons (by kernel_rfl) F48_0_ok (tab_nil))).froze [[none, none, none, none, none, none, none, none, none, none, none, none, none, none, none, none, some 0]]
theorem g48_run (x0 : S6) : (q48 [.agg (Cod.enc 6 x0)] []).eval = (g48T x0).ev fun r => ((.agg (Cod.enc 6 r) : AV), ([] : List Blk)) := by kernel_rfl
noncomputable def s48_0 : Ab.Spec := fun args h =>
  dN h <| dL args fun v0 a0 => dG v0 fun l0 => dE 6 l0 fun x0 => dN a0 <|
  .opt (g48 x0) fun r => .val (.agg (Cod.enc 6 r), [])
theorem s48_0_ok : SpecOk Go.Proofs.Try.prog 48 s48_0 :=
  q48_ok.less fun args hs r h => by
    unfold s48_0 at h
    obtain ⟨rfl, hh1⟩ := dN_inv h
    obtain ⟨v0, a0, rfl, hh2⟩ := dL_inv hh1
    obtain ⟨l0, rfl, hh3⟩ := dG_inv hh2
    obtain ⟨x0, rfl, hh4⟩ := dE_inv hh3
    obtain ⟨rfl, hh5⟩ := dN_inv hh4
    rw [g48_run, Tr.ev_get?]
    change (Res.opt (g48 x0) _).eval = some r at hh5
    rw [eval_opt] at hh5
    obtain ⟨z, hz, hh6⟩ := Option.bind_eq_some_iff.mp hh5
    unfold g48 at hz
    rw [hz]; exact hh6
noncomputable def s48 : Ab.Spec := fun args h => s48_0 (coeA [[none, none, none, none, none, none, none, none, none, none, none, none, none, none, none, none, some 0]] args) h
theorem s48_ok : SpecOk Go.Proofs.Try.prog 48 s48 := s48_0_ok.pre [[none, none, none, none, none, none, none, none, none, none, none, none, none, none, none, none, some 0]]
/-- pontage/pontageref09.Delay -/
noncomputable def L49 : SL := []
noncomputable def e49 : Env := ⟨ti, fun g => lookS g L49, 1000000, [], []⟩
def g49T (x0 : S0) : Tr (Int) :=
  .br x0.f23 (
   .leaf (x0.f42)) (
   .leaf (x0.f43))
def g49 (x0 : S0) : Int := (g49T x0).get default
noncomputable def T49 : TL := []
noncomputable def q49 : Ab.Spec := runQ0 e49 (lookT T49) Go.Proofs.Try.f49
theorem q49_ok : SpecOk Go.Proofs.Try.prog 49 q49 := (runQ0_ok (runR_ok (e := e49) follows (allTI ti_ok _ _ _ _) (callsOk_nil) Go.Proofs.Try.func49 Go.Proofs.Try.call49) (fun c hc => by
  have hb : c = Go.Proofs.Try.f49.body.getD .skip := by rw [hc]; rfl
  subst hb
  exact tab_nil))
theorem g49_run (x0 : S0) : (q49 [.agg (Cod.enc 0 x0)] []).eval = (g49T x0).ev fun r => ((.c (.int .u8 r) : AV), ([] : List Blk)) := by kernel_rfl
noncomputable def s49 : Ab.Spec := fun args h =>
  dN h <| dL args fun v0 a0 => dG v0 fun l0 => dE 0 l0 fun x0 => dN a0 <|
  let r := g49 x0; .val (.c (.int .u8 r), [])
theorem s49_ok : SpecOk Go.Proofs.Try.prog 49 s49 :=
  q49_ok.less fun args hs r h => by
    unfold s49 at h
    obtain ⟨rfl, hh1⟩ := dN_inv h
    obtain ⟨v0, a0, rfl, hh2⟩ := dL_inv hh1
    obtain ⟨l0, rfl, hh3⟩ := dG_inv hh2
    obtain ⟨x0, rfl, hh4⟩ := dE_inv hh3
    obtain ⟨rfl, hh5⟩ := dN_inv hh4
    rw [g49_run, Tr.ev_get (d := default) (by kernel_rfl)]
    exact hh5
/-- pontage/pontageref13.root -/
noncomputable def L30 : SL := [(46, .byNew, s46), (47, .byVal, s47), (48, .byNew, s48), (49, .byVal, s49), (15, .byNew, s15)]
noncomputable def e30 : Env := ⟨ti, fun g => lookS g L30, 1000000, [], []⟩
def g30T (x0 : S6) (x1 : Int) : Tr (S6 × Bool) :=
  .opt (g46 x0 x1) fun z124 =>
   .br z124.2 (
    .leaf (z124.1, true)) (
    .br (decide (0 ≤ x1)) (
     .opt (x0.f16[Int.toNat x1]?) fun y125 =>
      .br (!(y125.f65 == 0)) (
       .opt (g47 x0 x1) fun z127 =>
        .br (bif (!y125.f7) then (!y125.f20) else false) (
         .opt (g48 x0) fun z128 =>
          .leaf (z128, true)) (
         .br (bif y125.f20 then y125.f7 else false) (
          .opt (g15 x0 x1 { y125 with f20 := false }) fun z129 =>
           .leaf (z129, true)) (
          .br (bif (bif z127 then (y125.f68 == 0) else false) then (!y125.f9) else false) (
           let z130 := g49 y125
           .opt (g15 x0 x1 { y125 with f9 := true, f65 := z130 }) fun z131 =>
            .leaf (z131, true)) (
           .br (bif (bif (bif z127 then (y125.f68 == 0) else false) then y125.f9 else false) then (!y125.f7) else false) (
            .opt (g15 x0 x1 { y125 with f7 := true, f65 := 0 }) fun z132 =>
             .leaf (z132, true)) (
            .br (y125.f70 != y125.f43) (
             .opt (g15 x0 x1 { y125 with f70 := y125.f43 }) fun z133 =>
              .leaf (z133, true)) (
             .leaf (x0, false))))))) (
       .br (bif (!y125.f7) then (!y125.f20) else false) (
        .opt (g48 x0) fun z134 =>
         .leaf (z134, true)) (
        .br (bif y125.f20 then y125.f7 else false) (
         .opt (g15 x0 x1 { y125 with f20 := false }) fun z135 =>
          .leaf (z135, true)) (
         .br (!y125.f9) (
          let z136 := g49 y125
          .opt (g15 x0 x1 { y125 with f9 := true, f65 := z136 }) fun z137 =>
           .leaf (z137, true)) (
          .br (bif y125.f9 then (!y125.f7) else false) (
           .opt (g15 x0 x1 { y125 with f7 := true, f65 := 0 }) fun z138 =>
            .leaf (z138, true)) (
           .br (y125.f70 != y125.f43) (
            .opt (g15 x0 x1 { y125 with f70 := y125.f43 }) fun z139 =>
             .leaf (z139, true)) (
            .leaf (x0, false)))))))) (
     .fail))
def g30 (x0 : S6) (x1 : Int) : Option (S6 × Bool) := (g30T x0 x1).get?
noncomputable def T30 : TL := []
noncomputable def q30 : Ab.Spec := frzR [[none, none, none, none, none, none, none, none, none, none, none, none, none, none, none, none, some 0], []] (runQ0 e30 (lookT T30) Go.Proofs.Try.f30)
theorem q30_ok : SpecOk Go.Proofs.Try.prog 30 q30 := (runQ0_ok (runR_ok (e := e30) follows (allTI ti_ok _ _ _ _) (callsOk_cons s46_ok (callsOk_cons s47_ok (callsOk_cons s48_ok (callsOk_cons s49_ok (callsOk_cons s15_ok (callsOk_nil)))))) Go.Proofs.Try.func30 Go.Proofs.Try.call30) (fun c hc => by
  have hb : c = Go.Proofs.Try.f30.body.getD .skip := by rw [hc]; rfl
  subst hb
  exact tab_nil)).froze [[none, none, none, none, none, none, none, none, none, none, none, none, none, none, none, none, some 0], []]
theorem g30_run (x0 : S6) (x1 : Int) : (q30 [.agg (Cod.enc 6 x0), .c (.int .i64 x1)] []).eval = (g30T x0 x1).ev fun r => ((.tup [some (true, Cod.enc 6 r.1), some (false, [.bool r.2])] : AV), ([] : List Blk)) := by kernel_rfl
noncomputable def s30_0 : Ab.Spec := fun args h =>
  dN h <| dL args fun v0 a0 => dG v0 fun l0 => dE 6 l0 fun x0 => dL a0 fun v1 a1 => dC v1 fun c0 => dI .i64 c0 fun x1 => dN a1 <|
  .opt (g30 x0 x1) fun r => .val (.tup [some (true, Cod.enc 6 r.1), some (false, [.bool r.2])], [])
theorem s30_0_ok : SpecOk Go.Proofs.Try.prog 30 s30_0 :=
  q30_ok.less fun args hs r h => by
    unfold s30_0 at h
    obtain ⟨rfl, hh1⟩ := dN_inv h
    obtain ⟨v0, a0, rfl, hh2⟩ := dL_inv hh1
    obtain ⟨l0, rfl, hh3⟩ := dG_inv hh2
    obtain ⟨x0, rfl, hh4⟩ := dE_inv hh3
    obtain ⟨v1, a1, rfl, hh5⟩ := dL_inv hh4
    obtain ⟨c0, rfl, hh6⟩ := dC_inv hh5
    obtain ⟨x1, rfl, hh7⟩ := dI_inv hh6
    obtain ⟨rfl, hh8⟩ := dN_inv hh7
    rw [g30_run, Tr.ev_get?]
    change (Res.opt (g30 x0 x1) _).eval = some r at hh8
    rw [eval_opt] at hh8
    obtain ⟨z, hz, hh9⟩ := Option.bind_eq_some_iff.mp hh8
    unfold g30 at hz
    rw [hz]; exact hh9
noncomputable def s30 : Ab.Spec := fun args h => s30_0 (coeA [[none, none, none, none, none, none, none, none, none, none, none, none, none, none, none, none, some 0], []] args) h
theorem s30_ok : SpecOk Go.Proofs.Try.prog 30 s30 := s30_0_ok.pre [[none, none, none, none, none, none, none, none, none, none, none, none, none, none, none, none, some 0], []]
/-- pontage/pontageref13.designated -/
noncomputable def L31 : SL := [(49, .byVal, s49)]
noncomputable def e31 : Env := ⟨ti, fun g => lookS g L31, 1000000, [], []⟩
def g31T (x0 : S0) : Tr (S0 × Bool) :=
  .br (bif (bif (!x0.f7) then (!x0.f4) else false) then (!x0.f13) else false) (
   .leaf ({ x0 with f11 := true, f13 := true }, true)) (
   .br (bif (bif (bif (bif (!x0.f10) then (!x0.f8) else false) then (!x0.f25) else false) then true else (bif x0.f4 then (!x0.f25) else false)) then true else (bif x0.f24 then x0.f25 else false)) (
    .leaf ({ x0 with f24 := false, f25 := true, f70 := 0 }, true)) (
    .br (bif (x0.f70 == 0) then x0.f20 else false) (
     .leaf ({ x0 with f20 := false }, true)) (
     .br (bif (bif (bif (bif x0.f24 then (!x0.f25) else false) then true else (bif x0.f20 then (x0.f70 != 0) else false)) then true else x0.f5) then (bif x0.f9 then true else x0.f7) else false) (
      let z140 := g49 x0
      .leaf ({ x0 with f5 := false, f7 := false, f9 := false, f65 := z140 }, true)) (
      .br (bif (bif (bif (bif (x0.f65 == 0) then true else x0.f4) then (bif (x0.f70 == 0) then true else (!x0.f20)) else false) then (!x0.f24) else false) then (!x0.f9) else false) (
       let z141 := g49 x0
       .leaf ({ x0 with f9 := true, f65 := z141 }, true)) (
       .br (bif (bif (bif (bif (bif (x0.f65 == 0) then true else x0.f4) then (bif (x0.f70 == 0) then true else (!x0.f20)) else false) then (!x0.f24) else false) then x0.f9 else false) then (!x0.f7) else false) (
        .leaf ({ x0 with f4 := x0.f23, f7 := true, f65 := 0 }, true)) (
        .leaf (x0, false)))))))
def g31 (x0 : S0) : S0 × Bool := (g31T x0).get default
noncomputable def T31 : TL := []
noncomputable def q31 : Ab.Spec := runQ0 e31 (lookT T31) Go.Proofs.Try.f31
theorem q31_ok : SpecOk Go.Proofs.Try.prog 31 q31 := (runQ0_ok (runR_ok (e := e31) follows (allTI ti_ok _ _ _ _) (callsOk_cons s49_ok (callsOk_nil)) Go.Proofs.Try.func31 Go.Proofs.Try.call31) (fun c hc => by
  have hb : c = Go.Proofs.Try.f31.body.getD .skip := by rw [hc]; rfl
  subst hb
  exact tab_nil))
theorem g31_run (x0 : S0) : (q31 [.agg (Cod.enc 0 x0)] []).eval = (g31T x0).ev fun r => ((.tup [some (true, Cod.enc 0 r.1), some (false, [.bool r.2])] : AV), ([] : List Blk)) := by kernel_rfl
noncomputable def s31 : Ab.Spec := fun args h =>
  dN h <| dL args fun v0 a0 => dG v0 fun l0 => dE 0 l0 fun x0 => dN a0 <|
  let r := g31 x0; .val (.tup [some (true, Cod.enc 0 r.1), some (false, [.bool r.2])], [])
theorem s31_ok : SpecOk Go.Proofs.Try.prog 31 s31 :=
  q31_ok.less fun args hs r h => by
    unfold s31 at h
    obtain ⟨rfl, hh1⟩ := dN_inv h
    obtain ⟨v0, a0, rfl, hh2⟩ := dL_inv hh1
    obtain ⟨l0, rfl, hh3⟩ := dG_inv hh2
    obtain ⟨x0, rfl, hh4⟩ := dE_inv hh3
    obtain ⟨rfl, hh5⟩ := dN_inv hh4
    rw [g31_run, Tr.ev_get (d := default) (by kernel_rfl)]
    exact hh5
/-- pontage/pontageref13.twice -/
noncomputable def L50 : SL := []
noncomputable def e50 : Env := ⟨ti, fun g => lookS g L50, 1000000, [], []⟩
def g50T (x0 : Int) : Tr (Int) :=
  .leaf ((IntKind.u8.wrap (mnI 255 (IntKind.i64.wrap (2 * (IntKind.i64.wrap x0))))))
def g50 (x0 : Int) : Int := (g50T x0).get default
noncomputable def T50 : TL := []
noncomputable def q50 : Ab.Spec := runQ0 e50 (lookT T50) Go.Proofs.Try.f50
theorem q50_ok : SpecOk Go.Proofs.Try.prog 50 q50 := (runQ0_ok (runR_ok (e := e50) follows (allTI ti_ok _ _ _ _) (callsOk_nil) Go.Proofs.Try.func50 Go.Proofs.Try.call50) (fun c hc => by
  have hb : c = Go.Proofs.Try.f50.body.getD .skip := by rw [hc]; rfl
  subst hb
  exact tab_nil))
theorem g50_run (x0 : Int) : (q50 [.c (.int .u8 x0)] []).eval = (g50T x0).ev fun r => ((.c (.int .u8 r) : AV), ([] : List Blk)) := by kernel_rfl
noncomputable def s50 : Ab.Spec := fun args h =>
  dN h <| dL args fun v0 a0 => dC v0 fun c0 => dI .u8 c0 fun x0 => dN a0 <|
  let r := g50 x0; .val (.c (.int .u8 r), [])
theorem s50_ok : SpecOk Go.Proofs.Try.prog 50 s50 :=
  q50_ok.less fun args hs r h => by
    unfold s50 at h
    obtain ⟨rfl, hh1⟩ := dN_inv h
    obtain ⟨v0, a0, rfl, hh2⟩ := dL_inv hh1
    obtain ⟨c0, rfl, hh3⟩ := dC_inv hh2
    obtain ⟨x0, rfl, hh4⟩ := dI_inv hh3
    obtain ⟨rfl, hh5⟩ := dN_inv hh4
    rw [g50_run, Tr.ev_get (d := default) (by kernel_rfl)]
    exact hh5
/-- pontage/pontageref13.alternate -/
noncomputable def L32 : SL := [(46, .byNew, s46), (29, .byVal, s29), (28, .byVal, s28), (15, .byNew, s15), (50, .byVal, s50)]
noncomputable def e32 : Env := ⟨ti, fun g => lookS g L32, 1000000, [], []⟩
def g32T (x0 : S6) (x1 : Int) : Tr (S6 × Bool) :=
  .opt (g46 x0 x1) fun z142 =>
   .br z142.2 (
    .leaf (z142.1, true)) (
    .br (decide (0 ≤ x1)) (
     .opt (x0.f16[Int.toNat x1]?) fun y143 =>
      let z144 := g29 y143 y143.f43
      .br z144 (
       let z145 := g28 y143 y143.f43 6
       .opt (g15 x0 x1 z145) fun z146 =>
        .leaf (z146, true)) (
       let z147 := g50 y143.f42
       .br (bif (y143.f30 == 2) then (y143.f68 != z147) else false) (
        let z148 := g50 y143.f42
        .opt (g15 x0 x1 { y143 with f68 := z148 }) fun z149 =>
         .leaf (z149, true)) (
        .leaf (x0, false)))) (
     .fail))
def g32 (x0 : S6) (x1 : Int) : Option (S6 × Bool) := (g32T x0 x1).get?
noncomputable def T32 : TL := []
noncomputable def q32 : Ab.Spec := frzR [[none, none, none, none, none, none, none, none, none, none, none, none, none, none, none, none, some 0], []] (runQ0 e32 (lookT T32) Go.Proofs.Try.f32)
theorem q32_ok : SpecOk Go.Proofs.Try.prog 32 q32 := (runQ0_ok (runR_ok (e := e32) follows (allTI ti_ok _ _ _ _) (callsOk_cons s46_ok (callsOk_cons s29_ok (callsOk_cons s28_ok (callsOk_cons s15_ok (callsOk_cons s50_ok (callsOk_nil)))))) Go.Proofs.Try.func32 Go.Proofs.Try.call32) (fun c hc => by
  have hb : c = Go.Proofs.Try.f32.body.getD .skip := by rw [hc]; rfl
  subst hb
  exact tab_nil)).froze [[none, none, none, none, none, none, none, none, none, none, none, none, none, none, none, none, some 0], []]
theorem g32_run (x0 : S6) (x1 : Int) : (q32 [.agg (Cod.enc 6 x0), .c (.int .i64 x1)] []).eval = (g32T x0 x1).ev fun r => ((.tup [some (true, Cod.enc 6 r.1), some (false, [.bool r.2])] : AV), ([] : List Blk)) := by kernel_rfl
noncomputable def s32_0 : Ab.Spec := fun args h =>
  dN h <| dL args fun v0 a0 => dG v0 fun l0 => dE 6 l0 fun x0 => dL a0 fun v1 a1 => dC v1 fun c0 => dI .i64 c0 fun x1 => dN a1 <|
  .opt (g32 x0 x1) fun r => .val (.tup [some (true, Cod.enc 6 r.1), some (false, [.bool r.2])], [])
theorem s32_0_ok : SpecOk Go.Proofs.Try.prog 32 s32_0 :=
  q32_ok.less fun args hs r h => by
    unfold s32_0 at h
    obtain ⟨rfl, hh1⟩ := dN_inv h
    obtain ⟨v0, a0, rfl, hh2⟩ := dL_inv hh1
    obtain ⟨l0, rfl, hh3⟩ := dG_inv hh2
    obtain ⟨x0, rfl, hh4⟩ := dE_inv hh3
    obtain ⟨v1, a1, rfl, hh5⟩ := dL_inv hh4
    obtain ⟨c0, rfl, hh6⟩ := dC_inv hh5
    obtain ⟨x1, rfl, hh7⟩ := dI_inv hh6
    obtain ⟨rfl, hh8⟩ := dN_inv hh7
    rw [g32_run, Tr.ev_get?]
    change (Res.opt (g32 x0 x1) _).eval = some r at hh8
    rw [eval_opt] at hh8
    obtain ⟨z, hz, hh9⟩ := Option.bind_eq_some_iff.mp hh8
    unfold g32 at hz
    rw [hz]; exact hh9
noncomputable def s32 : Ab.Spec := fun args h => s32_0 (coeA [[none, none, none, none, none, none, none, none, none, none, none, none, none, none, none, none, some 0], []] args) h
theorem s32_ok : SpecOk Go.Proofs.Try.prog 32 s32 := s32_0_ok.pre [[none, none, none, none, none, none, none, none, none, none, none, none, none, none, none, none, some 0], []]
/-- pontage/pontageref13.Step -/
noncomputable def L10 : SL := [(13, .byVal, s13), (26, .byVal, s26), (15, .byNew, s15), (27, .byVal, s27), (28, .byVal, s28), (29, .byVal, s29), (30, .byNew, s30), (31, .byVal, s31), (32, .byNew, s32)]
noncomputable def e10 : Env := ⟨ti, fun g => lookS g L10, 1000000, [], []⟩
def g10T (x0 : S6) (x1 : Int) : Tr (S6 × Bool) :=
  let z150 := g13 x0 x1
  .br (!z150) (
   .leaf (x0, false)) (
   .br (decide (0 ≤ x1)) (
    .opt (x0.f16[Int.toNat x1]?) fun y151 =>
     .br (bif (decide (y151.f73 < 1)) then true else (decide (y151.f73 > 6))) (
      let z152 := g26 y151
      .opt (g15 x0 x1 z152) fun z153 =>
       .leaf (z153, true)) (
      .br (bif (!y151.f22) then true else y151.f28) (
       .leaf (x0, false)) (
       .br (y151.f31 != y151.f30) (
        let z154 := g27 y151
        .opt (g15 x0 x1 z154) fun z155 =>
         .leaf (z155, true)) (
        .br (y151.f73 == 1) (
         .br (bif (!y151.f10) then (!y151.f8) else false) (
          let z156 := g28 y151 y151.f41 2
          .opt (g15 x0 x1 z156) fun z157 =>
           .leaf (z157, true)) (
          .leaf (x0, false))) (
         .br (y151.f73 == 2) (
          let z158 := g29 y151 y151.f41
          .br z158 (
           let z159 := g28 y151 y151.f41 2
           .opt (g15 x0 x1 z159) fun z160 =>
            .leaf (z160, true)) (
           .leaf (x0, false))) (
          .br (y151.f73 == 3) (
           .opt (g30 x0 x1) fun z161 =>
            .leaf (z161.1, z161.2)) (
           .br (y151.f73 == 4) (
            let z162 := g31 y151
            .br z162.2 (
             .opt (g15 x0 x1 z162.1) fun z163 =>
              .leaf (z163, true)) (
             .leaf (x0, false))) (
            .br (y151.f73 == 5) (
             .br (bif (!y151.f10) then (!y151.f8) else false) (
              let z164 := g28 y151 y151.f43 6
              .opt (g15 x0 x1 z164) fun z165 =>
               .leaf (z165, true)) (
              .leaf (x0, false))) (
             .br (y151.f73 == 6) (
              .opt (g32 x0 x1) fun z166 =>
               .leaf (z166.1, z166.2)) (
              .leaf (x0, false))))))))))) (
    .fail))
def g10 (x0 : S6) (x1 : Int) : Option (S6 × Bool) := (g10T x0 x1).get?
noncomputable def T10 : TL := []
noncomputable def q10 : Ab.Spec := frzR [[none, none, none, none, none, none, none, none, none, none, none, none, none, none, none, none, some 0], []] (runQ0 e10 (lookT T10) Go.Proofs.Try.f10)
theorem q10_ok : SpecOk Go.Proofs.Try.prog 10 q10 := (runQ0_ok (runR_ok (e := e10) follows (allTI ti_ok _ _ _ _) (callsOk_cons s13_ok (callsOk_cons s26_ok (callsOk_cons s15_ok (callsOk_cons s27_ok (callsOk_cons s28_ok (callsOk_cons s29_ok (callsOk_cons s30_ok (callsOk_cons s31_ok (callsOk_cons s32_ok (callsOk_nil)))))))))) Go.Proofs.Try.func10 Go.Proofs.Try.call10) (fun c hc => by
  have hb : c = Go.Proofs.Try.f10.body.getD .skip := by rw [hc]; rfl
  subst hb
  exact tab_nil)).froze [[none, none, none, none, none, none, none, none, none, none, none, none, none, none, none, none, some 0], []]
theorem g10_run (x0 : S6) (x1 : Int) : (q10 [.agg (Cod.enc 6 x0), .c (.int .i64 x1)] []).eval = (g10T x0 x1).ev fun r => ((.tup [some (true, Cod.enc 6 r.1), some (false, [.bool r.2])] : AV), ([] : List Blk)) := by kernel_rfl
noncomputable def s10_0 : Ab.Spec := fun args h =>
  dN h <| dL args fun v0 a0 => dG v0 fun l0 => dE 6 l0 fun x0 => dL a0 fun v1 a1 => dC v1 fun c0 => dI .i64 c0 fun x1 => dN a1 <|
  .opt (g10 x0 x1) fun r => .val (.tup [some (true, Cod.enc 6 r.1), some (false, [.bool r.2])], [])
theorem s10_0_ok : SpecOk Go.Proofs.Try.prog 10 s10_0 :=
  q10_ok.less fun args hs r h => by
    unfold s10_0 at h
    obtain ⟨rfl, hh1⟩ := dN_inv h
    obtain ⟨v0, a0, rfl, hh2⟩ := dL_inv hh1
    obtain ⟨l0, rfl, hh3⟩ := dG_inv hh2
    obtain ⟨x0, rfl, hh4⟩ := dE_inv hh3
    obtain ⟨v1, a1, rfl, hh5⟩ := dL_inv hh4
    obtain ⟨c0, rfl, hh6⟩ := dC_inv hh5
    obtain ⟨x1, rfl, hh7⟩ := dI_inv hh6
    obtain ⟨rfl, hh8⟩ := dN_inv hh7
    rw [g10_run, Tr.ev_get?]
    change (Res.opt (g10 x0 x1) _).eval = some r at hh8
    rw [eval_opt] at hh8
    obtain ⟨z, hz, hh9⟩ := Option.bind_eq_some_iff.mp hh8
    unfold g10 at hz
    rw [hz]; exact hh9
noncomputable def s10 : Ab.Spec := fun args h => s10_0 (coeA [[none, none, none, none, none, none, none, none, none, none, none, none, none, none, none, none, some 0], []] args) h
theorem s10_ok : SpecOk Go.Proofs.Try.prog 10 s10 := s10_0_ok.pre [[none, none, none, none, none, none, none, none, none, none, none, none, none, none, none, none, some 0], []]
/-- pontage/pontageref09.Same -/
noncomputable def L11 : SL := []
noncomputable def e11 : Env := ⟨ti, fun g => lookS g L11, 1000000, [.drop 0, .drop 1, .drop 6, .drop 7, .drop 8, .drop 9, .drop 10, .drop 11, .drop 12, .drop 13, .drop 14, .drop 15, .drop 16, .drop 17, .drop 18, .drop 19, .drop 20, .drop 21, .drop 22, .drop 23, .drop 24, .drop 25, .drop 26, .drop 27, .drop 28, .drop 29, .drop 30, .drop 31, .drop 32, .drop 33, .drop 34, .drop 35, .drop 36, .drop 37, .drop 38, .drop 39, .drop 40, .drop 41, .drop 42, .drop 43, .drop 44, .drop 45, .drop 46, .drop 47, .drop 48, .drop 49, .drop 50, .drop 51, .drop 52, .drop 53, .drop 54, .drop 55, .drop 56, .drop 57, .drop 58, .drop 59, .drop 60, .drop 61], []⟩
structure W11_0 where
  a0 : Bool
  a1 : Int
  a2 : Int
  a3 : Int
  a4 : Int
  a5 : Int
  a6 : Int
  a7 : Int
  a8 : Bool
  a9 : Int
  a10 : Int
  a11 : Int
  a12 : Int
  a13 : Int
  a14 : Int
  a15 : Int
  a16 : Int
  a17 : Int
  a18 : List S0
  a19 : Int
  a20 : Int
  a21 : Int
  a22 : Int
  a23 : Int
  a24 : Int
  a25 : Bool
  a26 : Int
  a27 : Int
  a28 : Int
  a29 : Int
  a30 : Int
  a31 : Int
  a32 : Int
  a33 : Int
  a34 : Int
  a35 : List S0
def hd11_0 (v : W11_0) : St := ⟨[.top, .top, .c (.ptr 0 0), .c (.ptr 1 0), .c (.bool v.a0), .c (.int .i64 v.a1), .top, .top, .top, .top, .top, .top, .top, .top, .top, .top, .top, .top, .top, .top, .top, .top, .top, .top, .top, .top, .top, .top, .top, .top, .top, .top, .top, .top, .top, .top, .top, .top, .top, .top, .top, .top, .top, .top, .top, .top, .top, .top, .top, .top, .top, .top, .top, .top, .top, .top, .top, .top, .top, .top, .top, .top, .top, .top, .top, .top, .top, .top, .top, .top, .top, .top, .top, .top, .top, .top, .top, .top, .top, .top], [.cells [.int .u64 v.a2, .int .u8 v.a3, .int .u8 v.a4, .int .u8 v.a5, .int .u8 v.a6, .int .u8 v.a7, .bool v.a8, .int .u16 v.a9, .int .u64 v.a10, .int .u32 v.a11, .int .u64 v.a12, .int .u16 v.a13, .int .u8 v.a14, .int .u8 v.a15, .int .u8 v.a16, .int .u8 v.a17, .rs 0 v.a18], .cells [.int .u64 v.a19, .int .u8 v.a20, .int .u8 v.a21, .int .u8 v.a22, .int .u8 v.a23, .int .u8 v.a24, .bool v.a25, .int .u16 v.a26, .int .u64 v.a27, .int .u32 v.a28, .int .u64 v.a29, .int .u16 v.a30, .int .u8 v.a31, .int .u8 v.a32, .int .u8 v.a33, .int .u8 v.a34, .rs 0 v.a35]]⟩
def gR11_0 (v : W11_0) : Tr (W11_0 ⊕ (Bool × W11_0)) :=
  .br (decide (v.a1 < (v.a18.length : Int))) (
   .br (decide (0 ≤ v.a1)) (
    .opt (v.a18[Int.toNat v.a1]?) fun y167 =>
     .br (decide (0 ≤ v.a1)) (
      .opt (v.a35[Int.toNat v.a1]?) fun y168 =>
       .br (!(eqS0 y167 y168)) (
        .leaf (.inr (true, { v with a0 := false }))) (
        .leaf (.inl ({ v with a1 := (IntKind.i64.wrap (v.a1 + 1)) })))) (
      .fail)) (
    .fail)) (
   .leaf (.inr (false, v)))
noncomputable def lb11_0 : Code := match findB 0 (Go.Proofs.Try.f11.body.getD .skip) with | [.loop b] => b | _ => .skip
def pa11_0 : List PA := [.any, .any, .c (.ptr 0 0), .c (.ptr 1 0), .c (.bool), .c (.int .i64), .any, .any, .any, .any, .any, .any, .any, .any, .any, .any, .any, .any, .any, .any, .any, .any, .any, .any, .any, .any, .any, .any, .any, .any, .any, .any, .any, .any, .any, .any, .any, .any, .any, .any, .any, .any, .any, .any, .any, .any, .any, .any, .any, .any, .any, .any, .any, .any, .any, .any, .any, .any, .any, .any, .any, .any, .top, .top, .top, .top, .top, .top, .top, .top, .top, .top, .top, .top, .top, .top, .top, .top, .top, .top]
def pb11_0 : List PB := [.cells [.int .u64, .int .u8, .int .u8, .int .u8, .int .u8, .int .u8, .bool, .int .u16, .int .u64, .int .u32, .int .u64, .int .u16, .int .u8, .int .u8, .int .u8, .int .u8, .rs 0], .cells [.int .u64, .int .u8, .int .u8, .int .u8, .int .u8, .int .u8, .bool, .int .u16, .int .u64, .int .u32, .int .u64, .int .u16, .int .u8, .int .u8, .int .u8, .int .u8, .rs 0]]
def ini11_0 (s : St) : W11_0 := ⟨bC (aC (s.tmps.getD 4 .top)), iC (aC (s.tmps.getD 5 .top)), iC ((bL (s.heap.getD 0 .dead)).getD 0 .top), iC ((bL (s.heap.getD 0 .dead)).getD 1 .top), iC ((bL (s.heap.getD 0 .dead)).getD 2 .top), iC ((bL (s.heap.getD 0 .dead)).getD 3 .top), iC ((bL (s.heap.getD 0 .dead)).getD 4 .top), iC ((bL (s.heap.getD 0 .dead)).getD 5 .top), bC ((bL (s.heap.getD 0 .dead)).getD 6 .top), iC ((bL (s.heap.getD 0 .dead)).getD 7 .top), iC ((bL (s.heap.getD 0 .dead)).getD 8 .top), iC ((bL (s.heap.getD 0 .dead)).getD 9 .top), iC ((bL (s.heap.getD 0 .dead)).getD 10 .top), iC ((bL (s.heap.getD 0 .dead)).getD 11 .top), iC ((bL (s.heap.getD 0 .dead)).getD 12 .top), iC ((bL (s.heap.getD 0 .dead)).getD 13 .top), iC ((bL (s.heap.getD 0 .dead)).getD 14 .top), iC ((bL (s.heap.getD 0 .dead)).getD 15 .top), rC 0 ((bL (s.heap.getD 0 .dead)).getD 16 .top), iC ((bL (s.heap.getD 1 .dead)).getD 0 .top), iC ((bL (s.heap.getD 1 .dead)).getD 1 .top), iC ((bL (s.heap.getD 1 .dead)).getD 2 .top), iC ((bL (s.heap.getD 1 .dead)).getD 3 .top), iC ((bL (s.heap.getD 1 .dead)).getD 4 .top), iC ((bL (s.heap.getD 1 .dead)).getD 5 .top), bC ((bL (s.heap.getD 1 .dead)).getD 6 .top), iC ((bL (s.heap.getD 1 .dead)).getD 7 .top), iC ((bL (s.heap.getD 1 .dead)).getD 8 .top), iC ((bL (s.heap.getD 1 .dead)).getD 9 .top), iC ((bL (s.heap.getD 1 .dead)).getD 10 .top), iC ((bL (s.heap.getD 1 .dead)).getD 11 .top), iC ((bL (s.heap.getD 1 .dead)).getD 12 .top), iC ((bL (s.heap.getD 1 .dead)).getD 13 .top), iC ((bL (s.heap.getD 1 .dead)).getD 14 .top), iC ((bL (s.heap.getD 1 .dead)).getD 15 .top), rC 0 ((bL (s.heap.getD 1 .dead)).getD 16 .top)⟩
noncomputable def F11_0 : St → Res (Ex × St) := loopF pa11_0 pb11_0 1000000 hd11_0 gR11_0 ini11_0 true
theorem F11_0_ok (s : St) (r : Ex × St) (h : (F11_0 s).eval = some r) : (codeR e11 0 (.block 0 (.loop lb11_0)) s).eval = some r :=
  blk_ok (e := e11) (T := lookT []) (fun s v => by kernel_rfl) (fun s => by kernel_rfl) (tab_nil) s r h
def g11T (x0 : S6) (x1 : S6) : Tr (Bool) :=
  .br (bif (bif (bif (bif (bif (bif (bif (x0.f0 != x1.f0) then true else (!(eqS4 (S4.mk x0.f1 x0.f2 x0.f3 x0.f4) (S4.mk x1.f1 x1.f2 x1.f3 x1.f4)))) then true else (x0.f5 != x1.f5)) then true else (!(x0.f6 == x1.f6))) then true else (x0.f7 != x1.f7)) then true else (!(eqS5 (S5.mk x0.f8 x0.f9 x0.f10 x0.f11) (S5.mk x1.f8 x1.f9 x1.f10 x1.f11)))) then true else (!(eqS4 (S4.mk x0.f12 x0.f13 x0.f14 x0.f15) (S4.mk x1.f12 x1.f13 x1.f14 x1.f15)))) then true else ((x0.f16.length : Int) != (x1.f16.length : Int))) (
   .leaf (false)) (
   .opt (iter gR11_0 1000000 (W11_0.mk (false) (0) (x0.f0) (x0.f1) (x0.f2) (x0.f3) (x0.f4) (x0.f5) (x0.f6) (x0.f7) (x0.f8) (x0.f9) (x0.f10) (x0.f11) (x0.f12) (x0.f13) (x0.f14) (x0.f15) (x0.f16) (x1.f0) (x1.f1) (x1.f2) (x1.f3) (x1.f4) (x1.f5) (x1.f6) (x1.f7) (x1.f8) (x1.f9) (x1.f10) (x1.f11) (x1.f12) (x1.f13) (x1.f14) (x1.f15) (x1.f16))) fun r169 =>
    .br r169.1 (
     .leaf (r169.2.a0)) (
     .leaf (true)))
def g11 (x0 : S6) (x1 : S6) : Option (Bool) := (g11T x0 x1).get?
noncomputable def T11 : TL := [(0, F11_0)]
noncomputable def q11 : Ab.Spec := runQ0 e11 (lookT T11) Go.Proofs.Try.f11
theorem q11_ok : SpecOk Go.Proofs.Try.prog 11 q11 := (runQ0_ok (runR_ok (e := e11) follows (allTI ti_ok _ _ _ _) (callsOk_nil) Go.Proofs.Try.func11 Go.Proofs.Try.call11) (fun c hc => by
  have hb : c = Go.Proofs.Try.f11.body.getD .skip := by rw [hc]; rfl
  subst hb
  exact tab_cons (by kernel_rfl) F11_0_ok (tab_nil)))
theorem g11_run (x0 : S6) (x1 : S6) : (q11 [.agg (Cod.enc 6 x0), .agg (Cod.enc 6 x1)] []).eval = (g11T x0 x1).ev fun r => ((.c (.bool r) : AV), ([] : List Blk)) := by kernel_rfl
noncomputable def s11_0 : Ab.Spec := fun args h =>
  dN h <| dL args fun v0 a0 => dG v0 fun l0 => dE 6 l0 fun x0 => dL a0 fun v1 a1 => dG v1 fun l1 => dE 6 l1 fun x1 => dN a1 <|
  .opt (g11 x0 x1) fun r => .val (.c (.bool r), [])
theorem s11_0_ok : SpecOk Go.Proofs.Try.prog 11 s11_0 :=
  q11_ok.less fun args hs r h => by
    unfold s11_0 at h
    obtain ⟨rfl, hh1⟩ := dN_inv h
    obtain ⟨v0, a0, rfl, hh2⟩ := dL_inv hh1
    obtain ⟨l0, rfl, hh3⟩ := dG_inv hh2
    obtain ⟨x0, rfl, hh4⟩ := dE_inv hh3
    obtain ⟨v1, a1, rfl, hh5⟩ := dL_inv hh4
    obtain ⟨l1, rfl, hh6⟩ := dG_inv hh5
    obtain ⟨x1, rfl, hh7⟩ := dE_inv hh6
    obtain ⟨rfl, hh8⟩ := dN_inv hh7
    rw [g11_run, Tr.ev_get?]
    change (Res.opt (g11 x0 x1) _).eval = some r at hh8
    rw [eval_opt] at hh8
    obtain ⟨z, hz, hh9⟩ := Option.bind_eq_some_iff.mp hh8
    unfold g11 at hz
    rw [hz]; exact hh9
noncomputable def s11 : Ab.Spec := fun args h => s11_0 (coeA [[none, none, none, none, none, none, none, none, none, none, none, none, none, none, none, none, some 0], [none, none, none, none, none, none, none, none, none, none, none, none, none, none, none, none, some 0]] args) h
theorem s11_ok : SpecOk Go.Proofs.Try.prog 11 s11 := s11_0_ok.pre [[none, none, none, none, none, none, none, none, none, none, none, none, none, none, none, none, some 0], [none, none, none, none, none, none, none, none, none, none, none, none, none, none, none, none, some 0]]
/-- pontage/pontagelaw09.Conf -/
noncomputable def L34 : SL := []
noncomputable def e34 : Env := ⟨ti, fun g => lookS g L34, 1000000, [], []⟩
def g34T  : Tr (S8) :=
  .leaf ((S8.mk 9223372036854775813 0 20 2 15 6 [(S1.mk 20000), (S1.mk 20000)]))
def g34  : S8 := (g34T ).get default
noncomputable def T34 : TL := []
noncomputable def q34 : Ab.Spec := frzR [[none, none, none, none, none, none, some 1]] (runQ0 e34 (lookT T34) Go.Proofs.Try.f34)
theorem q34_ok : SpecOk Go.Proofs.Try.prog 34 q34 := (runQ0_ok (runR_ok (e := e34) follows (allTI ti_ok _ _ _ _) (callsOk_nil) Go.Proofs.Try.func34 Go.Proofs.Try.call34) (fun c hc => by
  have hb : c = Go.Proofs.Try.f34.body.getD .skip := by rw [hc]; rfl
  subst hb
  exact tab_nil)).froze [[none, none, none, none, none, none, some 1]]
theorem g34_run  : (q34 [] []).eval = (g34T ).ev fun r => ((.agg (Cod.enc 8 r) : AV), ([] : List Blk)) := by kernel_rfl
noncomputable def s34 : Ab.Spec := fun args h =>
  dN h <| dN args <|
  let r := g34; .val (.agg (Cod.enc 8 r), [])
theorem s34_ok : SpecOk Go.Proofs.Try.prog 34 s34 :=
  q34_ok.less fun args hs r h => by
    unfold s34 at h
    obtain ⟨rfl, hh1⟩ := dN_inv h
    obtain ⟨rfl, hh2⟩ := dN_inv hh1
    rw [g34_run, Tr.ev_get (d := default) (by kernel_rfl)]
    exact hh2
/-- pontage/pontageref06.CheckT -/
noncomputable def L56 : SL := []
noncomputable def e56 : Env := ⟨ti, fun g => lookS g L56, 1000000, [], []⟩
def g56T (x0 : S4) : Tr (Int) :=
  .br (bif (bif (bif (bif (bif (bif (bif (decide ((IntKind.i64.wrap x0.f1) < 6)) then true else (decide ((IntKind.i64.wrap x0.f1) > 40))) then true else (decide ((IntKind.i64.wrap x0.f2) < 1))) then true else (decide ((IntKind.i64.wrap x0.f2) > 2))) then true else (decide ((IntKind.i64.wrap x0.f3) < 4))) then true else (decide ((IntKind.i64.wrap x0.f3) > 30))) then true else (decide ((IntKind.i64.wrap (2 * (IntKind.i64.wrap ((IntKind.i64.wrap x0.f3) - 1)))) < (IntKind.i64.wrap x0.f1)))) then true else (decide ((IntKind.i64.wrap x0.f1) < (IntKind.i64.wrap (2 * (IntKind.i64.wrap ((IntKind.i64.wrap x0.f2) + 1))))))) (
   .leaf (60)) (
   .leaf (0))
def g56 (x0 : S4) : Int := (g56T x0).get default
noncomputable def T56 : TL := []
noncomputable def q56 : Ab.Spec := runQ0 e56 (lookT T56) Go.Proofs.Try.f56
theorem q56_ok : SpecOk Go.Proofs.Try.prog 56 q56 := (runQ0_ok (runR_ok (e := e56) follows (allTI ti_ok _ _ _ _) (callsOk_nil) Go.Proofs.Try.func56 Go.Proofs.Try.call56) (fun c hc => by
  have hb : c = Go.Proofs.Try.f56.body.getD .skip := by rw [hc]; rfl
  subst hb
  exact tab_nil))
theorem g56_run (x0 : S4) : (q56 [.agg (Cod.enc 4 x0)] []).eval = (g56T x0).ev fun r => ((.c (.int .i64 r) : AV), ([] : List Blk)) := by kernel_rfl
noncomputable def s56 : Ab.Spec := fun args h =>
  dN h <| dL args fun v0 a0 => dG v0 fun l0 => dE 4 l0 fun x0 => dN a0 <|
  let r := g56 x0; .val (.c (.int .i64 r), [])
theorem s56_ok : SpecOk Go.Proofs.Try.prog 56 s56 :=
  q56_ok.less fun args hs r h => by
    unfold s56 at h
    obtain ⟨rfl, hh1⟩ := dN_inv h
    obtain ⟨v0, a0, rfl, hh2⟩ := dL_inv hh1
    obtain ⟨l0, rfl, hh3⟩ := dG_inv hh2
    obtain ⟨x0, rfl, hh4⟩ := dE_inv hh3
    obtain ⟨rfl, hh5⟩ := dN_inv hh4
    rw [g56_run, Tr.ev_get (d := default) (by kernel_rfl)]
    exact hh5
/-- pontage/pontageref09.IsConf -/
noncomputable def L51 : SL := [(56, .byVal, s56)]
noncomputable def e51 : Env := ⟨ti, fun g => lookS g L51, 1000000, [.drop 0, .drop 4, .drop 5, .drop 6, .drop 7, .drop 8, .drop 9, .drop 10, .drop 11, .drop 12, .drop 13, .drop 14, .drop 15, .drop 16, .drop 17, .drop 18, .drop 19, .drop 20, .drop 21, .drop 22, .drop 23, .drop 24, .drop 25, .drop 26, .drop 27, .drop 28, .drop 29, .drop 30, .drop 31, .drop 32, .drop 33, .drop 34, .drop 35, .drop 36, .drop 37, .drop 38, .drop 39, .drop 40, .drop 41], []⟩
structure W51_0 where
  a0 : Bool
  a1 : Int
  a2 : Int
  a3 : Int
  a4 : Int
  a5 : Int
  a6 : Int
  a7 : Int
  a8 : List S1
def hd51_0 (v : W51_0) : St := ⟨[.top, .c (.ptr 0 0), .c (.bool v.a0), .c (.int .i64 v.a1), .top, .top, .top, .top, .top, .top, .top, .top, .top, .top, .top, .top, .top, .top, .top, .top, .top, .top, .top, .top, .top, .top, .top, .top, .top, .top, .top, .top, .top, .top, .top, .top, .top, .top, .top, .top, .top, .top, .top, .top, .top, .top, .top, .top, .top, .top, .top, .top, .top, .top, .top, .top, .top, .top, .top, .top, .top, .top, .top], [.cells [.int .u64 v.a2, .int .u8 v.a3, .int .u8 v.a4, .int .u8 v.a5, .int .u8 v.a6, .int .u8 v.a7, .rs 1 v.a8]]⟩
def gR51_0 (v : W51_0) : Tr (W51_0 ⊕ (Bool × W51_0)) :=
  .br (decide (v.a1 < (v.a8.length : Int))) (
   .br (decide (0 ≤ v.a1)) (
    .opt (v.a8[Int.toNat v.a1]?) fun y171 =>
     .br (!(decide (y171.f0 < 1))) (
      .br (decide (0 ≤ v.a1)) (
       .opt (v.a8[Int.toNat v.a1]?) fun y173 =>
        .br (decide (y173.f0 > 200000000)) (
         .leaf (.inr (true, { v with a0 := false }))) (
         .leaf (.inl ({ v with a1 := (IntKind.i64.wrap (v.a1 + 1)) })))) (
       .fail)) (
      .leaf (.inr (true, { v with a0 := false })))) (
    .fail)) (
   .leaf (.inr (false, v)))
noncomputable def lb51_0 : Code := match findB 0 (Go.Proofs.Try.f51.body.getD .skip) with | [.loop b] => b | _ => .skip
def pa51_0 : List PA := [.any, .c (.ptr 0 0), .c (.bool), .c (.int .i64), .any, .any, .any, .any, .any, .any, .any, .any, .any, .any, .any, .any, .any, .any, .any, .any, .any, .any, .any, .any, .any, .any, .any, .any, .any, .any, .any, .any, .any, .any, .any, .any, .any, .any, .any, .any, .any, .any, .top, .top, .top, .top, .top, .top, .top, .top, .top, .top, .top, .top, .top, .top, .top, .top, .top, .top, .top, .top, .top]
def pb51_0 : List PB := [.cells [.int .u64, .int .u8, .int .u8, .int .u8, .int .u8, .int .u8, .rs 1]]
def ini51_0 (s : St) : W51_0 := ⟨bC (aC (s.tmps.getD 2 .top)), iC (aC (s.tmps.getD 3 .top)), iC ((bL (s.heap.getD 0 .dead)).getD 0 .top), iC ((bL (s.heap.getD 0 .dead)).getD 1 .top), iC ((bL (s.heap.getD 0 .dead)).getD 2 .top), iC ((bL (s.heap.getD 0 .dead)).getD 3 .top), iC ((bL (s.heap.getD 0 .dead)).getD 4 .top), iC ((bL (s.heap.getD 0 .dead)).getD 5 .top), rC 1 ((bL (s.heap.getD 0 .dead)).getD 6 .top)⟩
noncomputable def F51_0 : St → Res (Ex × St) := loopF pa51_0 pb51_0 1000000 hd51_0 gR51_0 ini51_0 true
theorem F51_0_ok (s : St) (r : Ex × St) (h : (F51_0 s).eval = some r) : (codeR e51 0 (.block 0 (.loop lb51_0)) s).eval = some r :=
  blk_ok (e := e51) (T := lookT []) (fun s v => by kernel_rfl) (fun s => by kernel_rfl) (tab_nil) s r h
def g51T (x0 : S8) : Tr (Bool) :=
  let z170 := g56 (S4.mk x0.f1 x0.f2 x0.f3 x0.f4)
  .br (bif (bif (bif (bif (bif (bif ((remI x0.f0 281474976710656) == 0) then true else (z170 != 0)) then true else (x0.f1 != 0)) then true else (decide (x0.f5 < 1))) then true else (decide (x0.f5 > 10))) then true else (decide ((x0.f6.length : Int) < 1))) then true else (decide ((x0.f6.length : Int) > 8))) (
   .leaf (false)) (
   .opt (iter gR51_0 1000000 (W51_0.mk (false) (0) (x0.f0) (x0.f1) (x0.f2) (x0.f3) (x0.f4) (x0.f5) (x0.f6))) fun r174 =>
    .br r174.1 (
     .leaf (r174.2.a0)) (
     .leaf (true)))
def g51 (x0 : S8) : Option (Bool) := (g51T x0).get?
noncomputable def T51 : TL := [(0, F51_0)]
noncomputable def q51 : Ab.Spec := runQ0 e51 (lookT T51) Go.Proofs.Try.f51
theorem q51_ok : SpecOk Go.Proofs.Try.prog 51 q51 := (runQ0_ok (runR_ok (e := e51) follows (allTI ti_ok _ _ _ _) (callsOk_cons s56_ok (callsOk_nil)) Go.Proofs.Try.func51 Go.Proofs.Try.call51) (fun c hc => by
  have hb : c = Go.Proofs.Try.f51.body.getD .skip := by rw [hc]; rfl
  subst hb
  exact tab_cons (by kernel_rfl) F51_0_ok (tab_nil)))
theorem g51_run (x0 : S8) : (q51 [.agg (Cod.enc 8 x0)] []).eval = (g51T x0).ev fun r => ((.c (.bool r) : AV), ([] : List Blk)) := by kernel_rfl
noncomputable def s51_0 : Ab.Spec := fun args h =>
  dN h <| dL args fun v0 a0 => dG v0 fun l0 => dE 8 l0 fun x0 => dN a0 <|
  .opt (g51 x0) fun r => .val (.c (.bool r), [])
theorem s51_0_ok : SpecOk Go.Proofs.Try.prog 51 s51_0 :=
  q51_ok.less fun args hs r h => by
    unfold s51_0 at h
    obtain ⟨rfl, hh1⟩ := dN_inv h
    obtain ⟨v0, a0, rfl, hh2⟩ := dL_inv hh1
    obtain ⟨l0, rfl, hh3⟩ := dG_inv hh2
    obtain ⟨x0, rfl, hh4⟩ := dE_inv hh3
    obtain ⟨rfl, hh5⟩ := dN_inv hh4
    rw [g51_run, Tr.ev_get?]
    change (Res.opt (g51 x0) _).eval = some r at hh5
    rw [eval_opt] at hh5
    obtain ⟨z, hz, hh6⟩ := Option.bind_eq_some_iff.mp hh5
    unfold g51 at hz
    rw [hz]; exact hh6
noncomputable def s51 : Ab.Spec := fun args h => s51_0 (coeA [[none, none, none, none, none, none, some 1]] args) h
theorem s51_ok : SpecOk Go.Proofs.Try.prog 51 s51 := s51_0_ok.pre [[none, none, none, none, none, none, some 1]]
/-- pontage/pontageref09.New -/
noncomputable def L33 : SL := [(51, .byVal, s51)]
noncomputable def e33 : Env := ⟨ti, fun g => lookS g L33, 1000000, [.drop 0, .drop 6, .drop 7, .drop 8, .drop 9, .drop 10, .drop 11, .drop 12, .drop 13, .drop 14, .drop 15, .drop 16, .blk 2 16 0], []⟩
structure W33_0 where
  a0 : Int
  a1 : Int
  a2 : Int
  a3 : Int
  a4 : Int
  a5 : Int
  a6 : Int
  a7 : Int
  a8 : List S1
  a9 : Int
  a10 : Int
  a11 : Int
  a12 : Int
  a13 : Int
  a14 : Int
  a15 : Bool
  a16 : Int
  a17 : Int
  a18 : Int
  a19 : Int
  a20 : Int
  a21 : Int
  a22 : Int
  a23 : Int
  a24 : Int
  a25 : Int
  a26 : Int
  a27 : Int
  a28 : Int
  a29 : Int
  a30 : Int
  a31 : Bool
  a32 : Int
  a33 : Int
  a34 : Int
  a35 : Int
  a36 : Int
  a37 : Int
  a38 : Int
  a39 : Int
  a40 : Int
  a41 : List S0
def hd33_0 (v : W33_0) : St := ⟨[.top, .c (.ptr 0 0), .c (.ptr 1 0), .c (.int .i64 v.a0), .c (.ptr 2 0), .c (.int .i64 v.a1), .top, .top, .top, .top, .top, .top, .top, .top, .top, .top, .top, .top, .top, .top, .top, .top, .top, .top, .top, .top, .top, .top, .top, .top, .top, .top, .top, .top, .top, .top, .top, .top, .top], [.cells [.int .u64 v.a2, .int .u8 v.a3, .int .u8 v.a4, .int .u8 v.a5, .int .u8 v.a6, .int .u8 v.a7, .rs 1 v.a8], .cells [.int .u64 v.a9, .int .u8 v.a10, .int .u8 v.a11, .int .u8 v.a12, .int .u8 v.a13, .int .u8 v.a14, .bool v.a15, .int .u16 v.a16, .int .u64 v.a17, .int .u32 v.a18, .int .u64 v.a19, .int .u16 v.a20, .int .u8 v.a21, .int .u8 v.a22, .int .u8 v.a23, .int .u8 v.a24, .nils], .cells [.int .u64 v.a25, .int .u8 v.a26, .int .u8 v.a27, .int .u8 v.a28, .int .u8 v.a29, .int .u8 v.a30, .bool v.a31, .int .u16 v.a32, .int .u64 v.a33, .int .u32 v.a34, .int .u64 v.a35, .int .u16 v.a36, .int .u8 v.a37, .int .u8 v.a38, .int .u8 v.a39, .int .u8 v.a40, .slw 3], .row 0 v.a41]⟩
def gR33_0 (v : W33_0) : Tr (W33_0 ⊕ (Bool × W33_0)) :=
  .br (decide (v.a1 < (v.a8.length : Int))) (
   .br (decide (0 ≤ v.a1)) (
    .opt (v.a8[Int.toNat v.a1]?) fun y178 =>
     .br (Nat.ble (v.a41.length + 1) 140737488355328 && Nat.ble ((v.a41.length + 1) * 248) 140737488355328) (
      .leaf (.inl ({ v with a1 := (IntKind.i64.wrap (v.a1 + 1)), a41 := (v.a41 ++ [(S0.mk (IntKind.u16.wrap (IntKind.i64.wrap (32769 + v.a1))) y178.f0 false false false false false false false false false false false false false false false false false false false false false false false false false false false 0 0 0 0 0 0 0 0 0 0 0 0 0 0 0 0 0 0 0 0 false false false false false false 0 0 0 0 0 0 0 0 0 0 0 0 0 0 0 0 0 0 0 0 0 0)]) }))) (
      .fail)) (
    .fail)) (
   .leaf (.inr (false, v)))
noncomputable def lb33_0 : Code := match findB 0 (Go.Proofs.Try.f33.body.getD .skip) with | [.loop b] => b | _ => .skip
def pa33_0 : List PA := [.any, .c (.ptr 0 0), .c (.ptr 1 0), .c (.int .i64), .c (.ptr 2 0), .c (.int .i64), .any, .any, .any, .any, .any, .any, .any, .any, .any, .any, .any, .top, .top, .top, .top, .top, .top, .top, .top, .top, .top, .top, .top, .top, .top, .top, .top, .top, .top, .top, .top, .top, .top]
def pb33_0 : List PB := [.cells [.int .u64, .int .u8, .int .u8, .int .u8, .int .u8, .int .u8, .rs 1], .cells [.int .u64, .int .u8, .int .u8, .int .u8, .int .u8, .int .u8, .bool, .int .u16, .int .u64, .int .u32, .int .u64, .int .u16, .int .u8, .int .u8, .int .u8, .int .u8, .nils], .cells [.int .u64, .int .u8, .int .u8, .int .u8, .int .u8, .int .u8, .bool, .int .u16, .int .u64, .int .u32, .int .u64, .int .u16, .int .u8, .int .u8, .int .u8, .int .u8, .nils]]
def ini33_0 (s : St) : W33_0 := ⟨iC (aC (s.tmps.getD 3 .top)), iC (aC (s.tmps.getD 5 .top)), iC ((bL (s.heap.getD 0 .dead)).getD 0 .top), iC ((bL (s.heap.getD 0 .dead)).getD 1 .top), iC ((bL (s.heap.getD 0 .dead)).getD 2 .top), iC ((bL (s.heap.getD 0 .dead)).getD 3 .top), iC ((bL (s.heap.getD 0 .dead)).getD 4 .top), iC ((bL (s.heap.getD 0 .dead)).getD 5 .top), rC 1 ((bL (s.heap.getD 0 .dead)).getD 6 .top), iC ((bL (s.heap.getD 1 .dead)).getD 0 .top), iC ((bL (s.heap.getD 1 .dead)).getD 1 .top), iC ((bL (s.heap.getD 1 .dead)).getD 2 .top), iC ((bL (s.heap.getD 1 .dead)).getD 3 .top), iC ((bL (s.heap.getD 1 .dead)).getD 4 .top), iC ((bL (s.heap.getD 1 .dead)).getD 5 .top), bC ((bL (s.heap.getD 1 .dead)).getD 6 .top), iC ((bL (s.heap.getD 1 .dead)).getD 7 .top), iC ((bL (s.heap.getD 1 .dead)).getD 8 .top), iC ((bL (s.heap.getD 1 .dead)).getD 9 .top), iC ((bL (s.heap.getD 1 .dead)).getD 10 .top), iC ((bL (s.heap.getD 1 .dead)).getD 11 .top), iC ((bL (s.heap.getD 1 .dead)).getD 12 .top), iC ((bL (s.heap.getD 1 .dead)).getD 13 .top), iC ((bL (s.heap.getD 1 .dead)).getD 14 .top), iC ((bL (s.heap.getD 1 .dead)).getD 15 .top), iC ((bL (s.heap.getD 2 .dead)).getD 0 .top), iC ((bL (s.heap.getD 2 .dead)).getD 1 .top), iC ((bL (s.heap.getD 2 .dead)).getD 2 .top), iC ((bL (s.heap.getD 2 .dead)).getD 3 .top), iC ((bL (s.heap.getD 2 .dead)).getD 4 .top), iC ((bL (s.heap.getD 2 .dead)).getD 5 .top), bC ((bL (s.heap.getD 2 .dead)).getD 6 .top), iC ((bL (s.heap.getD 2 .dead)).getD 7 .top), iC ((bL (s.heap.getD 2 .dead)).getD 8 .top), iC ((bL (s.heap.getD 2 .dead)).getD 9 .top), iC ((bL (s.heap.getD 2 .dead)).getD 10 .top), iC ((bL (s.heap.getD 2 .dead)).getD 11 .top), iC ((bL (s.heap.getD 2 .dead)).getD 12 .top), iC ((bL (s.heap.getD 2 .dead)).getD 13 .top), iC ((bL (s.heap.getD 2 .dead)).getD 14 .top), iC ((bL (s.heap.getD 2 .dead)).getD 15 .top), []⟩
noncomputable def F33_0 : St → Res (Ex × St) := loopF pa33_0 pb33_0 1000000 hd33_0 gR33_0 ini33_0 false
theorem F33_0_ok (s : St) (r : Ex × St) (h : (F33_0 s).eval = some r) : (codeR e33 0 (.block 0 (.loop lb33_0)) s).eval = some r :=
  blk_ok (e := e33) (T := lookT []) (fun s v => by kernel_rfl) (fun s => by kernel_rfl) (tab_nil) s r h
def g33T (x0 : S8) : Tr (S6 × Int) :=
  .opt (g51 x0) fun z177 =>
   .br (!z177) (
    .leaf ((S6.mk 0 0 0 0 0 0 false 0 0 0 0 0 0 0 0 0 []), 90)) (
    .opt (iter gR33_0 1000000 (W33_0.mk (0) (0) (x0.f0) (x0.f1) (x0.f2) (x0.f3) (x0.f4) (x0.f5) (x0.f6) (0) (0) (0) (0) (0) (0) (false) (0) (0) (0) (0) (0) (0) (0) (0) (0) (x0.f0) (x0.f1) (x0.f2) (x0.f3) (x0.f4) (x0.f5) (false) (0) (0) (0) (0) (0) (0) (0) (0) (0) ([]))) fun r179 =>
     .br r179.1 (
      .fail) (
      .leaf ((S6.mk r179.2.a25 r179.2.a26 r179.2.a27 r179.2.a28 r179.2.a29 r179.2.a30 r179.2.a31 r179.2.a32 r179.2.a33 r179.2.a34 r179.2.a35 r179.2.a36 r179.2.a37 r179.2.a38 r179.2.a39 r179.2.a40 r179.2.a41), 0)))
def g33 (x0 : S8) : Option (S6 × Int) := (g33T x0).get?
noncomputable def T33 : TL := [(0, F33_0)]
noncomputable def q33 : Ab.Spec := frzR [[none, none, none, none, none, none, none, none, none, none, none, none, none, none, none, none, some 0], []] (runQ0 e33 (lookT T33) Go.Proofs.Try.f33)
theorem q33_ok : SpecOk Go.Proofs.Try.prog 33 q33 := (runQ0_ok (runR_ok (e := e33) follows (allTI ti_ok _ _ _ _) (callsOk_cons s51_ok (callsOk_nil)) Go.Proofs.Try.func33 Go.Proofs.Try.call33) (fun c hc => by
  have hb : c = Go.Proofs.Try.f33.body.getD .skip := by rw [hc]; rfl
  subst hb
  exact tab_cons (by kernel_rfl) F33_0_ok (tab_nil))).froze [[none, none, none, none, none, none, none, none, none, none, none, none, none, none, none, none, some 0], []]
theorem g33_run (x0 : S8) : (q33 [.agg (Cod.enc 8 x0)] []).eval = (g33T x0).ev fun r => ((.tup [some (true, Cod.enc 6 r.1), some (false, [.int .i64 r.2])] : AV), ([] : List Blk)) := by kernel_rfl
noncomputable def s33_0 : Ab.Spec := fun args h =>
  dN h <| dL args fun v0 a0 => dG v0 fun l0 => dE 8 l0 fun x0 => dN a0 <|
  .opt (g33 x0) fun r => .val (.tup [some (true, Cod.enc 6 r.1), some (false, [.int .i64 r.2])], [])
theorem s33_0_ok : SpecOk Go.Proofs.Try.prog 33 s33_0 :=
  q33_ok.less fun args hs r h => by
    unfold s33_0 at h
    obtain ⟨rfl, hh1⟩ := dN_inv h
    obtain ⟨v0, a0, rfl, hh2⟩ := dL_inv hh1
    obtain ⟨l0, rfl, hh3⟩ := dG_inv hh2
    obtain ⟨x0, rfl, hh4⟩ := dE_inv hh3
    obtain ⟨rfl, hh5⟩ := dN_inv hh4
    rw [g33_run, Tr.ev_get?]
    change (Res.opt (g33 x0) _).eval = some r at hh5
    rw [eval_opt] at hh5
    obtain ⟨z, hz, hh6⟩ := Option.bind_eq_some_iff.mp hh5
    unfold g33 at hz
    rw [hz]; exact hh6
noncomputable def s33 : Ab.Spec := fun args h => s33_0 (coeA [[none, none, none, none, none, none, some 1]] args) h
theorem s33_ok : SpecOk Go.Proofs.Try.prog 33 s33 := s33_0_ok.pre [[none, none, none, none, none, none, some 1]]
/-- pontage/pontagelaw13.awake -/
noncomputable def L12 : SL := [(34, .byNew, s34), (33, .byNew, s33), (9, .byNew, s9), (15, .byNew, s15)]
noncomputable def e12 : Env := ⟨ti, fun g => lookS g L12, 1000000, [], []⟩
def g12T  : Tr (Bool) :=
  let z180 := g34 
  .opt (g33 z180) fun z181 =>
   .opt (g9 z181.1 0) fun z182 =>
    .opt (g9 z181.1 2) fun z183 =>
     .opt (g15 z182.1 0 (S0.mk 0 0 false false false false false false false false false false false false false false false false false false false false true false false false false false false 0 4 4 0 0 0 0 0 0 0 0 0 0 0 0 0 0 0 0 0 false false false false false false 0 0 0 0 0 0 0 0 0 0 0 0 0 0 0 0 0 0 4 0 0 0)) fun z184 =>
      .opt (g9 z184 0) fun z185 =>
       .br (bif (bif (z181.2 == 0) then z182.2 else false) then ((z182.1.f16.length : Int) == 2) else false) (
        .opt (z182.1.f16[0]?) fun y187 =>
         .br (y187.f73 == 1) (
          .opt (z182.1.f16[0]?) fun y189 =>
           .br y189.f24 (
            .opt (z182.1.f16[0]?) fun y191 =>
             .br (bif (bif (bif y191.f20 then (!z183.2) else false) then z185.2 else false) then ((z185.1.f16.length : Int) == 2) else false) (
              .opt (z185.1.f16[0]?) fun y193 =>
               .br y193.f13 (
                .opt (z185.1.f16[0]?) fun y195 =>
                 .leaf (y195.f11)) (
                .leaf (false))) (
              .leaf (false))) (
            .leaf (false))) (
          .leaf (false))) (
        .leaf (false))
def g12  : Option (Bool) := (g12T ).get?
noncomputable def T12 : TL := []
noncomputable def q12 : Ab.Spec := runQ0 e12 (lookT T12) Go.Proofs.Try.f12
theorem q12_ok : SpecOk Go.Proofs.Try.prog 12 q12 := (runQ0_ok (runR_ok (e := e12) follows (allTI ti_ok _ _ _ _) (callsOk_cons s34_ok (callsOk_cons s33_ok (callsOk_cons s9_ok (callsOk_cons s15_ok (callsOk_nil))))) Go.Proofs.Try.func12 Go.Proofs.Try.call12) (fun c hc => by
  have hb : c = Go.Proofs.Try.f12.body.getD .skip := by rw [hc]; rfl
  subst hb
  exact tab_nil))
theorem g12_run  : (q12 [] []).eval = (g12T ).ev fun r => ((.c (.bool r) : AV), ([] : List Blk)) := by kernel_rfl
noncomputable def s12 : Ab.Spec := fun args h =>
  dN h <| dN args <|
  .opt (g12) fun r => .val (.c (.bool r), [])
theorem s12_ok : SpecOk Go.Proofs.Try.prog 12 s12 :=
  q12_ok.less fun args hs r h => by
    unfold s12 at h
    obtain ⟨rfl, hh1⟩ := dN_inv h
    obtain ⟨rfl, hh2⟩ := dN_inv hh1
    rw [g12_run, Tr.ev_get?]
    change (Res.opt (g12) _).eval = some r at hh2
    rw [eval_opt] at hh2
    obtain ⟨z, hz, hh3⟩ := Option.bind_eq_some_iff.mp hh2
    unfold g12 at hz
    rw [hz]; exact hh3
/-- pontage/pontagelaw13.PrtSteps -/
noncomputable def L3 : SL := [(8, .byNew, s8), (9, .byNew, s9), (10, .byNew, s10), (11, .byVal, s11), (12, .byVal, s12)]
noncomputable def e3 : Env := ⟨ti, fun g => lookS g L3, 1000000, [], []⟩
def g3T (x0 : S6) (x1 : Int) : Tr (Bool) :=
  .opt (g8 x0) fun z206 =>
   .opt (g9 z206 x1) fun z207 =>
    .opt (g10 z206 x1) fun z208 =>
     .opt (g11 z207.1 z208.1) fun z209 =>
      .br (bif z209 then (z207.2 == z208.2) else false) (
       .opt (g12 ) fun z211 =>
        .leaf (z211)) (
       .leaf (false))
def g3 (x0 : S6) (x1 : Int) : Option (Bool) := (g3T x0 x1).get?
noncomputable def T3 : TL := []
noncomputable def q3 : Ab.Spec := runQ0 e3 (lookT T3) Go.Proofs.Try.f3
theorem q3_ok : SpecOk Go.Proofs.Try.prog 3 q3 := (runQ0_ok (runR_ok (e := e3) follows (allTI ti_ok _ _ _ _) (callsOk_cons s8_ok (callsOk_cons s9_ok (callsOk_cons s10_ok (callsOk_cons s11_ok (callsOk_cons s12_ok (callsOk_nil)))))) Go.Proofs.Try.func3 Go.Proofs.Try.call3) (fun c hc => by
  have hb : c = Go.Proofs.Try.f3.body.getD .skip := by rw [hc]; rfl
  subst hb
  exact tab_nil))
theorem g3_run (x0 : S6) (x1 : Int) : (q3 [.agg (Cod.enc 6 x0), .c (.int .i64 x1)] []).eval = (g3T x0 x1).ev fun r => ((.c (.bool r) : AV), ([] : List Blk)) := by kernel_rfl
noncomputable def s3_0 : Ab.Spec := fun args h =>
  dN h <| dL args fun v0 a0 => dG v0 fun l0 => dE 6 l0 fun x0 => dL a0 fun v1 a1 => dC v1 fun c0 => dI .i64 c0 fun x1 => dN a1 <|
  .opt (g3 x0 x1) fun r => .val (.c (.bool r), [])
theorem s3_0_ok : SpecOk Go.Proofs.Try.prog 3 s3_0 :=
  q3_ok.less fun args hs r h => by
    unfold s3_0 at h
    obtain ⟨rfl, hh1⟩ := dN_inv h
    obtain ⟨v0, a0, rfl, hh2⟩ := dL_inv hh1
    obtain ⟨l0, rfl, hh3⟩ := dG_inv hh2
    obtain ⟨x0, rfl, hh4⟩ := dE_inv hh3
    obtain ⟨v1, a1, rfl, hh5⟩ := dL_inv hh4
    obtain ⟨c0, rfl, hh6⟩ := dC_inv hh5
    obtain ⟨x1, rfl, hh7⟩ := dI_inv hh6
    obtain ⟨rfl, hh8⟩ := dN_inv hh7
    rw [g3_run, Tr.ev_get?]
    change (Res.opt (g3 x0 x1) _).eval = some r at hh8
    rw [eval_opt] at hh8
    obtain ⟨z, hz, hh9⟩ := Option.bind_eq_some_iff.mp hh8
    unfold g3 at hz
    rw [hz]; exact hh9
noncomputable def s3 : Ab.Spec := fun args h => s3_0 (coeA [[none, none, none, none, none, none, none, none, none, none, none, none, none, none, none, none, some 0], []] args) h
theorem s3_ok : SpecOk Go.Proofs.Try.prog 3 s3 := s3_0_ok.pre [[none, none, none, none, none, none, none, none, none, none, none, none, none, none, none, none, some 0], []]
/-- pontage/pontagelaw13.PrtForwards -/
noncomputable def L4 : SL := [(8, .byNew, s8), (9, .byNew, s9), (13, .byVal, s13), (12, .byVal, s12)]
noncomputable def e4 : Env := ⟨ti, fun g => lookS g L4, 1000000, [], []⟩
def g4T (x0 : S6) (x1 : Int) : Tr (Bool) :=
  .opt (g8 x0) fun z212 =>
   .opt (g9 z212 x1) fun z213 =>
    let z214 := g13 z212 x1
    .br (bif (!z213.2) then true else (!z214)) (
     .br (!z213.2) (
      .opt (g12 ) fun z216 =>
       .leaf (z216)) (
      .leaf (false))) (
     .br ((z213.1.f16.length : Int) != (z212.f16.length : Int)) (
      .leaf (false)) (
      .br (decide (0 ≤ x1)) (
       .opt (z212.f16[Int.toNat x1]?) fun y217 =>
        .br (decide (0 ≤ x1)) (
         .opt (z213.1.f16[Int.toNat x1]?) fun y218 =>
          .br (bif (bif y218.f7 then (!y217.f7) else false) then (bif (bif (!y217.f9) then true else (!y218.f9)) then true else (bif (bif (bif (y218.f30 != 3) then (y218.f30 != 4) else false) then (y217.f73 != 3) else false) then (y217.f73 != 4) else false)) else false) (
           .leaf (false)) (
           .br (bif (bif (bif (y218.f30 != y217.f30) then (y218.f30 != 3) else false) then (y218.f30 != 4) else false) then (bif y218.f9 then true else y218.f7) else false) (
            .leaf (false)) (
            .opt (g12 ) fun z219 =>
             .leaf (z219)))) (
         .fail)) (
       .fail)))
def g4 (x0 : S6) (x1 : Int) : Option (Bool) := (g4T x0 x1).get?
noncomputable def T4 : TL := []
noncomputable def q4 : Ab.Spec := runQ0 e4 (lookT T4) Go.Proofs.Try.f4
theorem q4_ok : SpecOk Go.Proofs.Try.prog 4 q4 := (runQ0_ok (runR_ok (e := e4) follows (allTI ti_ok _ _ _ _) (callsOk_cons s8_ok (callsOk_cons s9_ok (callsOk_cons s13_ok (callsOk_cons s12_ok (callsOk_nil))))) Go.Proofs.Try.func4 Go.Proofs.Try.call4) (fun c hc => by
  have hb : c = Go.Proofs.Try.f4.body.getD .skip := by rw [hc]; rfl
  subst hb
  exact tab_nil))
theorem g4_run (x0 : S6) (x1 : Int) : (q4 [.agg (Cod.enc 6 x0), .c (.int .i64 x1)] []).eval = (g4T x0 x1).ev fun r => ((.c (.bool r) : AV), ([] : List Blk)) := by kernel_rfl
noncomputable def s4_0 : Ab.Spec := fun args h =>
  dN h <| dL args fun v0 a0 => dG v0 fun l0 => dE 6 l0 fun x0 => dL a0 fun v1 a1 => dC v1 fun c0 => dI .i64 c0 fun x1 => dN a1 <|
  .opt (g4 x0 x1) fun r => .val (.c (.bool r), [])
theorem s4_0_ok : SpecOk Go.Proofs.Try.prog 4 s4_0 :=
  q4_ok.less fun args hs r h => by
    unfold s4_0 at h
    obtain ⟨rfl, hh1⟩ := dN_inv h
    obtain ⟨v0, a0, rfl, hh2⟩ := dL_inv hh1
    obtain ⟨l0, rfl, hh3⟩ := dG_inv hh2
    obtain ⟨x0, rfl, hh4⟩ := dE_inv hh3
    obtain ⟨v1, a1, rfl, hh5⟩ := dL_inv hh4
    obtain ⟨c0, rfl, hh6⟩ := dC_inv hh5
    obtain ⟨x1, rfl, hh7⟩ := dI_inv hh6
    obtain ⟨rfl, hh8⟩ := dN_inv hh7
    rw [g4_run, Tr.ev_get?]
    change (Res.opt (g4 x0 x1) _).eval = some r at hh8
    rw [eval_opt] at hh8
    obtain ⟨z, hz, hh9⟩ := Option.bind_eq_some_iff.mp hh8
    unfold g4 at hz
    rw [hz]; exact hh9
noncomputable def s4 : Ab.Spec := fun args h => s4_0 (coeA [[none, none, none, none, none, none, none, none, none, none, none, none, none, none, none, none, some 0], []] args) h
theorem s4_ok : SpecOk Go.Proofs.Try.prog 4 s4 := s4_0_ok.pre [[none, none, none, none, none, none, none, none, none, none, none, none, none, none, none, none, some 0], []]
/-- pontage/pontagelaw13.PrtOthers -/
noncomputable def L5 : SL := [(8, .byNew, s8), (9, .byNew, s9), (12, .byVal, s12)]
noncomputable def e5 : Env := ⟨ti, fun g => lookS g L5, 1000000, [.drop 0, .drop 3, .drop 6, .drop 10, .drop 11, .drop 12, .drop 13, .drop 14, .drop 15, .drop 16, .drop 17, .drop 18, .drop 19, .drop 20, .drop 21, .drop 22, .drop 23, .drop 24, .drop 25, .drop 26, .drop 27, .drop 28, .drop 29, .drop 30, .drop 31, .drop 32, .drop 33, .drop 34, .drop 35, .drop 36, .drop 37, .drop 38, .drop 39, .drop 40, .drop 41, .drop 42, .drop 43, .drop 44, .drop 45], []⟩
structure W5_0 where
  a0 : Int
  a1 : Bool
  a2 : Int
  a3 : Int
  a4 : Int
  a5 : Int
  a6 : Int
  a7 : Int
  a8 : Int
  a9 : Bool
  a10 : Int
  a11 : Int
  a12 : Int
  a13 : Int
  a14 : Int
  a15 : Int
  a16 : Int
  a17 : Int
  a18 : Int
  a19 : List S0
  a20 : Int
  a21 : Int
  a22 : Int
  a23 : Int
  a24 : Int
  a25 : Int
  a26 : Bool
  a27 : Int
  a28 : Int
  a29 : Int
  a30 : Int
  a31 : Int
  a32 : Int
  a33 : Int
  a34 : Int
  a35 : Int
  a36 : List S0
def hd5_0 (v : W5_0) : St := ⟨[.top, .c (.int .i64 v.a0), .c (.ptr 0 0), .top, .c (.bool v.a1), .c (.ptr 1 0), .top, .c (.int .i64 v.a2), .top, .top, .top, .top, .top, .top, .top, .top, .top, .top, .top, .top, .top, .top, .top, .top, .top, .top, .top, .top, .top, .top, .top, .top, .top, .top, .top, .top, .top, .top, .top, .top, .top, .top, .top, .top, .top, .top, .top, .top, .top, .top, .top, .top, .top, .top, .top, .top, .top, .top, .top, .top, .top, .top, .top, .top, .top, .top, .top, .top, .top, .top, .top, .top, .top, .top, .top, .top, .top, .top, .top, .top, .top, .top, .top, .top, .top, .top, .top, .top, .top, .top, .top, .top], [.cells [.int .u64 v.a3, .int .u8 v.a4, .int .u8 v.a5, .int .u8 v.a6, .int .u8 v.a7, .int .u8 v.a8, .bool v.a9, .int .u16 v.a10, .int .u64 v.a11, .int .u32 v.a12, .int .u64 v.a13, .int .u16 v.a14, .int .u8 v.a15, .int .u8 v.a16, .int .u8 v.a17, .int .u8 v.a18, .rs 0 v.a19], .cells [.int .u64 v.a20, .int .u8 v.a21, .int .u8 v.a22, .int .u8 v.a23, .int .u8 v.a24, .int .u8 v.a25, .bool v.a26, .int .u16 v.a27, .int .u64 v.a28, .int .u32 v.a29, .int .u64 v.a30, .int .u16 v.a31, .int .u8 v.a32, .int .u8 v.a33, .int .u8 v.a34, .int .u8 v.a35, .rs 0 v.a36]]⟩
def gR5_0 (v : W5_0) : Tr (W5_0 ⊕ (Bool × W5_0)) :=
  .br (decide (v.a2 < (v.a19.length : Int))) (
   .br (v.a2 == v.a0) (
    .leaf (.inl ({ v with a2 := (IntKind.i64.wrap (v.a2 + 1)) }))) (
    .br (decide (0 ≤ v.a2)) (
     .opt (v.a19[Int.toNat v.a2]?) fun y222 =>
      .br (decide (0 ≤ v.a2)) (
       .opt (v.a36[Int.toNat v.a2]?) fun y223 =>
        .br (bif (bif y222.f24 then (!y223.f24) else false) then true else (bif y222.f20 then (!y223.f20) else false)) (
         .leaf (.inr (true, { v with a1 := false }))) (
         .br (!(eqS0 y222 { y223 with f20 := y222.f20, f24 := y222.f24 })) (
          .leaf (.inr (true, { v with a1 := false }))) (
          .leaf (.inl ({ v with a2 := (IntKind.i64.wrap (v.a2 + 1)) }))))) (
       .fail)) (
     .fail))) (
   .leaf (.inr (false, v)))
noncomputable def lb5_0 : Code := match findB 0 (Go.Proofs.Try.f5.body.getD .skip) with | [.loop b] => b | _ => .skip
def pa5_0 : List PA := [.any, .c (.int .i64), .c (.ptr 0 0), .any, .c (.bool), .c (.ptr 1 0), .any, .c (.int .i64), .top, .top, .any, .any, .any, .any, .any, .any, .any, .any, .any, .any, .any, .any, .any, .any, .any, .any, .any, .any, .any, .any, .any, .any, .any, .any, .any, .any, .any, .any, .any, .any, .any, .any, .any, .any, .any, .any, .top, .top, .top, .top, .top, .top, .top, .top, .top, .top, .top, .top, .top, .top, .top, .top, .top, .top, .top, .top, .top, .top, .top, .top, .top, .top, .top, .top, .top, .top, .top, .top, .top, .top, .top, .top, .top, .top, .top, .top, .top, .top, .top, .top, .top, .top]
def pb5_0 : List PB := [.cells [.int .u64, .int .u8, .int .u8, .int .u8, .int .u8, .int .u8, .bool, .int .u16, .int .u64, .int .u32, .int .u64, .int .u16, .int .u8, .int .u8, .int .u8, .int .u8, .rs 0], .cells [.int .u64, .int .u8, .int .u8, .int .u8, .int .u8, .int .u8, .bool, .int .u16, .int .u64, .int .u32, .int .u64, .int .u16, .int .u8, .int .u8, .int .u8, .int .u8, .rs 0]]
def ini5_0 (s : St) : W5_0 := ⟨iC (aC (s.tmps.getD 1 .top)), bC (aC (s.tmps.getD 4 .top)), iC (aC (s.tmps.getD 7 .top)), iC ((bL (s.heap.getD 0 .dead)).getD 0 .top), iC ((bL (s.heap.getD 0 .dead)).getD 1 .top), iC ((bL (s.heap.getD 0 .dead)).getD 2 .top), iC ((bL (s.heap.getD 0 .dead)).getD 3 .top), iC ((bL (s.heap.getD 0 .dead)).getD 4 .top), iC ((bL (s.heap.getD 0 .dead)).getD 5 .top), bC ((bL (s.heap.getD 0 .dead)).getD 6 .top), iC ((bL (s.heap.getD 0 .dead)).getD 7 .top), iC ((bL (s.heap.getD 0 .dead)).getD 8 .top), iC ((bL (s.heap.getD 0 .dead)).getD 9 .top), iC ((bL (s.heap.getD 0 .dead)).getD 10 .top), iC ((bL (s.heap.getD 0 .dead)).getD 11 .top), iC ((bL (s.heap.getD 0 .dead)).getD 12 .top), iC ((bL (s.heap.getD 0 .dead)).getD 13 .top), iC ((bL (s.heap.getD 0 .dead)).getD 14 .top), iC ((bL (s.heap.getD 0 .dead)).getD 15 .top), rC 0 ((bL (s.heap.getD 0 .dead)).getD 16 .top), iC ((bL (s.heap.getD 1 .dead)).getD 0 .top), iC ((bL (s.heap.getD 1 .dead)).getD 1 .top), iC ((bL (s.heap.getD 1 .dead)).getD 2 .top), iC ((bL (s.heap.getD 1 .dead)).getD 3 .top), iC ((bL (s.heap.getD 1 .dead)).getD 4 .top), iC ((bL (s.heap.getD 1 .dead)).getD 5 .top), bC ((bL (s.heap.getD 1 .dead)).getD 6 .top), iC ((bL (s.heap.getD 1 .dead)).getD 7 .top), iC ((bL (s.heap.getD 1 .dead)).getD 8 .top), iC ((bL (s.heap.getD 1 .dead)).getD 9 .top), iC ((bL (s.heap.getD 1 .dead)).getD 10 .top), iC ((bL (s.heap.getD 1 .dead)).getD 11 .top), iC ((bL (s.heap.getD 1 .dead)).getD 12 .top), iC ((bL (s.heap.getD 1 .dead)).getD 13 .top), iC ((bL (s.heap.getD 1 .dead)).getD 14 .top), iC ((bL (s.heap.getD 1 .dead)).getD 15 .top), rC 0 ((bL (s.heap.getD 1 .dead)).getD 16 .top)⟩
noncomputable def F5_0 : St → Res (Ex × St) := loopF pa5_0 pb5_0 1000000 hd5_0 gR5_0 ini5_0 true
theorem F5_0_ok (s : St) (r : Ex × St) (h : (F5_0 s).eval = some r) : (codeR e5 0 (.block 0 (.loop lb5_0)) s).eval = some r :=
  blk_ok (e := e5) (T := lookT []) (fun s v => by kernel_rfl) (fun s => by kernel_rfl) (tab_nil) s r h
def g5T (x0 : S6) (x1 : Int) : Tr (Bool) :=
  .opt (g8 x0) fun z220 =>
   .opt (g9 z220 x1) fun z221 =>
    .br (bif (bif (bif ((z221.1.f16.length : Int) != (z220.f16.length : Int)) then true else (z221.1.f0 != z220.f0)) then true else (!(eqS5 (S5.mk z221.1.f8 z221.1.f9 z221.1.f10 z221.1.f11) (S5.mk z220.f8 z220.f9 z220.f10 z220.f11)))) then true else (z221.1.f7 != z220.f7)) (
     .leaf (false)) (
     .opt (iter gR5_0 1000000 (W5_0.mk (x1) (false) (0) (z220.f0) (z220.f1) (z220.f2) (z220.f3) (z220.f4) (z220.f5) (z220.f6) (z220.f7) (z220.f8) (z220.f9) (z220.f10) (z220.f11) (z220.f12) (z220.f13) (z220.f14) (z220.f15) (z220.f16) (z221.1.f0) (z221.1.f1) (z221.1.f2) (z221.1.f3) (z221.1.f4) (z221.1.f5) (z221.1.f6) (z221.1.f7) (z221.1.f8) (z221.1.f9) (z221.1.f10) (z221.1.f11) (z221.1.f12) (z221.1.f13) (z221.1.f14) (z221.1.f15) (z221.1.f16))) fun r224 =>
      .br r224.1 (
       .leaf (r224.2.a1)) (
       .opt (g12 ) fun z225 =>
        .leaf (z225)))
def g5 (x0 : S6) (x1 : Int) : Option (Bool) := (g5T x0 x1).get?
noncomputable def T5 : TL := [(0, F5_0)]
noncomputable def q5 : Ab.Spec := runQ0 e5 (lookT T5) Go.Proofs.Try.f5
theorem q5_ok : SpecOk Go.Proofs.Try.prog 5 q5 := (runQ0_ok (runR_ok (e := e5) follows (allTI ti_ok _ _ _ _) (callsOk_cons s8_ok (callsOk_cons s9_ok (callsOk_cons s12_ok (callsOk_nil)))) Go.Proofs.Try.func5 Go.Proofs.Try.call5) (fun c hc => by
  have hb : c = Go.Proofs.Try.f5.body.getD .skip := by rw [hc]; rfl
  subst hb
  exact tab_cons (by kernel_rfl) F5_0_ok (tab_nil)))
theorem g5_run (x0 : S6) (x1 : Int) : (q5 [.agg (Cod.enc 6 x0), .c (.int .i64 x1)] []).eval = (g5T x0 x1).ev fun r => ((.c (.bool r) : AV), ([] : List Blk)) := by kernel_rfl
noncomputable def s5_0 : Ab.Spec := fun args h =>
  dN h <| dL args fun v0 a0 => dG v0 fun l0 => dE 6 l0 fun x0 => dL a0 fun v1 a1 => dC v1 fun c0 => dI .i64 c0 fun x1 => dN a1 <|
  .opt (g5 x0 x1) fun r => .val (.c (.bool r), [])
theorem s5_0_ok : SpecOk Go.Proofs.Try.prog 5 s5_0 :=
  q5_ok.less fun args hs r h => by
    unfold s5_0 at h
    obtain ⟨rfl, hh1⟩ := dN_inv h
    obtain ⟨v0, a0, rfl, hh2⟩ := dL_inv hh1
    obtain ⟨l0, rfl, hh3⟩ := dG_inv hh2
    obtain ⟨x0, rfl, hh4⟩ := dE_inv hh3
    obtain ⟨v1, a1, rfl, hh5⟩ := dL_inv hh4
    obtain ⟨c0, rfl, hh6⟩ := dC_inv hh5
    obtain ⟨x1, rfl, hh7⟩ := dI_inv hh6
    obtain ⟨rfl, hh8⟩ := dN_inv hh7
    rw [g5_run, Tr.ev_get?]
    change (Res.opt (g5 x0 x1) _).eval = some r at hh8
    rw [eval_opt] at hh8
    obtain ⟨z, hz, hh9⟩ := Option.bind_eq_some_iff.mp hh8
    unfold g5 at hz
    rw [hz]; exact hh9
noncomputable def s5 : Ab.Spec := fun args h => s5_0 (coeA [[none, none, none, none, none, none, none, none, none, none, none, none, none, none, none, none, some 0], []] args) h
theorem s5_ok : SpecOk Go.Proofs.Try.prog 5 s5 := s5_0_ok.pre [[none, none, none, none, none, none, none, none, none, none, none, none, none, none, none, none, some 0], []]
/-- pontage/pontagelaw13.PrtAgrees -/
noncomputable def L6 : SL := [(8, .byNew, s8), (9, .byNew, s9), (13, .byVal, s13), (12, .byVal, s12), (14, .byVal, s14)]
noncomputable def e6 : Env := ⟨ti, fun g => lookS g L6, 1000000, [], []⟩
def g6T (x0 : S6) (x1 : Int) : Tr (Bool) :=
  .opt (g8 x0) fun z226 =>
   .opt (g9 z226 x1) fun z227 =>
    let z228 := g13 z226 x1
    .br (bif (!z228) then true else (!z227.2)) (
     .br (!z227.2) (
      .opt (g12 ) fun z230 =>
       .leaf (z230)) (
      .leaf (false))) (
     .br (!((z227.1.f16.length : Int) != (z226.f16.length : Int))) (
      .br (decide (0 ≤ x1)) (
       .opt (z227.1.f16[Int.toNat x1]?) fun y232 =>
        .br y232.f3 (
         .br (decide (0 ≤ x1)) (
          .opt (z226.f16[Int.toNat x1]?) fun y234 =>
           .br (!y234.f3) (
            .opt (g14 z226 x1) fun z236 =>
             .br (!z236) (
              .leaf (false)) (
              .opt (g12 ) fun z237 =>
               .leaf (z237))) (
            .opt (g12 ) fun z238 =>
             .leaf (z238))) (
          .fail)) (
         .opt (g12 ) fun z240 =>
          .leaf (z240))) (
       .fail)) (
      .fail))
def g6 (x0 : S6) (x1 : Int) : Option (Bool) := (g6T x0 x1).get?
noncomputable def T6 : TL := []
noncomputable def q6 : Ab.Spec := runQ0 e6 (lookT T6) Go.Proofs.Try.f6
theorem q6_ok : SpecOk Go.Proofs.Try.prog 6 q6 := (runQ0_ok (runR_ok (e := e6) follows (allTI ti_ok _ _ _ _) (callsOk_cons s8_ok (callsOk_cons s9_ok (callsOk_cons s13_ok (callsOk_cons s12_ok (callsOk_cons s14_ok (callsOk_nil)))))) Go.Proofs.Try.func6 Go.Proofs.Try.call6) (fun c hc => by
  have hb : c = Go.Proofs.Try.f6.body.getD .skip := by rw [hc]; rfl
  subst hb
  exact tab_nil))
theorem g6_run (x0 : S6) (x1 : Int) : (q6 [.agg (Cod.enc 6 x0), .c (.int .i64 x1)] []).eval = (g6T x0 x1).ev fun r => ((.c (.bool r) : AV), ([] : List Blk)) := by kernel_rfl
noncomputable def s6_0 : Ab.Spec := fun args h =>
  dN h <| dL args fun v0 a0 => dG v0 fun l0 => dE 6 l0 fun x0 => dL a0 fun v1 a1 => dC v1 fun c0 => dI .i64 c0 fun x1 => dN a1 <|
  .opt (g6 x0 x1) fun r => .val (.c (.bool r), [])
theorem s6_0_ok : SpecOk Go.Proofs.Try.prog 6 s6_0 :=
  q6_ok.less fun args hs r h => by
    unfold s6_0 at h
    obtain ⟨rfl, hh1⟩ := dN_inv h
    obtain ⟨v0, a0, rfl, hh2⟩ := dL_inv hh1
    obtain ⟨l0, rfl, hh3⟩ := dG_inv hh2
    obtain ⟨x0, rfl, hh4⟩ := dE_inv hh3
    obtain ⟨v1, a1, rfl, hh5⟩ := dL_inv hh4
    obtain ⟨c0, rfl, hh6⟩ := dC_inv hh5
    obtain ⟨x1, rfl, hh7⟩ := dI_inv hh6
    obtain ⟨rfl, hh8⟩ := dN_inv hh7
    rw [g6_run, Tr.ev_get?]
    change (Res.opt (g6 x0 x1) _).eval = some r at hh8
    rw [eval_opt] at hh8
    obtain ⟨z, hz, hh9⟩ := Option.bind_eq_some_iff.mp hh8
    unfold g6 at hz
    rw [hz]; exact hh9
noncomputable def s6 : Ab.Spec := fun args h => s6_0 (coeA [[none, none, none, none, none, none, none, none, none, none, none, none, none, none, none, none, some 0], []] args) h
theorem s6_ok : SpecOk Go.Proofs.Try.prog 6 s6 := s6_0_ok.pre [[none, none, none, none, none, none, none, none, none, none, none, none, none, none, none, none, some 0], []]
/-- pontage/pontagelaw13.PrtHeld -/
noncomputable def L7 : SL := [(8, .byNew, s8), (13, .byVal, s13), (12, .byVal, s12), (15, .byNew, s15), (9, .byNew, s9), (11, .byVal, s11)]
noncomputable def e7 : Env := ⟨ti, fun g => lookS g L7, 1000000, [], []⟩
def g7T (x0 : S6) (x1 : Int) (x2 : Bool) : Tr (Bool) :=
  .opt (g8 x0) fun z242 =>
   let z243 := g13 z242 x1
   .br (!z243) (
    .opt (g12 ) fun z244 =>
     .leaf (z244)) (
    .br (decide (0 ≤ x1)) (
     .opt (z242.f16[Int.toNat x1]?) fun y245 =>
      .opt (g15 z242 x1 { y245 with f22 := (bif y245.f22 then x2 else false), f28 := x2 }) fun z246 =>
       .opt (g9 z246 x1) fun z247 =>
        .br (bif (decide (y245.f73 ≥ 1)) then (decide (y245.f73 ≤ 6)) else false) (
         .br (!z247.2) (
          .opt (g11 z247.1 z246) fun z249 =>
           .br z249 (
            .opt (g12 ) fun z251 =>
             .leaf (z251)) (
            .leaf (false))) (
          .leaf (false))) (
         .br (bif z247.2 then ((z247.1.f16.length : Int) == (z246.f16.length : Int)) else false) (
          .br (decide (0 ≤ x1)) (
           .opt (z247.1.f16[Int.toNat x1]?) fun y254 =>
            .br (y254.f73 == 1) (
             .br (decide (0 ≤ x1)) (
              .opt (z247.1.f16[Int.toNat x1]?) fun y256 =>
               .br (!y256.f9) (
                .br (decide (0 ≤ x1)) (
                 .opt (z247.1.f16[Int.toNat x1]?) fun y258 =>
                  .br (!y258.f7) (
                   .opt (g12 ) fun z260 =>
                    .leaf (z260)) (
                   .leaf (false))) (
                 .fail)) (
                .leaf (false))) (
              .fail)) (
             .leaf (false))) (
           .fail)) (
          .leaf (false)))) (
     .fail))
def g7 (x0 : S6) (x1 : Int) (x2 : Bool) : Option (Bool) := (g7T x0 x1 x2).get?
noncomputable def T7 : TL := []
noncomputable def q7 : Ab.Spec := runQ0 e7 (lookT T7) Go.Proofs.Try.f7
theorem q7_ok : SpecOk Go.Proofs.Try.prog 7 q7 := (runQ0_ok (runR_ok (e := e7) follows (allTI ti_ok _ _ _ _) (callsOk_cons s8_ok (callsOk_cons s13_ok (callsOk_cons s12_ok (callsOk_cons s15_ok (callsOk_cons s9_ok (callsOk_cons s11_ok (callsOk_nil))))))) Go.Proofs.Try.func7 Go.Proofs.Try.call7) (fun c hc => by
  have hb : c = Go.Proofs.Try.f7.body.getD .skip := by rw [hc]; rfl
  subst hb
  exact tab_nil))
theorem g7_run (x0 : S6) (x1 : Int) (x2 : Bool) : (q7 [.agg (Cod.enc 6 x0), .c (.int .i64 x1), .c (.bool x2)] []).eval = (g7T x0 x1 x2).ev fun r => ((.c (.bool r) : AV), ([] : List Blk)) := by kernel_rfl
noncomputable def s7_0 : Ab.Spec := fun args h =>
  dN h <| dL args fun v0 a0 => dG v0 fun l0 => dE 6 l0 fun x0 => dL a0 fun v1 a1 => dC v1 fun c0 => dI .i64 c0 fun x1 => dL a1 fun v2 a2 => dC v2 fun c1 => dB c1 fun x2 => dN a2 <|
  .opt (g7 x0 x1 x2) fun r => .val (.c (.bool r), [])
theorem s7_0_ok : SpecOk Go.Proofs.Try.prog 7 s7_0 :=
  q7_ok.less fun args hs r h => by
    unfold s7_0 at h
    obtain ⟨rfl, hh1⟩ := dN_inv h
    obtain ⟨v0, a0, rfl, hh2⟩ := dL_inv hh1
    obtain ⟨l0, rfl, hh3⟩ := dG_inv hh2
    obtain ⟨x0, rfl, hh4⟩ := dE_inv hh3
    obtain ⟨v1, a1, rfl, hh5⟩ := dL_inv hh4
    obtain ⟨c0, rfl, hh6⟩ := dC_inv hh5
    obtain ⟨x1, rfl, hh7⟩ := dI_inv hh6
    obtain ⟨v2, a2, rfl, hh8⟩ := dL_inv hh7
    obtain ⟨c1, rfl, hh9⟩ := dC_inv hh8
    obtain ⟨x2, rfl, hh10⟩ := dB_inv hh9
    obtain ⟨rfl, hh11⟩ := dN_inv hh10
    rw [g7_run, Tr.ev_get?]
    change (Res.opt (g7 x0 x1 x2) _).eval = some r at hh11
    rw [eval_opt] at hh11
    obtain ⟨z, hz, hh12⟩ := Option.bind_eq_some_iff.mp hh11
    unfold g7 at hz
    rw [hz]; exact hh12
noncomputable def s7 : Ab.Spec := fun args h => s7_0 (coeA [[none, none, none, none, none, none, none, none, none, none, none, none, none, none, none, none, some 0], [], []] args) h
theorem s7_ok : SpecOk Go.Proofs.Try.prog 7 s7 := s7_0_ok.pre [[none, none, none, none, none, none, none, none, none, none, none, none, none, none, none, none, some 0], [], []]
end Ab13
