/- Seat 25o: the functions. -/
import Derived.Test.YtdflhpknkcjfpaaAb25oa
set_option maxRecDepth 100000
set_option maxHeartbeats 4000000
set_option linter.unusedVariables false
set_option linter.unusedSimpArgs false
namespace Ab25o
open Go Ab
/-- pontage/wire.New -/
noncomputable def L7 : SL := []
noncomputable def e7 : Env := ⟨ti, fun g => lookS g L7, 1000000, [], [], none⟩
noncomputable def s7 : Ab.Spec := runR e7 Go.Proofs.Try.f7
theorem s7_ok : SpecOk Go.Proofs.Try.prog 7 s7 := runR_ok (e := e7) follows (allTI ti_ok _ _ _ _ _) (callsOk_nil) Go.Proofs.Try.func7 Go.Proofs.Try.call7
/-- (*pontage/wire.Wire).none -/
noncomputable def L34 : SL := []
noncomputable def e34 : Env := ⟨ti, fun g => lookS g L34, 1000000, [], [], none⟩
noncomputable def s34 : Ab.Spec := runR e34 Go.Proofs.Try.f34
theorem s34_ok : SpecOk Go.Proofs.Try.prog 34 s34 := runR_ok (e := e34) follows (allTI ti_ok _ _ _ _ _) (callsOk_nil) Go.Proofs.Try.func34 Go.Proofs.Try.call34
/-- (*pontage/wire.Wire).is -/
noncomputable def L29 : SL := [(34, .byHeap, s34)]
noncomputable def e29 : Env := ⟨ti, fun g => lookS g L29, 1000000, [], [], none⟩
noncomputable def s29 : Ab.Spec := runR e29 Go.Proofs.Try.f29
theorem s29_ok : SpecOk Go.Proofs.Try.prog 29 s29 := runR_ok (e := e29) follows (allTI ti_ok _ _ _ _ _) (callsOk_cons s34_ok (callsOk_nil)) Go.Proofs.Try.func29 Go.Proofs.Try.call29
/-- (*pontage/wire.Wire).may -/
noncomputable def L31 : SL := [(34, .byHeap, s34), (29, .byHeap, s29)]
noncomputable def e31 : Env := ⟨ti, fun g => lookS g L31, 1000000, [], [], none⟩
noncomputable def s31 : Ab.Spec := runR e31 Go.Proofs.Try.f31
theorem s31_ok : SpecOk Go.Proofs.Try.prog 31 s31 := runR_ok (e := e31) follows (allTI ti_ok _ _ _ _ _) (callsOk_cons s34_ok (callsOk_cons s29_ok (callsOk_nil))) Go.Proofs.Try.func31 Go.Proofs.Try.call31
/-- slices.Clone[[][]byte,[]byte] -/
noncomputable def L41 : SL := []
noncomputable def e41 : Env := ⟨ti, fun g => lookS g L41, 1000000, [], [], none⟩
theorem s41_a : (runR e41 Go.Proofs.Try.f41 [.c (.rn true 2 [])] []).eval = some (.c .nils, []) := by kernel_rfl
theorem s41_b (L : List S2) : (runR e41 Go.Proofs.Try.f41 [.c (.rn false 2 L)] []).eval = bif L.isEmpty then some (.c .ez, []) else bif cloneB 2 24 L then some (.c (.slw 0), [.row 2 L]) else none := by
  cases L with
  | nil => kernel_rfl
  | cons x L => kernel_rfl
noncomputable def s41 : Ab.Spec := fun args h => cloneS 2 24 (coeA [[some 2]] args) h
theorem s41_ok : SpecOk Go.Proofs.Try.prog 41 s41 := (clone_ok (e := e41) (c := 2) (bytes := 24) (runR_ok (e := e41) follows (allTI ti_ok _ _ _ _ _) (callsOk_nil) Go.Proofs.Try.func41 Go.Proofs.Try.call41) s41_a s41_b).pre [[some 2]]
/-- slices.Clone[[]byte,byte] -/
noncomputable def L40 : SL := []
noncomputable def e40 : Env := ⟨ti, fun g => lookS g L40, 1000000, [], [], none⟩
theorem s40_a : (runR e40 Go.Proofs.Try.f40 [.c (.rn true 0 [])] []).eval = some (.c .nils, []) := by kernel_rfl
theorem s40_b (L : List S0) : (runR e40 Go.Proofs.Try.f40 [.c (.rn false 0 L)] []).eval = bif L.isEmpty then some (.c .ez, []) else bif cloneB 0 1 L then some (.c (.slw 0), [.row 0 L]) else none := by
  cases L with
  | nil => kernel_rfl
  | cons x L => kernel_rfl
noncomputable def s40 : Ab.Spec := fun args h => cloneS 0 1 (coeA [[some 0]] args) h
theorem s40_ok : SpecOk Go.Proofs.Try.prog 40 s40 := (clone_ok (e := e40) (c := 0) (bytes := 1) (runR_ok (e := e40) follows (allTI ti_ok _ _ _ _ _) (callsOk_nil) Go.Proofs.Try.func40 Go.Proofs.Try.call40) s40_a s40_b).pre [[some 0]]
/-- (*pontage/wire.row).put -/
noncomputable def L32 : SL := [(41, .byNew, s41), (40, .byCopy [], s40)]
noncomputable def e32 : Env := ⟨ti, fun g => lookS g L32, 1000000, [], [11, 13], none⟩
noncomputable def s32 : Ab.Spec := runR e32 Go.Proofs.Try.f32
theorem s32_ok : SpecOk Go.Proofs.Try.prog 32 s32 := runR_ok (e := e32) follows (allTI ti_ok _ _ _ _ _) (callsOk_cons s41_ok (callsOk_cons s40_ok (callsOk_nil))) Go.Proofs.Try.func32 Go.Proofs.Try.call32
/-- (*pontage/wire.Wire).Data -/
noncomputable def L11 : SL := [(31, .byHeap, s31), (34, .byHeap, s34), (29, .byHeap, s29), (32, .byHeap, s32), (41, .byNew, s41), (40, .byCopy [], s40)]
noncomputable def e11 : Env := ⟨ti, fun g => lookS g L11, 1000000, [], [], none⟩
noncomputable def s11 : Ab.Spec := runR e11 Go.Proofs.Try.f11
theorem s11_ok : SpecOk Go.Proofs.Try.prog 11 s11 := runR_ok (e := e11) follows (allTI ti_ok _ _ _ _ _) (callsOk_cons s31_ok (callsOk_cons s34_ok (callsOk_cons s29_ok (callsOk_cons s32_ok (callsOk_cons s41_ok (callsOk_cons s40_ok (callsOk_nil))))))) Go.Proofs.Try.func11 Go.Proofs.Try.call11
/-- (*pontage/wire.Wire).Say -/
noncomputable def L14 : SL := [(31, .byHeap, s31), (34, .byHeap, s34), (29, .byHeap, s29), (32, .byHeap, s32), (41, .byNew, s41), (40, .byCopy [], s40)]
noncomputable def e14 : Env := ⟨ti, fun g => lookS g L14, 1000000, [], [], none⟩
noncomputable def s14 : Ab.Spec := runR e14 Go.Proofs.Try.f14
theorem s14_ok : SpecOk Go.Proofs.Try.prog 14 s14 := runR_ok (e := e14) follows (allTI ti_ok _ _ _ _ _) (callsOk_cons s31_ok (callsOk_cons s34_ok (callsOk_cons s29_ok (callsOk_cons s32_ok (callsOk_cons s41_ok (callsOk_cons s40_ok (callsOk_nil))))))) Go.Proofs.Try.func14 Go.Proofs.Try.call14
/-- (*pontage/wire.row).all -/
noncomputable def L30 : SL := [(40, .byCopy [], s40)]
noncomputable def e30 : Env := ⟨ti, fun g => lookS g L30, 1000000, [], [], none⟩
noncomputable def s30 : Ab.Spec := runR e30 Go.Proofs.Try.f30
theorem s30_ok : SpecOk Go.Proofs.Try.prog 30 s30 := runR_ok (e := e30) follows (allTI ti_ok _ _ _ _ _) (callsOk_cons s40_ok (callsOk_nil)) Go.Proofs.Try.func30 Go.Proofs.Try.call30
/-- (*pontage/wire.Wire).All -/
noncomputable def L9 : SL := [(29, .byHeap, s29), (34, .byHeap, s34), (30, .byHeap, s30), (40, .byCopy [], s40)]
noncomputable def e9 : Env := ⟨ti, fun g => lookS g L9, 1000000, [], [], none⟩
noncomputable def s9 : Ab.Spec := runR e9 Go.Proofs.Try.f9
theorem s9_ok : SpecOk Go.Proofs.Try.prog 9 s9 := runR_ok (e := e9) follows (allTI ti_ok _ _ _ _ _) (callsOk_cons s29_ok (callsOk_cons s34_ok (callsOk_cons s30_ok (callsOk_cons s40_ok (callsOk_nil))))) Go.Proofs.Try.func9 Go.Proofs.Try.call9
/-- (*pontage/wire.Wire).Words -/
noncomputable def L10 : SL := [(29, .byHeap, s29), (34, .byHeap, s34), (30, .byHeap, s30), (40, .byCopy [], s40)]
noncomputable def e10 : Env := ⟨ti, fun g => lookS g L10, 1000000, [], [], none⟩
noncomputable def s10 : Ab.Spec := runR e10 Go.Proofs.Try.f10
theorem s10_ok : SpecOk Go.Proofs.Try.prog 10 s10 := runR_ok (e := e10) follows (allTI ti_ok _ _ _ _ _) (callsOk_cons s29_ok (callsOk_cons s34_ok (callsOk_cons s30_ok (callsOk_cons s40_ok (callsOk_nil))))) Go.Proofs.Try.func10 Go.Proofs.Try.call10
/-- slices.Delete[[][]byte,[]byte] -/
def rn42 : Go.Shelf.Ren := ⟨fun _ => 42, fun t => match t with | 0 => 0 | 3 => 3 | 4 => 4 | 22 => 26 | 23 => 28 | _ => 0, fun n => n⟩
theorem lay42 : Go.Proofs.SlLaysE.n45 Go.Proofs.Try.prog rn42 where
  mixed := follows
  f45 := ⟨"slices.Delete[[][]byte,[]byte]", by kernel_rfl, by kernel_rfl⟩
  t0 := by kernel_rfl
  a0 := fun w => by kernel_rfl
  z0 := fun w => by kernel_rfl
  v0 := fun w => by kernel_rfl
  t3 := by kernel_rfl
  a3 := fun w => by kernel_rfl
  z3 := fun w => by kernel_rfl
  v3 := fun w => by kernel_rfl
  t4 := by kernel_rfl
  a4 := fun w => by kernel_rfl
  z4 := fun w => by kernel_rfl
  v4 := fun w => by kernel_rfl
  t22 := by kernel_rfl
  a22 := fun w => by kernel_rfl
  z22 := fun w => by kernel_rfl
  v22 := fun w => by kernel_rfl
  a23 := fun w => by kernel_rfl
  z23 := fun w => by kernel_rfl
noncomputable def s42 : Ab.Spec := delS 2
theorem s42_ok : SpecOk Go.Proofs.Try.prog 42 s42 := del_ok lay42 rfl (fun w => by kernel_rfl) (by kernel_rfl) (fun x => ⟨_, _, rfl⟩) Go.Proofs.Try.call42
/-- (*pontage/wire.row).take -/
noncomputable def L33 : SL := [(41, .byNew, s41), (42, .byHeap, s42)]
noncomputable def e33 : Env := ⟨ti, fun g => lookS g L33, 1000000, [], [30], none⟩
noncomputable def s33 : Ab.Spec := runR e33 Go.Proofs.Try.f33
theorem s33_ok : SpecOk Go.Proofs.Try.prog 33 s33 := runR_ok (e := e33) follows (allTI ti_ok _ _ _ _ _) (callsOk_cons s41_ok (callsOk_cons s42_ok (callsOk_nil))) Go.Proofs.Try.func33 Go.Proofs.Try.call33
/-- (*pontage/wire.Wire).Take -/
noncomputable def L12 : SL := [(29, .byHeap, s29), (34, .byHeap, s34), (33, .byHeap, s33), (41, .byNew, s41), (42, .byHeap, s42)]
noncomputable def e12 : Env := ⟨ti, fun g => lookS g L12, 1000000, [], [], none⟩
noncomputable def s12 : Ab.Spec := runR e12 Go.Proofs.Try.f12
theorem s12_ok : SpecOk Go.Proofs.Try.prog 12 s12 := runR_ok (e := e12) follows (allTI ti_ok _ _ _ _ _) (callsOk_cons s29_ok (callsOk_cons s34_ok (callsOk_cons s33_ok (callsOk_cons s41_ok (callsOk_cons s42_ok (callsOk_nil)))))) Go.Proofs.Try.func12 Go.Proofs.Try.call12
/-- (*pontage/wire.Wire).Hear -/
noncomputable def L15 : SL := [(29, .byHeap, s29), (34, .byHeap, s34), (33, .byHeap, s33), (41, .byNew, s41), (42, .byHeap, s42)]
noncomputable def e15 : Env := ⟨ti, fun g => lookS g L15, 1000000, [], [], none⟩
noncomputable def s15 : Ab.Spec := runR e15 Go.Proofs.Try.f15
theorem s15_ok : SpecOk Go.Proofs.Try.prog 15 s15 := runR_ok (e := e15) follows (allTI ti_ok _ _ _ _ _) (callsOk_cons s29_ok (callsOk_cons s34_ok (callsOk_cons s33_ok (callsOk_cons s41_ok (callsOk_cons s42_ok (callsOk_nil)))))) Go.Proofs.Try.func15 Go.Proofs.Try.call15
/-- (*pontage/wire.row).has -/
noncomputable def L35 : SL := []
noncomputable def e35 : Env := ⟨ti, fun g => lookS g L35, 1000000, [], [], none⟩
noncomputable def s35 : Ab.Spec := runR e35 Go.Proofs.Try.f35
theorem s35_ok : SpecOk Go.Proofs.Try.prog 35 s35 := runR_ok (e := e35) follows (allTI ti_ok _ _ _ _ _) (callsOk_nil) Go.Proofs.Try.func35 Go.Proofs.Try.call35
/-- (*pontage/wire.Wire).Twin -/
noncomputable def L13 : SL := [(34, .byHeap, s34), (29, .byHeap, s29), (35, .byHeap, s35), (32, .byHeap, s32), (41, .byNew, s41), (40, .byCopy [], s40)]
noncomputable def e13 : Env := ⟨ti, fun g => lookS g L13, 1000000, [], [], none⟩
noncomputable def s13 : Ab.Spec := runR e13 Go.Proofs.Try.f13
theorem s13_ok : SpecOk Go.Proofs.Try.prog 13 s13 := runR_ok (e := e13) follows (allTI ti_ok _ _ _ _ _) (callsOk_cons s34_ok (callsOk_cons s29_ok (callsOk_cons s35_ok (callsOk_cons s32_ok (callsOk_cons s41_ok (callsOk_cons s40_ok (callsOk_nil))))))) Go.Proofs.Try.func13 Go.Proofs.Try.call13
/-- (*pontage/wire.Wire).Len -/
noncomputable def L26 : SL := [(29, .byHeap, s29), (34, .byHeap, s34)]
noncomputable def e26 : Env := ⟨ti, fun g => lookS g L26, 1000000, [], [], none⟩
noncomputable def s26 : Ab.Spec := runR e26 Go.Proofs.Try.f26
theorem s26_ok : SpecOk Go.Proofs.Try.prog 26 s26 := runR_ok (e := e26) follows (allTI ti_ok _ _ _ _ _) (callsOk_cons s29_ok (callsOk_cons s34_ok (callsOk_nil))) Go.Proofs.Try.func26 Go.Proofs.Try.call26
/-- (*pontage/wire.Wire).Up -/
noncomputable def L28 : SL := [(34, .byHeap, s34)]
noncomputable def e28 : Env := ⟨ti, fun g => lookS g L28, 1000000, [], [], none⟩
noncomputable def s28 : Ab.Spec := runR e28 Go.Proofs.Try.f28
theorem s28_ok : SpecOk Go.Proofs.Try.prog 28 s28 := runR_ok (e := e28) follows (allTI ti_ok _ _ _ _ _) (callsOk_cons s34_ok (callsOk_nil)) Go.Proofs.Try.func28 Go.Proofs.Try.call28
/-- (*pontage/wire.Wire).Set -/
noncomputable def L18 : SL := [(34, .byHeap, s34)]
noncomputable def e18 : Env := ⟨ti, fun g => lookS g L18, 1000000, [], [], none⟩
noncomputable def s18 : Ab.Spec := runR e18 Go.Proofs.Try.f18
theorem s18_ok : SpecOk Go.Proofs.Try.prog 18 s18 := runR_ok (e := e18) follows (allTI ti_ok _ _ _ _ _) (callsOk_cons s34_ok (callsOk_nil)) Go.Proofs.Try.func18 Go.Proofs.Try.call18
/-- pontage/pontagelaw25.awake -/
noncomputable def L8 : SL := [(7, .byHeap, s7), (11, .byHeap, s11), (31, .byHeap, s31), (34, .byHeap, s34), (29, .byHeap, s29), (32, .byHeap, s32), (41, .byNew, s41), (40, .byCopy [], s40), (13, .byHeap, s13), (35, .byHeap, s35), (12, .byHeap, s12), (33, .byHeap, s33), (42, .byHeap, s42), (15, .byHeap, s15), (26, .byHeap, s26), (28, .byHeap, s28), (14, .byHeap, s14), (18, .byHeap, s18)]
noncomputable def e8 : Env := ⟨ti, fun g => lookS g L8, 1000000, [], [], none⟩
def g8T  : Tr (Bool) :=
  .br (([] : List S2).isEmpty || cloneB 2 24 ([] : List S2)) (
   .br ([(S0.mk 97)].isEmpty || cloneB 0 1 [(S0.mk 97)]) (
    .br ([(S2.mk [(S0.mk 97)])].isEmpty || cloneB 2 24 [(S2.mk [(S0.mk 97)])]) (
     .br ([(S0.mk 98)].isEmpty || cloneB 0 1 [(S0.mk 98)]) (
      .br ([(S2.mk [(S0.mk 97)]), (S2.mk [(S0.mk 98)])].isEmpty || cloneB 2 24 [(S2.mk [(S0.mk 97)]), (S2.mk [(S0.mk 98)])]) (
       .br ([(S0.mk 97)].isEmpty || cloneB 0 1 [(S0.mk 97)]) (
        .br ([(S2.mk [(S0.mk 97)]), (S2.mk [(S0.mk 98)]), (S2.mk [(S0.mk 97)])].isEmpty || cloneB 2 24 [(S2.mk [(S0.mk 97)]), (S2.mk [(S0.mk 98)]), (S2.mk [(S0.mk 97)])]) (
         .br (decide (0 ≤ 1) && decide (1 ≤ 2) && decide (2 ≤ ([(S2.mk [(S0.mk 97)]), (S2.mk [(S0.mk 98)]), (S2.mk [(S0.mk 97)])].length : Int)) && Nat.blt 0 [(S2.mk [(S0.mk 97)]), (S2.mk [(S0.mk 98)]), (S2.mk [(S0.mk 97)])].length) (
          .br (bif (bif ((strO 0 [(S0.mk 98)]) == ⟨#[98]⟩) then true else false) then true else false) (
           .br (((List.take (Int.toNat 1) [(S2.mk [(S0.mk 97)]), (S2.mk [(S0.mk 98)]), (S2.mk [(S0.mk 97)])] ++ List.drop (Int.toNat 2) [(S2.mk [(S0.mk 97)]), (S2.mk [(S0.mk 98)]), (S2.mk [(S0.mk 97)])]).length : Int) == 2) (
            .br ((IntKind.i64.wrap ((IntKind.i64.wrap (0 + (IntKind.i64.wrap (((List.take (Int.toNat 1) [(S2.mk [(S0.mk 97)]), (S2.mk [(S0.mk 98)]), (S2.mk [(S0.mk 97)])] ++ List.drop (Int.toNat 2) [(S2.mk [(S0.mk 97)]), (S2.mk [(S0.mk 98)]), (S2.mk [(S0.mk 97)])]).length : Int) + 0)))) + 0)) == 2) (
             .leaf (true)) (
             .leaf (false))) (
            .leaf (false))) (
           .leaf (false))) (
          .fail)) (
         .fail)) (
        .fail)) (
       .fail)) (
      .fail)) (
     .fail)) (
    .fail)) (
   .fail)
def g8  : Option (Bool) := (g8T ).get?
noncomputable def T8 : TL := []
noncomputable def q8 : Ab.Spec := runQ0 e8 (lookT T8) Go.Proofs.Try.f8
theorem q8_ok : SpecOk Go.Proofs.Try.prog 8 q8 := (runQ0_ok (runR_ok (e := e8) follows (allTI ti_ok _ _ _ _ _) (callsOk_cons s7_ok (callsOk_cons s11_ok (callsOk_cons s31_ok (callsOk_cons s34_ok (callsOk_cons s29_ok (callsOk_cons s32_ok (callsOk_cons s41_ok (callsOk_cons s40_ok (callsOk_cons s13_ok (callsOk_cons s35_ok (callsOk_cons s12_ok (callsOk_cons s33_ok (callsOk_cons s42_ok (callsOk_cons s15_ok (callsOk_cons s26_ok (callsOk_cons s28_ok (callsOk_cons s14_ok (callsOk_cons s18_ok (callsOk_nil))))))))))))))))))) Go.Proofs.Try.func8 Go.Proofs.Try.call8) (fun c hc => by
  have hb : c = Go.Proofs.Try.f8.body.getD .skip := by rw [hc]; rfl
  subst hb
  exact tab_nil))
theorem g8_run  : (q8 [] []).eval = (g8T ).ev fun r => ((.c (.bool r) : AV), ([] : List Blk)) := by kernel_rfl
noncomputable def s8 : Ab.Spec := fun args h =>
  dN h <| dN args <|
  .opt (g8) fun r => .val (.c (.bool r), [])
theorem s8_ok : SpecOk Go.Proofs.Try.prog 8 s8 :=
  q8_ok.less fun args hs r h => by
    unfold s8 at h
    obtain ⟨rfl, hh1⟩ := dN_inv h
    obtain ⟨rfl, hh2⟩ := dN_inv hh1
    rw [g8_run, Tr.ev_get?]
    change (Res.opt (g8) _).eval = some r at hh2
    rw [eval_opt] at hh2
    obtain ⟨z, hz, hh3⟩ := Option.bind_eq_some_iff.mp hh2
    unfold g8 at hz
    rw [hz]; exact hh3
/-- pontage/pontagelaw25.WireOwn -/
noncomputable def L4 : SL := [(7, .byHeap, s7), (11, .byHeap, s11), (31, .byHeap, s31), (34, .byHeap, s34), (29, .byHeap, s29), (32, .byHeap, s32), (41, .byNew, s41), (40, .byCopy [], s40), (14, .byHeap, s14), (9, .byHeap, s9), (30, .byHeap, s30), (10, .byHeap, s10), (12, .byHeap, s12), (33, .byHeap, s33), (42, .byHeap, s42), (15, .byHeap, s15), (8, .byVal, s8)]
noncomputable def e4 : Env := ⟨ti, fun g => lookS g L4, 1000000, [.drop 1, .drop 9, .drop 10, .drop 11, .drop 12, .drop 13, .drop 14, .drop 15, .drop 16, .drop 17, .drop 18, .drop 19, .drop 20, .drop 21, .drop 22, .drop 23, .drop 24, .drop 25, .drop 26, .drop 27, .drop 28, .drop 29, .drop 30, .drop 31, .drop 32, .drop 33, .drop 34, .drop 35, .drop 36, .drop 37, .drop 38, .drop 39, .drop 40, .drop 41, .drop 42, .drop 43, .drop 44, .drop 45, .drop 46, .drop 47, .drop 48, .drop 49, .drop 50, .drop 51, .drop 52, .drop 53, .drop 54, .drop 55, .drop 56, .drop 57, .drop 58, .drop 59, .drop 60, .drop 61, .drop 62, .drop 63, .drop 64, .drop 65, .drop 66, .drop 67, .drop 68, .drop 69, .drop 70, .drop 71, .drop 72, .drop 73, .drop 74, .drop 75, .drop 76, .drop 77, .drop 78, .drop 79, .drop 80, .drop 81, .drop 82, .drop 83, .drop 84, .drop 85, .drop 86, .drop 87, .drop 88, .drop 89, .drop 90, .drop 91, .drop 92, .drop 93, .drop 94, .drop 95, .drop 96, .drop 97, .drop 98, .drop 99, .drop 100, .drop 101, .drop 102, .drop 103, .drop 104, .drop 105, .drop 106, .drop 107, .drop 108, .drop 109, .drop 110, .drop 111, .drop 112, .drop 113], [], some [2]⟩
structure W4_0 where
  a0 : Bool
  a1 : ByteArray
  a2 : Int
  a3 : Bool
  a4 : Bool
  a5 : S2
  a6 : S2
def hd4_0 (v : W4_0) : St := ⟨[.c (.ez), .top, .c (.bool v.a0), .c (.str v.a1), .c (.ptr 0 0), .c (.int .i64 v.a2), .top, .top, .top, .top, .top, .top, .top, .top, .top, .top, .top, .top, .top, .top, .top, .top, .top, .top, .top, .top, .top, .top, .top, .top, .top, .top, .top, .top, .top, .top, .top, .top, .top, .top, .top, .top, .top, .top, .top, .top, .top, .top, .top, .top, .top, .top, .top, .top, .top, .top, .top, .top, .top, .top, .top, .top, .top, .top, .top, .top, .top, .top, .top, .top, .top, .top, .top, .top, .top, .top, .top, .top, .top, .top, .top, .top, .top, .top, .top, .top, .top, .top, .top, .top, .top, .top, .top, .top, .top, .top, .top, .top, .top, .top, .top, .top, .top, .top, .top, .top, .top, .top, .top, .top, .top, .top, .top, .top], [.cells [.bool v.a3, .bool v.a4, .rs 2 [], .rs 2 [v.a5], .rs 2 [], .rs 2 [v.a6]]]⟩
def gR4_0 (v : W4_0) : Tr (W4_0 ⊕ (Bool × W4_0)) :=
  .br (decide (v.a2 < 0)) (
   .fail) (
   .leaf (.inr (false, v)))
structure W4_0v1 where
  a0 : Bool
  a1 : ByteArray
  a2 : Int
  a3 : List S0
  a4 : Bool
  a5 : Bool
  a6 : S2
  a7 : S2
def hd4_0v1 (v : W4_0v1) : St := ⟨[.c (.slw 0), .top, .c (.bool v.a0), .c (.str v.a1), .c (.ptr 1 0), .c (.int .i64 v.a2), .top, .top, .top, .top, .top, .top, .top, .top, .top, .top, .top, .top, .top, .top, .top, .top, .top, .top, .top, .top, .top, .top, .top, .top, .top, .top, .top, .top, .top, .top, .top, .top, .top, .top, .top, .top, .top, .top, .top, .top, .top, .top, .top, .top, .top, .top, .top, .top, .top, .top, .top, .top, .top, .top, .top, .top, .top, .top, .top, .top, .top, .top, .top, .top, .top, .top, .top, .top, .top, .top, .top, .top, .top, .top, .top, .top, .top, .top, .top, .top, .top, .top, .top, .top, .top, .top, .top, .top, .top, .top, .top, .top, .top, .top, .top, .top, .top, .top, .top, .top, .top, .top, .top, .top, .top, .top, .top, .top], [.row 0 v.a3, .cells [.bool v.a4, .bool v.a5, .rs 2 [], .rs 2 [v.a6], .rs 2 [], .rs 2 [v.a7]]]⟩
def gR4_0v1 (v : W4_0v1) : Tr (W4_0v1 ⊕ (Bool × W4_0v1)) :=
  .br (decide (v.a2 < (v.a3.length : Int))) (
   .br (decide (0 ≤ v.a2) && decide (v.a2 < (v.a3.length : Int))) (
    .opt (v.a3[(Int.toNat v.a2)]?) fun y62 =>
     .br (decide (0 ≤ v.a2) && decide (v.a2 < (v.a3.length : Int))) (
      .opt (v.a3[(Int.toNat v.a2)]?) fun y63 =>
       .leaf (.inl ({ v with a2 := (IntKind.i64.wrap (v.a2 + 1)), a3 := (List.set v.a3 (Int.toNat v.a2) (S0.mk (xorI .u8 y62.f0 255))) }))) (
      .fail)) (
    .fail)) (
   .leaf (.inr (false, v)))
noncomputable def lb4_0 : Code := match findB 0 (Go.Proofs.Try.f4.body.getD .skip) with | [.loop b] => b | _ => .skip
def pa4_0x0 : List PA := [.c (.ez), .any, .c (.bool), .c (.str), .c (.ptr 0 0), .c (.int .i64), .top, .top, .top, .any, .any, .any, .any, .any, .any, .any, .any, .any, .any, .any, .any, .any, .any, .any, .any, .any, .any, .any, .any, .any, .any, .any, .any, .any, .any, .any, .any, .any, .any, .any, .any, .any, .any, .any, .any, .any, .any, .any, .any, .any, .any, .any, .any, .any, .any, .any, .any, .any, .any, .any, .any, .any, .any, .any, .any, .any, .any, .any, .any, .any, .any, .any, .any, .any, .any, .any, .any, .any, .any, .any, .any, .any, .any, .any, .any, .any, .any, .any, .any, .any, .any, .any, .any, .any, .any, .any, .any, .any, .any, .any, .any, .any, .any, .any, .any, .any, .any, .any, .any, .any, .any, .any, .any, .any]
def pb4_0x0 : List PB := [.cells [.bool, .bool, .rsn 2 0, .rsn 2 1, .rsn 2 0, .rsn 2 1]]
def ini4_0x0 (s : St) : W4_0 := ⟨bC (aC (s.tmps.getD 2 .top)), sC (aC (s.tmps.getD 3 .top)), iC (aC (s.tmps.getD 5 .top)), bC ((bL (s.heap.getD 0 .dead)).getD 0 .top), bC ((bL (s.heap.getD 0 .dead)).getD 1 .top), rnC 2 0 ((bL (s.heap.getD 0 .dead)).getD 3 .top), rnC 2 0 ((bL (s.heap.getD 0 .dead)).getD 5 .top)⟩
noncomputable def F4_0x0 : St → Res (Ex × St) := loopF pa4_0x0 pb4_0x0 1000000 hd4_0 gR4_0 ini4_0x0 false
theorem F4_0x0_ok (s : St) (r : Ex × St) (h : (F4_0x0 s).eval = some r) : (codeR e4 0 (.block 0 (.loop lb4_0)) s).eval = some r :=
  blk_ok (e := e4) (T := lookT []) (fun s v => by kernel_rfl) (fun s => by kernel_rfl) (tab_nil) s r h
def pa4_0x1 : List PA := [.c (.slw 0), .any, .c (.bool), .c (.str), .c (.ptr 1 0), .c (.int .i64), .top, .top, .top, .any, .any, .any, .any, .any, .any, .any, .any, .any, .any, .any, .any, .any, .any, .any, .any, .any, .any, .any, .any, .any, .any, .any, .any, .any, .any, .any, .any, .any, .any, .any, .any, .any, .any, .any, .any, .any, .any, .any, .any, .any, .any, .any, .any, .any, .any, .any, .any, .any, .any, .any, .any, .any, .any, .any, .any, .any, .any, .any, .any, .any, .any, .any, .any, .any, .any, .any, .any, .any, .any, .any, .any, .any, .any, .any, .any, .any, .any, .any, .any, .any, .any, .any, .any, .any, .any, .any, .any, .any, .any, .any, .any, .any, .any, .any, .any, .any, .any, .any, .any, .any, .any, .any, .any, .any]
def pb4_0x1 : List PB := [.row 0, .cells [.bool, .bool, .rsn 2 0, .rsn 2 1, .rsn 2 0, .rsn 2 1]]
def ini4_0x1 (s : St) : W4_0v1 := ⟨bC (aC (s.tmps.getD 2 .top)), sC (aC (s.tmps.getD 3 .top)), iC (aC (s.tmps.getD 5 .top)), bR 0 (s.heap.getD 0 .dead), bC ((bL (s.heap.getD 1 .dead)).getD 0 .top), bC ((bL (s.heap.getD 1 .dead)).getD 1 .top), rnC 2 0 ((bL (s.heap.getD 1 .dead)).getD 3 .top), rnC 2 0 ((bL (s.heap.getD 1 .dead)).getD 5 .top)⟩
noncomputable def F4_0x1 : St → Res (Ex × St) := loopF pa4_0x1 pb4_0x1 1000000 hd4_0v1 gR4_0v1 ini4_0x1 false
theorem F4_0x1_ok (s : St) (r : Ex × St) (h : (F4_0x1 s).eval = some r) : (codeR e4 0 (.block 0 (.loop lb4_0)) s).eval = some r :=
  blk_ok (e := e4) (T := lookT []) (fun s v => by kernel_rfl) (fun s => by kernel_rfl) (tab_nil) s r h
noncomputable def F4_0 : St → Res (Ex × St) := (orF pa4_0x0 pb4_0x0 F4_0x0 F4_0x1)
theorem F4_0_ok (s : St) (r : Ex × St) (h : (F4_0 s).eval = some r) : (codeR e4 0 (.block 0 (.loop lb4_0)) s).eval = some r := (orF_ok F4_0x0_ok F4_0x1_ok) s r h
structure W4_2 where
  a0 : Bool
  a1 : ByteArray
  a2 : Int
  a3 : Int
  a4 : Bool
  a5 : Bool
  a6 : S2
  a7 : S2
def hd4_2 (v : W4_2) : St := ⟨[.c (.ez), .top, .c (.bool v.a0), .c (.str v.a1), .c (.ptr 0 0), .c (.int .i64 v.a2), .c (.nils), .c (.nils), .c (.int .i64 v.a3), .top, .top, .top, .top, .top, .top, .top, .top, .top, .top, .top, .top, .top, .top, .top, .top, .top, .top, .top, .top, .top, .top, .top, .top, .top, .top, .top, .top, .top, .top, .top, .top, .top, .top, .top, .top, .top, .top, .top, .top, .top, .top, .top, .top, .top, .top, .top, .top, .top, .top, .top, .top, .top, .top, .top, .top, .top, .top, .top, .top, .top, .top, .top, .top, .top, .top, .top, .top, .top, .top, .top, .top, .top, .top, .top, .top, .top, .top, .top, .top, .top, .top, .top, .top, .top, .top, .top, .top, .top, .top, .top, .top, .top, .top, .top, .top, .top, .top, .top, .top, .top, .top, .top, .top, .top], [.cells [.bool v.a4, .bool v.a5, .rs 2 [], .rs 2 [v.a6], .rs 2 [], .rs 2 [v.a7]]]⟩
def gR4_2 (v : W4_2) : Tr (W4_2 ⊕ (Bool × W4_2)) :=
  .br (bif (bif (decide (v.a3 < 0)) then false else false) then false else false) (
   .fail) (
   .leaf (.inr (false, v)))
structure W4_2v1 where
  a0 : Bool
  a1 : ByteArray
  a2 : Int
  a3 : Int
  a4 : Bool
  a5 : Bool
  a6 : S2
  a7 : S2
  a8 : List S0
def hd4_2v1 (v : W4_2v1) : St := ⟨[.c (.ez), .top, .c (.bool v.a0), .c (.str v.a1), .c (.ptr 0 0), .c (.int .i64 v.a2), .c (.nils), .c (.sl 1 0 1 none), .c (.int .i64 v.a3), .top, .top, .top, .top, .top, .top, .top, .top, .top, .top, .top, .top, .top, .top, .top, .top, .top, .top, .top, .top, .top, .top, .top, .top, .top, .top, .top, .top, .top, .top, .top, .top, .top, .top, .top, .top, .top, .top, .top, .top, .top, .top, .top, .top, .top, .top, .top, .top, .top, .top, .top, .top, .top, .top, .top, .top, .top, .top, .top, .top, .top, .top, .top, .top, .top, .top, .top, .top, .top, .top, .top, .top, .top, .top, .top, .top, .top, .top, .top, .top, .top, .top, .top, .top, .top, .top, .top, .top, .top, .top, .top, .top, .top, .top, .top, .top, .top, .top, .top, .top, .top, .top, .top, .top, .top], [.cells [.bool v.a4, .bool v.a5, .rs 2 [], .rs 2 [v.a6], .rs 2 [], .rs 2 [v.a7]], .cells [.slw 2], .row 0 v.a8]⟩
def gR4_2v1 (v : W4_2v1) : Tr (W4_2v1 ⊕ (Bool × W4_2v1)) :=
  .br (bif (bif (decide (v.a3 < 0)) then false else false) then true else false) (
   .fail) (
   .leaf (.inr (false, v)))
structure W4_2v2 where
  a0 : Bool
  a1 : ByteArray
  a2 : Int
  a3 : Int
  a4 : Bool
  a5 : Bool
  a6 : S2
  a7 : S2
  a8 : List S0
def hd4_2v2 (v : W4_2v2) : St := ⟨[.c (.ez), .top, .c (.bool v.a0), .c (.str v.a1), .c (.ptr 0 0), .c (.int .i64 v.a2), .c (.sl 1 0 1 none), .c (.nils), .c (.int .i64 v.a3), .top, .top, .top, .top, .top, .top, .top, .top, .top, .top, .top, .top, .top, .top, .top, .top, .top, .top, .top, .top, .top, .top, .top, .top, .top, .top, .top, .top, .top, .top, .top, .top, .top, .top, .top, .top, .top, .top, .top, .top, .top, .top, .top, .top, .top, .top, .top, .top, .top, .top, .top, .top, .top, .top, .top, .top, .top, .top, .top, .top, .top, .top, .top, .top, .top, .top, .top, .top, .top, .top, .top, .top, .top, .top, .top, .top, .top, .top, .top, .top, .top, .top, .top, .top, .top, .top, .top, .top, .top, .top, .top, .top, .top, .top, .top, .top, .top, .top, .top, .top, .top, .top, .top, .top, .top], [.cells [.bool v.a4, .bool v.a5, .rs 2 [], .rs 2 [v.a6], .rs 2 [], .rs 2 [v.a7]], .cells [.slw 2], .row 0 v.a8]⟩
def gR4_2v2 (v : W4_2v2) : Tr (W4_2v2 ⊕ (Bool × W4_2v2)) :=
  .br (bif (bif (decide (v.a3 < 0)) then true else false) then false else false) (
   .br (decide (0 ≤ v.a3) && decide (v.a3 < (v.a8.length : Int))) (
    .opt (v.a8[(Int.toNat v.a3)]?) fun y34 =>
     .br (decide (0 ≤ v.a3) && decide (v.a3 < (v.a8.length : Int))) (
      .opt (v.a8[(Int.toNat v.a3)]?) fun y35 =>
       .fail) (
      .fail)) (
    .fail)) (
   .leaf (.inr (false, v)))
structure W4_2v3 where
  a0 : Bool
  a1 : ByteArray
  a2 : Int
  a3 : Int
  a4 : Bool
  a5 : Bool
  a6 : S2
  a7 : S2
  a8 : List S0
  a9 : List S0
def hd4_2v3 (v : W4_2v3) : St := ⟨[.c (.ez), .top, .c (.bool v.a0), .c (.str v.a1), .c (.ptr 0 0), .c (.int .i64 v.a2), .c (.sl 1 0 1 none), .c (.sl 2 0 1 none), .c (.int .i64 v.a3), .top, .top, .top, .top, .top, .top, .top, .top, .top, .top, .top, .top, .top, .top, .top, .top, .top, .top, .top, .top, .top, .top, .top, .top, .top, .top, .top, .top, .top, .top, .top, .top, .top, .top, .top, .top, .top, .top, .top, .top, .top, .top, .top, .top, .top, .top, .top, .top, .top, .top, .top, .top, .top, .top, .top, .top, .top, .top, .top, .top, .top, .top, .top, .top, .top, .top, .top, .top, .top, .top, .top, .top, .top, .top, .top, .top, .top, .top, .top, .top, .top, .top, .top, .top, .top, .top, .top, .top, .top, .top, .top, .top, .top, .top, .top, .top, .top, .top, .top, .top, .top, .top, .top, .top, .top], [.cells [.bool v.a4, .bool v.a5, .rs 2 [], .rs 2 [v.a6], .rs 2 [], .rs 2 [v.a7]], .cells [.slw 3], .cells [.slw 4], .row 0 v.a8, .row 0 v.a9]⟩
def gR4_2v3 (v : W4_2v3) : Tr (W4_2v3 ⊕ (Bool × W4_2v3)) :=
  .br (bif (bif (decide (v.a3 < 0)) then true else false) then true else false) (
   .br (decide (0 ≤ v.a3) && decide (v.a3 < (v.a8.length : Int))) (
    .opt (v.a8[(Int.toNat v.a3)]?) fun y45 =>
     .br (decide (0 ≤ v.a3) && decide (v.a3 < (v.a8.length : Int))) (
      .opt (v.a8[(Int.toNat v.a3)]?) fun y46 =>
       .br (decide (0 ≤ v.a3) && decide (v.a3 < (v.a9.length : Int))) (
        .opt (v.a9[(Int.toNat v.a3)]?) fun y47 =>
         .br (decide (0 ≤ v.a3) && decide (v.a3 < (v.a9.length : Int))) (
          .opt (v.a9[(Int.toNat v.a3)]?) fun y48 =>
           .leaf (.inl ({ v with a3 := (IntKind.i64.wrap (v.a3 + 1)), a8 := (List.set v.a8 (Int.toNat v.a3) (S0.mk (xorI .u8 y45.f0 255))), a9 := (List.set v.a9 (Int.toNat v.a3) (S0.mk (xorI .u8 y47.f0 255))) }))) (
          .fail)) (
        .fail)) (
      .fail)) (
    .fail)) (
   .leaf (.inr (false, v)))
structure W4_2v4 where
  a0 : Bool
  a1 : ByteArray
  a2 : Int
  a3 : Int
  a4 : List S0
  a5 : Bool
  a6 : Bool
  a7 : S2
  a8 : S2
def hd4_2v4 (v : W4_2v4) : St := ⟨[.c (.slw 0), .top, .c (.bool v.a0), .c (.str v.a1), .c (.ptr 1 0), .c (.int .i64 v.a2), .c (.nils), .c (.nils), .c (.int .i64 v.a3), .top, .top, .top, .top, .top, .top, .top, .top, .top, .top, .top, .top, .top, .top, .top, .top, .top, .top, .top, .top, .top, .top, .top, .top, .top, .top, .top, .top, .top, .top, .top, .top, .top, .top, .top, .top, .top, .top, .top, .top, .top, .top, .top, .top, .top, .top, .top, .top, .top, .top, .top, .top, .top, .top, .top, .top, .top, .top, .top, .top, .top, .top, .top, .top, .top, .top, .top, .top, .top, .top, .top, .top, .top, .top, .top, .top, .top, .top, .top, .top, .top, .top, .top, .top, .top, .top, .top, .top, .top, .top, .top, .top, .top, .top, .top, .top, .top, .top, .top, .top, .top, .top, .top, .top, .top], [.row 0 v.a4, .cells [.bool v.a5, .bool v.a6, .rs 2 [], .rs 2 [v.a7], .rs 2 [], .rs 2 [v.a8]]]⟩
def gR4_2v4 (v : W4_2v4) : Tr (W4_2v4 ⊕ (Bool × W4_2v4)) :=
  .br (bif (bif (decide (v.a3 < (v.a4.length : Int))) then false else false) then false else false) (
   .fail) (
   .leaf (.inr (false, v)))
structure W4_2v5 where
  a0 : Bool
  a1 : ByteArray
  a2 : Int
  a3 : Int
  a4 : List S0
  a5 : Bool
  a6 : Bool
  a7 : S2
  a8 : S2
  a9 : List S0
def hd4_2v5 (v : W4_2v5) : St := ⟨[.c (.slw 0), .top, .c (.bool v.a0), .c (.str v.a1), .c (.ptr 1 0), .c (.int .i64 v.a2), .c (.nils), .c (.sl 2 0 1 none), .c (.int .i64 v.a3), .top, .top, .top, .top, .top, .top, .top, .top, .top, .top, .top, .top, .top, .top, .top, .top, .top, .top, .top, .top, .top, .top, .top, .top, .top, .top, .top, .top, .top, .top, .top, .top, .top, .top, .top, .top, .top, .top, .top, .top, .top, .top, .top, .top, .top, .top, .top, .top, .top, .top, .top, .top, .top, .top, .top, .top, .top, .top, .top, .top, .top, .top, .top, .top, .top, .top, .top, .top, .top, .top, .top, .top, .top, .top, .top, .top, .top, .top, .top, .top, .top, .top, .top, .top, .top, .top, .top, .top, .top, .top, .top, .top, .top, .top, .top, .top, .top, .top, .top, .top, .top, .top, .top, .top, .top], [.row 0 v.a4, .cells [.bool v.a5, .bool v.a6, .rs 2 [], .rs 2 [v.a7], .rs 2 [], .rs 2 [v.a8]], .cells [.slw 3], .row 0 v.a9]⟩
def gR4_2v5 (v : W4_2v5) : Tr (W4_2v5 ⊕ (Bool × W4_2v5)) :=
  .br (bif (bif (decide (v.a3 < (v.a4.length : Int))) then false else false) then true else false) (
   .fail) (
   .leaf (.inr (false, v)))
structure W4_2v6 where
  a0 : Bool
  a1 : ByteArray
  a2 : Int
  a3 : Int
  a4 : List S0
  a5 : Bool
  a6 : Bool
  a7 : S2
  a8 : S2
  a9 : List S0
def hd4_2v6 (v : W4_2v6) : St := ⟨[.c (.slw 0), .top, .c (.bool v.a0), .c (.str v.a1), .c (.ptr 1 0), .c (.int .i64 v.a2), .c (.sl 2 0 1 none), .c (.nils), .c (.int .i64 v.a3), .top, .top, .top, .top, .top, .top, .top, .top, .top, .top, .top, .top, .top, .top, .top, .top, .top, .top, .top, .top, .top, .top, .top, .top, .top, .top, .top, .top, .top, .top, .top, .top, .top, .top, .top, .top, .top, .top, .top, .top, .top, .top, .top, .top, .top, .top, .top, .top, .top, .top, .top, .top, .top, .top, .top, .top, .top, .top, .top, .top, .top, .top, .top, .top, .top, .top, .top, .top, .top, .top, .top, .top, .top, .top, .top, .top, .top, .top, .top, .top, .top, .top, .top, .top, .top, .top, .top, .top, .top, .top, .top, .top, .top, .top, .top, .top, .top, .top, .top, .top, .top, .top, .top, .top, .top], [.row 0 v.a4, .cells [.bool v.a5, .bool v.a6, .rs 2 [], .rs 2 [v.a7], .rs 2 [], .rs 2 [v.a8]], .cells [.slw 3], .row 0 v.a9]⟩
def gR4_2v6 (v : W4_2v6) : Tr (W4_2v6 ⊕ (Bool × W4_2v6)) :=
  .br (bif (bif (decide (v.a3 < (v.a4.length : Int))) then true else false) then false else false) (
   .br (decide (0 ≤ v.a3) && decide (v.a3 < (v.a9.length : Int))) (
    .opt (v.a9[(Int.toNat v.a3)]?) fun y86 =>
     .br (decide (0 ≤ v.a3) && decide (v.a3 < (v.a9.length : Int))) (
      .opt (v.a9[(Int.toNat v.a3)]?) fun y87 =>
       .fail) (
      .fail)) (
    .fail)) (
   .leaf (.inr (false, v)))
structure W4_2v7 where
  a0 : Bool
  a1 : ByteArray
  a2 : Int
  a3 : Int
  a4 : List S0
  a5 : Bool
  a6 : Bool
  a7 : S2
  a8 : S2
  a9 : List S0
  a10 : List S0
def hd4_2v7 (v : W4_2v7) : St := ⟨[.c (.slw 0), .top, .c (.bool v.a0), .c (.str v.a1), .c (.ptr 1 0), .c (.int .i64 v.a2), .c (.sl 2 0 1 none), .c (.sl 3 0 1 none), .c (.int .i64 v.a3), .top, .top, .top, .top, .top, .top, .top, .top, .top, .top, .top, .top, .top, .top, .top, .top, .top, .top, .top, .top, .top, .top, .top, .top, .top, .top, .top, .top, .top, .top, .top, .top, .top, .top, .top, .top, .top, .top, .top, .top, .top, .top, .top, .top, .top, .top, .top, .top, .top, .top, .top, .top, .top, .top, .top, .top, .top, .top, .top, .top, .top, .top, .top, .top, .top, .top, .top, .top, .top, .top, .top, .top, .top, .top, .top, .top, .top, .top, .top, .top, .top, .top, .top, .top, .top, .top, .top, .top, .top, .top, .top, .top, .top, .top, .top, .top, .top, .top, .top, .top, .top, .top, .top, .top, .top], [.row 0 v.a4, .cells [.bool v.a5, .bool v.a6, .rs 2 [], .rs 2 [v.a7], .rs 2 [], .rs 2 [v.a8]], .cells [.slw 4], .cells [.slw 5], .row 0 v.a9, .row 0 v.a10]⟩
def gR4_2v7 (v : W4_2v7) : Tr (W4_2v7 ⊕ (Bool × W4_2v7)) :=
  .br (bif (bif (decide (v.a3 < (v.a4.length : Int))) then true else false) then true else false) (
   .br (decide (0 ≤ v.a3) && decide (v.a3 < (v.a9.length : Int))) (
    .opt (v.a9[(Int.toNat v.a3)]?) fun y97 =>
     .br (decide (0 ≤ v.a3) && decide (v.a3 < (v.a9.length : Int))) (
      .opt (v.a9[(Int.toNat v.a3)]?) fun y98 =>
       .br (decide (0 ≤ v.a3) && decide (v.a3 < (v.a10.length : Int))) (
        .opt (v.a10[(Int.toNat v.a3)]?) fun y99 =>
         .br (decide (0 ≤ v.a3) && decide (v.a3 < (v.a10.length : Int))) (
          .opt (v.a10[(Int.toNat v.a3)]?) fun y100 =>
           .leaf (.inl ({ v with a3 := (IntKind.i64.wrap (v.a3 + 1)), a9 := (List.set v.a9 (Int.toNat v.a3) (S0.mk (xorI .u8 y97.f0 255))), a10 := (List.set v.a10 (Int.toNat v.a3) (S0.mk (xorI .u8 y99.f0 255))) }))) (
          .fail)) (
        .fail)) (
      .fail)) (
    .fail)) (
   .leaf (.inr (false, v)))
noncomputable def lb4_2 : Code := match findB 2 (Go.Proofs.Try.f4.body.getD .skip) with | [.loop b] => b | _ => .skip
def pa4_2x0 : List PA := [.c (.ez), .any, .c (.bool), .c (.str), .c (.ptr 0 0), .c (.int .i64), .c (.nils), .c (.nils), .c (.int .i64), .any, .any, .any, .any, .any, .any, .any, .any, .any, .any, .any, .any, .any, .any, .any, .any, .any, .any, .any, .any, .any, .any, .any, .any, .any, .any, .any, .any, .any, .any, .any, .any, .any, .any, .any, .any, .any, .any, .any, .any, .any, .any, .any, .any, .any, .any, .any, .any, .any, .any, .any, .any, .any, .any, .any, .any, .any, .any, .any, .any, .any, .any, .any, .any, .any, .any, .any, .any, .any, .any, .any, .any, .any, .any, .any, .any, .any, .any, .any, .any, .any, .any, .any, .any, .any, .any, .any, .any, .any, .any, .any, .any, .any, .any, .any, .any, .any, .any, .any, .any, .any, .any, .any, .any, .any]
def pb4_2x0 : List PB := [.cells [.bool, .bool, .rsn 2 0, .rsn 2 1, .rsn 2 0, .rsn 2 1]]
def ini4_2x0 (s : St) : W4_2 := ⟨bC (aC (s.tmps.getD 2 .top)), sC (aC (s.tmps.getD 3 .top)), iC (aC (s.tmps.getD 5 .top)), iC (aC (s.tmps.getD 8 .top)), bC ((bL (s.heap.getD 0 .dead)).getD 0 .top), bC ((bL (s.heap.getD 0 .dead)).getD 1 .top), rnC 2 0 ((bL (s.heap.getD 0 .dead)).getD 3 .top), rnC 2 0 ((bL (s.heap.getD 0 .dead)).getD 5 .top)⟩
noncomputable def F4_2x0 : St → Res (Ex × St) := loopF pa4_2x0 pb4_2x0 1000000 hd4_2 gR4_2 ini4_2x0 false
theorem F4_2x0_ok (s : St) (r : Ex × St) (h : (F4_2x0 s).eval = some r) : (codeR e4 0 (.block 2 (.loop lb4_2)) s).eval = some r :=
  blk_ok (e := e4) (T := lookT []) (fun s v => by kernel_rfl) (fun s => by kernel_rfl) (tab_nil) s r h
def pa4_2x1 : List PA := [.c (.ez), .any, .c (.bool), .c (.str), .c (.ptr 0 0), .c (.int .i64), .c (.nils), .c (.sl 1 0 1 none), .c (.int .i64), .any, .any, .any, .any, .any, .any, .any, .any, .any, .any, .any, .any, .any, .any, .any, .any, .any, .any, .any, .any, .any, .any, .any, .any, .any, .any, .any, .any, .any, .any, .any, .any, .any, .any, .any, .any, .any, .any, .any, .any, .any, .any, .any, .any, .any, .any, .any, .any, .any, .any, .any, .any, .any, .any, .any, .any, .any, .any, .any, .any, .any, .any, .any, .any, .any, .any, .any, .any, .any, .any, .any, .any, .any, .any, .any, .any, .any, .any, .any, .any, .any, .any, .any, .any, .any, .any, .any, .any, .any, .any, .any, .any, .any, .any, .any, .any, .any, .any, .any, .any, .any, .any, .any, .any, .any]
def pb4_2x1 : List PB := [.cells [.bool, .bool, .rsn 2 0, .rsn 2 1, .rsn 2 0, .rsn 2 1], .cells [.slw 2], .row 0]
def ini4_2x1 (s : St) : W4_2v1 := ⟨bC (aC (s.tmps.getD 2 .top)), sC (aC (s.tmps.getD 3 .top)), iC (aC (s.tmps.getD 5 .top)), iC (aC (s.tmps.getD 8 .top)), bC ((bL (s.heap.getD 0 .dead)).getD 0 .top), bC ((bL (s.heap.getD 0 .dead)).getD 1 .top), rnC 2 0 ((bL (s.heap.getD 0 .dead)).getD 3 .top), rnC 2 0 ((bL (s.heap.getD 0 .dead)).getD 5 .top), bR 0 (s.heap.getD 2 .dead)⟩
noncomputable def F4_2x1 : St → Res (Ex × St) := loopF pa4_2x1 pb4_2x1 1000000 hd4_2v1 gR4_2v1 ini4_2x1 false
theorem F4_2x1_ok (s : St) (r : Ex × St) (h : (F4_2x1 s).eval = some r) : (codeR e4 0 (.block 2 (.loop lb4_2)) s).eval = some r :=
  blk_ok (e := e4) (T := lookT []) (fun s v => by kernel_rfl) (fun s => by kernel_rfl) (tab_nil) s r h
def pa4_2x2 : List PA := [.c (.ez), .any, .c (.bool), .c (.str), .c (.ptr 0 0), .c (.int .i64), .c (.sl 1 0 1 none), .c (.nils), .c (.int .i64), .any, .any, .any, .any, .any, .any, .any, .any, .any, .any, .any, .any, .any, .any, .any, .any, .any, .any, .any, .any, .any, .any, .any, .any, .any, .any, .any, .any, .any, .any, .any, .any, .any, .any, .any, .any, .any, .any, .any, .any, .any, .any, .any, .any, .any, .any, .any, .any, .any, .any, .any, .any, .any, .any, .any, .any, .any, .any, .any, .any, .any, .any, .any, .any, .any, .any, .any, .any, .any, .any, .any, .any, .any, .any, .any, .any, .any, .any, .any, .any, .any, .any, .any, .any, .any, .any, .any, .any, .any, .any, .any, .any, .any, .any, .any, .any, .any, .any, .any, .any, .any, .any, .any, .any, .any]
def pb4_2x2 : List PB := [.cells [.bool, .bool, .rsn 2 0, .rsn 2 1, .rsn 2 0, .rsn 2 1], .cells [.slw 2], .row 0]
def ini4_2x2 (s : St) : W4_2v2 := ⟨bC (aC (s.tmps.getD 2 .top)), sC (aC (s.tmps.getD 3 .top)), iC (aC (s.tmps.getD 5 .top)), iC (aC (s.tmps.getD 8 .top)), bC ((bL (s.heap.getD 0 .dead)).getD 0 .top), bC ((bL (s.heap.getD 0 .dead)).getD 1 .top), rnC 2 0 ((bL (s.heap.getD 0 .dead)).getD 3 .top), rnC 2 0 ((bL (s.heap.getD 0 .dead)).getD 5 .top), bR 0 (s.heap.getD 2 .dead)⟩
noncomputable def F4_2x2 : St → Res (Ex × St) := loopF pa4_2x2 pb4_2x2 1000000 hd4_2v2 gR4_2v2 ini4_2x2 false
theorem F4_2x2_ok (s : St) (r : Ex × St) (h : (F4_2x2 s).eval = some r) : (codeR e4 0 (.block 2 (.loop lb4_2)) s).eval = some r :=
  blk_ok (e := e4) (T := lookT []) (fun s v => by kernel_rfl) (fun s => by kernel_rfl) (tab_nil) s r h
def pa4_2x3 : List PA := [.c (.ez), .any, .c (.bool), .c (.str), .c (.ptr 0 0), .c (.int .i64), .c (.sl 1 0 1 none), .c (.sl 3 0 1 none), .c (.int .i64), .any, .any, .any, .any, .any, .any, .any, .any, .any, .any, .any, .any, .any, .any, .any, .any, .any, .any, .any, .any, .any, .any, .any, .any, .any, .any, .any, .any, .any, .any, .any, .any, .any, .any, .any, .any, .any, .any, .any, .any, .any, .any, .any, .any, .any, .any, .any, .any, .any, .any, .any, .any, .any, .any, .any, .any, .any, .any, .any, .any, .any, .any, .any, .any, .any, .any, .any, .any, .any, .any, .any, .any, .any, .any, .any, .any, .any, .any, .any, .any, .any, .any, .any, .any, .any, .any, .any, .any, .any, .any, .any, .any, .any, .any, .any, .any, .any, .any, .any, .any, .any, .any, .any, .any, .any]
def pb4_2x3 : List PB := [.cells [.bool, .bool, .rsn 2 0, .rsn 2 1, .rsn 2 0, .rsn 2 1], .cells [.slw 2], .row 0, .cells [.slw 4], .row 0]
def ini4_2x3 (s : St) : W4_2v3 := ⟨bC (aC (s.tmps.getD 2 .top)), sC (aC (s.tmps.getD 3 .top)), iC (aC (s.tmps.getD 5 .top)), iC (aC (s.tmps.getD 8 .top)), bC ((bL (s.heap.getD 0 .dead)).getD 0 .top), bC ((bL (s.heap.getD 0 .dead)).getD 1 .top), rnC 2 0 ((bL (s.heap.getD 0 .dead)).getD 3 .top), rnC 2 0 ((bL (s.heap.getD 0 .dead)).getD 5 .top), bR 0 (s.heap.getD 2 .dead), bR 0 (s.heap.getD 4 .dead)⟩
noncomputable def F4_2x3 : St → Res (Ex × St) := loopF pa4_2x3 pb4_2x3 1000000 hd4_2v3 gR4_2v3 ini4_2x3 false
theorem F4_2x3_ok (s : St) (r : Ex × St) (h : (F4_2x3 s).eval = some r) : (codeR e4 0 (.block 2 (.loop lb4_2)) s).eval = some r :=
  blk_ok (e := e4) (T := lookT []) (fun s v => by kernel_rfl) (fun s => by kernel_rfl) (tab_nil) s r h
def pa4_2x4 : List PA := [.c (.slw 0), .any, .c (.bool), .c (.str), .c (.ptr 1 0), .c (.int .i64), .c (.nils), .c (.nils), .c (.int .i64), .any, .any, .any, .any, .any, .any, .any, .any, .any, .any, .any, .any, .any, .any, .any, .any, .any, .any, .any, .any, .any, .any, .any, .any, .any, .any, .any, .any, .any, .any, .any, .any, .any, .any, .any, .any, .any, .any, .any, .any, .any, .any, .any, .any, .any, .any, .any, .any, .any, .any, .any, .any, .any, .any, .any, .any, .any, .any, .any, .any, .any, .any, .any, .any, .any, .any, .any, .any, .any, .any, .any, .any, .any, .any, .any, .any, .any, .any, .any, .any, .any, .any, .any, .any, .any, .any, .any, .any, .any, .any, .any, .any, .any, .any, .any, .any, .any, .any, .any, .any, .any, .any, .any, .any, .any]
def pb4_2x4 : List PB := [.row 0, .cells [.bool, .bool, .rsn 2 0, .rsn 2 1, .rsn 2 0, .rsn 2 1]]
def ini4_2x4 (s : St) : W4_2v4 := ⟨bC (aC (s.tmps.getD 2 .top)), sC (aC (s.tmps.getD 3 .top)), iC (aC (s.tmps.getD 5 .top)), iC (aC (s.tmps.getD 8 .top)), bR 0 (s.heap.getD 0 .dead), bC ((bL (s.heap.getD 1 .dead)).getD 0 .top), bC ((bL (s.heap.getD 1 .dead)).getD 1 .top), rnC 2 0 ((bL (s.heap.getD 1 .dead)).getD 3 .top), rnC 2 0 ((bL (s.heap.getD 1 .dead)).getD 5 .top)⟩
noncomputable def F4_2x4 : St → Res (Ex × St) := loopF pa4_2x4 pb4_2x4 1000000 hd4_2v4 gR4_2v4 ini4_2x4 false
theorem F4_2x4_ok (s : St) (r : Ex × St) (h : (F4_2x4 s).eval = some r) : (codeR e4 0 (.block 2 (.loop lb4_2)) s).eval = some r :=
  blk_ok (e := e4) (T := lookT []) (fun s v => by kernel_rfl) (fun s => by kernel_rfl) (tab_nil) s r h
def pa4_2x5 : List PA := [.c (.slw 0), .any, .c (.bool), .c (.str), .c (.ptr 1 0), .c (.int .i64), .c (.nils), .c (.sl 2 0 1 none), .c (.int .i64), .any, .any, .any, .any, .any, .any, .any, .any, .any, .any, .any, .any, .any, .any, .any, .any, .any, .any, .any, .any, .any, .any, .any, .any, .any, .any, .any, .any, .any, .any, .any, .any, .any, .any, .any, .any, .any, .any, .any, .any, .any, .any, .any, .any, .any, .any, .any, .any, .any, .any, .any, .any, .any, .any, .any, .any, .any, .any, .any, .any, .any, .any, .any, .any, .any, .any, .any, .any, .any, .any, .any, .any, .any, .any, .any, .any, .any, .any, .any, .any, .any, .any, .any, .any, .any, .any, .any, .any, .any, .any, .any, .any, .any, .any, .any, .any, .any, .any, .any, .any, .any, .any, .any, .any, .any]
def pb4_2x5 : List PB := [.row 0, .cells [.bool, .bool, .rsn 2 0, .rsn 2 1, .rsn 2 0, .rsn 2 1], .cells [.slw 3], .row 0]
def ini4_2x5 (s : St) : W4_2v5 := ⟨bC (aC (s.tmps.getD 2 .top)), sC (aC (s.tmps.getD 3 .top)), iC (aC (s.tmps.getD 5 .top)), iC (aC (s.tmps.getD 8 .top)), bR 0 (s.heap.getD 0 .dead), bC ((bL (s.heap.getD 1 .dead)).getD 0 .top), bC ((bL (s.heap.getD 1 .dead)).getD 1 .top), rnC 2 0 ((bL (s.heap.getD 1 .dead)).getD 3 .top), rnC 2 0 ((bL (s.heap.getD 1 .dead)).getD 5 .top), bR 0 (s.heap.getD 3 .dead)⟩
noncomputable def F4_2x5 : St → Res (Ex × St) := loopF pa4_2x5 pb4_2x5 1000000 hd4_2v5 gR4_2v5 ini4_2x5 false
theorem F4_2x5_ok (s : St) (r : Ex × St) (h : (F4_2x5 s).eval = some r) : (codeR e4 0 (.block 2 (.loop lb4_2)) s).eval = some r :=
  blk_ok (e := e4) (T := lookT []) (fun s v => by kernel_rfl) (fun s => by kernel_rfl) (tab_nil) s r h
def pa4_2x6 : List PA := [.c (.slw 0), .any, .c (.bool), .c (.str), .c (.ptr 1 0), .c (.int .i64), .c (.sl 2 0 1 none), .c (.nils), .c (.int .i64), .any, .any, .any, .any, .any, .any, .any, .any, .any, .any, .any, .any, .any, .any, .any, .any, .any, .any, .any, .any, .any, .any, .any, .any, .any, .any, .any, .any, .any, .any, .any, .any, .any, .any, .any, .any, .any, .any, .any, .any, .any, .any, .any, .any, .any, .any, .any, .any, .any, .any, .any, .any, .any, .any, .any, .any, .any, .any, .any, .any, .any, .any, .any, .any, .any, .any, .any, .any, .any, .any, .any, .any, .any, .any, .any, .any, .any, .any, .any, .any, .any, .any, .any, .any, .any, .any, .any, .any, .any, .any, .any, .any, .any, .any, .any, .any, .any, .any, .any, .any, .any, .any, .any, .any, .any]
def pb4_2x6 : List PB := [.row 0, .cells [.bool, .bool, .rsn 2 0, .rsn 2 1, .rsn 2 0, .rsn 2 1], .cells [.slw 3], .row 0]
def ini4_2x6 (s : St) : W4_2v6 := ⟨bC (aC (s.tmps.getD 2 .top)), sC (aC (s.tmps.getD 3 .top)), iC (aC (s.tmps.getD 5 .top)), iC (aC (s.tmps.getD 8 .top)), bR 0 (s.heap.getD 0 .dead), bC ((bL (s.heap.getD 1 .dead)).getD 0 .top), bC ((bL (s.heap.getD 1 .dead)).getD 1 .top), rnC 2 0 ((bL (s.heap.getD 1 .dead)).getD 3 .top), rnC 2 0 ((bL (s.heap.getD 1 .dead)).getD 5 .top), bR 0 (s.heap.getD 3 .dead)⟩
noncomputable def F4_2x6 : St → Res (Ex × St) := loopF pa4_2x6 pb4_2x6 1000000 hd4_2v6 gR4_2v6 ini4_2x6 false
theorem F4_2x6_ok (s : St) (r : Ex × St) (h : (F4_2x6 s).eval = some r) : (codeR e4 0 (.block 2 (.loop lb4_2)) s).eval = some r :=
  blk_ok (e := e4) (T := lookT []) (fun s v => by kernel_rfl) (fun s => by kernel_rfl) (tab_nil) s r h
def pa4_2x7 : List PA := [.c (.slw 0), .any, .c (.bool), .c (.str), .c (.ptr 1 0), .c (.int .i64), .c (.sl 2 0 1 none), .c (.sl 4 0 1 none), .c (.int .i64), .any, .any, .any, .any, .any, .any, .any, .any, .any, .any, .any, .any, .any, .any, .any, .any, .any, .any, .any, .any, .any, .any, .any, .any, .any, .any, .any, .any, .any, .any, .any, .any, .any, .any, .any, .any, .any, .any, .any, .any, .any, .any, .any, .any, .any, .any, .any, .any, .any, .any, .any, .any, .any, .any, .any, .any, .any, .any, .any, .any, .any, .any, .any, .any, .any, .any, .any, .any, .any, .any, .any, .any, .any, .any, .any, .any, .any, .any, .any, .any, .any, .any, .any, .any, .any, .any, .any, .any, .any, .any, .any, .any, .any, .any, .any, .any, .any, .any, .any, .any, .any, .any, .any, .any, .any]
def pb4_2x7 : List PB := [.row 0, .cells [.bool, .bool, .rsn 2 0, .rsn 2 1, .rsn 2 0, .rsn 2 1], .cells [.slw 3], .row 0, .cells [.slw 5], .row 0]
def ini4_2x7 (s : St) : W4_2v7 := ⟨bC (aC (s.tmps.getD 2 .top)), sC (aC (s.tmps.getD 3 .top)), iC (aC (s.tmps.getD 5 .top)), iC (aC (s.tmps.getD 8 .top)), bR 0 (s.heap.getD 0 .dead), bC ((bL (s.heap.getD 1 .dead)).getD 0 .top), bC ((bL (s.heap.getD 1 .dead)).getD 1 .top), rnC 2 0 ((bL (s.heap.getD 1 .dead)).getD 3 .top), rnC 2 0 ((bL (s.heap.getD 1 .dead)).getD 5 .top), bR 0 (s.heap.getD 3 .dead), bR 0 (s.heap.getD 5 .dead)⟩
noncomputable def F4_2x7 : St → Res (Ex × St) := loopF pa4_2x7 pb4_2x7 1000000 hd4_2v7 gR4_2v7 ini4_2x7 false
theorem F4_2x7_ok (s : St) (r : Ex × St) (h : (F4_2x7 s).eval = some r) : (codeR e4 0 (.block 2 (.loop lb4_2)) s).eval = some r :=
  blk_ok (e := e4) (T := lookT []) (fun s v => by kernel_rfl) (fun s => by kernel_rfl) (tab_nil) s r h
noncomputable def F4_2 : St → Res (Ex × St) := (orF pa4_2x0 pb4_2x0 F4_2x0 (orF pa4_2x1 pb4_2x1 F4_2x1 (orF pa4_2x2 pb4_2x2 F4_2x2 (orF pa4_2x3 pb4_2x3 F4_2x3 (orF pa4_2x4 pb4_2x4 F4_2x4 (orF pa4_2x5 pb4_2x5 F4_2x5 (orF pa4_2x6 pb4_2x6 F4_2x6 F4_2x7)))))))
theorem F4_2_ok (s : St) (r : Ex × St) (h : (F4_2 s).eval = some r) : (codeR e4 0 (.block 2 (.loop lb4_2)) s).eval = some r := (orF_ok F4_2x0_ok (orF_ok F4_2x1_ok (orF_ok F4_2x2_ok (orF_ok F4_2x3_ok (orF_ok F4_2x4_ok (orF_ok F4_2x5_ok (orF_ok F4_2x6_ok F4_2x7_ok))))))) s r h
def g4T (x0 : List S0) : Tr (Bool) :=
  .br (decide (0 ≤ (mnI (x0.length : Int) 100)) && decide ((mnI (x0.length : Int) 100) ≤ (x0.length : Int))) (
   .br ((List.take (Int.toNat (mnI (x0.length : Int) 100)) x0).isEmpty) (
    .br (([] : List S2).isEmpty || cloneB 2 24 ([] : List S2)) (
     .br (([] : List S0).isEmpty || cloneB 0 1 ([] : List S0)) (
      .br (([] : List S2).isEmpty || cloneB 2 24 ([] : List S2)) (
       .br (([] : List S0).isEmpty || cloneB 0 1 ([] : List S0)) (
        .opt (iter gR4_0 1000000 (W4_0.mk (false) ((ByteArray.mk #[])) (0) (true) (false) ((S2.mk [])) ((S2.mk [])))) fun r12 =>
         .br r12.1 (
          .fail) (
          .br (!(bif (!(!r12.2.a3)) then true else false)) (
           .br (!(bif (!(!r12.2.a3)) then true else false)) (
            .opt (iter gR4_2 1000000 (W4_2.mk (r12.2.a0) (r12.2.a1) (r12.2.a2) (0) (r12.2.a3) (r12.2.a4) (r12.2.a5) (r12.2.a6))) fun r15 =>
             .br r15.1 (
              .fail) (
              .br (!(bif (!(!r15.2.a4)) then true else false)) (
               .br (!(bif (!(!r15.2.a4)) then true else false)) (
                .leaf (false)) (
                .br ([r15.2.a7].isEmpty || cloneB 2 24 [r15.2.a7]) (
                 .br (decide (0 ≤ 0) && decide (0 ≤ 1) && decide (1 ≤ ([r15.2.a7].length : Int)) && Nat.blt 0 [r15.2.a7].length) (
                  .leaf (false)) (
                  .fail)) (
                 .fail))) (
               .br ([r15.2.a6].isEmpty || cloneB 2 24 [r15.2.a6]) (
                .br (decide (0 ≤ 0) && decide (0 ≤ 1) && decide (1 ≤ ([r15.2.a6].length : Int)) && Nat.blt 0 [r15.2.a6].length) (
                 .br (!(bif (!(!r15.2.a4)) then true else false)) (
                  .leaf (false)) (
                  .br ([r15.2.a7].isEmpty || cloneB 2 24 [r15.2.a7]) (
                   .br (decide (0 ≤ 0) && decide (0 ≤ 1) && decide (1 ≤ ([r15.2.a7].length : Int)) && Nat.blt 0 [r15.2.a7].length) (
                    .br (bif ((strO 0 r15.2.a6.f0) == r15.2.a1) then ((strO 0 r15.2.a7.f0) == r15.2.a1) else false) (
                     .opt (g8 ) fun z23 =>
                      .leaf (z23)) (
                     .leaf (false))) (
                    .fail)) (
                   .fail))) (
                 .fail)) (
                .fail)))) (
            .br (r12.2.a6.f0.isEmpty || cloneB 0 1 r12.2.a6.f0) (
             .opt (iter gR4_2v1 1000000 (W4_2v1.mk (r12.2.a0) (r12.2.a1) (r12.2.a2) (0) (r12.2.a3) (r12.2.a4) (r12.2.a5) (r12.2.a6) (r12.2.a6.f0))) fun r24 =>
              .br r24.1 (
               .fail) (
               .br (!(bif (!(!r24.2.a4)) then true else false)) (
                .br (!(bif (!(!r24.2.a4)) then true else false)) (
                 .leaf (false)) (
                 .br ([r24.2.a7].isEmpty || cloneB 2 24 [r24.2.a7]) (
                  .br (decide (0 ≤ 0) && decide (0 ≤ 1) && decide (1 ≤ ([r24.2.a7].length : Int)) && Nat.blt 0 [r24.2.a7].length) (
                   .leaf (false)) (
                   .fail)) (
                  .fail))) (
                .br ([r24.2.a6].isEmpty || cloneB 2 24 [r24.2.a6]) (
                 .br (decide (0 ≤ 0) && decide (0 ≤ 1) && decide (1 ≤ ([r24.2.a6].length : Int)) && Nat.blt 0 [r24.2.a6].length) (
                  .br (!(bif (!(!r24.2.a4)) then true else false)) (
                   .leaf (false)) (
                   .br ([r24.2.a7].isEmpty || cloneB 2 24 [r24.2.a7]) (
                    .br (decide (0 ≤ 0) && decide (0 ≤ 1) && decide (1 ≤ ([r24.2.a7].length : Int)) && Nat.blt 0 [r24.2.a7].length) (
                     .br (bif ((strO 0 r24.2.a6.f0) == r24.2.a1) then ((strO 0 r24.2.a7.f0) == r24.2.a1) else false) (
                      .opt (g8 ) fun z32 =>
                       .leaf (z32)) (
                      .leaf (false))) (
                     .fail)) (
                    .fail))) (
                  .fail)) (
                 .fail)))) (
             .fail))) (
           .br (r12.2.a5.f0.isEmpty || cloneB 0 1 r12.2.a5.f0) (
            .br (!(bif (!(!r12.2.a3)) then true else false)) (
             .opt (iter gR4_2v2 1000000 (W4_2v2.mk (r12.2.a0) (r12.2.a1) (r12.2.a2) (0) (r12.2.a3) (r12.2.a4) (r12.2.a5) (r12.2.a6) (r12.2.a5.f0))) fun r36 =>
              .br r36.1 (
               .fail) (
               .br (!(bif (!(!r36.2.a4)) then true else false)) (
                .br (!(bif (!(!r36.2.a4)) then true else false)) (
                 .leaf (false)) (
                 .br ([r36.2.a7].isEmpty || cloneB 2 24 [r36.2.a7]) (
                  .br (decide (0 ≤ 0) && decide (0 ≤ 1) && decide (1 ≤ ([r36.2.a7].length : Int)) && Nat.blt 0 [r36.2.a7].length) (
                   .leaf (false)) (
                   .fail)) (
                  .fail))) (
                .br ([r36.2.a6].isEmpty || cloneB 2 24 [r36.2.a6]) (
                 .br (decide (0 ≤ 0) && decide (0 ≤ 1) && decide (1 ≤ ([r36.2.a6].length : Int)) && Nat.blt 0 [r36.2.a6].length) (
                  .br (!(bif (!(!r36.2.a4)) then true else false)) (
                   .leaf (false)) (
                   .br ([r36.2.a7].isEmpty || cloneB 2 24 [r36.2.a7]) (
                    .br (decide (0 ≤ 0) && decide (0 ≤ 1) && decide (1 ≤ ([r36.2.a7].length : Int)) && Nat.blt 0 [r36.2.a7].length) (
                     .br (bif ((strO 0 r36.2.a6.f0) == r36.2.a1) then ((strO 0 r36.2.a7.f0) == r36.2.a1) else false) (
                      .opt (g8 ) fun z44 =>
                       .leaf (z44)) (
                      .leaf (false))) (
                     .fail)) (
                    .fail))) (
                  .fail)) (
                 .fail)))) (
             .br (r12.2.a6.f0.isEmpty || cloneB 0 1 r12.2.a6.f0) (
              .opt (iter gR4_2v3 1000000 (W4_2v3.mk (r12.2.a0) (r12.2.a1) (r12.2.a2) (0) (r12.2.a3) (r12.2.a4) (r12.2.a5) (r12.2.a6) (r12.2.a5.f0) (r12.2.a6.f0))) fun r49 =>
               .br r49.1 (
                .fail) (
                .br (!(bif (!(!r49.2.a4)) then true else false)) (
                 .br (!(bif (!(!r49.2.a4)) then true else false)) (
                  .leaf (false)) (
                  .br ([r49.2.a7].isEmpty || cloneB 2 24 [r49.2.a7]) (
                   .br (decide (0 ≤ 0) && decide (0 ≤ 1) && decide (1 ≤ ([r49.2.a7].length : Int)) && Nat.blt 0 [r49.2.a7].length) (
                    .leaf (false)) (
                    .fail)) (
                   .fail))) (
                 .br ([r49.2.a6].isEmpty || cloneB 2 24 [r49.2.a6]) (
                  .br (decide (0 ≤ 0) && decide (0 ≤ 1) && decide (1 ≤ ([r49.2.a6].length : Int)) && Nat.blt 0 [r49.2.a6].length) (
                   .br (!(bif (!(!r49.2.a4)) then true else false)) (
                    .leaf (false)) (
                    .br ([r49.2.a7].isEmpty || cloneB 2 24 [r49.2.a7]) (
                     .br (decide (0 ≤ 0) && decide (0 ≤ 1) && decide (1 ≤ ([r49.2.a7].length : Int)) && Nat.blt 0 [r49.2.a7].length) (
                      .br (bif ((strO 0 r49.2.a6.f0) == r49.2.a1) then ((strO 0 r49.2.a7.f0) == r49.2.a1) else false) (
                       .opt (g8 ) fun z57 =>
                        .leaf (z57)) (
                       .leaf (false))) (
                      .fail)) (
                     .fail))) (
                   .fail)) (
                  .fail)))) (
              .fail))) (
            .fail)))) (
        .fail)) (
       .fail)) (
      .fail)) (
     .fail)) (
    .br (Nat.ble (0 + (List.take (Int.toNat (mnI (x0.length : Int) 100)) x0).length) 140737488355328 && Nat.ble ((0 + (List.take (Int.toNat (mnI (x0.length : Int) 100)) x0).length) * 1) 140737488355328) (
     .br (decide (((List.take (Int.toNat (mnI (x0.length : Int) 100)) x0).length : Int) > 2048)) (
      .leaf (false)) (
      .br (([] : List S2).isEmpty || cloneB 2 24 ([] : List S2)) (
       .br ((List.take (Int.toNat (mnI (x0.length : Int) 100)) x0).isEmpty || cloneB 0 1 (List.take (Int.toNat (mnI (x0.length : Int) 100)) x0)) (
        .br (([] : List S2).isEmpty || cloneB 2 24 ([] : List S2)) (
         .br ((List.take (Int.toNat (mnI (x0.length : Int) 100)) x0).isEmpty || cloneB 0 1 (List.take (Int.toNat (mnI (x0.length : Int) 100)) x0)) (
          .opt (iter gR4_0v1 1000000 (W4_0v1.mk (false) ((strO 0 (List.take (Int.toNat (mnI (x0.length : Int) 100)) x0))) (0) ((List.take (Int.toNat (mnI (x0.length : Int) 100)) x0)) (true) (false) ((S2.mk (List.take (Int.toNat (mnI (x0.length : Int) 100)) x0))) ((S2.mk (List.take (Int.toNat (mnI (x0.length : Int) 100)) x0))))) fun r64 =>
           .br r64.1 (
            .fail) (
            .br (!(bif (!(!r64.2.a4)) then true else false)) (
             .br (!(bif (!(!r64.2.a4)) then true else false)) (
              .opt (iter gR4_2v4 1000000 (W4_2v4.mk (r64.2.a0) (r64.2.a1) (r64.2.a2) (0) (r64.2.a3) (r64.2.a4) (r64.2.a5) (r64.2.a6) (r64.2.a7))) fun r67 =>
               .br r67.1 (
                .fail) (
                .br (!(bif (!(!r67.2.a5)) then true else false)) (
                 .br (!(bif (!(!r67.2.a5)) then true else false)) (
                  .leaf (false)) (
                  .br ([r67.2.a8].isEmpty || cloneB 2 24 [r67.2.a8]) (
                   .br (decide (0 ≤ 0) && decide (0 ≤ 1) && decide (1 ≤ ([r67.2.a8].length : Int)) && Nat.blt 0 [r67.2.a8].length) (
                    .leaf (false)) (
                    .fail)) (
                   .fail))) (
                 .br ([r67.2.a7].isEmpty || cloneB 2 24 [r67.2.a7]) (
                  .br (decide (0 ≤ 0) && decide (0 ≤ 1) && decide (1 ≤ ([r67.2.a7].length : Int)) && Nat.blt 0 [r67.2.a7].length) (
                   .br (!(bif (!(!r67.2.a5)) then true else false)) (
                    .leaf (false)) (
                    .br ([r67.2.a8].isEmpty || cloneB 2 24 [r67.2.a8]) (
                     .br (decide (0 ≤ 0) && decide (0 ≤ 1) && decide (1 ≤ ([r67.2.a8].length : Int)) && Nat.blt 0 [r67.2.a8].length) (
                      .br (bif ((strO 0 r67.2.a7.f0) == r67.2.a1) then ((strO 0 r67.2.a8.f0) == r67.2.a1) else false) (
                       .opt (g8 ) fun z75 =>
                        .leaf (z75)) (
                       .leaf (false))) (
                      .fail)) (
                     .fail))) (
                   .fail)) (
                  .fail)))) (
              .br (r64.2.a7.f0.isEmpty || cloneB 0 1 r64.2.a7.f0) (
               .opt (iter gR4_2v5 1000000 (W4_2v5.mk (r64.2.a0) (r64.2.a1) (r64.2.a2) (0) (r64.2.a3) (r64.2.a4) (r64.2.a5) (r64.2.a6) (r64.2.a7) (r64.2.a7.f0))) fun r76 =>
                .br r76.1 (
                 .fail) (
                 .br (!(bif (!(!r76.2.a5)) then true else false)) (
                  .br (!(bif (!(!r76.2.a5)) then true else false)) (
                   .leaf (false)) (
                   .br ([r76.2.a8].isEmpty || cloneB 2 24 [r76.2.a8]) (
                    .br (decide (0 ≤ 0) && decide (0 ≤ 1) && decide (1 ≤ ([r76.2.a8].length : Int)) && Nat.blt 0 [r76.2.a8].length) (
                     .leaf (false)) (
                     .fail)) (
                    .fail))) (
                  .br ([r76.2.a7].isEmpty || cloneB 2 24 [r76.2.a7]) (
                   .br (decide (0 ≤ 0) && decide (0 ≤ 1) && decide (1 ≤ ([r76.2.a7].length : Int)) && Nat.blt 0 [r76.2.a7].length) (
                    .br (!(bif (!(!r76.2.a5)) then true else false)) (
                     .leaf (false)) (
                     .br ([r76.2.a8].isEmpty || cloneB 2 24 [r76.2.a8]) (
                      .br (decide (0 ≤ 0) && decide (0 ≤ 1) && decide (1 ≤ ([r76.2.a8].length : Int)) && Nat.blt 0 [r76.2.a8].length) (
                       .br (bif ((strO 0 r76.2.a7.f0) == r76.2.a1) then ((strO 0 r76.2.a8.f0) == r76.2.a1) else false) (
                        .opt (g8 ) fun z84 =>
                         .leaf (z84)) (
                        .leaf (false))) (
                       .fail)) (
                      .fail))) (
                    .fail)) (
                   .fail)))) (
               .fail))) (
             .br (r64.2.a6.f0.isEmpty || cloneB 0 1 r64.2.a6.f0) (
              .br (!(bif (!(!r64.2.a4)) then true else false)) (
               .opt (iter gR4_2v6 1000000 (W4_2v6.mk (r64.2.a0) (r64.2.a1) (r64.2.a2) (0) (r64.2.a3) (r64.2.a4) (r64.2.a5) (r64.2.a6) (r64.2.a7) (r64.2.a6.f0))) fun r88 =>
                .br r88.1 (
                 .fail) (
                 .br (!(bif (!(!r88.2.a5)) then true else false)) (
                  .br (!(bif (!(!r88.2.a5)) then true else false)) (
                   .leaf (false)) (
                   .br ([r88.2.a8].isEmpty || cloneB 2 24 [r88.2.a8]) (
                    .br (decide (0 ≤ 0) && decide (0 ≤ 1) && decide (1 ≤ ([r88.2.a8].length : Int)) && Nat.blt 0 [r88.2.a8].length) (
                     .leaf (false)) (
                     .fail)) (
                    .fail))) (
                  .br ([r88.2.a7].isEmpty || cloneB 2 24 [r88.2.a7]) (
                   .br (decide (0 ≤ 0) && decide (0 ≤ 1) && decide (1 ≤ ([r88.2.a7].length : Int)) && Nat.blt 0 [r88.2.a7].length) (
                    .br (!(bif (!(!r88.2.a5)) then true else false)) (
                     .leaf (false)) (
                     .br ([r88.2.a8].isEmpty || cloneB 2 24 [r88.2.a8]) (
                      .br (decide (0 ≤ 0) && decide (0 ≤ 1) && decide (1 ≤ ([r88.2.a8].length : Int)) && Nat.blt 0 [r88.2.a8].length) (
                       .br (bif ((strO 0 r88.2.a7.f0) == r88.2.a1) then ((strO 0 r88.2.a8.f0) == r88.2.a1) else false) (
                        .opt (g8 ) fun z96 =>
                         .leaf (z96)) (
                        .leaf (false))) (
                       .fail)) (
                      .fail))) (
                    .fail)) (
                   .fail)))) (
               .br (r64.2.a7.f0.isEmpty || cloneB 0 1 r64.2.a7.f0) (
                .opt (iter gR4_2v7 1000000 (W4_2v7.mk (r64.2.a0) (r64.2.a1) (r64.2.a2) (0) (r64.2.a3) (r64.2.a4) (r64.2.a5) (r64.2.a6) (r64.2.a7) (r64.2.a6.f0) (r64.2.a7.f0))) fun r101 =>
                 .br r101.1 (
                  .fail) (
                  .br (!(bif (!(!r101.2.a5)) then true else false)) (
                   .br (!(bif (!(!r101.2.a5)) then true else false)) (
                    .leaf (false)) (
                    .br ([r101.2.a8].isEmpty || cloneB 2 24 [r101.2.a8]) (
                     .br (decide (0 ≤ 0) && decide (0 ≤ 1) && decide (1 ≤ ([r101.2.a8].length : Int)) && Nat.blt 0 [r101.2.a8].length) (
                      .leaf (false)) (
                      .fail)) (
                     .fail))) (
                   .br ([r101.2.a7].isEmpty || cloneB 2 24 [r101.2.a7]) (
                    .br (decide (0 ≤ 0) && decide (0 ≤ 1) && decide (1 ≤ ([r101.2.a7].length : Int)) && Nat.blt 0 [r101.2.a7].length) (
                     .br (!(bif (!(!r101.2.a5)) then true else false)) (
                      .leaf (false)) (
                      .br ([r101.2.a8].isEmpty || cloneB 2 24 [r101.2.a8]) (
                       .br (decide (0 ≤ 0) && decide (0 ≤ 1) && decide (1 ≤ ([r101.2.a8].length : Int)) && Nat.blt 0 [r101.2.a8].length) (
                        .br (bif ((strO 0 r101.2.a7.f0) == r101.2.a1) then ((strO 0 r101.2.a8.f0) == r101.2.a1) else false) (
                         .opt (g8 ) fun z109 =>
                          .leaf (z109)) (
                         .leaf (false))) (
                        .fail)) (
                       .fail))) (
                     .fail)) (
                    .fail)))) (
                .fail))) (
              .fail)))) (
          .fail)) (
         .fail)) (
        .fail)) (
       .fail))) (
     .fail))) (
   .fail)
def g4 (x0 : List S0) : Option (Bool) := (g4T x0).get?
noncomputable def T4 : TL := [(0, F4_0), (2, F4_2)]
noncomputable def q4 : Ab.Spec := runQ0 e4 (lookT T4) Go.Proofs.Try.f4
theorem q4_ok : SpecOk Go.Proofs.Try.prog 4 q4 := (runQ0_ok (runR_ok (e := e4) follows (allTI ti_ok _ _ _ _ _) (callsOk_cons s7_ok (callsOk_cons s11_ok (callsOk_cons s31_ok (callsOk_cons s34_ok (callsOk_cons s29_ok (callsOk_cons s32_ok (callsOk_cons s41_ok (callsOk_cons s40_ok (callsOk_cons s14_ok (callsOk_cons s9_ok (callsOk_cons s30_ok (callsOk_cons s10_ok (callsOk_cons s12_ok (callsOk_cons s33_ok (callsOk_cons s42_ok (callsOk_cons s15_ok (callsOk_cons s8_ok (callsOk_nil)))))))))))))))))) Go.Proofs.Try.func4 Go.Proofs.Try.call4) (fun c hc => by
  have hb : c = Go.Proofs.Try.f4.body.getD .skip := by rw [hc]; rfl
  subst hb
  exact tab_cons (by kernel_rfl) F4_0_ok (tab_cons (by kernel_rfl) F4_2_ok (tab_nil))))
theorem g4_run (x0 : List S0) : (q4 [.c (.rs 0 x0)] []).eval = (g4T x0).ev fun r => ((.c (.bool r) : AV), ([] : List Blk)) := by kernel_rfl
noncomputable def s4_0 : Ab.Spec := fun args h =>
  dN h <| dL args fun v0 a0 => dC v0 fun c0 => dR0 0 c0 fun x0 => dN a0 <|
  .opt (g4 x0) fun r => .val (.c (.bool r), [])
theorem s4_0_ok : SpecOk Go.Proofs.Try.prog 4 s4_0 :=
  q4_ok.less fun args hs r h => by
    unfold s4_0 at h
    obtain ⟨rfl, hh1⟩ := dN_inv h
    obtain ⟨v0, a0, rfl, hh2⟩ := dL_inv hh1
    obtain ⟨c0, rfl, hh3⟩ := dC_inv hh2
    obtain ⟨x0, rfl, hh4⟩ := dR0_inv hh3
    obtain ⟨rfl, hh5⟩ := dN_inv hh4
    rw [g4_run, Tr.ev_get?]
    change (Res.opt (g4 x0) _).eval = some r at hh5
    rw [eval_opt] at hh5
    obtain ⟨z, hz, hh6⟩ := Option.bind_eq_some_iff.mp hh5
    unfold g4 at hz
    rw [hz]; exact hh6
noncomputable def s4 : Ab.Spec := fun args h => s4_0 (coeA [[some 0]] args) h
theorem s4_ok : SpecOk Go.Proofs.Try.prog 4 s4 := s4_0_ok.pre [[some 0]]
end Ab25o
