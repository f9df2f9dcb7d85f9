/- Seat 06: the tables. -/
import Derived.Test.YtnbcmbbhmknbbaaAbLoop
import Derived.Test.YtnbcmbbhmknbbaaChecked
set_option maxRecDepth 100000
set_option maxHeartbeats 4000000
set_option linter.unusedVariables false
set_option linter.unusedSimpArgs false
namespace Ab06x
open Go Ab
structure S0 where
  f0 : Int
  f1 : Int
  f2 : Int
  f3 : Int
  deriving Inhabited
instance : Uni where
  val := fun c => match c with
    | 0 => S0
    | _ => Int
  sz := fun c => match c with
    | 0 => 4
    | _ => 1
def enc0 (x : S0) : List Cl := [.int .u64 x.f0, .int .u32 x.f1, .int .u64 x.f2, .int .u16 x.f3]
def ks0 : List KC := [.int .u64, .int .u32, .int .u64, .int .u16]
def rd0 (l : List Cl) : S0 := ⟨iAt l 0, iAt l 1, iAt l 2, iAt l 3⟩
def dec0 (l : List Cl) : Option S0 := match kmB ks0 l with | true => some (rd0 l) | false => none
theorem rd0_enc (l : List Cl) (h : kmB ks0 l = true) : enc0 (rd0 l) = l := (by kernel_rfl : enc0 (rd0 l) = reE l ks0 0).trans (reE_ok h)
theorem dec0_enc (l : List Cl) (x : S0) (h : dec0 l = some x) : enc0 x = l := by
  unfold dec0 at h
  split at h
  · rename_i hk
    cases h
    exact rd0_enc l hk
  · cases h
def encR (x : Int) : List Cl := [.int .i64 x]
def decR (l : List Cl) : Option Int := gL l fun c0 l0 => gI .i64 c0 fun x0 => gN l0 (some x0)
theorem decR_enc (l : List Cl) (x : Int) (h : decR l = some x) : encR x = l := by
  unfold decR at h
  obtain ⟨c0, l0, rfl, h1⟩ := gL_inv h
  obtain ⟨x0, rfl, h2⟩ := gI_inv h1
  obtain ⟨rfl, h3⟩ := gN_inv h2
  cases h3
  rfl
instance : Cod where
  enc := fun c => match c with
    | 0 => enc0
    | _+1 => encR
  dec := fun c => match c with
    | 0 => dec0
    | _+1 => decR
  enc_len := fun c => match c with
    | 0 => fun _ => rfl
    | _+1 => fun _ => rfl
  dec_enc := fun c => match c with
    | 0 => dec0_enc
    | _+1 => decR_enc
  sz_pos := fun c => match c with
    | 0 => by decide
    | _+1 => by exact Nat.one_pos
  enc_closed := fun c => match c with
    | 0 => fun x y hy => closed_all (by kernel_rfl : (enc0 x).all closedC = true) hy
    | _+1 => fun x y hy => closed_all (by kernel_rfl : (encR x).all closedC = true) hy
def kd : Nat → List KC := fun c => match c with
  | 0 => [.int .u64, .int .u32, .int .u64, .int .u16]
  | _ => [.int .i64]
theorem kd_all : Elems kd := ⟨fun c => match c with
  | 0 => fun l h => ⟨rd0 l, rd0_enc l (km_of_has h)⟩
  | _+1 => fun l h => by
    have h : All2 KC.has [.int .i64] l := h
    obtain ⟨c0, l0, rfl, k0, h1⟩ := h.uncons
    obtain ⟨x0, rfl, _⟩ := has_int k0
    obtain rfl := h1.unnil
    exact ⟨x0, rfl⟩⟩
def ti : List TI := [
  ⟨1, 0, [], .other, none⟩,
  ⟨1, 8, [.nilf], .func, none⟩,
  ⟨1, 8, [.int .i64 0], .int .i64, none⟩,
  ⟨1, 8, [.int .i64 0], .int .i64, none⟩,
  ⟨1, 1, [.bool false], .bool, none⟩,
  ⟨1, 1, [.int .u8 0], .int .u8, none⟩,
  ⟨1, 1, [.int .u8 0], .int .u8, none⟩,
  ⟨4, 24, [.int .i64 0, .int .i64 0, .bool false, .int .u8 0], .struct [(0, 2), (1, 3), (2, 4), (3, 6)], some [.int .i64, .int .i64, .bool, .int .u8]⟩,
  ⟨4, 24, [.int .i64 0, .int .i64 0, .bool false, .int .u8 0], .struct [(0, 2), (1, 3), (2, 4), (3, 6)], some [.int .i64, .int .i64, .bool, .int .u8]⟩,
  ⟨1, 16, [.str ⟨#[]⟩], .str, none⟩,
  ⟨1, 16, [.str ⟨#[]⟩], .str, none⟩,
  ⟨1, 16, [.str ⟨#[]⟩], .str, none⟩,
  ⟨1, 8, [.int .u64 0], .int .u64, none⟩,
  ⟨2, 24, [.str ⟨#[]⟩, .int .u64 0], .struct [(0, 9), (1, 12)], none⟩,
  ⟨2, 24, [.str ⟨#[]⟩, .int .u64 0], .struct [(0, 9), (1, 12)], none⟩,
  ⟨1, 8, [.nilp], .ptr 59, none⟩,
  ⟨1, 8, [.nilp], .ptr 62, none⟩,
  ⟨1, 8, [.nilp], .ptr 71, none⟩,
  ⟨1, 8, [.nilp], .struct [(0, 17)], none⟩,
  ⟨1, 8, [.nilp], .struct [(0, 17)], none⟩,
  ⟨1, 16, [], .other, none⟩,
  ⟨1, 4, [.int .i32 0], .int .i32, none⟩,
  ⟨1, 8, [.int .u64 0], .int .u64, none⟩,
  ⟨1, 4, [.int .u32 0], .int .u32, none⟩,
  ⟨1, 2, [.int .u16 0], .int .u16, none⟩,
  ⟨4, 32, [.int .u64 0, .int .u32 0, .int .u64 0, .int .u16 0], .struct [(0, 22), (1, 23), (2, 22), (3, 24)], some [.int .u64, .int .u32, .int .u64, .int .u16]⟩,
  ⟨4, 32, [.int .u64 0, .int .u32 0, .int .u64 0, .int .u16 0], .struct [(0, 22), (1, 23), (2, 22), (3, 24)], some [.int .u64, .int .u32, .int .u64, .int .u16]⟩,
  ⟨1, 8, [.nilf], .func, none⟩,
  ⟨1, 8, [.nilf], .func, none⟩,
  ⟨1, 8, [.nilf], .func, none⟩,
  ⟨1, 8, [.nilf], .func, none⟩,
  ⟨1, 8, [.nilf], .func, none⟩,
  ⟨1, 8, [.nilf], .func, none⟩,
  ⟨1, 24, [.nils], .slice 26 (some 0), none⟩,
  ⟨1, 8, [.nilf], .func, none⟩,
  ⟨1, 8, [.nilf], .func, none⟩,
  ⟨1, 8, [.nilf], .func, none⟩,
  ⟨1, 8, [.nilf], .func, none⟩,
  ⟨4, 4, [.int .u8 0, .int .u8 0, .int .u8 0, .int .u8 0], .struct [(0, 5), (1, 5), (2, 5), (3, 5)], some [.int .u8, .int .u8, .int .u8, .int .u8]⟩,
  ⟨4, 4, [.int .u8 0, .int .u8 0, .int .u8 0, .int .u8 0], .struct [(0, 5), (1, 5), (2, 5), (3, 5)], some [.int .u8, .int .u8, .int .u8, .int .u8]⟩,
  ⟨1, 8, [.int .i64 0], .int .i64, none⟩,
  ⟨1, 8, [.nilf], .func, none⟩,
  ⟨1, 8, [.nilf], .func, none⟩,
  ⟨1, 8, [.nilf], .func, none⟩,
  ⟨6, 6, [.int .u8 0, .int .u8 0, .int .u8 0, .int .u8 0, .int .u8 0, .int .u8 0], .arr 6 5, some [.int .u8, .int .u8, .int .u8, .int .u8, .int .u8, .int .u8]⟩,
  ⟨6, 6, [.int .u8 0, .int .u8 0, .int .u8 0, .int .u8 0, .int .u8 0, .int .u8 0], .arr 6 5, some [.int .u8, .int .u8, .int .u8, .int .u8, .int .u8, .int .u8]⟩,
  ⟨1, 8, [.nilf], .func, none⟩,
  ⟨1, 8, [.nilf], .func, none⟩,
  ⟨1, 8, [.nilf], .func, none⟩,
  ⟨1, 8, [.nilf], .func, none⟩,
  ⟨1, 8, [.nilf], .func, none⟩,
  ⟨1, 8, [.nilf], .func, none⟩,
  ⟨2, 16, [.int .u64 0, .int .u64 0], .arr 2 22, some [.int .u64, .int .u64]⟩,
  ⟨8, 64, [.int .u64 0, .int .u64 0, .int .u64 0, .int .u64 0, .int .u64 0, .int .u64 0, .int .u64 0, .int .u64 0], .arr 4 52, some [.int .u64, .int .u64, .int .u64, .int .u64, .int .u64, .int .u64, .int .u64, .int .u64]⟩,
  ⟨1, 8, [.nilf], .func, none⟩,
  ⟨1, 8, [.nilf], .func, none⟩,
  ⟨1, 8, [.int .u64 0], .int .u64, none⟩,
  ⟨1, 8, [.nilf], .func, none⟩,
  ⟨4, 40, [.nilp, .nilp, .nilp, .str ⟨#[]⟩], .struct [(0, 17), (1, 17), (2, 17), (3, 9)], none⟩,
  ⟨4, 40, [.nilp, .nilp, .nilp, .str ⟨#[]⟩], .struct [(0, 17), (1, 17), (2, 17), (3, 9)], none⟩]
theorem ti_ok : (ti.zipIdx.all fun p => tiB Go.Proofs.Try.prog p.2 p.1) = true := by kernel_rfl
theorem follows : Go.Proofs.Try.prog.follows .mixedOrders = true := by kernel_rfl
end Ab06x
