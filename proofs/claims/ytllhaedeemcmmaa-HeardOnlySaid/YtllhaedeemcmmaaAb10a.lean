/- Seat 10: the tables. -/
import Derived.Test.YtllhaedeemcmmaaAbPure
import Derived.Test.YtllhaedeemcmmaaChecked
set_option maxRecDepth 100000
set_option maxHeartbeats 4000000
set_option linter.unusedVariables false
set_option linter.unusedSimpArgs false
namespace Ab10
open Go Ab
structure S0 where
  f0 : Int
  f1 : Int
  f2 : Bool
  f3 : Bool
  f4 : Bool
  f5 : Bool
  f6 : Bool
  f7 : Bool
  f8 : Bool
  f9 : Bool
  f10 : Bool
  f11 : Bool
  f12 : Bool
  f13 : Bool
  f14 : Bool
  f15 : Bool
  f16 : Bool
  f17 : Bool
  f18 : Bool
  f19 : Bool
  f20 : Bool
  f21 : Bool
  f22 : Bool
  f23 : Bool
  f24 : Bool
  f25 : Bool
  f26 : Bool
  f27 : Bool
  f28 : Bool
  f29 : Int
  f30 : Int
  f31 : Int
  f32 : Int
  f33 : Int
  f34 : Int
  f35 : Int
  f36 : Int
  f37 : Int
  f38 : Int
  f39 : Int
  f40 : Int
  f41 : Int
  f42 : Int
  f43 : Int
  f44 : Int
  f45 : Int
  f46 : Int
  f47 : Int
  f48 : Int
  f49 : Bool
  f50 : Bool
  f51 : Bool
  f52 : Bool
  f53 : Bool
  f54 : Bool
  f55 : Int
  f56 : Int
  f57 : Int
  f58 : Int
  f59 : Int
  f60 : Int
  f61 : Int
  f62 : Int
  f63 : Int
  f64 : Int
  f65 : Int
  f66 : Int
  f67 : Int
  f68 : Int
  f69 : Int
  f70 : Int
  f71 : Int
  f72 : Int
  f73 : Int
  f74 : Int
  f75 : Int
  f76 : Int
  deriving Inhabited
structure S1 where
  f0 : Int
  f1 : Bool
  f2 : Bool
  f3 : Bool
  f4 : Bool
  f5 : Bool
  f6 : Bool
  f7 : Int
  f8 : Int
  f9 : Int
  f10 : Int
  f11 : Int
  f12 : Int
  f13 : Int
  f14 : Int
  f15 : Int
  deriving Inhabited
structure S2 where
  f0 : Int
  f1 : Int
  f2 : Int
  f3 : Int
  deriving Inhabited
instance : Uni where
  val := fun c => match c with
    | 0 => S0
    | 1 => S1
    | 2 => S2
    | _ => Int
  sz := fun c => match c with
    | 0 => 77
    | 1 => 16
    | 2 => 4
    | _ => 1
def enc0 (x : S0) : List Cl := [.int .u16 x.f0, .int .u32 x.f1, .bool x.f2, .bool x.f3, .bool x.f4, .bool x.f5, .bool x.f6, .bool x.f7, .bool x.f8, .bool x.f9, .bool x.f10, .bool x.f11, .bool x.f12, .bool x.f13, .bool x.f14, .bool x.f15, .bool x.f16, .bool x.f17, .bool x.f18, .bool x.f19, .bool x.f20, .bool x.f21, .bool x.f22, .bool x.f23, .bool x.f24, .bool x.f25, .bool x.f26, .bool x.f27, .bool x.f28, .int .i64 x.f29, .int .i64 x.f30, .int .i64 x.f31, .int .u64 x.f32, .int .u32 x.f33, .int .u64 x.f34, .int .u16 x.f35, .int .u64 x.f36, .int .u32 x.f37, .int .u64 x.f38, .int .u16 x.f39, .int .u8 x.f40, .int .u8 x.f41, .int .u8 x.f42, .int .u8 x.f43, .int .u8 x.f44, .int .u8 x.f45, .int .u8 x.f46, .int .u8 x.f47, .int .i64 x.f48, .bool x.f49, .bool x.f50, .bool x.f51, .bool x.f52, .bool x.f53, .bool x.f54, .int .i64 x.f55, .int .u64 x.f56, .int .u32 x.f57, .int .u64 x.f58, .int .u16 x.f59, .int .u8 x.f60, .int .u8 x.f61, .int .u8 x.f62, .int .u8 x.f63, .int .u8 x.f64, .int .u8 x.f65, .int .u8 x.f66, .int .u8 x.f67, .int .u8 x.f68, .int .u8 x.f69, .int .u8 x.f70, .int .u8 x.f71, .int .i64 x.f72, .int .i64 x.f73, .int .i64 x.f74, .int .i64 x.f75, .int .i64 x.f76]
def ks0 : List KC := [.int .u16, .int .u32, .bool, .bool, .bool, .bool, .bool, .bool, .bool, .bool, .bool, .bool, .bool, .bool, .bool, .bool, .bool, .bool, .bool, .bool, .bool, .bool, .bool, .bool, .bool, .bool, .bool, .bool, .bool, .int .i64, .int .i64, .int .i64, .int .u64, .int .u32, .int .u64, .int .u16, .int .u64, .int .u32, .int .u64, .int .u16, .int .u8, .int .u8, .int .u8, .int .u8, .int .u8, .int .u8, .int .u8, .int .u8, .int .i64, .bool, .bool, .bool, .bool, .bool, .bool, .int .i64, .int .u64, .int .u32, .int .u64, .int .u16, .int .u8, .int .u8, .int .u8, .int .u8, .int .u8, .int .u8, .int .u8, .int .u8, .int .u8, .int .u8, .int .u8, .int .u8, .int .i64, .int .i64, .int .i64, .int .i64, .int .i64]
def rd0 (l : List Cl) : S0 := ⟨iAt l 0, iAt l 1, bAt l 2, bAt l 3, bAt l 4, bAt l 5, bAt l 6, bAt l 7, bAt l 8, bAt l 9, bAt l 10, bAt l 11, bAt l 12, bAt l 13, bAt l 14, bAt l 15, bAt l 16, bAt l 17, bAt l 18, bAt l 19, bAt l 20, bAt l 21, bAt l 22, bAt l 23, bAt l 24, bAt l 25, bAt l 26, bAt l 27, bAt l 28, iAt l 29, iAt l 30, iAt l 31, iAt l 32, iAt l 33, iAt l 34, iAt l 35, iAt l 36, iAt l 37, iAt l 38, iAt l 39, iAt l 40, iAt l 41, iAt l 42, iAt l 43, iAt l 44, iAt l 45, iAt l 46, iAt l 47, iAt l 48, bAt l 49, bAt l 50, bAt l 51, bAt l 52, bAt l 53, bAt l 54, iAt l 55, iAt l 56, iAt l 57, iAt l 58, iAt l 59, iAt l 60, iAt l 61, iAt l 62, iAt l 63, iAt l 64, iAt l 65, iAt l 66, iAt l 67, iAt l 68, iAt l 69, iAt l 70, iAt l 71, iAt l 72, iAt l 73, iAt l 74, iAt l 75, iAt l 76⟩
def dec0 (l : List Cl) : Option S0 := match kmB ks0 l with | true => some (rd0 l) | false => none
theorem rd0_enc (l : List Cl) (h : kmB ks0 l = true) : enc0 (rd0 l) = l := (by kernel_rfl : enc0 (rd0 l) = reE l ks0 0).trans (reE_ok h)
theorem dec0_enc (l : List Cl) (x : S0) (h : dec0 l = some x) : enc0 x = l := by
  unfold dec0 at h
  split at h
  · rename_i hk
    cases h
    exact rd0_enc l hk
  · cases h
def enc1 (x : S1) : List Cl := [.int .i64 x.f0, .bool x.f1, .bool x.f2, .bool x.f3, .bool x.f4, .bool x.f5, .bool x.f6, .int .i64 x.f7, .int .u64 x.f8, .int .u32 x.f9, .int .u64 x.f10, .int .u16 x.f11, .int .u8 x.f12, .int .u8 x.f13, .int .u8 x.f14, .int .u8 x.f15]
def ks1 : List KC := [.int .i64, .bool, .bool, .bool, .bool, .bool, .bool, .int .i64, .int .u64, .int .u32, .int .u64, .int .u16, .int .u8, .int .u8, .int .u8, .int .u8]
def rd1 (l : List Cl) : S1 := ⟨iAt l 0, bAt l 1, bAt l 2, bAt l 3, bAt l 4, bAt l 5, bAt l 6, iAt l 7, iAt l 8, iAt l 9, iAt l 10, iAt l 11, iAt l 12, iAt l 13, iAt l 14, iAt l 15⟩
def dec1 (l : List Cl) : Option S1 := match kmB ks1 l with | true => some (rd1 l) | false => none
theorem rd1_enc (l : List Cl) (h : kmB ks1 l = true) : enc1 (rd1 l) = l := (by kernel_rfl : enc1 (rd1 l) = reE l ks1 0).trans (reE_ok h)
theorem dec1_enc (l : List Cl) (x : S1) (h : dec1 l = some x) : enc1 x = l := by
  unfold dec1 at h
  split at h
  · rename_i hk
    cases h
    exact rd1_enc l hk
  · cases h
def enc2 (x : S2) : List Cl := [.int .u64 x.f0, .int .u32 x.f1, .int .u64 x.f2, .int .u16 x.f3]
def ks2 : List KC := [.int .u64, .int .u32, .int .u64, .int .u16]
def rd2 (l : List Cl) : S2 := ⟨iAt l 0, iAt l 1, iAt l 2, iAt l 3⟩
def dec2 (l : List Cl) : Option S2 := match kmB ks2 l with | true => some (rd2 l) | false => none
theorem rd2_enc (l : List Cl) (h : kmB ks2 l = true) : enc2 (rd2 l) = l := (by kernel_rfl : enc2 (rd2 l) = reE l ks2 0).trans (reE_ok h)
theorem dec2_enc (l : List Cl) (x : S2) (h : dec2 l = some x) : enc2 x = l := by
  unfold dec2 at h
  split at h
  · rename_i hk
    cases h
    exact rd2_enc l hk
  · cases h
def encR (x : Int) : List Cl := [.int .i64 x]
def decR (l : List Cl) : Option Int := gL l fun c0 l0 => gI .i64 c0 fun x0 => gN l0 (some x0)
theorem decR_enc (l : List Cl) (x : Int) (h : decR l = some x) : encR x = l := by
  unfold decR at h
  obtain ⟨c0, l0, rfl, h1⟩ := gL_inv h
  obtain ⟨x0, rfl, h2⟩ := gI_inv h1
  obtain ⟨rfl, h3⟩ := gN_inv h2
  cases h3
  rfl
instance : Cod where
  enc := fun c => match c with
    | 0 => enc0
    | 1 => enc1
    | 2 => enc2
    | _+3 => encR
  dec := fun c => match c with
    | 0 => dec0
    | 1 => dec1
    | 2 => dec2
    | _+3 => decR
  enc_len := fun c => match c with
    | 0 => fun _ => rfl
    | 1 => fun _ => rfl
    | 2 => fun _ => rfl
    | _+3 => fun _ => rfl
  dec_enc := fun c => match c with
    | 0 => dec0_enc
    | 1 => dec1_enc
    | 2 => dec2_enc
    | _+3 => decR_enc
  sz_pos := fun c => match c with
    | 0 => by decide
    | 1 => by decide
    | 2 => by decide
    | _+3 => by exact Nat.one_pos
  enc_closed := fun c => match c with
    | 0 => fun x y hy => closed_all (by kernel_rfl : (enc0 x).all closedC = true) hy
    | 1 => fun x y hy => closed_all (by kernel_rfl : (enc1 x).all closedC = true) hy
    | 2 => fun x y hy => closed_all (by kernel_rfl : (enc2 x).all closedC = true) hy
    | _+3 => fun x y hy => closed_all (by kernel_rfl : (encR x).all closedC = true) hy
def kd : Nat → List KC := fun c => match c with
  | 0 => [.int .u16, .int .u32, .bool, .bool, .bool, .bool, .bool, .bool, .bool, .bool, .bool, .bool, .bool, .bool, .bool, .bool, .bool, .bool, .bool, .bool, .bool, .bool, .bool, .bool, .bool, .bool, .bool, .bool, .bool, .int .i64, .int .i64, .int .i64, .int .u64, .int .u32, .int .u64, .int .u16, .int .u64, .int .u32, .int .u64, .int .u16, .int .u8, .int .u8, .int .u8, .int .u8, .int .u8, .int .u8, .int .u8, .int .u8, .int .i64, .bool, .bool, .bool, .bool, .bool, .bool, .int .i64, .int .u64, .int .u32, .int .u64, .int .u16, .int .u8, .int .u8, .int .u8, .int .u8, .int .u8, .int .u8, .int .u8, .int .u8, .int .u8, .int .u8, .int .u8, .int .u8, .int .i64, .int .i64, .int .i64, .int .i64, .int .i64]
  | 1 => [.int .i64, .bool, .bool, .bool, .bool, .bool, .bool, .int .i64, .int .u64, .int .u32, .int .u64, .int .u16, .int .u8, .int .u8, .int .u8, .int .u8]
  | 2 => [.int .u64, .int .u32, .int .u64, .int .u16]
  | _ => [.int .i64]
theorem kd_all : Elems kd := ⟨fun c => match c with
  | 0 => fun l h => ⟨rd0 l, rd0_enc l (km_of_has h)⟩
  | 1 => fun l h => ⟨rd1 l, rd1_enc l (km_of_has h)⟩
  | 2 => fun l h => ⟨rd2 l, rd2_enc l (km_of_has h)⟩
  | _+3 => fun l h => by
    have h : All2 KC.has [.int .i64] l := h
    obtain ⟨c0, l0, rfl, k0, h1⟩ := h.uncons
    obtain ⟨x0, rfl, _⟩ := has_int k0
    obtain rfl := h1.unnil
    exact ⟨x0, rfl⟩⟩
def ti : List TI := [
  ⟨1, 0, [], .other, none⟩,
  ⟨1, 8, [.nilf], .func, none⟩,
  ⟨1, 8, [.int .i64 0], .int .i64, none⟩,
  ⟨1, 8, [.int .i64 0], .int .i64, none⟩,
  ⟨1, 1, [.bool false], .bool, none⟩,
  ⟨1, 1, [.int .u8 0], .int .u8, none⟩,
  ⟨1, 1, [.int .u8 0], .int .u8, none⟩,
  ⟨4, 24, [.int .i64 0, .int .i64 0, .bool false, .int .u8 0], .struct [(0, 2), (1, 3), (2, 4), (3, 6)], some [.int .i64, .int .i64, .bool, .int .u8]⟩,
  ⟨4, 24, [.int .i64 0, .int .i64 0, .bool false, .int .u8 0], .struct [(0, 2), (1, 3), (2, 4), (3, 6)], some [.int .i64, .int .i64, .bool, .int .u8]⟩,
  ⟨1, 16, [.str ⟨#[]⟩], .str, none⟩,
  ⟨1, 16, [.str ⟨#[]⟩], .str, none⟩,
  ⟨1, 16, [.str ⟨#[]⟩], .str, none⟩,
  ⟨1, 8, [.int .u64 0], .int .u64, none⟩,
  ⟨2, 24, [.str ⟨#[]⟩, .int .u64 0], .struct [(0, 9), (1, 12)], none⟩,
  ⟨2, 24, [.str ⟨#[]⟩, .int .u64 0], .struct [(0, 9), (1, 12)], none⟩,
  ⟨1, 8, [.nilp], .ptr 57, none⟩,
  ⟨1, 8, [.nilp], .ptr 60, none⟩,
  ⟨1, 8, [.nilp], .ptr 69, none⟩,
  ⟨1, 8, [.nilp], .struct [(0, 17)], none⟩,
  ⟨1, 8, [.nilp], .struct [(0, 17)], none⟩,
  ⟨1, 16, [], .other, none⟩,
  ⟨1, 4, [.int .i32 0], .int .i32, none⟩,
  ⟨1, 2, [.int .u16 0], .int .u16, none⟩,
  ⟨1, 4, [.int .u32 0], .int .u32, none⟩,
  ⟨1, 8, [.int .i64 0], .int .i64, none⟩,
  ⟨1, 8, [.int .i64 0], .int .i64, none⟩,
  ⟨1, 8, [.int .u64 0], .int .u64, none⟩,
  ⟨4, 32, [.int .u64 0, .int .u32 0, .int .u64 0, .int .u16 0], .struct [(0, 26), (1, 23), (2, 26), (3, 22)], some [.int .u64, .int .u32, .int .u64, .int .u16]⟩,
  ⟨4, 32, [.int .u64 0, .int .u32 0, .int .u64 0, .int .u16 0], .struct [(0, 26), (1, 23), (2, 26), (3, 22)], some [.int .u64, .int .u32, .int .u64, .int .u16]⟩,
  ⟨4, 4, [.int .u8 0, .int .u8 0, .int .u8 0, .int .u8 0], .struct [(0, 5), (1, 5), (2, 5), (3, 5)], some [.int .u8, .int .u8, .int .u8, .int .u8]⟩,
  ⟨4, 4, [.int .u8 0, .int .u8 0, .int .u8 0, .int .u8 0], .struct [(0, 5), (1, 5), (2, 5), (3, 5)], some [.int .u8, .int .u8, .int .u8, .int .u8]⟩,
  ⟨1, 8, [.int .i64 0], .int .i64, none⟩,
  ⟨16, 64, [.int .i64 0, .bool false, .bool false, .bool false, .bool false, .bool false, .bool false, .int .i64 0, .int .u64 0, .int .u32 0, .int .u64 0, .int .u16 0, .int .u8 0, .int .u8 0, .int .u8 0, .int .u8 0], .struct [(0, 31), (1, 4), (2, 4), (3, 4), (4, 4), (5, 4), (6, 4), (7, 25), (8, 28), (12, 30)], some [.int .i64, .bool, .bool, .bool, .bool, .bool, .bool, .int .i64, .int .u64, .int .u32, .int .u64, .int .u16, .int .u8, .int .u8, .int .u8, .int .u8]⟩,
  ⟨16, 64, [.int .i64 0, .bool false, .bool false, .bool false, .bool false, .bool false, .bool false, .int .i64 0, .int .u64 0, .int .u32 0, .int .u64 0, .int .u16 0, .int .u8 0, .int .u8 0, .int .u8 0, .int .u8 0], .struct [(0, 31), (1, 4), (2, 4), (3, 4), (4, 4), (5, 4), (6, 4), (7, 25), (8, 28), (12, 30)], some [.int .i64, .bool, .bool, .bool, .bool, .bool, .bool, .int .i64, .int .u64, .int .u32, .int .u64, .int .u16, .int .u8, .int .u8, .int .u8, .int .u8]⟩,
  ⟨1, 8, [.int .i64 0], .int .i64, none⟩,
  ⟨77, 248, [.int .u16 0, .int .u32 0, .bool false, .bool false, .bool false, .bool false, .bool false, .bool false, .bool false, .bool false, .bool false, .bool false, .bool false, .bool false, .bool false, .bool false, .bool false, .bool false, .bool false, .bool false, .bool false, .bool false, .bool false, .bool false, .bool false, .bool false, .bool false, .bool false, .bool false, .int .i64 0, .int .i64 0, .int .i64 0, .int .u64 0, .int .u32 0, .int .u64 0, .int .u16 0, .int .u64 0, .int .u32 0, .int .u64 0, .int .u16 0, .int .u8 0, .int .u8 0, .int .u8 0, .int .u8 0, .int .u8 0, .int .u8 0, .int .u8 0, .int .u8 0, .int .i64 0, .bool false, .bool false, .bool false, .bool false, .bool false, .bool false, .int .i64 0, .int .u64 0, .int .u32 0, .int .u64 0, .int .u16 0, .int .u8 0, .int .u8 0, .int .u8 0, .int .u8 0, .int .u8 0, .int .u8 0, .int .u8 0, .int .u8 0, .int .u8 0, .int .u8 0, .int .u8 0, .int .u8 0, .int .i64 0, .int .i64 0, .int .i64 0, .int .i64 0, .int .i64 0], .struct [(0, 22), (1, 23), (2, 4), (3, 4), (4, 4), (5, 4), (6, 4), (7, 4), (8, 4), (9, 4), (10, 4), (11, 4), (12, 4), (13, 4), (14, 4), (15, 4), (16, 4), (17, 4), (18, 4), (19, 4), (20, 4), (21, 4), (22, 4), (23, 4), (24, 4), (25, 4), (26, 4), (27, 4), (28, 4), (29, 24), (30, 25), (31, 25), (32, 28), (36, 28), (40, 30), (44, 30), (48, 33), (64, 5), (65, 5), (66, 5), (67, 5), (68, 5), (69, 5), (70, 5), (71, 5), (72, 34), (73, 34), (74, 34), (75, 34), (76, 34)], some [.int .u16, .int .u32, .bool, .bool, .bool, .bool, .bool, .bool, .bool, .bool, .bool, .bool, .bool, .bool, .bool, .bool, .bool, .bool, .bool, .bool, .bool, .bool, .bool, .bool, .bool, .bool, .bool, .bool, .bool, .int .i64, .int .i64, .int .i64, .int .u64, .int .u32, .int .u64, .int .u16, .int .u64, .int .u32, .int .u64, .int .u16, .int .u8, .int .u8, .int .u8, .int .u8, .int .u8, .int .u8, .int .u8, .int .u8, .int .i64, .bool, .bool, .bool, .bool, .bool, .bool, .int .i64, .int .u64, .int .u32, .int .u64, .int .u16, .int .u8, .int .u8, .int .u8, .int .u8, .int .u8, .int .u8, .int .u8, .int .u8, .int .u8, .int .u8, .int .u8, .int .u8, .int .i64, .int .i64, .int .i64, .int .i64, .int .i64]⟩,
  ⟨77, 248, [.int .u16 0, .int .u32 0, .bool false, .bool false, .bool false, .bool false, .bool false, .bool false, .bool false, .bool false, .bool false, .bool false, .bool false, .bool false, .bool false, .bool false, .bool false, .bool false, .bool false, .bool false, .bool false, .bool false, .bool false, .bool false, .bool false, .bool false, .bool false, .bool false, .bool false, .int .i64 0, .int .i64 0, .int .i64 0, .int .u64 0, .int .u32 0, .int .u64 0, .int .u16 0, .int .u64 0, .int .u32 0, .int .u64 0, .int .u16 0, .int .u8 0, .int .u8 0, .int .u8 0, .int .u8 0, .int .u8 0, .int .u8 0, .int .u8 0, .int .u8 0, .int .i64 0, .bool false, .bool false, .bool false, .bool false, .bool false, .bool false, .int .i64 0, .int .u64 0, .int .u32 0, .int .u64 0, .int .u16 0, .int .u8 0, .int .u8 0, .int .u8 0, .int .u8 0, .int .u8 0, .int .u8 0, .int .u8 0, .int .u8 0, .int .u8 0, .int .u8 0, .int .u8 0, .int .u8 0, .int .i64 0, .int .i64 0, .int .i64 0, .int .i64 0, .int .i64 0], .struct [(0, 22), (1, 23), (2, 4), (3, 4), (4, 4), (5, 4), (6, 4), (7, 4), (8, 4), (9, 4), (10, 4), (11, 4), (12, 4), (13, 4), (14, 4), (15, 4), (16, 4), (17, 4), (18, 4), (19, 4), (20, 4), (21, 4), (22, 4), (23, 4), (24, 4), (25, 4), (26, 4), (27, 4), (28, 4), (29, 24), (30, 25), (31, 25), (32, 28), (36, 28), (40, 30), (44, 30), (48, 33), (64, 5), (65, 5), (66, 5), (67, 5), (68, 5), (69, 5), (70, 5), (71, 5), (72, 34), (73, 34), (74, 34), (75, 34), (76, 34)], some [.int .u16, .int .u32, .bool, .bool, .bool, .bool, .bool, .bool, .bool, .bool, .bool, .bool, .bool, .bool, .bool, .bool, .bool, .bool, .bool, .bool, .bool, .bool, .bool, .bool, .bool, .bool, .bool, .bool, .bool, .int .i64, .int .i64, .int .i64, .int .u64, .int .u32, .int .u64, .int .u16, .int .u64, .int .u32, .int .u64, .int .u16, .int .u8, .int .u8, .int .u8, .int .u8, .int .u8, .int .u8, .int .u8, .int .u8, .int .i64, .bool, .bool, .bool, .bool, .bool, .bool, .int .i64, .int .u64, .int .u32, .int .u64, .int .u16, .int .u8, .int .u8, .int .u8, .int .u8, .int .u8, .int .u8, .int .u8, .int .u8, .int .u8, .int .u8, .int .u8, .int .u8, .int .i64, .int .i64, .int .i64, .int .i64, .int .i64]⟩,
  ⟨1, 8, [.nilf], .func, none⟩,
  ⟨1, 8, [.nilf], .func, none⟩,
  ⟨1, 8, [.nilf], .func, none⟩,
  ⟨1, 8, [.int .i64 0], .int .i64, none⟩,
  ⟨1, 8, [.nilf], .func, none⟩,
  ⟨1, 8, [.nilf], .func, none⟩,
  ⟨1, 8, [.nilf], .func, none⟩,
  ⟨1, 8, [.nilf], .func, none⟩,
  ⟨1, 8, [.nilf], .func, none⟩,
  ⟨1, 8, [.nilf], .func, none⟩,
  ⟨1, 8, [.nilf], .func, none⟩,
  ⟨1, 8, [.nilf], .func, none⟩,
  ⟨1, 8, [.nilp], .ptr 36, none⟩,
  ⟨1, 8, [.nilf], .func, none⟩,
  ⟨1, 8, [.nilf], .func, none⟩,
  ⟨2, 16, [.int .u64 0, .int .u64 0], .arr 2 26, some [.int .u64, .int .u64]⟩,
  ⟨8, 64, [.int .u64 0, .int .u64 0, .int .u64 0, .int .u64 0, .int .u64 0, .int .u64 0, .int .u64 0, .int .u64 0], .arr 4 52, some [.int .u64, .int .u64, .int .u64, .int .u64, .int .u64, .int .u64, .int .u64, .int .u64]⟩,
  ⟨1, 8, [.nilf], .func, none⟩,
  ⟨1, 8, [.nilf], .func, none⟩,
  ⟨4, 40, [.nilp, .nilp, .nilp, .str ⟨#[]⟩], .struct [(0, 17), (1, 17), (2, 17), (3, 9)], none⟩,
  ⟨4, 40, [.nilp, .nilp, .nilp, .str ⟨#[]⟩], .struct [(0, 17), (1, 17), (2, 17), (3, 9)], none⟩]
theorem ti_ok : (ti.zipIdx.all fun p => tiB Go.Proofs.Try.prog p.2 p.1) = true := by kernel_rfl
theorem follows : Go.Proofs.Try.prog.follows .mixedOrders = true := by kernel_rfl
end Ab10
