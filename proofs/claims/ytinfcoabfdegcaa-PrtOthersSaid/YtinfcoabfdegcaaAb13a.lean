/- Seat 13: the tables. -/
import Derived.Test.YtinfcoabfdegcaaAbFresh
import Derived.Test.YtinfcoabfdegcaaChecked
set_option maxRecDepth 100000
set_option maxHeartbeats 4000000
set_option linter.unusedVariables false
set_option linter.unusedSimpArgs false
namespace Ab13
open Go Ab
structure S0 where
  f0 : Int
  f1 : Int
  f2 : Bool
  f3 : Bool
  f4 : Bool
  f5 : Bool
  f6 : Bool
  f7 : Bool
  f8 : Bool
  f9 : Bool
  f10 : Bool
  f11 : Bool
  f12 : Bool
  f13 : Bool
  f14 : Bool
  f15 : Bool
  f16 : Bool
  f17 : Bool
  f18 : Bool
  f19 : Bool
  f20 : Bool
  f21 : Bool
  f22 : Bool
  f23 : Bool
  f24 : Bool
  f25 : Bool
  f26 : Bool
  f27 : Bool
  f28 : Bool
  f29 : Int
  f30 : Int
  f31 : Int
  f32 : Int
  f33 : Int
  f34 : Int
  f35 : Int
  f36 : Int
  f37 : Int
  f38 : Int
  f39 : Int
  f40 : Int
  f41 : Int
  f42 : Int
  f43 : Int
  f44 : Int
  f45 : Int
  f46 : Int
  f47 : Int
  f48 : Int
  f49 : Bool
  f50 : Bool
  f51 : Bool
  f52 : Bool
  f53 : Bool
  f54 : Bool
  f55 : Int
  f56 : Int
  f57 : Int
  f58 : Int
  f59 : Int
  f60 : Int
  f61 : Int
  f62 : Int
  f63 : Int
  f64 : Int
  f65 : Int
  f66 : Int
  f67 : Int
  f68 : Int
  f69 : Int
  f70 : Int
  f71 : Int
  f72 : Int
  f73 : Int
  f74 : Int
  f75 : Int
  f76 : Int
  deriving Inhabited
structure S1 where
  f0 : Int
  deriving Inhabited
structure S2 where
  f0 : Int
  f1 : Int
  f2 : Bool
  f3 : Int
  deriving Inhabited
structure S3 where
  f0 : ByteArray
  f1 : Int
  deriving Inhabited
structure S4 where
  f0 : Int
  f1 : Int
  f2 : Int
  f3 : Int
  deriving Inhabited
structure S5 where
  f0 : Int
  f1 : Int
  f2 : Int
  f3 : Int
  deriving Inhabited
structure S6 where
  f0 : Int
  f1 : Int
  f2 : Int
  f3 : Int
  f4 : Int
  f5 : Int
  f6 : Bool
  f7 : Int
  f8 : Int
  f9 : Int
  f10 : Int
  f11 : Int
  f12 : Int
  f13 : Int
  f14 : Int
  f15 : Int
  f16 : List S0
  deriving Inhabited
structure S7 where
  f0 : Int
  f1 : Bool
  f2 : Bool
  f3 : Bool
  f4 : Bool
  f5 : Bool
  f6 : Bool
  f7 : Int
  f8 : Int
  f9 : Int
  f10 : Int
  f11 : Int
  f12 : Int
  f13 : Int
  f14 : Int
  f15 : Int
  deriving Inhabited
structure S8 where
  f0 : Int
  f1 : Int
  f2 : Int
  f3 : Int
  f4 : Int
  f5 : Int
  f6 : List S1
  deriving Inhabited
instance : Uni where
  val := fun c => match c with
    | 0 => S0
    | 1 => S1
    | 2 => S2
    | 3 => S3
    | 4 => S4
    | 5 => S5
    | 6 => S6
    | 7 => S7
    | 8 => S8
    | _ => Int
  sz := fun c => match c with
    | 0 => 77
    | 1 => 1
    | 2 => 4
    | 3 => 2
    | 4 => 4
    | 5 => 4
    | 6 => 17
    | 7 => 16
    | 8 => 7
    | _ => 1
def enc0 (x : S0) : List Cl := [.int .u16 x.f0, .int .u32 x.f1, .bool x.f2, .bool x.f3, .bool x.f4, .bool x.f5, .bool x.f6, .bool x.f7, .bool x.f8, .bool x.f9, .bool x.f10, .bool x.f11, .bool x.f12, .bool x.f13, .bool x.f14, .bool x.f15, .bool x.f16, .bool x.f17, .bool x.f18, .bool x.f19, .bool x.f20, .bool x.f21, .bool x.f22, .bool x.f23, .bool x.f24, .bool x.f25, .bool x.f26, .bool x.f27, .bool x.f28, .int .i64 x.f29, .int .i64 x.f30, .int .i64 x.f31, .int .u64 x.f32, .int .u32 x.f33, .int .u64 x.f34, .int .u16 x.f35, .int .u64 x.f36, .int .u32 x.f37, .int .u64 x.f38, .int .u16 x.f39, .int .u8 x.f40, .int .u8 x.f41, .int .u8 x.f42, .int .u8 x.f43, .int .u8 x.f44, .int .u8 x.f45, .int .u8 x.f46, .int .u8 x.f47, .int .i64 x.f48, .bool x.f49, .bool x.f50, .bool x.f51, .bool x.f52, .bool x.f53, .bool x.f54, .int .i64 x.f55, .int .u64 x.f56, .int .u32 x.f57, .int .u64 x.f58, .int .u16 x.f59, .int .u8 x.f60, .int .u8 x.f61, .int .u8 x.f62, .int .u8 x.f63, .int .u8 x.f64, .int .u8 x.f65, .int .u8 x.f66, .int .u8 x.f67, .int .u8 x.f68, .int .u8 x.f69, .int .u8 x.f70, .int .u8 x.f71, .int .i64 x.f72, .int .i64 x.f73, .int .i64 x.f74, .int .i64 x.f75, .int .i64 x.f76]
def ks0 : List KC := [.int .u16, .int .u32, .bool, .bool, .bool, .bool, .bool, .bool, .bool, .bool, .bool, .bool, .bool, .bool, .bool, .bool, .bool, .bool, .bool, .bool, .bool, .bool, .bool, .bool, .bool, .bool, .bool, .bool, .bool, .int .i64, .int .i64, .int .i64, .int .u64, .int .u32, .int .u64, .int .u16, .int .u64, .int .u32, .int .u64, .int .u16, .int .u8, .int .u8, .int .u8, .int .u8, .int .u8, .int .u8, .int .u8, .int .u8, .int .i64, .bool, .bool, .bool, .bool, .bool, .bool, .int .i64, .int .u64, .int .u32, .int .u64, .int .u16, .int .u8, .int .u8, .int .u8, .int .u8, .int .u8, .int .u8, .int .u8, .int .u8, .int .u8, .int .u8, .int .u8, .int .u8, .int .i64, .int .i64, .int .i64, .int .i64, .int .i64]
def rd0 (l : List Cl) : S0 := ⟨iAt l 0, iAt l 1, bAt l 2, bAt l 3, bAt l 4, bAt l 5, bAt l 6, bAt l 7, bAt l 8, bAt l 9, bAt l 10, bAt l 11, bAt l 12, bAt l 13, bAt l 14, bAt l 15, bAt l 16, bAt l 17, bAt l 18, bAt l 19, bAt l 20, bAt l 21, bAt l 22, bAt l 23, bAt l 24, bAt l 25, bAt l 26, bAt l 27, bAt l 28, iAt l 29, iAt l 30, iAt l 31, iAt l 32, iAt l 33, iAt l 34, iAt l 35, iAt l 36, iAt l 37, iAt l 38, iAt l 39, iAt l 40, iAt l 41, iAt l 42, iAt l 43, iAt l 44, iAt l 45, iAt l 46, iAt l 47, iAt l 48, bAt l 49, bAt l 50, bAt l 51, bAt l 52, bAt l 53, bAt l 54, iAt l 55, iAt l 56, iAt l 57, iAt l 58, iAt l 59, iAt l 60, iAt l 61, iAt l 62, iAt l 63, iAt l 64, iAt l 65, iAt l 66, iAt l 67, iAt l 68, iAt l 69, iAt l 70, iAt l 71, iAt l 72, iAt l 73, iAt l 74, iAt l 75, iAt l 76⟩
def dec0 (l : List Cl) : Option S0 := match kmB ks0 l with | true => some (rd0 l) | false => none
theorem rd0_enc (l : List Cl) (h : kmB ks0 l = true) : enc0 (rd0 l) = l := (by kernel_rfl : enc0 (rd0 l) = reE l ks0 0).trans (reE_ok h)
theorem dec0_enc (l : List Cl) (x : S0) (h : dec0 l = some x) : enc0 x = l := by
  unfold dec0 at h
  split at h
  · rename_i hk
    cases h
    exact rd0_enc l hk
  · cases h
def enc1 (x : S1) : List Cl := [.int .u32 x.f0]
def ks1 : List KC := [.int .u32]
def rd1 (l : List Cl) : S1 := ⟨iAt l 0⟩
def dec1 (l : List Cl) : Option S1 := match kmB ks1 l with | true => some (rd1 l) | false => none
theorem rd1_enc (l : List Cl) (h : kmB ks1 l = true) : enc1 (rd1 l) = l := (by kernel_rfl : enc1 (rd1 l) = reE l ks1 0).trans (reE_ok h)
theorem dec1_enc (l : List Cl) (x : S1) (h : dec1 l = some x) : enc1 x = l := by
  unfold dec1 at h
  split at h
  · rename_i hk
    cases h
    exact rd1_enc l hk
  · cases h
def enc2 (x : S2) : List Cl := [.int .i64 x.f0, .int .i64 x.f1, .bool x.f2, .int .u8 x.f3]
def ks2 : List KC := [.int .i64, .int .i64, .bool, .int .u8]
def rd2 (l : List Cl) : S2 := ⟨iAt l 0, iAt l 1, bAt l 2, iAt l 3⟩
def dec2 (l : List Cl) : Option S2 := match kmB ks2 l with | true => some (rd2 l) | false => none
theorem rd2_enc (l : List Cl) (h : kmB ks2 l = true) : enc2 (rd2 l) = l := (by kernel_rfl : enc2 (rd2 l) = reE l ks2 0).trans (reE_ok h)
theorem dec2_enc (l : List Cl) (x : S2) (h : dec2 l = some x) : enc2 x = l := by
  unfold dec2 at h
  split at h
  · rename_i hk
    cases h
    exact rd2_enc l hk
  · cases h
def enc3 (x : S3) : List Cl := [.str x.f0, .int .u64 x.f1]
def ks3 : List KC := [.str, .int .u64]
def rd3 (l : List Cl) : S3 := ⟨sAt l 0, iAt l 1⟩
def dec3 (l : List Cl) : Option S3 := match kmB ks3 l with | true => some (rd3 l) | false => none
theorem rd3_enc (l : List Cl) (h : kmB ks3 l = true) : enc3 (rd3 l) = l := (by kernel_rfl : enc3 (rd3 l) = reE l ks3 0).trans (reE_ok h)
theorem dec3_enc (l : List Cl) (x : S3) (h : dec3 l = some x) : enc3 x = l := by
  unfold dec3 at h
  split at h
  · rename_i hk
    cases h
    exact rd3_enc l hk
  · cases h
def enc4 (x : S4) : List Cl := [.int .u8 x.f0, .int .u8 x.f1, .int .u8 x.f2, .int .u8 x.f3]
def ks4 : List KC := [.int .u8, .int .u8, .int .u8, .int .u8]
def rd4 (l : List Cl) : S4 := ⟨iAt l 0, iAt l 1, iAt l 2, iAt l 3⟩
def dec4 (l : List Cl) : Option S4 := match kmB ks4 l with | true => some (rd4 l) | false => none
theorem rd4_enc (l : List Cl) (h : kmB ks4 l = true) : enc4 (rd4 l) = l := (by kernel_rfl : enc4 (rd4 l) = reE l ks4 0).trans (reE_ok h)
theorem dec4_enc (l : List Cl) (x : S4) (h : dec4 l = some x) : enc4 x = l := by
  unfold dec4 at h
  split at h
  · rename_i hk
    cases h
    exact rd4_enc l hk
  · cases h
def enc5 (x : S5) : List Cl := [.int .u64 x.f0, .int .u32 x.f1, .int .u64 x.f2, .int .u16 x.f3]
def ks5 : List KC := [.int .u64, .int .u32, .int .u64, .int .u16]
def rd5 (l : List Cl) : S5 := ⟨iAt l 0, iAt l 1, iAt l 2, iAt l 3⟩
def dec5 (l : List Cl) : Option S5 := match kmB ks5 l with | true => some (rd5 l) | false => none
theorem rd5_enc (l : List Cl) (h : kmB ks5 l = true) : enc5 (rd5 l) = l := (by kernel_rfl : enc5 (rd5 l) = reE l ks5 0).trans (reE_ok h)
theorem dec5_enc (l : List Cl) (x : S5) (h : dec5 l = some x) : enc5 x = l := by
  unfold dec5 at h
  split at h
  · rename_i hk
    cases h
    exact rd5_enc l hk
  · cases h
def enc6 (x : S6) : List Cl := [.int .u64 x.f0, .int .u8 x.f1, .int .u8 x.f2, .int .u8 x.f3, .int .u8 x.f4, .int .u8 x.f5, .bool x.f6, .int .u16 x.f7, .int .u64 x.f8, .int .u32 x.f9, .int .u64 x.f10, .int .u16 x.f11, .int .u8 x.f12, .int .u8 x.f13, .int .u8 x.f14, .int .u8 x.f15, .rs 0 x.f16]
def ks6 : List CK := [.plain (.int .u64), .plain (.int .u8), .plain (.int .u8), .plain (.int .u8), .plain (.int .u8), .plain (.int .u8), .plain (.bool), .plain (.int .u16), .plain (.int .u64), .plain (.int .u32), .plain (.int .u64), .plain (.int .u16), .plain (.int .u8), .plain (.int .u8), .plain (.int .u8), .plain (.int .u8), .rows 0]
def rd6 (l : List Cl) : S6 := ⟨iAt l 0, iAt l 1, iAt l 2, iAt l 3, iAt l 4, iAt l 5, bAt l 6, iAt l 7, iAt l 8, iAt l 9, iAt l 10, iAt l 11, iAt l 12, iAt l 13, iAt l 14, iAt l 15, rAt 0 l 16⟩
def dec6 (l : List Cl) : Option S6 := match kmM ks6 l with | true => some (rd6 l) | false => none
theorem rd6_enc (l : List Cl) (h : kmM ks6 l = true) : enc6 (rd6 l) = l := (by kernel_rfl : enc6 (rd6 l) = reM l ks6 0).trans (reM_ok h)
theorem dec6_enc (l : List Cl) (x : S6) (h : dec6 l = some x) : enc6 x = l := by
  unfold dec6 at h
  split at h
  · rename_i hk
    cases h
    exact rd6_enc l hk
  · cases h
def enc7 (x : S7) : List Cl := [.int .i64 x.f0, .bool x.f1, .bool x.f2, .bool x.f3, .bool x.f4, .bool x.f5, .bool x.f6, .int .i64 x.f7, .int .u64 x.f8, .int .u32 x.f9, .int .u64 x.f10, .int .u16 x.f11, .int .u8 x.f12, .int .u8 x.f13, .int .u8 x.f14, .int .u8 x.f15]
def ks7 : List KC := [.int .i64, .bool, .bool, .bool, .bool, .bool, .bool, .int .i64, .int .u64, .int .u32, .int .u64, .int .u16, .int .u8, .int .u8, .int .u8, .int .u8]
def rd7 (l : List Cl) : S7 := ⟨iAt l 0, bAt l 1, bAt l 2, bAt l 3, bAt l 4, bAt l 5, bAt l 6, iAt l 7, iAt l 8, iAt l 9, iAt l 10, iAt l 11, iAt l 12, iAt l 13, iAt l 14, iAt l 15⟩
def dec7 (l : List Cl) : Option S7 := match kmB ks7 l with | true => some (rd7 l) | false => none
theorem rd7_enc (l : List Cl) (h : kmB ks7 l = true) : enc7 (rd7 l) = l := (by kernel_rfl : enc7 (rd7 l) = reE l ks7 0).trans (reE_ok h)
theorem dec7_enc (l : List Cl) (x : S7) (h : dec7 l = some x) : enc7 x = l := by
  unfold dec7 at h
  split at h
  · rename_i hk
    cases h
    exact rd7_enc l hk
  · cases h
def enc8 (x : S8) : List Cl := [.int .u64 x.f0, .int .u8 x.f1, .int .u8 x.f2, .int .u8 x.f3, .int .u8 x.f4, .int .u8 x.f5, .rs 1 x.f6]
def ks8 : List CK := [.plain (.int .u64), .plain (.int .u8), .plain (.int .u8), .plain (.int .u8), .plain (.int .u8), .plain (.int .u8), .rows 1]
def rd8 (l : List Cl) : S8 := ⟨iAt l 0, iAt l 1, iAt l 2, iAt l 3, iAt l 4, iAt l 5, rAt 1 l 6⟩
def dec8 (l : List Cl) : Option S8 := match kmM ks8 l with | true => some (rd8 l) | false => none
theorem rd8_enc (l : List Cl) (h : kmM ks8 l = true) : enc8 (rd8 l) = l := (by kernel_rfl : enc8 (rd8 l) = reM l ks8 0).trans (reM_ok h)
theorem dec8_enc (l : List Cl) (x : S8) (h : dec8 l = some x) : enc8 x = l := by
  unfold dec8 at h
  split at h
  · rename_i hk
    cases h
    exact rd8_enc l hk
  · cases h
def encR (x : Int) : List Cl := [.int .i64 x]
def decR (l : List Cl) : Option Int := gL l fun c0 l0 => gI .i64 c0 fun x0 => gN l0 (some x0)
theorem decR_enc (l : List Cl) (x : Int) (h : decR l = some x) : encR x = l := by
  unfold decR at h
  obtain ⟨c0, l0, rfl, h1⟩ := gL_inv h
  obtain ⟨x0, rfl, h2⟩ := gI_inv h1
  obtain ⟨rfl, h3⟩ := gN_inv h2
  cases h3
  rfl
instance : Cod where
  enc := fun c => match c with
    | 0 => enc0
    | 1 => enc1
    | 2 => enc2
    | 3 => enc3
    | 4 => enc4
    | 5 => enc5
    | 6 => enc6
    | 7 => enc7
    | 8 => enc8
    | _+9 => encR
  dec := fun c => match c with
    | 0 => dec0
    | 1 => dec1
    | 2 => dec2
    | 3 => dec3
    | 4 => dec4
    | 5 => dec5
    | 6 => dec6
    | 7 => dec7
    | 8 => dec8
    | _+9 => decR
  enc_len := fun c => match c with
    | 0 => fun _ => rfl
    | 1 => fun _ => rfl
    | 2 => fun _ => rfl
    | 3 => fun _ => rfl
    | 4 => fun _ => rfl
    | 5 => fun _ => rfl
    | 6 => fun _ => rfl
    | 7 => fun _ => rfl
    | 8 => fun _ => rfl
    | _+9 => fun _ => rfl
  dec_enc := fun c => match c with
    | 0 => dec0_enc
    | 1 => dec1_enc
    | 2 => dec2_enc
    | 3 => dec3_enc
    | 4 => dec4_enc
    | 5 => dec5_enc
    | 6 => dec6_enc
    | 7 => dec7_enc
    | 8 => dec8_enc
    | _+9 => decR_enc
  sz_pos := fun c => match c with
    | 0 => by decide
    | 1 => by decide
    | 2 => by decide
    | 3 => by decide
    | 4 => by decide
    | 5 => by decide
    | 6 => by decide
    | 7 => by decide
    | 8 => by decide
    | _+9 => by exact Nat.one_pos
  enc_closed := fun c => match c with
    | 0 => fun x y hy => closed_all (by kernel_rfl : (enc0 x).all closedC = true) hy
    | 1 => fun x y hy => closed_all (by kernel_rfl : (enc1 x).all closedC = true) hy
    | 2 => fun x y hy => closed_all (by kernel_rfl : (enc2 x).all closedC = true) hy
    | 3 => fun x y hy => closed_all (by kernel_rfl : (enc3 x).all closedC = true) hy
    | 4 => fun x y hy => closed_all (by kernel_rfl : (enc4 x).all closedC = true) hy
    | 5 => fun x y hy => closed_all (by kernel_rfl : (enc5 x).all closedC = true) hy
    | 6 => fun x y hy => closed_all (by kernel_rfl : (enc6 x).all closedC = true) hy
    | 7 => fun x y hy => closed_all (by kernel_rfl : (enc7 x).all closedC = true) hy
    | 8 => fun x y hy => closed_all (by kernel_rfl : (enc8 x).all closedC = true) hy
    | _+9 => fun x y hy => closed_all (by kernel_rfl : (encR x).all closedC = true) hy
def kd : Nat → List KC := fun c => match c with
  | 0 => [.int .u16, .int .u32, .bool, .bool, .bool, .bool, .bool, .bool, .bool, .bool, .bool, .bool, .bool, .bool, .bool, .bool, .bool, .bool, .bool, .bool, .bool, .bool, .bool, .bool, .bool, .bool, .bool, .bool, .bool, .int .i64, .int .i64, .int .i64, .int .u64, .int .u32, .int .u64, .int .u16, .int .u64, .int .u32, .int .u64, .int .u16, .int .u8, .int .u8, .int .u8, .int .u8, .int .u8, .int .u8, .int .u8, .int .u8, .int .i64, .bool, .bool, .bool, .bool, .bool, .bool, .int .i64, .int .u64, .int .u32, .int .u64, .int .u16, .int .u8, .int .u8, .int .u8, .int .u8, .int .u8, .int .u8, .int .u8, .int .u8, .int .u8, .int .u8, .int .u8, .int .u8, .int .i64, .int .i64, .int .i64, .int .i64, .int .i64]
  | 1 => [.int .u32]
  | 2 => [.int .i64, .int .i64, .bool, .int .u8]
  | 3 => [.str, .int .u64]
  | 4 => [.int .u8, .int .u8, .int .u8, .int .u8]
  | 5 => [.int .u64, .int .u32, .int .u64, .int .u16]
  | 6 => []
  | 7 => [.int .i64, .bool, .bool, .bool, .bool, .bool, .bool, .int .i64, .int .u64, .int .u32, .int .u64, .int .u16, .int .u8, .int .u8, .int .u8, .int .u8]
  | 8 => []
  | _ => [.int .i64]
theorem kd_all : Elems kd := ⟨fun c => match c with
  | 0 => fun l h0 h => ⟨rd0 l, rd0_enc l (km_of_has h)⟩
  | 1 => fun l h0 h => ⟨rd1 l, rd1_enc l (km_of_has h)⟩
  | 2 => fun l h0 h => ⟨rd2 l, rd2_enc l (km_of_has h)⟩
  | 3 => fun l h0 h => ⟨rd3 l, rd3_enc l (km_of_has h)⟩
  | 4 => fun l h0 h => ⟨rd4 l, rd4_enc l (km_of_has h)⟩
  | 5 => fun l h0 h => ⟨rd5 l, rd5_enc l (km_of_has h)⟩
  | 6 => fun l h0 h => absurd h0 (by decide)
  | 7 => fun l h0 h => ⟨rd7 l, rd7_enc l (km_of_has h)⟩
  | 8 => fun l h0 h => absurd h0 (by decide)
  | _+9 => fun l _ h => by
    have h : All2 KC.has [.int .i64] l := h
    obtain ⟨c0, l0, rfl, k0, h1⟩ := h.uncons
    obtain ⟨x0, rfl, _⟩ := has_int k0
    obtain rfl := h1.unnil
    exact ⟨x0, rfl⟩⟩
theorem mx6_all (l : List Cl) (h : All2 (CK.has kd) ks6 l) : ∃ x : S6, enc6 x = l := ⟨rd6 l, rd6_enc l (kmM_of_has h)⟩
theorem mx8_all (l : List Cl) (h : All2 (CK.has kd) ks8 l) : ∃ x : S8, enc8 x = l := ⟨rd8 l, rd8_enc l (kmM_of_has h)⟩
def eqS0 (x y : S0) : Bool := ((x.f0 == y.f0) && ((x.f1 == y.f1) && ((x.f2 == y.f2) && ((x.f3 == y.f3) && ((x.f4 == y.f4) && ((x.f5 == y.f5) && ((x.f6 == y.f6) && ((x.f7 == y.f7) && ((x.f8 == y.f8) && ((x.f9 == y.f9) && ((x.f10 == y.f10) && ((x.f11 == y.f11) && ((x.f12 == y.f12) && ((x.f13 == y.f13) && ((x.f14 == y.f14) && ((x.f15 == y.f15) && ((x.f16 == y.f16) && ((x.f17 == y.f17) && ((x.f18 == y.f18) && ((x.f19 == y.f19) && ((x.f20 == y.f20) && ((x.f21 == y.f21) && ((x.f22 == y.f22) && ((x.f23 == y.f23) && ((x.f24 == y.f24) && ((x.f25 == y.f25) && ((x.f26 == y.f26) && ((x.f27 == y.f27) && ((x.f28 == y.f28) && ((x.f29 == y.f29) && ((x.f30 == y.f30) && ((x.f31 == y.f31) && ((x.f32 == y.f32) && ((x.f33 == y.f33) && ((x.f34 == y.f34) && ((x.f35 == y.f35) && ((x.f36 == y.f36) && ((x.f37 == y.f37) && ((x.f38 == y.f38) && ((x.f39 == y.f39) && ((x.f40 == y.f40) && ((x.f41 == y.f41) && ((x.f42 == y.f42) && ((x.f43 == y.f43) && ((x.f44 == y.f44) && ((x.f45 == y.f45) && ((x.f46 == y.f46) && ((x.f47 == y.f47) && ((x.f48 == y.f48) && ((x.f49 == y.f49) && ((x.f50 == y.f50) && ((x.f51 == y.f51) && ((x.f52 == y.f52) && ((x.f53 == y.f53) && ((x.f54 == y.f54) && ((x.f55 == y.f55) && ((x.f56 == y.f56) && ((x.f57 == y.f57) && ((x.f58 == y.f58) && ((x.f59 == y.f59) && ((x.f60 == y.f60) && ((x.f61 == y.f61) && ((x.f62 == y.f62) && ((x.f63 == y.f63) && ((x.f64 == y.f64) && ((x.f65 == y.f65) && ((x.f66 == y.f66) && ((x.f67 == y.f67) && ((x.f68 == y.f68) && ((x.f69 == y.f69) && ((x.f70 == y.f70) && ((x.f71 == y.f71) && ((x.f72 == y.f72) && ((x.f73 == y.f73) && ((x.f74 == y.f74) && ((x.f75 == y.f75) && (x.f76 == y.f76)))))))))))))))))))))))))))))))))))))))))))))))))))))))))))))))))))))))))))))
def eqS4 (x y : S4) : Bool := ((x.f0 == y.f0) && ((x.f1 == y.f1) && ((x.f2 == y.f2) && (x.f3 == y.f3))))
def eqS5 (x y : S5) : Bool := ((x.f0 == y.f0) && ((x.f1 == y.f1) && ((x.f2 == y.f2) && (x.f3 == y.f3))))
def ti : List TI := [
  ⟨1, 0, [], .other, none⟩,
  ⟨1, 8, [.nilf], .func, none⟩,
  ⟨1, 8, [.int .i64 0], .int .i64, none⟩,
  ⟨1, 8, [.int .i64 0], .int .i64, none⟩,
  ⟨1, 1, [.bool false], .bool, none⟩,
  ⟨1, 1, [.int .u8 0], .int .u8, none⟩,
  ⟨1, 1, [.int .u8 0], .int .u8, none⟩,
  ⟨4, 24, [.int .i64 0, .int .i64 0, .bool false, .int .u8 0], .struct [(0, 2), (1, 3), (2, 4), (3, 6)], some [.int .i64, .int .i64, .bool, .int .u8]⟩,
  ⟨4, 24, [.int .i64 0, .int .i64 0, .bool false, .int .u8 0], .struct [(0, 2), (1, 3), (2, 4), (3, 6)], some [.int .i64, .int .i64, .bool, .int .u8]⟩,
  ⟨1, 16, [.str ⟨#[]⟩], .str, none⟩,
  ⟨1, 16, [.str ⟨#[]⟩], .str, none⟩,
  ⟨1, 16, [.str ⟨#[]⟩], .str, none⟩,
  ⟨1, 8, [.int .u64 0], .int .u64, none⟩,
  ⟨2, 24, [.str ⟨#[]⟩, .int .u64 0], .struct [(0, 9), (1, 12)], none⟩,
  ⟨2, 24, [.str ⟨#[]⟩, .int .u64 0], .struct [(0, 9), (1, 12)], none⟩,
  ⟨1, 8, [.nilp], .ptr 76, none⟩,
  ⟨1, 8, [.nilp], .ptr 79, none⟩,
  ⟨1, 8, [.nilp], .ptr 88, none⟩,
  ⟨1, 8, [.nilp], .struct [(0, 17)], none⟩,
  ⟨1, 8, [.nilp], .struct [(0, 17)], none⟩,
  ⟨1, 16, [], .other, none⟩,
  ⟨1, 4, [.int .i32 0], .int .i32, none⟩,
  ⟨1, 8, [.int .u64 0], .int .u64, none⟩,
  ⟨4, 4, [.int .u8 0, .int .u8 0, .int .u8 0, .int .u8 0], .struct [(0, 5), (1, 5), (2, 5), (3, 5)], some [.int .u8, .int .u8, .int .u8, .int .u8]⟩,
  ⟨4, 4, [.int .u8 0, .int .u8 0, .int .u8 0, .int .u8 0], .struct [(0, 5), (1, 5), (2, 5), (3, 5)], some [.int .u8, .int .u8, .int .u8, .int .u8]⟩,
  ⟨1, 2, [.int .u16 0], .int .u16, none⟩,
  ⟨1, 4, [.int .u32 0], .int .u32, none⟩,
  ⟨4, 32, [.int .u64 0, .int .u32 0, .int .u64 0, .int .u16 0], .struct [(0, 22), (1, 26), (2, 22), (3, 25)], some [.int .u64, .int .u32, .int .u64, .int .u16]⟩,
  ⟨4, 32, [.int .u64 0, .int .u32 0, .int .u64 0, .int .u16 0], .struct [(0, 22), (1, 26), (2, 22), (3, 25)], some [.int .u64, .int .u32, .int .u64, .int .u16]⟩,
  ⟨1, 24, [.nils], .slice 45 (some 0), none⟩,
  ⟨17, 80, [.int .u64 0, .int .u8 0, .int .u8 0, .int .u8 0, .int .u8 0, .int .u8 0, .bool false, .int .u16 0, .int .u64 0, .int .u32 0, .int .u64 0, .int .u16 0, .int .u8 0, .int .u8 0, .int .u8 0, .int .u8 0, .nils], .struct [(0, 22), (1, 24), (5, 5), (6, 4), (7, 25), (8, 28), (12, 24), (16, 29)], none⟩,
  ⟨17, 80, [.int .u64 0, .int .u8 0, .int .u8 0, .int .u8 0, .int .u8 0, .int .u8 0, .bool false, .int .u16 0, .int .u64 0, .int .u32 0, .int .u64 0, .int .u16 0, .int .u8 0, .int .u8 0, .int .u8 0, .int .u8 0, .nils], .struct [(0, 22), (1, 24), (5, 5), (6, 4), (7, 25), (8, 28), (12, 24), (16, 29)], none⟩,
  ⟨1, 8, [.nilf], .func, none⟩,
  ⟨1, 0, [], .other, none⟩,
  ⟨1, 8, [.nilf], .func, none⟩,
  ⟨1, 8, [.nilf], .func, none⟩,
  ⟨1, 8, [.nilf], .func, none⟩,
  ⟨1, 8, [.nilf], .func, none⟩,
  ⟨1, 8, [.int .i64 0], .int .i64, none⟩,
  ⟨1, 8, [.int .i64 0], .int .i64, none⟩,
  ⟨1, 8, [.int .i64 0], .int .i64, none⟩,
  ⟨16, 64, [.int .i64 0, .bool false, .bool false, .bool false, .bool false, .bool false, .bool false, .int .i64 0, .int .u64 0, .int .u32 0, .int .u64 0, .int .u16 0, .int .u8 0, .int .u8 0, .int .u8 0, .int .u8 0], .struct [(0, 40), (1, 4), (2, 4), (3, 4), (4, 4), (5, 4), (6, 4), (7, 39), (8, 28), (12, 24)], some [.int .i64, .bool, .bool, .bool, .bool, .bool, .bool, .int .i64, .int .u64, .int .u32, .int .u64, .int .u16, .int .u8, .int .u8, .int .u8, .int .u8]⟩,
  ⟨16, 64, [.int .i64 0, .bool false, .bool false, .bool false, .bool false, .bool false, .bool false, .int .i64 0, .int .u64 0, .int .u32 0, .int .u64 0, .int .u16 0, .int .u8 0, .int .u8 0, .int .u8 0, .int .u8 0], .struct [(0, 40), (1, 4), (2, 4), (3, 4), (4, 4), (5, 4), (6, 4), (7, 39), (8, 28), (12, 24)], some [.int .i64, .bool, .bool, .bool, .bool, .bool, .bool, .int .i64, .int .u64, .int .u32, .int .u64, .int .u16, .int .u8, .int .u8, .int .u8, .int .u8]⟩,
  ⟨1, 8, [.int .i64 0], .int .i64, none⟩,
  ⟨77, 248, [.int .u16 0, .int .u32 0, .bool false, .bool false, .bool false, .bool false, .bool false, .bool false, .bool false, .bool false, .bool false, .bool false, .bool false, .bool false, .bool false, .bool false, .bool false, .bool false, .bool false, .bool false, .bool false, .bool false, .bool false, .bool false, .bool false, .bool false, .bool false, .bool false, .bool false, .int .i64 0, .int .i64 0, .int .i64 0, .int .u64 0, .int .u32 0, .int .u64 0, .int .u16 0, .int .u64 0, .int .u32 0, .int .u64 0, .int .u16 0, .int .u8 0, .int .u8 0, .int .u8 0, .int .u8 0, .int .u8 0, .int .u8 0, .int .u8 0, .int .u8 0, .int .i64 0, .bool false, .bool false, .bool false, .bool false, .bool false, .bool false, .int .i64 0, .int .u64 0, .int .u32 0, .int .u64 0, .int .u16 0, .int .u8 0, .int .u8 0, .int .u8 0, .int .u8 0, .int .u8 0, .int .u8 0, .int .u8 0, .int .u8 0, .int .u8 0, .int .u8 0, .int .u8 0, .int .u8 0, .int .i64 0, .int .i64 0, .int .i64 0, .int .i64 0, .int .i64 0], .struct [(0, 25), (1, 26), (2, 4), (3, 4), (4, 4), (5, 4), (6, 4), (7, 4), (8, 4), (9, 4), (10, 4), (11, 4), (12, 4), (13, 4), (14, 4), (15, 4), (16, 4), (17, 4), (18, 4), (19, 4), (20, 4), (21, 4), (22, 4), (23, 4), (24, 4), (25, 4), (26, 4), (27, 4), (28, 4), (29, 38), (30, 39), (31, 39), (32, 28), (36, 28), (40, 24), (44, 24), (48, 42), (64, 5), (65, 5), (66, 5), (67, 5), (68, 5), (69, 5), (70, 5), (71, 5), (72, 43), (73, 43), (74, 43), (75, 43), (76, 43)], some [.int .u16, .int .u32, .bool, .bool, .bool, .bool, .bool, .bool, .bool, .bool, .bool, .bool, .bool, .bool, .bool, .bool, .bool, .bool, .bool, .bool, .bool, .bool, .bool, .bool, .bool, .bool, .bool, .bool, .bool, .int .i64, .int .i64, .int .i64, .int .u64, .int .u32, .int .u64, .int .u16, .int .u64, .int .u32, .int .u64, .int .u16, .int .u8, .int .u8, .int .u8, .int .u8, .int .u8, .int .u8, .int .u8, .int .u8, .int .i64, .bool, .bool, .bool, .bool, .bool, .bool, .int .i64, .int .u64, .int .u32, .int .u64, .int .u16, .int .u8, .int .u8, .int .u8, .int .u8, .int .u8, .int .u8, .int .u8, .int .u8, .int .u8, .int .u8, .int .u8, .int .u8, .int .i64, .int .i64, .int .i64, .int .i64, .int .i64]⟩,
  ⟨77, 248, [.int .u16 0, .int .u32 0, .bool false, .bool false, .bool false, .bool false, .bool false, .bool false, .bool false, .bool false, .bool false, .bool false, .bool false, .bool false, .bool false, .bool false, .bool false, .bool false, .bool false, .bool false, .bool false, .bool false, .bool false, .bool false, .bool false, .bool false, .bool false, .bool false, .bool false, .int .i64 0, .int .i64 0, .int .i64 0, .int .u64 0, .int .u32 0, .int .u64 0, .int .u16 0, .int .u64 0, .int .u32 0, .int .u64 0, .int .u16 0, .int .u8 0, .int .u8 0, .int .u8 0, .int .u8 0, .int .u8 0, .int .u8 0, .int .u8 0, .int .u8 0, .int .i64 0, .bool false, .bool false, .bool false, .bool false, .bool false, .bool false, .int .i64 0, .int .u64 0, .int .u32 0, .int .u64 0, .int .u16 0, .int .u8 0, .int .u8 0, .int .u8 0, .int .u8 0, .int .u8 0, .int .u8 0, .int .u8 0, .int .u8 0, .int .u8 0, .int .u8 0, .int .u8 0, .int .u8 0, .int .i64 0, .int .i64 0, .int .i64 0, .int .i64 0, .int .i64 0], .struct [(0, 25), (1, 26), (2, 4), (3, 4), (4, 4), (5, 4), (6, 4), (7, 4), (8, 4), (9, 4), (10, 4), (11, 4), (12, 4), (13, 4), (14, 4), (15, 4), (16, 4), (17, 4), (18, 4), (19, 4), (20, 4), (21, 4), (22, 4), (23, 4), (24, 4), (25, 4), (26, 4), (27, 4), (28, 4), (29, 38), (30, 39), (31, 39), (32, 28), (36, 28), (40, 24), (44, 24), (48, 42), (64, 5), (65, 5), (66, 5), (67, 5), (68, 5), (69, 5), (70, 5), (71, 5), (72, 43), (73, 43), (74, 43), (75, 43), (76, 43)], some [.int .u16, .int .u32, .bool, .bool, .bool, .bool, .bool, .bool, .bool, .bool, .bool, .bool, .bool, .bool, .bool, .bool, .bool, .bool, .bool, .bool, .bool, .bool, .bool, .bool, .bool, .bool, .bool, .bool, .bool, .int .i64, .int .i64, .int .i64, .int .u64, .int .u32, .int .u64, .int .u16, .int .u64, .int .u32, .int .u64, .int .u16, .int .u8, .int .u8, .int .u8, .int .u8, .int .u8, .int .u8, .int .u8, .int .u8, .int .i64, .bool, .bool, .bool, .bool, .bool, .bool, .int .i64, .int .u64, .int .u32, .int .u64, .int .u16, .int .u8, .int .u8, .int .u8, .int .u8, .int .u8, .int .u8, .int .u8, .int .u8, .int .u8, .int .u8, .int .u8, .int .u8, .int .i64, .int .i64, .int .i64, .int .i64, .int .i64]⟩,
  ⟨1, 8, [.nilf], .func, none⟩,
  ⟨1, 8, [.nilf], .func, none⟩,
  ⟨1, 8, [.nilp], .ptr 52, none⟩,
  ⟨1, 8, [.nilf], .func, none⟩,
  ⟨1, 8, [.nilp], .ptr 45, none⟩,
  ⟨19, 96, [.int .u64 0, .int .u8 0, .int .u8 0, .int .u8 0, .int .u8 0, .int .u8 0, .bool false, .int .u16 0, .int .u64 0, .int .u32 0, .int .u64 0, .int .u16 0, .int .u8 0, .int .u8 0, .int .u8 0, .int .u8 0, .nils, .int .i64 0, .nilp], .struct [(0, 31), (17, 3), (18, 50)], none⟩,
  ⟨19, 96, [.int .u64 0, .int .u8 0, .int .u8 0, .int .u8 0, .int .u8 0, .int .u8 0, .bool false, .int .u16 0, .int .u64 0, .int .u32 0, .int .u64 0, .int .u16 0, .int .u8 0, .int .u8 0, .int .u8 0, .int .u8 0, .nils, .int .i64 0, .nilp], .struct [(0, 31), (17, 3), (18, 50)], none⟩,
  ⟨1, 8, [.nilf], .func, none⟩,
  ⟨1, 8, [.nilf], .func, none⟩,
  ⟨1, 8, [.nilf], .func, none⟩,
  ⟨1, 8, [.nilf], .func, none⟩,
  ⟨1, 0, [], .other, none⟩,
  ⟨1, 8, [.nilf], .func, none⟩,
  ⟨1, 0, [], .other, none⟩,
  ⟨1, 8, [.nilf], .func, none⟩,
  ⟨1, 24, [.nils], .slice 26 (some 1), none⟩,
  ⟨7, 40, [.int .u64 0, .int .u8 0, .int .u8 0, .int .u8 0, .int .u8 0, .int .u8 0, .nils], .struct [(0, 22), (1, 24), (5, 5), (6, 61)], none⟩,
  ⟨7, 40, [.int .u64 0, .int .u8 0, .int .u8 0, .int .u8 0, .int .u8 0, .int .u8 0, .nils], .struct [(0, 22), (1, 24), (5, 5), (6, 61)], none⟩,
  ⟨1, 8, [.nilf], .func, none⟩,
  ⟨1, 8, [.nilf], .func, none⟩,
  ⟨1, 8, [.nilf], .func, none⟩,
  ⟨1, 8, [.nilf], .func, none⟩,
  ⟨1, 8, [.nilf], .func, none⟩,
  ⟨1, 8, [.nilf], .func, none⟩,
  ⟨1, 8, [.nilf], .func, none⟩,
  ⟨1, 8, [.nilf], .func, none⟩,
  ⟨1, 8, [.int .i64 0], .int .i64, none⟩,
  ⟨1, 8, [.nilf], .func, none⟩,
  ⟨1, 8, [.nilf], .func, none⟩,
  ⟨4, 40, [.nilp, .nilp, .nilp, .str ⟨#[]⟩], .struct [(0, 17), (1, 17), (2, 17), (3, 9)], none⟩,
  ⟨4, 40, [.nilp, .nilp, .nilp, .str ⟨#[]⟩], .struct [(0, 17), (1, 17), (2, 17), (3, 9)], none⟩]
theorem ti_ok : (ti.zipIdx.all fun p => tiB Go.Proofs.Try.prog p.2 p.1) = true := by kernel_rfl
theorem follows : Go.Proofs.Try.prog.follows .mixedOrders = true := by kernel_rfl
end Ab13
