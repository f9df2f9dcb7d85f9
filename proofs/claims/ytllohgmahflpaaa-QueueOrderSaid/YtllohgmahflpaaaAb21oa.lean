/- Seat 21o: the tables. -/
import Derived.Test.YtllohgmahflpaaaAbShape
import Derived.Test.YtllohgmahflpaaaAbList
import Derived.Test.YtllohgmahflpaaaAbDel
import Derived.Test.YtllohgmahflpaaaAbSelC
import Derived.Test.YtllohgmahflpaaaChecked
set_option maxRecDepth 100000
set_option maxHeartbeats 4000000
set_option linter.unusedVariables false
set_option linter.unusedSimpArgs false
namespace Ab21o
open Go Ab
structure S0 where
  f0 : Int
  deriving Inhabited
structure S1 where
  f0 : Int
  f1 : List S0
  deriving Inhabited
structure S2 where
  f0 : List S0
  deriving Inhabited
structure S3 where
  f0 : Int
  f1 : Int
  f2 : Bool
  f3 : Int
  deriving Inhabited
structure S4 where
  f0 : ByteArray
  f1 : Int
  deriving Inhabited
structure S5 where
  f0 : Int
  f1 : List S2
  deriving Inhabited
instance : Uni where
  val := fun c => match c with
    | 0 => S0
    | 1 => S1
    | 2 => S2
    | 3 => S3
    | 4 => S4
    | 5 => S5
    | _ => Int
  sz := fun c => match c with
    | 0 => 1
    | 1 => 2
    | 2 => 1
    | 3 => 4
    | 4 => 2
    | 5 => 2
    | _ => 1
def enc0 (x : S0) : List Cl := [.int .u8 x.f0]
def ks0 : List KC := [.int .u8]
def rd0 (l : List Cl) : S0 := ⟨iAt l 0⟩
def dec0 (l : List Cl) : Option S0 := match kmB ks0 l with | true => some (rd0 l) | false => none
theorem rd0_enc (l : List Cl) (h : kmB ks0 l = true) : enc0 (rd0 l) = l := (by kernel_rfl : enc0 (rd0 l) = reE l ks0 0).trans (reE_ok h)
theorem dec0_enc (l : List Cl) (x : S0) (h : dec0 l = some x) : enc0 x = l := by
  unfold dec0 at h
  split at h
  · rename_i hk
    cases h
    exact rd0_enc l hk
  · cases h
def enc1 (x : S1) : List Cl := [.int .i64 x.f0, .rs 0 x.f1]
def ks1 : List CK := [.plain (.int .i64), .rows 0]
def rd1 (l : List Cl) : S1 := ⟨iAt l 0, rAt 0 l 1⟩
def dec1 (l : List Cl) : Option S1 := match kmM ks1 l with | true => some (rd1 l) | false => none
theorem rd1_enc (l : List Cl) (h : kmM ks1 l = true) : enc1 (rd1 l) = l := (by kernel_rfl : enc1 (rd1 l) = reM l ks1 0).trans (reM_ok h)
theorem dec1_enc (l : List Cl) (x : S1) (h : dec1 l = some x) : enc1 x = l := by
  unfold dec1 at h
  split at h
  · rename_i hk
    cases h
    exact rd1_enc l hk
  · cases h
def enc2 (x : S2) : List Cl := [.rs 0 x.f0]
def ks2 : List CK := [.rows 0]
def rd2 (l : List Cl) : S2 := ⟨rAt 0 l 0⟩
def dec2 (l : List Cl) : Option S2 := match kmM ks2 l with | true => some (rd2 l) | false => none
theorem rd2_enc (l : List Cl) (h : kmM ks2 l = true) : enc2 (rd2 l) = l := (by kernel_rfl : enc2 (rd2 l) = reM l ks2 0).trans (reM_ok h)
theorem dec2_enc (l : List Cl) (x : S2) (h : dec2 l = some x) : enc2 x = l := by
  unfold dec2 at h
  split at h
  · rename_i hk
    cases h
    exact rd2_enc l hk
  · cases h
def enc3 (x : S3) : List Cl := [.int .i64 x.f0, .int .i64 x.f1, .bool x.f2, .int .u8 x.f3]
def ks3 : List KC := [.int .i64, .int .i64, .bool, .int .u8]
def rd3 (l : List Cl) : S3 := ⟨iAt l 0, iAt l 1, bAt l 2, iAt l 3⟩
def dec3 (l : List Cl) : Option S3 := match kmB ks3 l with | true => some (rd3 l) | false => none
theorem rd3_enc (l : List Cl) (h : kmB ks3 l = true) : enc3 (rd3 l) = l := (by kernel_rfl : enc3 (rd3 l) = reE l ks3 0).trans (reE_ok h)
theorem dec3_enc (l : List Cl) (x : S3) (h : dec3 l = some x) : enc3 x = l := by
  unfold dec3 at h
  split at h
  · rename_i hk
    cases h
    exact rd3_enc l hk
  · cases h
def enc4 (x : S4) : List Cl := [.str x.f0, .int .u64 x.f1]
def ks4 : List KC := [.str, .int .u64]
def rd4 (l : List Cl) : S4 := ⟨sAt l 0, iAt l 1⟩
def dec4 (l : List Cl) : Option S4 := match kmB ks4 l with | true => some (rd4 l) | false => none
theorem rd4_enc (l : List Cl) (h : kmB ks4 l = true) : enc4 (rd4 l) = l := (by kernel_rfl : enc4 (rd4 l) = reE l ks4 0).trans (reE_ok h)
theorem dec4_enc (l : List Cl) (x : S4) (h : dec4 l = some x) : enc4 x = l := by
  unfold dec4 at h
  split at h
  · rename_i hk
    cases h
    exact rd4_enc l hk
  · cases h
def enc5 (x : S5) : List Cl := [.int .i64 x.f0, .rs 2 x.f1]
def ks5 : List CK := [.plain (.int .i64), .rows 2]
def rd5 (l : List Cl) : S5 := ⟨iAt l 0, rAt 2 l 1⟩
def dec5 (l : List Cl) : Option S5 := match kmM ks5 l with | true => some (rd5 l) | false => none
theorem rd5_enc (l : List Cl) (h : kmM ks5 l = true) : enc5 (rd5 l) = l := (by kernel_rfl : enc5 (rd5 l) = reM l ks5 0).trans (reM_ok h)
theorem dec5_enc (l : List Cl) (x : S5) (h : dec5 l = some x) : enc5 x = l := by
  unfold dec5 at h
  split at h
  · rename_i hk
    cases h
    exact rd5_enc l hk
  · cases h
def encR (x : Int) : List Cl := [.int .i64 x]
def decR (l : List Cl) : Option Int := gL l fun c0 l0 => gI .i64 c0 fun x0 => gN l0 (some x0)
theorem decR_enc (l : List Cl) (x : Int) (h : decR l = some x) : encR x = l := by
  unfold decR at h
  obtain ⟨c0, l0, rfl, h1⟩ := gL_inv h
  obtain ⟨x0, rfl, h2⟩ := gI_inv h1
  obtain ⟨rfl, h3⟩ := gN_inv h2
  cases h3
  rfl
instance : Cod where
  enc := fun c => match c with
    | 0 => enc0
    | 1 => enc1
    | 2 => enc2
    | 3 => enc3
    | 4 => enc4
    | 5 => enc5
    | _+6 => encR
  dec := fun c => match c with
    | 0 => dec0
    | 1 => dec1
    | 2 => dec2
    | 3 => dec3
    | 4 => dec4
    | 5 => dec5
    | _+6 => decR
  enc_len := fun c => match c with
    | 0 => fun _ => rfl
    | 1 => fun _ => rfl
    | 2 => fun _ => rfl
    | 3 => fun _ => rfl
    | 4 => fun _ => rfl
    | 5 => fun _ => rfl
    | _+6 => fun _ => rfl
  dec_enc := fun c => match c with
    | 0 => dec0_enc
    | 1 => dec1_enc
    | 2 => dec2_enc
    | 3 => dec3_enc
    | 4 => dec4_enc
    | 5 => dec5_enc
    | _+6 => decR_enc
  sz_pos := fun c => match c with
    | 0 => by decide
    | 1 => by decide
    | 2 => by decide
    | 3 => by decide
    | 4 => by decide
    | 5 => by decide
    | _+6 => by exact Nat.one_pos
  dflt := fun c => match c with
    | 0 => (default : S0)
    | 1 => (default : S1)
    | 2 => (default : S2)
    | 3 => (default : S3)
    | 4 => (default : S4)
    | 5 => (default : S5)
    | _+6 => (0 : Int)
  plain := fun c => match c with
    | 0 => true
    | 1 => false
    | 2 => false
    | 3 => true
    | 4 => true
    | 5 => false
    | _+6 => true
  plain_ok := fun c => match c with
    | 0 => fun _ x y hy => pl_all (l := enc0 x) (by kernel_rfl) hy
    | 1 => fun h => absurd h (by decide)
    | 2 => fun h => absurd h (by decide)
    | 3 => fun _ x y hy => pl_all (l := enc3 x) (by kernel_rfl) hy
    | 4 => fun _ x y hy => pl_all (l := enc4 x) (by kernel_rfl) hy
    | 5 => fun h => absurd h (by decide)
    | _+6 => fun _ x y hy => pl_all (l := encR x) (by kernel_rfl) hy
  enc_closed := fun c => match c with
    | 0 => fun x y hy => closed_all (by kernel_rfl : (enc0 x).all closedC = true) hy
    | 1 => fun x y hy => closed_all (by kernel_rfl : (enc1 x).all closedC = true) hy
    | 2 => fun x y hy => closed_all (by kernel_rfl : (enc2 x).all closedC = true) hy
    | 3 => fun x y hy => closed_all (by kernel_rfl : (enc3 x).all closedC = true) hy
    | 4 => fun x y hy => closed_all (by kernel_rfl : (enc4 x).all closedC = true) hy
    | 5 => fun x y hy => closed_all (by kernel_rfl : (enc5 x).all closedC = true) hy
    | _+6 => fun x y hy => closed_all (by kernel_rfl : (encR x).all closedC = true) hy
  u8 := fun c => match c with
    | 0 => true
    | _ => false
  u8_ok := fun c => match c with
    | 0 => fun _ x => ⟨x.f0, rfl⟩
    | 1 => fun h => absurd h (by decide)
    | 2 => fun h => absurd h (by decide)
    | 3 => fun h => absurd h (by decide)
    | 4 => fun h => absurd h (by decide)
    | 5 => fun h => absurd h (by decide)
    | _+6 => fun h => absurd h (by simp)
  nest := fun c2 c => match c2, c with
    | 2, 0 => some S2.mk
    | _, _ => none
  nest_ok := by
    intro c2 c f h L
    split at h
    · cases h; rfl
    · cases h
def kd : Nat → List KC := fun c => match c with
  | 0 => [.int .u8]
  | 1 => []
  | 2 => []
  | 3 => [.int .i64, .int .i64, .bool, .int .u8]
  | 4 => [.str, .int .u64]
  | 5 => []
  | _ => [.int .i64]
theorem kd_all : Elems kd := ⟨fun c => match c with
  | 0 => fun l h0 h => ⟨rd0 l, rd0_enc l (km_of_has h)⟩
  | 1 => fun l h0 h => absurd h0 (by decide)
  | 2 => fun l h0 h => absurd h0 (by decide)
  | 3 => fun l h0 h => ⟨rd3 l, rd3_enc l (km_of_has h)⟩
  | 4 => fun l h0 h => ⟨rd4 l, rd4_enc l (km_of_has h)⟩
  | 5 => fun l h0 h => absurd h0 (by decide)
  | _+6 => fun l _ h => by
    have h : All2 KC.has [.int .i64] l := h
    obtain ⟨c0, l0, rfl, k0, h1⟩ := h.uncons
    obtain ⟨x0, rfl, _⟩ := has_int k0
    obtain rfl := h1.unnil
    exact ⟨x0, rfl⟩⟩
theorem mxa1_all (kd : Nat → List KC) (l : List Cl) (h : All2 (CK.has kd) ks1 l) : ∃ x : S1, enc1 x = l := ⟨rd1 l, rd1_enc l (kmM_of_has h)⟩
theorem mx1_all (l : List Cl) (h : All2 (CK.has kd) ks1 l) : ∃ x : S1, enc1 x = l := ⟨rd1 l, rd1_enc l (kmM_of_has h)⟩
theorem mxa2_all (kd : Nat → List KC) (l : List Cl) (h : All2 (CK.has kd) ks2 l) : ∃ x : S2, enc2 x = l := ⟨rd2 l, rd2_enc l (kmM_of_has h)⟩
theorem mx2_all (l : List Cl) (h : All2 (CK.has kd) ks2 l) : ∃ x : S2, enc2 x = l := ⟨rd2 l, rd2_enc l (kmM_of_has h)⟩
theorem mxa5_all (kd : Nat → List KC) (l : List Cl) (h : All2 (CK.has kd) ks5 l) : ∃ x : S5, enc5 x = l := ⟨rd5 l, rd5_enc l (kmM_of_has h)⟩
theorem mx5_all (l : List Cl) (h : All2 (CK.has kd) ks5 l) : ∃ x : S5, enc5 x = l := ⟨rd5 l, rd5_enc l (kmM_of_has h)⟩

def ti : List TI := [
  ⟨1, 0, [], .other, none⟩,
  ⟨1, 8, [.nilf], .func, none⟩,
  ⟨1, 8, [.int .i64 0], .int .i64, none⟩,
  ⟨1, 8, [.int .i64 0], .int .i64, none⟩,
  ⟨1, 1, [.bool false], .bool, none⟩,
  ⟨1, 1, [.int .u8 0], .int .u8, none⟩,
  ⟨1, 1, [.int .u8 0], .int .u8, none⟩,
  ⟨4, 24, [.int .i64 0, .int .i64 0, .bool false, .int .u8 0], .struct [(0, 2), (1, 3), (2, 4), (3, 6)], some [.int .i64, .int .i64, .bool, .int .u8]⟩,
  ⟨4, 24, [.int .i64 0, .int .i64 0, .bool false, .int .u8 0], .struct [(0, 2), (1, 3), (2, 4), (3, 6)], some [.int .i64, .int .i64, .bool, .int .u8]⟩,
  ⟨1, 16, [.str ⟨#[]⟩], .str, none⟩,
  ⟨1, 16, [.str ⟨#[]⟩], .str, none⟩,
  ⟨1, 16, [.str ⟨#[]⟩], .str, none⟩,
  ⟨1, 8, [.int .u64 0], .int .u64, none⟩,
  ⟨2, 24, [.str ⟨#[]⟩, .int .u64 0], .struct [(0, 9), (1, 12)], none⟩,
  ⟨2, 24, [.str ⟨#[]⟩, .int .u64 0], .struct [(0, 9), (1, 12)], none⟩,
  ⟨1, 8, [.nilp], .ptr 56, none⟩,
  ⟨1, 8, [.nilp], .ptr 59, none⟩,
  ⟨1, 8, [.nilp], .ptr 68, none⟩,
  ⟨1, 8, [.nilp], .struct [(0, 17)], none⟩,
  ⟨1, 8, [.nilp], .struct [(0, 17)], none⟩,
  ⟨1, 16, [], .other, none⟩,
  ⟨1, 4, [.int .i32 0], .int .i32, none⟩,
  ⟨1, 24, [.nils], .slice 31 (some 1), none⟩,
  ⟨1, 8, [.nilp], .ptr 50, none⟩,
  ⟨1, 8, [.int .i64 0], .int .i64, none⟩,
  ⟨1, 0, [], .other, none⟩,
  ⟨1, 8, [.nilf], .func, none⟩,
  ⟨1, 8, [.nilf], .func, none⟩,
  ⟨1, 24, [.nils], .slice 29 (some 2), none⟩,
  ⟨1, 24, [.nils], .slice 5 (some 0), none⟩,
  ⟨2, 32, [.int .i64 0, .rs 0 []], .struct [(0, 3), (1, 29)], none⟩,
  ⟨2, 32, [.int .i64 0, .rs 0 []], .struct [(0, 3), (1, 29)], none⟩,
  ⟨1, 0, [], .other, none⟩,
  ⟨1, 8, [.nilf], .func, none⟩,
  ⟨1, 8, [.nilf], .func, none⟩,
  ⟨1, 8, [.nilf], .func, none⟩,
  ⟨1, 8, [.nilf], .func, none⟩,
  ⟨1, 8, [.nilf], .func, none⟩,
  ⟨1, 8, [.nilf], .func, none⟩,
  ⟨2, 32, [.int .i64 0, .rs 2 []], .struct [(0, 3), (1, 28)], none⟩,
  ⟨2, 32, [.int .i64 0, .rs 2 []], .struct [(0, 3), (1, 28)], none⟩,
  ⟨1, 0, [], .other, none⟩,
  ⟨1, 8, [.nilf], .func, none⟩,
  ⟨1, 8, [.nilf], .func, none⟩,
  ⟨1, 0, [], .other, none⟩,
  ⟨1, 8, [.nilf], .func, none⟩,
  ⟨1, 8, [.nilf], .func, none⟩,
  ⟨1, 8, [.nilf], .func, none⟩,
  ⟨1, 8, [.nilch], .chan 29 0, none⟩,
  ⟨1, 8, [.nilch], .struct [(0, 48)], none⟩,
  ⟨1, 8, [.nilch], .struct [(0, 48)], none⟩,
  ⟨1, 24, [.nils], .slice 23 none, none⟩,
  ⟨1, 8, [.nilf], .func, none⟩,
  ⟨1, 8, [.nilf], .func, none⟩,
  ⟨1, 8, [.nilf], .func, none⟩,
  ⟨4, 40, [.nilp, .nilp, .nilp, .str ⟨#[]⟩], .struct [(0, 17), (1, 17), (2, 17), (3, 9)], none⟩,
  ⟨4, 40, [.nilp, .nilp, .nilp, .str ⟨#[]⟩], .struct [(0, 17), (1, 17), (2, 17), (3, 9)], none⟩]
theorem ti_ok : (ti.zipIdx.all fun p => tiB Go.Proofs.Try.prog p.2 p.1) = true := by kernel_rfl
theorem follows : Go.Proofs.Try.prog.follows .mixedOrders = true := by kernel_rfl
end Ab21o
