/- The abstract executor: a Go function's loaded code, run over abstract values. Definitions alone. -/
import GoSem.Core.Code
import GoSem.Core.Program
import GoSem.Op.IntArith
import GoSem.Op.IntBits
import GoSem.Machine.Frame
namespace Ab
open Go

/-- The kinds of elements that a slice of unknown length may have: what an element is in Lean, and how many cells it has. -/
class Uni where
  val : Nat → Type
  sz : Nat → Nat

section
variable [Uni]

/-- What is meant of a slice of slices: it, the place of a header, a row, the place of a row's element. -/
inductive JM | whole | hdr (k : Nat) | row (k : Nat) | byte (k j : Nat)

/-- One cell's value. -/
inductive Cl where
  | top
  | bool (b : Bool)
  | int (k : IntKind) (n : Int)
  | str (s : ByteArray)
  | nilp
  | nils
  | ez
  | nilf
  | ptr (b o : Nat)
  | sl (b o n : Nat) (c : Option Nat)
  | slw (b : Nat)
  | ep (b s i o : Nat)
  | rs (c : Nat) (L : List (Uni.val c))
  | rn (z : Bool) (c : Nat) (L : List (Uni.val c))
  | rp (c : Nat) (x : Uni.val c) (o : Nat)
  | fn (f : FuncId) (first caps : List (Nat × Nat))
  | ch (b : Nat)
  | nilch
  | jk (b : Nat) (m : JM)

instance : Inhabited Cl := ⟨.top⟩

/-- A temporary's value. -/
inductive AV where
  | top
  | c (x : Cl)
  | agg (l : List Cl)
  | tup (l : List (Option (Bool × List Cl)))

instance : Inhabited AV := ⟨.top⟩

/-- A block of the run's own. -/
inductive Blk where
  | dead
  | cells (l : List Cl)
  | row (c : Nat) (L : List (Uni.val c))
  | chn (c cap : Nat) (LL : List (List (Uni.val c)))
  | bg (c2 c : Nat) (LL : List (List (Uni.val c))) (p : Option Nat)

/-- A cell that leads to none of the run's own blocks. -/
def closedC : Cl → Bool
  | .ptr _ _ | .sl _ _ _ _ | .slw _ | .ep _ _ _ _ | .ch _ | .jk _ _ => false
  | .fn _ [] [] => true
  | .fn _ _ _ => false
  | _ => true

/-- A cell of plain kind. -/
def isPl : Cl → Bool
  | .bool _ | .int _ _ | .str _ => true
  | _ => false

class Cod where
  enc : (c : Nat) → Uni.val c → List Cl
  dec : (c : Nat) → List Cl → Option (Uni.val c)
  enc_len : ∀ c x, (enc c x).length = Uni.sz c
  dec_enc : ∀ c l x, dec c l = some x → enc c x = l
  sz_pos : ∀ c, 0 < Uni.sz c
  dflt : (c : Nat) → Uni.val c
  plain : Nat → Bool
  plain_ok : ∀ c, plain c = true → ∀ x y, y ∈ enc c x → isPl y = true
  enc_closed : ∀ c x y, y ∈ enc c x → closedC y = true
  u8 : Nat → Bool := fun _ => false
  u8_ok : ∀ c, u8 c = true → ∀ x, ∃ n, enc c x = [.int .u8 n] := by intro c h; cases h
  nest : (c2 c : Nat) → Option (List (Uni.val c) → Uni.val c2) := fun _ _ => none
  nest_ok : ∀ c2 c f, nest c2 c = some f → ∀ L, enc c2 (f L) = [.rs c L] := by intro c2 c f h; cases h

/-- What a type is, as far as the executor asks. -/
inductive Sh where
  | int (k : IntKind) | bool | str | ptr (e : TypeId) | struct (fs : List (Nat × TypeId)) | arr (n : Nat) (e : TypeId) | slice (e : TypeId) (c : Option Nat) | func | other | chan (e : TypeId) (c : Nat)
  deriving Inhabited

/-- The kinds of cells that '==' takes. -/
inductive KC where
  | int (k : IntKind) | bool | str

structure TI where
  size : Nat
  bytes : Nat
  zero : List Cl
  sh : Sh
  eq : Option (List KC) := none

instance : Inhabited TI := ⟨⟨0, 0, [], .other, none⟩⟩

def TI.agg (t : TI) : Bool := match t.sh with | .struct _ | .arr _ _ => true | _ => false

structure St where
  tmps : List AV
  heap : List Blk

/-- What a run comes to: nothing, a value, one of two by a test, or by an optional value. -/
inductive Res (α : Type) : Type 1 where
  | fail
  | val (a : α)
  | br (b : Bool) (x y : Res α)
  | opt {β : Type} (o : Option β) (f : β → Res α)

def Res.eval {α : Type} : Res α → Option α
  | .fail => none
  | .val a => some a
  | .br b x y => bif b then x.eval else y.eval
  | .opt o f => match o with
    | some b => (f b).eval
    | none => none

def Res.bind {α β : Type} : Res α → (α → Res β) → Res β
  | .fail, _ => .fail
  | .val a, f => f a
  | .br b x y, f => .br b (x.bind f) (y.bind f)
  | .opt o g, f => .opt o fun b => (g b).bind f

abbrev Spec := List AV → List Blk → Res (AV × List Blk)


def ofVal : Value → Cl
  | .bool b => .bool b
  | .int k n => .int k n
  | .string s => .str s
  | .pointer none => .nilp
  | .slice none 0 0 => .nils
  | .nilFunc => .nilf
  | .chan none => .nilch
  | .func (.func f) ⟨[]⟩ ⟨[]⟩ => .fn f [] []
  | _ => .top

def ofValue : Value → AV
  | .agg _ | .tuple _ => .top
  | .float _ _ | .complex _ _ _ | .map _ | .iface _ _ | .nilIface => .top
  | v => match ofVal v with | .top => .top | x => .c x

def AV.cells? : AV → Option (List Cl)
  | .agg l => some l
  | .c x => some [x]
  | _ => none

def AV.part? : AV → Option (Bool × List Cl)
  | .agg l => some (true, l)
  | .c x => some (false, [x])
  | _ => none

def ofPart : Option (Bool × List Cl) → AV
  | some (true, l) => .agg l
  | some (false, [x]) => .c x
  | _ => .top

def pack (ag : Bool) (l : List Cl) : AV := match ag with | true => .agg l | false => match l with | [x] => .c x | _ => .top

def slice (l : List Cl) (o n : Nat) : List Cl := (l.drop o).take n

def splice (l : List Cl) (o : Nat) (v : List Cl) : List Cl := l.take o ++ (v ++ l.drop (o + v.length))

def kEq : IntKind → IntKind → Bool
  | .i8, .i8 | .i16, .i16 | .i32, .i32 | .i64, .i64 | .u8, .u8 | .u16, .u16 | .u32, .u32 | .u64, .u64 => true
  | _, _ => false

/-- Cell by cell: are two values one? -/
def eqCl : KC → Cl → Cl → Option Bool
  | .int k, .int k1 a, .int k2 b => if kEq k k1 && kEq k k2 then some (a == b) else none
  | .bool, .bool a, .bool b => some (a == b)
  | .str, .str a, .str b => some (a == b)
  | _, _, _ => none

def eqCls : List KC → List Cl → List Cl → Option Bool
  | [], [], [] => some true
  | [k], [x], [y] => eqCl k x y
  | k :: ks, x :: xs, y :: ys => match eqCl k x y, eqCls ks xs ys with
    | some b, some c => some (b && c)
    | _, _ => none
  | _, _, _ => none

def isInt (k : IntKind) : Cl → Bool
  | .int k' _ => kEq k k'
  | _ => false

def cmpI (op : BinOp) (a b : Int) : Option Bool :=
  match op with
  | .eql => some (a == b)
  | .neq => some (a != b)
  | .lss => some (decide (a < b))
  | .leq => some (decide (a ≤ b))
  | .gtr => some (decide (a > b))
  | .geq => some (decide (a ≥ b))
  | _ => none

def arI (op : BinOp) (k : IntKind) (a b : Int) : Option Int :=
  match op with
  | .add => some (k.wrap (a + b))
  | .sub => some (k.wrap (a - b))
  | .mul => some (k.wrap (a * b))
  | .and => some (k.wrap (BitVec.ofInt k.bits a &&& BitVec.ofInt k.bits b).toNat)
  | .or => some (k.wrap (BitVec.ofInt k.bits a ||| BitVec.ofInt k.bits b).toNat)
  | .xor => some (k.wrap (BitVec.ofInt k.bits a ^^^ BitVec.ofInt k.bits b).toNat)
  | .andNot => some (k.wrap (BitVec.ofInt k.bits a &&& ~~~ BitVec.ofInt k.bits b).toNat)
  | _ => none

/-- Parts laid into the cells of a whole: each part's place, its size, its cells. -/
def fillA : List Cl → List (Nat × Nat × AV) → Option (List Cl)
  | cs, [] => some cs
  | cs, (o, n, v) :: r => match v.cells? with
    | some l => if Nat.ble 1 n && Nat.beq l.length n && Nat.ble (o + n) cs.length then fillA (splice cs o l) r else none
    | none => none

/-- What the region knows while it runs: which tests are known, what temporaries hold where tests hold, which temporaries it has written. -/
structure Rg where
  G : List (Tmp × Bool)
  W : List (Tmp × List (Tmp × Bool) × AV)

def memB (x : Tmp × Bool) : List (Tmp × Bool) → Bool
  | [] => false
  | y :: r => (Nat.beq x.1 y.1 && (x.2 == y.2)) || memB x r

def subB : List (Tmp × Bool) → List (Tmp × Bool) → Bool
  | [], _ => true
  | x :: r, l => memB x l && subB r l

def lookW (t : Tmp) (gs : List (Tmp × Bool)) : List (Tmp × List (Tmp × Bool) × AV) → AV
  | [] => .top
  | (u, cs, v) :: r => if Nat.beq t u then (if subB cs gs then v else .top) else lookW t gs r

def condsW (t : Tmp) : List (Tmp × List (Tmp × Bool) × AV) → Option (List (Tmp × Bool))
  | [] => none
  | (u, cs, _) :: r => if Nat.beq t u then some cs else condsW t r

def evO (s : St) (W : List (Tmp × List (Tmp × Bool) × AV)) (gs : List (Tmp × Bool)) : Operand → AV
  | .tmp t => match s.tmps.getD t .top with
    | .top => lookW t gs W
    | v => v
  | .const v => ofValue v
  | .func f => .c (.fn f [] [])
  | .global _ => .top

end
end Ab
