/- The abstract executor: operations, regions, code. Definitions alone. -/
import Derived.Test.YtllohgmahflpaaaAbBase
import Derived.Orders
import Derived.Laws.BytesArg
namespace Ab
open Go
section
variable [Uni] [Cod]

/-- How a callee is taken: by values alone (what it is handed is read, what it hands back leads nowhere), or with the blocks that its arguments lead to; or by values, and it hands back memory that it has made. -/
inductive Mode | byVal | byHeap | byNew | byRead (ks : List (Option Nat)) | byCopy (ks : List (Option Nat))
  deriving DecidableEq

/-- Where a slice stands that a loop lets grow: a temporary, a cell of one, a cell of a block; its elements' kind. Or a temporary that nobody reads any more. -/
inductive Plc | bag (t c2 c : Nat) | tmp (t c : Nat) | cell (t j c : Nat) | blk (b j c : Nat) | drop (t : Nat) | rsb (b j c : Nat)

structure Env where
  ti : List TI
  calls : FuncId → Option (Mode × Spec)
  N : Nat
  rows : List Plc := []
  fz : List Nat := []
  keep : Option (List Nat) := none

def Env.T (e : Env) (t : TypeId) : TI := e.ti.getD t default

def fieldOf (e : Env) (t : TypeId) (f : Nat) : Option (Nat × TypeId) := match (e.T t).sh with | .struct fs => fs[f]? | _ => none

def selI (l : List Cl) (i : Nat) : Int := match l[i]? with | some (.int _ n) => n | _ => 0

/-- Cells read as so many elements. -/
def decN (c : Nat) (l : List Cl) : Nat → Nat → Option (List (Uni.val c))
  | _, 0 => some []
  | o, n + 1 => match Cod.dec c (slice l o (Uni.sz c)), decN c l (o + Uni.sz c) n with
    | some x, some r => some (x :: r)
    | _, _ => none

/-- A row that is read as it now stands. -/
def snap (h : List Blk) : Cl → Cl
  | .slw b => match h[b]? with
    | some (.row c L) => .rs c L
    | _ => .top
  | .sl b o n c => match c, h[b]? with
    | some c, some (.cells l) => match decN c l o n with
      | some L => .rs c L
      | none => .top
    | _, _ => .top
  | .ptr _ _ => .top
  | .ep _ _ _ _ => .top
  | .ch _ => .top
  | .nilch => .nilch
  | .jk b m => (match m, h[b]? with
    | .whole, some (.bg c2 c LL none) => (match Cod.nest c2 c with
      | some f => .rs c2 (LL.map f)
      | none => .top)
    | _, _ => .top)
  | .fn f a b => match a, b with
    | [], [] => .fn f [] []
    | _, _ => .top
  | .top => .top
  | .bool b => .bool b
  | .int k n => .int k n
  | .str s => .str s
  | .nilp => .nilp
  | .nils => .nils
  | .ez => .ez
  | .nilf => .nilf
  | .rs c L => .rs c L
  | .rn _ c L => .rs c L
  | .rp c x o => .rp c x o

def snapV (h : List Blk) : AV → AV
  | .c x => .c (snap h x)
  | .agg l => .agg (l.map (snap h))
  | _ => .top

/-- A pointer to a block of its own, taken as one that is read alone. -/
def rdPtr (h : List Blk) (c : Nat) : Cl → Cl
  | .ptr b o => match h[b]? with
    | some (.cells l) => match Cod.dec c l with
      | some x => .rp c x o
      | none => .top
    | _ => .top
  | x => snap h x
def snapK (h : List Blk) : List (Option Nat) → List AV → List AV
  | k :: ks, v :: l => (match k, v with | some c, .c x => .c (rdPtr h c x) | _, v => snapV h v) :: snapK h ks l
  | [], l => l.map (snapV h)
  | _ :: _, [] => []

/-- A value that leads nowhere. -/
def flatC : Cl → Bool
  | .bool _ | .int _ _ | .str _ | .nilp | .nils | .nilf | .nilch => true
  | .fn _ [] [] => true
  | _ => false

/-- Memory of plain cells, and what leads to it alone. -/
def plainC : Cl → Bool
  | .bool _ | .int _ _ | .str _ | .nilp | .nils | .ez | .nilf | .slw _ | .sl _ _ _ _ | .ptr _ _ | .ep _ _ _ _ => true
  | _ => false
def plainP : Option (Bool × List Cl) → Bool
  | some (_, l) => l.all plainC
  | none => true
def plainV : AV → Bool
  | .c x => plainC x
  | .agg l => l.all plainC
  | .tup l => l.all plainP
  | .top => true
def plainB : Blk → Bool
  | .row c _ => Cod.plain c
  | .dead => true
  | .chn _ _ _ => false
  | .bg _ _ _ _ => false
  | .cells l => l.all plainC

def flatP : Option (Bool × List Cl) → Bool
  | some (true, l) => l.all flatC
  | some (false, [x]) => flatC x
  | _ => false

def flatV : AV → Bool
  | .c x => flatC x
  | .agg l => l.all flatC
  | .tup l => l.all flatP
  | .top => false

def lenC (h : List Blk) : Cl → Option Int
  | .nils | .ez => some 0
  | .rs _ L => some L.length
  | .slw b => match h[b]? with
    | some (.row _ L) => some L.length
    | _ => none
  | .sl _ _ n _ => some n
  | .jk b .whole => match h[b]? with
    | some (.bg _ _ LL none) => some LL.length
    | _ => none
  | _ => none

def ival : AV → Option (IntKind × Int)
  | .c (.int k n) => some (k, n)
  | _ => none

def ptrs : List AV → Option (List (Nat × Nat))
  | [] => some []
  | .c (.ptr b o) :: r => match ptrs r with
    | some l => some ((b, o) :: l)
    | none => none
  | _ => none

def ptrAV (p : Nat × Nat) : AV := .c (.ptr p.1 p.2)

def mnI (x y : Int) : Int := if y < x then y else x
def mxI (x y : Int) : Int := if y > x then y else x

def foldI (f : Int → Int → Int) (k : IntKind) : Int → List AV → Option Int
  | x, [] => some x
  | x, .c (.int k' y) :: r => if kEq k' k then foldI f k (f x y) r else none
  | _, _ => none

/-- A pointer, or a function, held against nil. -/
def nilQ : Sh → Cl → Cl → Option Bool
  | .ptr _, .ptr _ _, .nilp | .ptr _, .ep _ _ _ _, .nilp | .ptr _, .rp _ _ _, .nilp => some false
  | .ptr _, .nilp, .nilp => some true
  | .func, .fn _ _ _, .nilf => some false
  | .func, .nilf, .nilf => some true
  | .chan _ _, .ch _, .nilch => some false
  | .chan _ _, .nilch, .nilch => some true
  | .slice _ _, .rn z _ _, .nils => some z
  | _, _, _ => none

/-- One of so many parts, by a number. -/
def selJ (ag : Bool) (l : List Cl) (z : Nat) (j : Int) : Nat → Nat → Res AV
  | 0, _ => .fail
  | n + 1, k => .br (j == (k : Int)) (.val (pack ag (slice l (k * z) z))) (selJ ag l z j n (k + 1))

/-- The whole numbers of a kind that a list begins with. -/
def preI (k : IntKind) : List Cl → Nat
  | .int k' _ :: r => (match kEq k' k with | true => preI k r + 1 | false => 0)
  | _ => 0
/-- One of them is another. -/
def setI (k : IntKind) (v : Int) (i : Nat) : Nat → List Cl → List Cl
  | q, .int k' n :: r => (match kEq k' k with | true => .int k (bif Nat.beq i q then v else n) :: setI k v i (q + 1) r | false => .int k' n :: r)
  | _, l => l
/-- A place among so many, by a number. -/
def selP (b off z : Nat) (j : Int) : Nat → Nat → Res AV
  | 0, _ => .fail
  | n + 1, k => .br (j == (k : Int)) (.val (.c (.ptr b (off + k * z)))) (selP b off z j n (k + 1))

/-- .. of memory that is read alone. -/
def selR (c : Nat) (x : Uni.val c) (off z : Nat) (j : Int) : Nat → Nat → Res AV
  | 0, _ => .fail
  | n + 1, k => .br (j == (k : Int)) (.val (.c (.rp c x (off + k * z)))) (selR c x off z j n (k + 1))
/-- The address of an element. -/
def elP (e : Env) (el : TypeId) (b off : Nat) (j : Int) (n : Nat) : Res AV := match (e.T el).sh with
  | .int _ => (match Nat.beq (e.T el).size 1 with | true => .val (.c (.ep b 1 j.toNat off)) | false => .fail)
  | _ => selP b off (e.T el).size j n 0

/-- The kind of a type's elements, if the table has it. -/
def elCode (e : Env) (el : TypeId) : Option Nat := e.ti.findSome? fun t => match t.sh with
  | .slice el' c => if Nat.beq el' el then c else none
  | _ => none

/-- The kind of elements, if its size fits. -/
def codeIf (n : Nat) : Option Nat → Option Nat
  | some c => if Nat.beq n (Uni.sz c) then some c else none
  | none => none

/-- The text that bytes are. -/
def strO (c : Nat) (L : List (Uni.val c)) : ByteArray := strOfNums (L.map fun x => selI (Cod.enc c x) 0)
/-- Bytes taken as a text. -/
def convB (e : Env) (el : TypeId) (v : AV) (h : List Blk) : Res AV := match (e.T el).sh, v with
  | .int .u8, .c .nils => .val (.c (.str ⟨#[]⟩))
  | .int .u8, .c .ez => .val (.c (.str ⟨#[]⟩))
  | .int .u8, .c x => (match snap h x with
    | .rs c L => (match Cod.u8 c with
      | true => .val (.c (.str (strO c L)))
      | false => .fail)
    | _ => .fail)
  | _, _ => .fail
/-- A text's bytes. -/
def bytesL (c : Nat) : List UInt8 → Option (List (Uni.val c))
  | [] => some []
  | b :: r => match Cod.dec c [.int .u8 b.toNat], bytesL c r with
    | some x, some l => some (x :: l)
    | _, _ => none
/-- A text taken as bytes: memory of one's own. -/
def isSB (e : Env) (s d : TypeId) : Bool := match (e.T s).sh, (e.T d).sh with
  | .str, .slice _ _ => true
  | .slice _ _, .slice _ _ => true
  | _, _ => false

/-- A number told apart: 0 or 1 (by e.fz, 2000000 above its temporary). -/
def isSplit (e : Env) (o : Oper) : Bool := match o.dst with
  | some d => e.fz.any (Nat.beq (d + 2000000))
  | none => false
def splitI (k : IntKind) (n : Int) : Res AV := .br (n == 0) (.val (.c (.int k 0))) (.br (n == 1) (.val (.c (.int k 1))) .fail)

/-- A slice of slices whose rows are one's own: what is read. -/
def jkLoad (e : Env) (t : TypeId) (b : Nat) (m : JM) (h : List Blk) : Res AV := match m, h[b]? with
  | .hdr k, some (.bg _ _ LL none) => (match Nat.beq (e.T t).size 1 && !(e.T t).agg with
    | true => .opt LL[k]? fun _ => .val (.c (.jk b (.row k)))
    | false => .fail)
  | .byte k j, some (.bg _ c LL none) => (match Nat.beq (e.T t).size 1 && !(e.T t).agg && Nat.beq (Uni.sz c) 1 with
    | true => .opt LL[k]? fun L => .opt L[j]? fun x => .val (.c ((Cod.enc c x).headD .top))
    | false => .fail)
  | _, _ => .fail
def jkIdx (e : Env) (el : TypeId) (b : Nat) (m : JM) (j : Int) (h : List Blk) : Res AV := match m, h[b]? with
  | .whole, some (.bg _ _ LL none) => (match Nat.beq (e.T el).size 1 with
    | true => .br (decide (0 ≤ j) && decide (j < LL.length)) (.val (.c (.jk b (.hdr j.toNat)))) .fail
    | false => .fail)
  | .row k, some (.bg _ c LL none) => (match Nat.beq (e.T el).size 1 && Nat.beq (Uni.sz c) 1 with
    | true => .opt LL[k]? fun L => .br (decide (0 ≤ j) && decide (j < L.length)) (.val (.c (.jk b (.byte k j.toNat)))) .fail
    | false => .fail)
  | _, _ => .fail
def jkLen (b k : Nat) (h : List Blk) : Res AV := match h[b]? with
  | some (.bg _ _ LL none) => .opt LL[k]? fun L => .val (.c (.int .i64 L.length))
  | _ => .fail
/-- .. what is written. -/
def jkStore (e : Env) (t : TypeId) (b : Nat) (m : JM) (l : List Cl) (h : List Blk) : Res (AV × List Blk) := match m, h[b]? with
  | .byte k j, some (.bg c2 c LL none) => (match Nat.beq (e.T t).size 1 && Nat.beq l.length 1 && Nat.beq (Uni.sz c) 1 with
    | true => .opt LL[k]? fun L => .opt L[j]? fun _ => (match Cod.dec c l with
      | some y => .val (.top, h.set b (.bg c2 c (LL.set k (L.set j y)) none))
      | none => .fail)
    | false => .fail)
  | _, _ => .fail

/-- A call of one that hands back new memory, taken as one that hands back none (by e.fz, 3000000 above its temporary). -/
def isRdF (e : Env) (o : Oper) : Bool := match o.dst with
  | some d => e.fz.any (Nat.beq (d + 3000000))
  | none => false

/-- The operations that leave memory alone. -/
def stepV (e : Env) (o : Oper) (ρ : Operand → AV) (h : List Blk) : Res AV :=
  match o.op with
  | .move x => .val (ρ x)
  | .assign x => match isSplit e o, ρ x with
    | true, .c (.int k n) => splitI k n
    | _, v => .val v
  | .pick c a b => match ρ c with
    | .c (.bool t) => match ρ a, ρ b with
      | .c (.bool x), .c (.bool y) => .val (.c (.bool (bif t then x else y)))
      | va, vb => .br t (.val va) (.val vb)
    | _ => .fail
  | .build t ps => match (e.T t).zero, (e.T t).sh with
    | [], _ => .fail
    | _, .struct fs => match fillA (e.T t).zero (ps.toList.map fun p => match fs[p.1]? with
        | some (off, ft) => (off, (e.T ft).size, ρ p.2)
        | none => (0, 0, .top)) with
      | some l => .val (.agg l)
      | none => .fail
    | _, .arr _ el => if Nat.ble 1 (e.T el).size then match fillA (e.T t).zero (ps.toList.map fun p => (p.1 * (e.T el).size, (e.T el).size, ρ p.2)) with
      | some l => .val (.agg l)
      | none => .fail
      else .fail
    | _, _ => .fail
  | .load t a => match ρ a with
    | .c (.ptr b off) => match h[b]? with
      | some (.cells l) => if Nat.ble 1 (e.T t).size && Nat.ble (off + (e.T t).size) l.length then .val (pack (e.T t).agg (slice l off (e.T t).size)) else .fail
      | _ => .fail
    | .c (.rp c x off) => if Nat.ble 1 (e.T t).size && Nat.ble (off + (e.T t).size) (Uni.sz c) then .val (pack (e.T t).agg (slice (Cod.enc c x) off (e.T t).size)) else .fail
    | .c (.jk b m) => jkLoad e t b m h
    | .c (.ep b z i off) => match h[b]? with
      | some (.row c L) => if Nat.beq z (Uni.sz c) && Nat.ble 1 (e.T t).size && Nat.ble (off + (e.T t).size) (Uni.sz c) then .opt L[i]? fun x => .val (pack (e.T t).agg (slice (Cod.enc c x) off (e.T t).size)) else .fail
      | some (.cells l) => match (e.T t).sh with
        | .int k => if Nat.beq z 1 && Nat.beq (e.T t).size 1 then .br (Nat.blt i (preI k (l.drop off))) (.val (.c (.int k (selI (l.drop off) i)))) .fail else .fail
        | _ => .fail
      | _ => .fail
    | _ => .fail
  | .nilCheck x => match ρ x with
    | .c (.ptr b off) => .val (.c (.ptr b off))
    | .c (.ep b z i off) => .val (.c (.ep b z i off))
    | .c (.rp c v off) => .val (.c (.rp c v off))
    | .c (.fn f a c) => .val (.c (.fn f a c))
    | _ => .fail
  | .binOp op xt x y _ => match ρ x, ρ y with
    | .c (.int k a), .c (.int k' b) => match cmpI op a b with
      | some r => if kEq k k' then .val (.c (.bool r)) else .fail
      | none => match arI op k a b with
        | some r => if kEq k k' then .val (.c (.int k r)) else .fail
        | none => match op with
          | .quo => if kEq k k' then .br (b == 0) .fail (.val (.c (.int k (k.wrap (a.tdiv b))))) else .fail
          | .rem => if kEq k k' then .br (b == 0) .fail (.val (.c (.int k (a.tmod b)))) else .fail
          | .shl => .br (decide (b < 0)) .fail (.val (.c (.int k (k.wrap (a * 2 ^ (min b.toNat k.bits))))))
          | .shr => .br (decide (b < 0)) .fail (.val (.c (.int k (a.fdiv (2 ^ (min b.toNat k.bits))))))
          | _ => .fail
    | .c (.bool a), .c (.bool b) => match (e.T xt).sh, op with
      | .bool, .eql => .val (.c (.bool (a == b)))
      | .bool, .neq => .val (.c (.bool (!(a == b))))
      | _, _ => .fail
    | .c (.str a), .c (.str b) => match op with
      | .eql => .val (.c (.bool (a == b)))
      | .neq => .val (.c (.bool (!(a == b))))
      | _ => .fail
    | .agg l, .agg m => match (e.T xt).agg, (e.T xt).eq with
      | true, some ks => match op, eqCls ks l m with
        | .eql, some b => .val (.c (.bool b))
        | .neq, some b => .val (.c (.bool (!b)))
        | _, _ => .fail
      | _, _ => .fail
    | .c x, .c y => match nilQ (e.T xt).sh x y, op with
      | some b, .eql => .val (.c (.bool b))
      | some b, .neq => .val (.c (.bool (!b)))
      | _, _ => .fail
    | _, _ => .fail
  | .unOp op _ x => match op, ρ x with
    | .not, .c (.bool b) => .val (.c (.bool (!b)))
    | .neg, .c (.int k n) => .val (.c (.int k (k.wrap (0 - n))))
    | _, _ => .fail
  | .convert s d x => match (e.T s).sh, (e.T d).sh, ρ x with
    | .int _, .int k, .c (.int _ n) => .val (.c (.int k (k.wrap n)))
    | .str, .str, .c (.str b) => .val (.c (.str b))
    | .slice el _, .str, v => convB e el v h
    | _, _, _ => .fail
  | .makeFunc (.func f) first caps => match ptrs (first.toList.map ρ), ptrs (caps.toList.map ρ) with
    | some a, some b => .val (.c (.fn f a b))
    | _, _ => .fail
  | .fieldAddr t x f => match ρ x, fieldOf e t f with
    | .c (.ptr b off), some (fo, _) => .val (.c (.ptr b (off + fo)))
    | .c (.ep b z i off), some (fo, _) => .val (.c (.ep b z i (off + fo)))
    | .c (.rp c v off), some (fo, _) => .val (.c (.rp c v (off + fo)))
    | _, _ => .fail
  | .field t x f => match ρ x, fieldOf e t f with
    | .agg l, some (off, ft) => if Nat.ble 1 (e.T ft).size && Nat.ble (off + (e.T ft).size) l.length then .val (pack (e.T ft).agg (slice l off (e.T ft).size)) else .fail
    | _, _ => .fail
  | .index t x i => match (e.T t).sh, ρ x, ρ i with
    | .arr n el, .agg l, .c (.int _ j) => match (e.T el).sh with
      | .int k => if l.all (isInt k) && Nat.beq l.length n && Nat.beq (e.T el).size 1 then .br (decide (0 ≤ j) && decide (j < n)) (.val (.c (.int k (selI l j.toNat)))) .fail else .fail
      | _ => .br (decide (0 ≤ j) && decide (j < n)) (if Nat.ble 1 (e.T el).size && Nat.ble (n * (e.T el).size) l.length then selJ (e.T el).agg l (e.T el).size j n 0 else .fail) .fail
    | _, _, _ => .fail
  | .indexAddr t x i => match (e.T t).sh, ρ x, ρ i with
    | .arr n el, .c (.ptr b off), .c (.int _ j) => if Nat.ble 1 (e.T el).size then .br (decide (0 ≤ j) && decide (j < n)) (elP e el b off j n) .fail else .fail
    | .arr n el, .c (.rp c x off), .c (.int _ j) => if Nat.ble 1 (e.T el).size then .br (decide (0 ≤ j) && decide (j < n)) (selR c x off (e.T el).size j n 0) .fail else .fail
    | .slice el (some _), .c (.rs c L), .c (.int _ j) => if Nat.beq (e.T el).size (Uni.sz c) then .br (decide (0 ≤ j)) (.opt L[j.toNat]? fun v => .val (.c (.rp c v 0))) .fail else .fail
    | .slice el (some _), .c (.slw b), .c (.int _ j) => match h[b]? with
      | some (.row c L) => if Nat.beq (e.T el).size (Uni.sz c) then .br (decide (0 ≤ j) && decide (j < L.length)) (.val (.c (.ep b (Uni.sz c) j.toNat 0))) .fail else .fail
      | _ => .fail
    | .slice el _, .c (.jk b m), .c (.int _ j) => jkIdx e el b m j h
    | .slice el _, .c (.sl b off n _), .c (.int _ j) => if Nat.ble 1 (e.T el).size then .br (decide (0 ≤ j) && decide (j < n)) (elP e el b off j n) .fail else .fail
    | _, _, _ => .fail
  | .slice t x lo hi mx => match (e.T t).sh, ρ x, mx with
    | .slice el _, .c (.rs c L), none =>
      if Nat.beq (e.T el).size (Uni.sz c) then match (lo.map ρ).map ival, (hi.map ρ).map ival with
        | none, none => .val (.c (.rs c L))
        | none, some (some (_, n)) => .br (decide (0 ≤ n) && decide (n ≤ L.length)) (.val (.c (.rs c (L.take n.toNat)))) .fail
        | some (some (_, m)), none => .br (decide (0 ≤ m) && decide (m ≤ L.length)) (.val (.c (.rs c (L.drop m.toNat)))) .fail
        | some (some (_, m)), some (some (_, n)) => .br (decide (0 ≤ m) && decide (m ≤ n) && decide (n ≤ L.length)) (.val (.c (.rs c ((L.take n.toNat).drop m.toNat)))) .fail
        | _, _ => .fail
      else .fail
    | .str, .c (.str s), none => match (lo.map ρ).map ival, (hi.map ρ).map ival with
      | none, some (some (_, n)) => .br (decide (0 ≤ n) && decide (n ≤ s.size)) (.val (.c (.str (s.extract 0 n.toNat)))) .fail
      | _, _ => .fail
    | .arr n el, .c (.ptr b off), none => match lo, hi with
      | none, none => if Nat.ble 1 (e.T el).size && Nat.ble 1 n then .val (.c (.sl b off n (codeIf (e.T el).size (elCode e el)))) else .fail
      | _, _ => .fail
    | .arr n el, .c (.rp c x off), none => match lo, hi, codeIf (e.T el).size (elCode e el) with
      | none, none, some k => match decN k (Cod.enc c x) off n with
        | some L => if Nat.ble 1 (e.T el).size then .val (.c (.rs k L)) else .fail
        | none => .fail
      | _, _, _ => .fail
    | _, _, _ => .fail
  | .extract x i => match ρ x with
    | .tup l => match l[i]? with
      | some v => .val (ofPart v)
      | none => .fail
    | _ => .fail
  | .call c => match c.callee with
    | .value f => match ρ f with
      | .c (.fn g first caps) => match e.calls g with
        | some (.byVal, sp) => (sp ((first.map ptrAV ++ (c.args.toList.map ρ) ++ caps.map ptrAV).map (snapV h)) []).bind fun p => match flatV p.1, p.2 with
          | true, [] => .val p.1
          | _, _ => .fail
        | some (.byRead ks, sp) => (sp (snapK h ks (first.map ptrAV ++ (c.args.toList.map ρ) ++ caps.map ptrAV)) []).bind fun p => match flatV p.1, p.2 with
          | true, [] => .val p.1
          | _, _ => .fail
        | some (.byCopy ks, sp) => (sp (snapK h ks (first.map ptrAV ++ (c.args.toList.map ρ) ++ caps.map ptrAV)) []).bind fun p => match flatV p.1, p.2 with
          | true, [] => .val p.1
          | _, _ => .fail
        | _ => .fail
      | _ => .fail
    | .builtin .len => match c.argTypes.toList, c.args.toList with
      | [t], [x] => match (e.T t).sh with
        | .arr n _ => .val (.c (.int .i64 n))
        | .slice _ _ => match ρ x with
          | .c (.jk b (.row k)) => jkLen b k h
          | .c v => match lenC h v with
            | some n => .val (.c (.int .i64 n))
            | none => .fail
          | _ => .fail
        | .str => match ρ x with
          | .c (.str b) => .val (.c (.int .i64 b.size))
          | _ => .fail
        | _ => .fail
      | _, _ => .fail
    | .builtin .min => match c.args.toList.map ρ with
      | .c (.int k x) :: r => match foldI mnI k x r with
        | some n => .val (.c (.int k n))
        | none => .fail
      | _ => .fail
    | .builtin .max => match c.args.toList.map ρ with
      | .c (.int k x) :: r => match foldI mxI k x r with
        | some n => .val (.c (.int k n))
        | none => .fail
      | _ => .fail
    | _ => .fail
  | _ => .fail

/-- Where the callee's blocks lie among the caller's. -/
def idxOf (b : Nat) : List Nat → Option Nat
  | [] => none
  | x :: r => if Nat.beq b x then some 0 else (idxOf b r).map (· + 1)

def renP (f : Nat → Option Nat) : List (Nat × Nat) → Option (List (Nat × Nat))
  | [] => some []
  | p :: r => match f p.1, renP f r with
    | some b, some l => some ((b, p.2) :: l)
    | _, _ => none

/-- A cell that names other blocks: by a table of new numbers. -/
def renC (f : Nat → Option Nat) : Cl → Cl
  | .ptr b o => match f b with | some b => .ptr b o | none => .top
  | .sl b o n c => match f b with | some b => .sl b o n c | none => .top
  | .slw b => match f b with | some b => .slw b | none => .top
  | .ep b z i o => match f b with | some b => .ep b z i o | none => .top
  | .ch b => match f b with | some b => .ch b | none => .top
  | .jk b m => match f b with | some b => .jk b m | none => .top
  | .fn g [] [] => .fn g [] []
  | .fn g first caps => match renP f first, renP f caps with
    | some a, some b => .fn g a b
    | _, _ => .top
  | x => x

def renV (f : Nat → Option Nat) : AV → AV
  | .c x => .c (renC f x)
  | .agg l => .agg (l.map (renC f))
  | .tup l => .tup (l.map fun | some (b, l) => some (b, l.map (renC f)) | none => none)
  | .top => .top

def renB (f : Nat → Option Nat) : Blk → Blk
  | .cells l => .cells (l.map (renC f))
  | .bg c2 c LL none => .bg c2 c LL none
  | .bg c2 c LL (some r) => (match f r with
    | some r => .bg c2 c LL (some r)
    | none => .dead)
  | b => b

/-- The blocks that a cell names. -/
def refsC : Cl → List Nat
  | .ptr b _ | .sl b _ _ _ | .slw b | .ep b _ _ _ | .ch b | .jk b _ => [b]
  | .fn _ first caps => first.map (·.1) ++ caps.map (·.1)
  | _ => []

def refsV : AV → List Nat
  | .c x => refsC x
  | .agg l => l.flatMap refsC
  | .tup l => l.flatMap fun | some (_, l) => l.flatMap refsC | none => []
  | .top => []

def refsB : Blk → List Nat
  | .cells l => l.flatMap refsC
  | .bg _ _ _ (some r) => [r]
  | _ => []

def addNew : List Nat → List Nat → List Nat
  | m, [] => m
  | m, b :: r => if m.any (Nat.beq b) then addNew m r else addNew (m ++ [b]) r

/-- All blocks that the given ones lead to, in the order in which they are met. -/
def reach (h : List Blk) : Nat → List Nat → Nat → List Nat
  | 0, m, _ => m
  | n + 1, m, i => match m[i]? with
    | none => m
    | some b => reach h n (addNew m (match h[b]? with | some bl => refsB bl | none => [])) (i + 1)

def reachOf (h : List Blk) (m : List Nat) : List Nat := reach h h.length (addNew [] m) 0

def nodupB : List Nat → Bool
  | [] => true
  | x :: r => !(r.any (Nat.beq x)) && nodupB r

def pickB (h : List Blk) (m : List Nat) : List Blk := m.map fun b => match h[b]? with | some bl => renB (fun x => idxOf x m) bl | none => .dead

/-- The callee's blocks laid back. -/
def layBack (h : List Blk) : List Nat → List Blk → List Blk
  | b :: m, bl :: r => layBack (h.set b bl) m r
  | _, r => h ++ r

def backF (m : List Nat) (n : Nat) (j : Nat) : Option Nat := match m[j]? with
  | some b => some b
  | none => some (n + (j - m.length))

/-- The blocks whose rows a value shows. -/
def rowsC : Cl → List Nat
  | .slw b | .sl b _ _ _ | .jk b _ => [b]
  | _ => []
def rowsV : AV → List Nat
  | .c x => rowsC x
  | .agg l => l.flatMap rowsC
  | _ => []

/-- Blocks given up. -/
def killB (h : List Blk) : List Nat → List Blk
  | [] => h
  | b :: r => killB (h.set b .dead) r

/-- .. and what led to them tells what they hold. -/
def snapM (h : List Blk) (M : List Nat) (x : Cl) : Cl := match x with
  | .slw b => (match M.any (Nat.beq b) with
    | true => snap h (.slw b)
    | false => .slw b)
  | x => x
def reB (h : List Blk) (M : List Nat) : Blk → Blk
  | .cells l => .cells (l.map (snapM h M))
  | b => b
def frzH (h : List Blk) (M : List Nat) : List Blk := match M with
  | [] => h
  | b :: r => (killB h (b :: r)).map (reB h (b :: r))

def castL (c c' : Nat) (L : List (Uni.val c')) : Option (List (Uni.val c)) := match Nat.decEq c' c with
  | .isTrue h => some (h ▸ L)
  | .isFalse _ => none

/-- What is appended. -/
def newsOf (c : Nat) (h : List Blk) : AV → Option (List (Uni.val c))
  | .c .nils | .c .ez => some []
  | .c (.rs c' L) => castL c c' L
  | .c (.rn _ c' L) => castL c c' L
  | .c (.slw b) => match h[b]? with
    | some (.row c' L) => castL c c' L
    | _ => none
  | .c (.sl b o n _) => match h[b]? with
    | some (.cells l) => decN c l o n
    | _ => none
  | _ => none

/-- What is appended to: the blocks without it, its elements. -/
def baseOf (c : Nat) (h : List Blk) : AV → Option (List Blk × List (Uni.val c))
  | .c .nils => some (h, [])
  | .c .ez => some (h, [])
  | .c (.slw b) => match h[b]? with
    | some (.row c' L) => match castL c c' L with
      | some L => some (h.set b .dead, L)
      | none => none
    | _ => none
  | _ => none

/-- An element that is a slice of nothing: a row that has nothing. -/
def coeEl (e : Env) (el : TypeId) (v : AV) : AV := match (e.T el).sh, v with
  | .slice _ (some c), .c .nils => .c (.rs c [])
  | .slice _ (some c), .c .ez => .c (.rs c [])
  | _, v => v
/-- What is stored: a slice of nothing as a row that has nothing (told by e.fz, 4000000). -/
def coeSt (e : Env) (t : TypeId) (v : AV) : AV := match e.fz.any (Nat.beq 4000000) with
  | true => coeEl e t v
  | false => v
/-- A slice of a row of one's own that takes the row's place (told by e.fz, 1000000 above its temporary). -/
def isCut (e : Env) (o : Oper) : Bool := match o.op, o.dst with
  | .slice _ _ _ _ _, some d => e.fz.any (Nat.beq (d + 1000000))
  | _, _ => false

/-- Cells appended onto nothing: a block of them. -/
def appCells (e : Env) (el : TypeId) (h : List Blk) (a b : AV) : Res (AV × List Blk) := match a, b with
  | .c .nils, .c (.sl b o n _) => (match h[b]? with
    | some (.cells l) => (match Nat.beq (e.T el).zero.length (e.T el).size && Nat.ble 1 (e.T el).size && Nat.ble 1 n && Nat.ble (o + n * (e.T el).size) l.length && Nat.ble n 140737488355328 && Nat.ble (n * (e.T el).bytes) 140737488355328 with
      | true => .val (.c (.sl h.length 0 n none), h ++ [.cells (slice l o (n * (e.T el).size))])
      | false => .fail)
    | _ => .fail)
  | .c (.jk B .whole), .c (.sl s o 1 _) => (match h[B]?, h[s]? with
    | some (.bg c2 c LL none), some (.cells l) => (match l[o]? with
      | some (.slw r) => (match h[r]? with
        | some (.row c' _) => (match Nat.beq c' c && Nat.beq (e.T el).size 1 && Nat.beq (e.T el).zero.length 1 with
          | true => .br (Nat.ble (LL.length + 1) 140737488355328 && Nat.ble ((LL.length + 1) * (e.T el).bytes) 140737488355328) (.val (.c (.jk h.length .whole), h.set B .dead ++ [.bg c2 c LL (some r)])) .fail
          | false => .fail)
        | _ => .fail)
      | _ => .fail)
    | _, _ => .fail)
  | _, _ => .fail

/-- A slice of slices into whose memory a row has been told last: where it is. -/
def findBg : List Blk → Nat → Option Nat
  | [], _ => none
  | .bg _ _ _ (some _) :: _, i => some i
  | _ :: r, i => findBg r (i + 1)
/-- .. the row becomes its own. -/
def absH (h : List Blk) : List Blk := match findBg h 0 with
  | some b => (match h[b]? with
    | some (.bg c2 c LL (some r)) => (match h[r]? with
      | some (.row c' L) => (match castL c c' L with
        | some L => (h.set r .dead).set b (.bg c2 c (LL ++ [L]) none)
        | none => h)
      | _ => h)
    | _ => h)
  | none => h

/-- Is it asked of a channel? -/
def isChn (e : Env) (c : Call) : Bool := match c.argTypes.toList with
  | [t] => (match (e.T t).sh with | .chan _ _ => true | _ => false)
  | _ => false
/-- How many wait in a channel, or may. -/
def chnQ (e : Env) (c : Call) (ρ : Operand → AV) (h : List Blk) (full : Bool) : Res (AV × List Blk) := match c.argTypes.toList, c.args.toList with
  | [t], [x] => (match (e.T t).sh, ρ x with
    | .chan _ _, .c (.ch b) => (match h[b]? with
      | some (.chn _ cap LL) => .val (.c (.int .i64 (match full with | true => (cap : Int) | false => (LL.length : Int))), h)
      | _ => .fail)
    | _, _ => .fail)
  | _, _ => .fail

/-- The operations that write memory, or make some. -/
def stepH (e : Env) (o : Oper) (ρ : Operand → AV) (h : List Blk) : Res (AV × List Blk) :=
  match o.op with
  | .box _ v => match (ρ v).cells? with
    | some l => .val (.c (.ptr h.length 0), h ++ [.cells l])
    | none => .fail
  | .alloc t => match (e.T t).zero with
    | [] => .fail
    | z => .val (.c (.ptr h.length 0), h ++ [.cells z])
  | .store t a v => match ρ a, (coeSt e t (ρ v)).cells? with
    | .c (.ptr b off), some l => match h[b]? with
      | some (.cells m) => if Nat.ble 1 (e.T t).size && Nat.beq l.length (e.T t).size && Nat.ble (off + l.length) m.length then .val (.top, h.set b (.cells (splice m off l))) else .fail
      | _ => .fail
    | .c (.jk b m), some l => jkStore e t b m l h
    | .c (.ep b z i off), some l => match h[b]? with
      | some (.row c L) => if Nat.beq z (Uni.sz c) && Nat.ble 1 (e.T t).size && Nat.beq l.length (e.T t).size && Nat.ble (off + l.length) (Uni.sz c) then .opt L[i]? fun x => match Cod.dec c (splice (Cod.enc c x) off l) with
          | some y => .val (.top, h.set b (.row c (L.set i y)))
          | none => .fail
        else .fail
      | some (.cells m) => match l, (e.T t).sh with
        | [.int kv v], .int k => if Nat.beq z 1 && Nat.beq (e.T t).size 1 && kEq kv k then .br (Nat.blt i (preI k (m.drop off))) (.val (.top, h.set b (.cells (m.take off ++ setI k v i 0 (m.drop off))))) .fail else .fail
        | _, _ => .fail
      | _ => .fail
    | _, _ => .fail
  | .buildSlice t n ps => match (e.T t).sh with
    | .slice el c => if Nat.ble 1 (e.T el).size && Nat.beq (e.T el).zero.length (e.T el).size && Nat.ble (n * (e.T el).size) 16777216 then
        match fillA (List.replicate n (e.T el).zero).flatten (ps.toList.map fun p => (p.1 * (e.T el).size, (e.T el).size, coeEl e el (ρ p.2))) with
        | some l => match n with
          | 0 => .val (.c .ez, h)
          | _ => .val (.c (.sl h.length 0 n (codeIf (e.T el).size c)), h ++ [.cells l])
        | none => .fail
      else .fail
    | _ => .fail
  | .slice t x lo hi mx => match (e.T t).sh, ρ x, lo.map ρ, hi, mx with
    | .slice el (some _), .c (.slw b), some (.c (.int _ m)), none, none => match h[b]? with
      | some (.row c L) => if Nat.beq (e.T el).size (Uni.sz c) then .br (decide (0 ≤ m) && decide (m ≤ L.length) && Nat.blt 0 L.length) (.val (.c (.slw h.length), h.set b .dead ++ [.row c (L.drop m.toNat)])) .fail else .fail
      | _ => .fail
    | _, _, _, _, _ => .fail
  | .convert s d x => match (e.T s).sh, (e.T d).sh, ρ x with
    | .str, .slice el (some c), .c (.str b) => match (e.T el).sh, bytesL c b.data.toList with
      | .int .u8, some L => if Nat.beq (Uni.sz c) 1 then .val (.c (.rs c L), h) else .fail
      | _, _ => .fail
    | .slice _ _, .slice el _, .c (.sl b o n c) => match (e.T el).sh, Nat.beq s d, h[b]? with
      | .int .u8, true, some (.cells (_ :: _)) => .val (.c (.sl b o n c), h)
      | _, _, _ => .fail
    | _, _, _ => .fail
  | .makeChan t x => match (e.T t).sh, ρ x with
    | .chan el c, .c (.int _ n) => .br (decide (0 ≤ n) && decide (n ≤ 9223372036854775807) && decide (((e.T el).bytes : Int) * n ≤ 281474976710544) && Nat.ble 1 (e.T el).size) (.val (.c (.ch h.length), h ++ [.chn c n.toNat []])) .fail
    | _, _ => .fail
  | .makeSlice t x y => match (e.T t).sh, ρ x, ρ y with
    | .slice el c, .c (.int _ n), .c (.int _ m) => if Nat.ble 1 (e.T el).size && Nat.beq (e.T el).zero.length (e.T el).size then
        .br (decide (0 ≤ n) && decide (n = m) && decide (((e.T el).bytes : Int) * m ≤ 281474976710656) && decide (m ≤ 9223372036854775807)) (match n.toNat with
          | 0 => .val (.c .ez, h)
          | q + 1 => .val (.c (.sl h.length 0 (q + 1) (codeIf (e.T el).size c)), h ++ [.cells (List.replicate (q + 1) (e.T el).zero).flatten])) .fail
      else .fail
    | _, _, _ => .fail
  | .call c => match c.callee with
    | .value f => match ρ f with
      | .c (.fn g first caps) => match e.calls g with
        | some (.byHeap, sp) =>
          let args := first.map ptrAV ++ (c.args.toList.map ρ) ++ caps.map ptrAV
          let m := reachOf h (args.flatMap refsV)
          if nodupB m then
            (sp (args.map (renV fun x => idxOf x m)) (pickB h m)).bind fun p =>
              if Nat.ble m.length p.2.length && m.all (fun b => Nat.blt b h.length) then .val (renV (backF m h.length) p.1, layBack h m (p.2.map (renB (backF m h.length)))) else .fail
          else .fail
        | some (.byNew, sp) =>
          let args := first.map ptrAV ++ (c.args.toList.map ρ) ++ caps.map ptrAV
          (sp (args.map (snapV h)) []).bind fun p => .val (renV (backF [] h.length) p.1, layBack (frzH h (args.flatMap rowsV)) [] (p.2.map (renB (backF [] h.length))))
        | some (.byCopy ks, sp) => (sp (snapK h ks (first.map ptrAV ++ (c.args.toList.map ρ) ++ caps.map ptrAV)) []).bind fun p => match plainV p.1 && p.2.all plainB with
          | true => .val (renV (backF [] h.length) p.1, layBack h [] (p.2.map (renB (backF [] h.length))))
          | false => .fail
        | _ => .fail
      | _ => .fail
    | .builtin .len => chnQ e c ρ h false
    | .builtin .cap => chnQ e c ρ h true
    | .builtin .append => match c.argTypes.toList, c.args.toList with
      | [t, u], [a, b] => match Nat.beq t u, (e.T t).sh with
        | true, .slice el (some k) => match baseOf k h (ρ a), newsOf k h (ρ b) with
          | some (h2, L), some N => if Nat.beq (e.T el).size (Uni.sz k) && Nat.beq (e.T el).zero.length (e.T el).size then
              .br N.isEmpty (.val (ρ a, h)) (.br (Nat.ble (L.length + N.length) 140737488355328 && Nat.ble ((L.length + N.length) * (e.T el).bytes) 140737488355328) (.val (.c (.slw h.length), h2 ++ [.row k (L ++ N)])) .fail)
            else .fail
          | _, _ => appCells e el h (ρ a) (ρ b)
        | _, _ => .fail
      | _, _ => .fail
    | _ => .fail
  | _ => .fail

/-- Is it one that leaves memory alone? -/
def isV (e : Env) (o : Oper) (ρ : Operand → AV) : Bool :=
  match o.op with
  | .box _ _ | .alloc _ | .store _ _ _ | .buildSlice _ _ _ | .makeSlice _ _ _ | .makeChan _ _ => false
  | .convert s d _ => !isSB e s d
  | .slice _ _ _ _ _ => !isCut e o
  | .call c => match c.callee with
    | .value f => match ρ f with
      | .c (.fn g _ _) => match e.calls g with
        | some (.byHeap, _) | some (.byNew, _) => false
        | some (.byCopy _, _) => isRdF e o
        | _ => true
      | _ => true
    | .builtin .append | .builtin .clear | .builtin .cap => false
    | .builtin .len => !isChn e c
    | _ => true
  | _ => true

/-- Whatever its operands are: is it one that leaves memory alone? -/
def isVs (e : Env) (o : Oper) : Bool :=
  match o.op with
  | .box _ _ | .alloc _ | .store _ _ _ | .buildSlice _ _ _ | .makeSlice _ _ _ | .makeChan _ _ => false
  | .convert s d _ => !isSB e s d
  | .slice _ _ _ _ _ => !isCut e o
  | .call c => match c.callee with
    | .value (.func g) => match e.calls g with
      | some (.byVal, _) | some (.byRead _, _) => true
      | some (.byCopy _, _) => isRdF e o
      | _ => false
    | .value _ => false
    | .builtin .append | .builtin .clear | .builtin .cap => false
    | .builtin .len => !isChn e c
    | _ => true
  | _ => true

/-- Does it leave all that was there alone? -/
def grD (e : Env) (o : Oper) (ρ : Operand → AV) : Bool := match o.op with
  | .alloc _ | .box _ _ | .buildSlice _ _ _ | .makeSlice _ _ _ | .makeChan _ _ => true
  | .call c => match c.callee with
    | .value f => match ρ f with
      | .c (.fn g _ _) => match e.calls g with
        | some (.byNew, _) | some (.byCopy _, _) => true
        | _ => false
      | _ => false
    | .builtin .len | .builtin .cap => true
    | _ => false
  | _ => false

/-- A call of a function that is handed over. -/
def isDyn (o : Oper) : Bool := match o.op with
  | .call c => match c.callee with
    | .value (.func _) => false
    | .value _ => true
    | _ => false
  | _ => false

/-- Whom an operation waits for, at once. -/
def depsB (md : Region.Mode) (ops : Array Oper) (j : Nat) : List Nat := match ops[j]? with
  | some o => (o.after.toList.filter fun e => Region.binds md e).map (·.on)
  | none => []
def newB (seen : List Nat) : List Nat → List Nat
  | [] => []
  | x :: r => if seen.any (Nat.beq x) || r.any (Nat.beq x) then newB seen r else x :: newB seen r
/-- .. or in the end. -/
def ancB (md : Region.Mode) (ops : Array Oper) : Nat → List Nat → List Nat → List Nat
  | 0, _, seen => seen
  | n + 1, fr, seen => match newB seen (fr.flatMap (depsB md ops)) with
    | [] => seen
    | x :: r => ancB md ops n (x :: r) ((x :: r) ++ seen)
def w2B (md : Region.Mode) (ops : Array Oper) (j i : Nat) : Bool := (ancB md ops 12 [j] []).any (Nat.beq i)

/-- Does it leave all that was there alone, whatever its operands are? -/
def grS (e : Env) (o : Oper) : Bool := match o.op with
  | .alloc _ | .box _ _ | .buildSlice _ _ _ | .makeSlice _ _ _ | .makeChan _ _ => true
  | .call c => match c.callee with
    | .value (.func g) => match e.calls g with
      | some (.byNew, _) | some (.byCopy _, _) => true
      | _ => false
    | .builtin .len | .builtin .cap => true
    | _ => false
  | _ => false

/-- What it yields is the same whatever memory holds. -/
def isSt (o : Oper) : Bool := match o.op with
  | .move _ | .assign _ | .fieldAddr _ _ _ | .indexAddr _ _ _ | .nilCheck _ | .binOp _ _ _ _ _ | .unOp _ _ _ | .field _ _ _ | .extract _ _ | .index _ _ _ | .slice _ _ _ _ _ | .build _ _ => true
  | .call c => match c.callee with
    | .builtin .len | .builtin .min | .builtin .max => true
    | _ => false
  | _ => false

/-- An order in which operations may come up: what leaves memory alone first. -/
def orderG (e : Env) (md : Region.Mode) (ops : Array Oper) : Nat → Array Bool → List Nat
  | 0, _ => []
  | n + 1, listed => match Region.ready md ops listed with
    | [] => []
    | k :: r => let i := ((k :: r).find? fun j => match ops[j]? with | some o => isVs e o | none => false).getD k
      i :: orderG e md ops n (listed.setIfInBounds i true)

def rowOps (ops : Array Oper) : List Nat → Option (List Oper)
  | [] => some []
  | k :: ks => match ops[k]?, rowOps ops ks with
    | some o, some r => some (o :: r)
    | _, _ => none

/-- Whom an operation waits for itself. -/
def depsO (o : Oper) : List Nat := (o.after.toList.filter fun ed => Region.binds .any ed).map (·.on)
/-- An operation waits for another one, at once or in the end. -/
def dirW (all : List Oper) (o : Oper) (i : Nat) : Bool := (ancB .any all.toArray 12 (depsO o) (depsO o)).any (Nat.beq i)
/-- It writes memory, at once. -/
def isWr (o : Oper) : Bool := match o.op with
  | .store _ _ _ => true
  | .call c => (match c.callee with | .builtin .append => true | _ => false)
  | _ => false
/-- .. onto a slice of nothing: what is made is new. -/
def appNew (o : Oper) (ρ : Operand → AV) : Bool := match o.op with
  | .call c => (match c.args.toList with
    | [a, _] => (match ρ a with | .c .nils | .c .ez => true | _ => false)
    | _ => false)
  | _ => false
/-- A store, and a load of a place told by a temporary. -/
def isLdSt (o oi : Oper) : Bool := match o.op, oi.op with
  | .store _ _ _, .load _ (.tmp _) => true
  | .call c, .load _ (.tmp _) => (match c.callee with | .value _ => true | .builtin .append => true | _ => false)
  | _, _ => false
/-- A call of a function. -/
def isCv (o : Oper) : Bool := match o.op with
  | .call c => (match c.callee with | .value _ => true | _ => false)
  | _ => false
def sameD (q o : Oper) : Bool := match q.dst, o.dst with
  | some a, some b => Nat.beq a b
  | _, _ => false
/-- Each operation writes a temporary of its own. -/
def ddB (ops : Array Oper) : Bool := (List.range ops.size).all fun i => (List.range ops.size).all fun j => match ops[i]?, ops[j]? with
  | some o, some q => Nat.beq i j || !sameD o q
  | _, _ => true
/-- The blocks that an operation may reach: of a call that takes its blocks with it, those that its arguments lead to. -/
def reachC (e : Env) (o : Oper) (ρ : Operand → AV) (h : List Blk) : List Nat := match o.op with
  | .call c => (match c.callee with
    | .value f => (match ρ f with
      | .c (.fn g first caps) => (match e.calls g with
        | some (.byHeap, _) => reachOf h ((first.map ptrAV ++ (c.args.toList.map ρ) ++ caps.map ptrAV).flatMap refsV)
        | _ => List.range h.length)
      | _ => List.range h.length)
    | _ => List.range h.length)
  | _ => List.range h.length
/-- It writes none of the temporaries that tell where the loads before it have read. -/
def keepsLd (ops : Array Oper) (listed : Array Bool) (o : Oper) : Bool := (List.range ops.size).all fun i => match ops[i]? with
  | some oi => !listed.getD i false || (match oi.op, o.dst with
    | .load _ (.tmp x), some d => !Nat.beq x d
    | _, _ => true)
  | none => true

/-- It makes a block, whatever else. -/
def isAl (o : Oper) : Bool := match o.op, o.guard with
  | .alloc _, none => true
  | _, _ => false
/-- Two that make blocks, and no third. -/
def pairable : List Oper → Bool
  | o1 :: o2 :: r => isAl o1 && isAl o2 && !(match r with | o3 :: _ => isAl o3 | [] => false)
  | _ => false
def alAt (ops : Array Oper) (k : Nat) : Bool := match ops[k]? with | some o => isAl o | none => false
/-- Two that make blocks come up in whatever order. -/
def pairB (md : Region.Mode) (ops : Array Oper) (listed : Array Bool) (k : Nat) : List Nat → Bool
  | k2 :: ks => alAt ops k && alAt ops k2 && !(match ks with | k3 :: _ => alAt ops k3 | [] => false) &&
      decide (Region.ready md ops listed = [k, k2]) && decide (Region.ready md ops (listed.setIfInBounds k true) = [k2]) && decide (Region.ready md ops (listed.setIfInBounds k2 true) = [k])
  | [] => false

/-- A call that makes memory, and leaves all that was there alone. -/
def isNw (e : Env) (o : Oper) : Bool := match o.op with
  | .call c => (match c.callee with
    | .value (.func g) => (match e.calls g with
      | some (.byNew, _) => true
      | some (.byCopy _, _) => !isRdF e o
      | _ => false)
    | _ => false)
  | _ => false
/-- A slice of a known length is made. -/
def isMk (e : Env) (o : Oper) : Bool := match o.op with
  | .makeSlice _ (.const (.int _ n)) (.const (.int _ _)) => decide (0 < n) && (match o.dst with | some d => !e.fz.any (Nat.beq d) | none => true)
  | _ => false
def pairable2 (e : Env) : List Oper → Bool
  | o1 :: o2 :: _ => isNw e o1 && isMk e o2 && decide (o1.guard = o2.guard)
  | _ => false
/-- The two come up in whatever order. -/
def pairC (e : Env) (md : Region.Mode) (ops : Array Oper) (listed : Array Bool) (k : Nat) : List Nat → Bool
  | k2 :: _ => (match ops[k]?, ops[k2]? with
    | some o1, some o2 => isNw e o1 && isMk e o2 && decide (o1.guard = o2.guard) && o1.apart ops o2 && Region.free md ops listed k &&
        decide (Region.ready md ops listed = [k, k2]) && decide (Region.ready md ops (listed.setIfInBounds k true) = [k2]) && decide (Region.ready md ops (listed.setIfInBounds k2 true) = [k])
    | _, _ => false)
  | [] => false

/-- Does this order serve all? -/
def goesB (e : Env) (dx fr : Bool) (md : Region.Mode) (ops : Array Oper) : Array Bool → List Nat → Bool
  | listed, [] => (Region.ready md ops listed).isEmpty
  | listed, k :: ks => (match ops[k]? with
    | some o => (if isVs e o then (Region.ready md ops listed).contains k && Region.free md ops listed k
      else (decide (Region.ready md ops listed = [k]) || (dx && (pairB md ops listed k ks || pairC e md ops listed k ks))) && (grS e o || ((dx && isDyn o) || (List.range ops.size).all fun i => match ops[i]? with
        | some oi => !listed.getD i false || (!isVs e oi || (isSt oi || (w2B md ops k i || (fr && (isLdSt o oi && !dirW ops.toList o i)))))
        | none => true))) && (!fr || keepsLd ops (listed.setIfInBounds k true) o)
    | none => false) && goesB e dx fr md ops (listed.setIfInBounds k true) ks

/-- A call behind which a row told last becomes a slice of slices' own (told by e.fz, 5000000 above its temporary). -/
def bagO (e : Env) (o : Oper) (d : Nat) : Bool := match o.op with
  | .call _ => e.fz.any (Nat.beq (d + 5000000))
  | _ => false
/-- .. and what some of them make is never to be written again. -/
def stepF (e : Env) (dr : Bool) (o : Oper) (ρ : Operand → AV) (h : List Blk) : Res (AV × List Blk) := match dr && isDyn o && !grD e o ρ with
  | true => .fail
  | false => (stepH e o ρ h).bind fun p => match o.dst with
  | some d => (match e.fz.any (Nat.beq d) with
    | true => .val (snapV p.2 p.1, frzH p.2 (rowsV p.1))
    | false => (match bagO e o d with
      | true => .val (p.1, absH p.2)
      | false => .val p))
  | none => .val p

/-- A place that is read lies apart from the block that is written. -/
def apB (h : List Blk) (sa la : AV) (z : Nat) : Bool := match la with
  | .c (.rp c _ off) => Nat.ble (off + z) (Uni.sz c)
  | .c (.ptr b off) => (match h[b]? with
    | some (.cells l) => Nat.ble (off + z) l.length
    | _ => false) && (match sa with
    | .c (.ptr b' _) => !Nat.beq b' b
    | .c (.ep b' _ _ _) => !Nat.beq b' b
    | _ => false)
  | _ => false
/-- A place that is read lies apart from the blocks that a call may reach. -/
def apC (h : List Blk) (m : List Nat) (la : AV) (z : Nat) : Bool := match la with
  | .c (.rp c _ off) => Nat.ble (off + z) (Uni.sz c)
  | .c (.ptr b off) => (match h[b]? with
    | some (.cells l) => Nat.ble (off + z) l.length
    | _ => false) && !m.any (Nat.beq b)
  | _ => false
/-- Each load that a call doesn't wait for, and that has been carried out, reads elsewhere. -/
def frCk (e : Env) (all r : List Oper) (o : Oper) (ρ : Operand → AV) (h : List Blk) : Bool := match isCv o with
  | true => (List.range all.length).all fun i => match all[i]? with
    | some q => (match q.op with
      | .load t (.tmp x) => r.any (sameD q) || dirW all o i || apC h (reachC e o ρ h) (ρ (.tmp x)) (e.T t).size
      | _ => true)
    | none => true
  | false => true
/-- Each load that a store doesn't wait for reads elsewhere. -/
def frOk (e : Env) (all r : List Oper) (o : Oper) (ρ : Operand → AV) (h : List Blk) : Bool := match o.op with
  | .store _ a _ => (List.range all.length).all fun i => match all[i]? with
    | some q => (match q.op with
      | .load t (.tmp x) => dirW all o i || apB h (ρ a) (ρ (.tmp x)) (e.T t).size
      | _ => true)
    | none => true
  | .call _ => !isWr o || (appNew o ρ || (List.range all.length).all fun i => match all[i]? with
    | some q => (match q.op with
      | .load _ (.tmp _) => r.any (sameD q) || dirW all o i
      | _ => true)
    | none => true)
  | _ => true
def stepG (e : Env) (dr fr : Bool) (all r : List Oper) (o : Oper) (ρ : Operand → AV) (h : List Blk) : Res (AV × List Blk) := match fr && !(frOk e all r o ρ h && frCk e all r o ρ h) with
  | true => .fail
  | false => stepF e dr o ρ h

def putT (s : St) (d : Option Tmp) (v : AV) (h : List Blk) : St := match d with
  | some d => ⟨s.tmps.set d v, h⟩
  | none => ⟨s.tmps, h⟩

def dstOf (ops : List Oper) (j : Nat) : Option Tmp := (ops[j]?).bind (·.dst)

/-- Does the test in temporary t, under conditions, hold? -/
def holdsAll (s : St) : List (Tmp × Bool) → Option Bool
  | [] => some true
  | (t, w) :: r => match s.tmps.getD t .top, holdsAll s r with
    | .c (.bool b), some x => some (bif (bif w then b else !b) then x else false)
    | _, _ => none

def wantB (s : St) (W : List (Tmp × List (Tmp × Bool) × AV)) (t : Tmp) (want : Bool) (cs : List (Tmp × Bool)) : Option Bool :=
  match (match s.tmps.getD t .top with | .top => lookW t cs W | v => v), holdsAll s cs with
  | .c (.bool b), some x => some (bif x then (bif want then b else !b) else false)
  | _, _ => none

def setLit (s : St) (t : Tmp) (b : Bool) : St := ⟨s.tmps.set t (.c (.bool b)), s.heap⟩

def pickR (t : Bool) (a b : AV) : Res AV := match a, b with
  | .c (.bool x), .c (.bool y) => .val (.c (.bool (bif t then x else y)))
  | va, vb => .br t (.val va) (.val vb)

/-- An operation that leaves memory alone, in a region: each arm of a choice is read where its test holds. -/
def stepP (e : Env) (o : Oper) (s : St) (W : List (Tmp × List (Tmp × Bool) × AV)) (gs : List (Tmp × Bool)) (h : List Blk) : Res AV :=
  match o.op with
  | .pick (.tmp t) a b => match evO s W gs (.tmp t) with
    | .c (.bool v) => pickR v (evO s W ((t, true) :: gs) a) (evO s W ((t, false) :: gs) b)
    | _ => .fail
  | _ => stepV e o (evO s W gs) h

def opsR (e : Env) (dr fr : Bool) (all : List Oper) : List Oper → Rg → St → Res St
  | [], _, s => .val s
  | o :: r, g, s =>
    match o.guard with
    | none =>
      if isV e o (evO s g.W g.G) then (stepP e o s g.W g.G s.heap).bind fun v => opsR e dr fr all r g (putT s o.dst v s.heap)
      else (stepG e dr fr all r o (evO s g.W g.G) s.heap).bind fun p => opsR e dr fr all r g (putT s o.dst p.1 p.2)
    | some (j, want) =>
      match dstOf all j with
      | none => .fail
      | some t =>
        if memB (t, want) g.G then
          (if isV e o (evO s g.W g.G) then (stepP e o s g.W g.G s.heap).bind fun v => opsR e dr fr all r g (putT s o.dst v s.heap)
           else (stepG e dr fr all r o (evO s g.W g.G) s.heap).bind fun p => opsR e dr fr all r g (putT s o.dst p.1 p.2))
        else if memB (t, !want) g.G then opsR e dr fr all r g (putT s o.dst .top s.heap)
        else
          let cs := (condsW t g.W).getD []
          let gs := (t, want) :: (cs ++ g.G)
          match isV e o (evO s g.W gs), o.dst, stepP e o s g.W gs s.heap with
          | true, some d, .val v => match s.tmps[d]? with
            | none => .fail
            | some _ => opsR e dr fr all r ⟨g.G, (d, (t, want) :: cs, v) :: g.W⟩ (putT s (some d) .top s.heap)
          | _, _, _ => match wantB s g.W t want cs with
            | none => .fail
            | some b => .br b
                (if isV e o (evO (setLit s t want) g.W gs) then (stepP e o (setLit s t want) g.W gs s.heap).bind fun v => opsR e dr fr all r ⟨gs, g.W⟩ (putT (setLit s t want) o.dst v s.heap)
                 else (stepG e dr fr all r o (evO (setLit s t want) g.W gs) s.heap).bind fun p => opsR e dr fr all r ⟨gs, g.W⟩ (putT (setLit s t want) o.dst p.1 p.2))
                (match cs with
                 | [] => opsR e dr fr all r ⟨(t, !want) :: g.G, g.W⟩ (putT (setLit s t (!want)) o.dst .top s.heap)
                 | _ => opsR e dr fr all r g (putT s o.dst .top s.heap))

/-- A region's form: each operation writes a temporary of its own, and asks only tests that lie ahead of it. -/
def wfGo (all : List Oper) : List Tmp → List Oper → Bool
  | _, [] => true
  | seen, o :: r =>
    (match o.guard with
      | none => true
      | some (j, _) => match dstOf all j with
        | some t => seen.any (Nat.beq t)
        | none => false) &&
    (match o.dst with
      | none => wfGo all seen r
      | some d => !(seen.any (Nat.beq d)) && wfGo all (d :: seen) r)

inductive Ex | normal | exit (id : Nat) | ret

/-- At the head of a loop: what had no value when the loop began has none; blocks that nothing leads to are gone, the others are numbered as they are met. -/
def mask : List AV → List AV → List AV
  | .top :: m, _ :: l => .top :: mask m l
  | _ :: m, v :: l => v :: mask m l
  | _, l => l.map fun _ => .top

/-- The first so many are as they were numbered. -/
def firstB : Nat → Nat → List Nat → Bool
  | _, 0, _ => true
  | i, n + 1, x :: r => Nat.beq x i && firstB (i + 1) n r
  | _, _ + 1, [] => false

def canon (n0 : Nat) (m : List AV) (s : St) : Res St :=
  let t := mask m s.tmps
  let r := reachOf s.heap (List.range n0 ++ t.flatMap refsV)
  if nodupB r && firstB 0 n0 r then .val ⟨t.map (renV fun x => idxOf x r), pickB s.heap r⟩ else .fail

def loopR (body : St → Res (Ex × St)) (n0 : Nat) (m : List AV) : Nat → St → Res (Ex × St)
  | 0, _ => .fail
  | n + 1, s => (canon n0 m s).bind fun s => (body s).bind fun p => match p.1 with
    | .normal => loopR body n0 m n p.2
    | x => (canon n0 m p.2).bind fun s => .val (x, s)

/-- A slice of nothing, as a row of its own that has nothing. -/
def isNo : Cl → Bool
  | .nils | .ez => true
  | _ => false

def coe1 (s : St) : Plc → St
  | .rsb b j c => match s.heap[b]? with
    | some (.cells l) => match l[j]? with
      | some x => match isNo x with
        | true => ⟨s.tmps, s.heap.set b (.cells (l.set j (.rs c [])))⟩
        | false => s
      | none => s
    | _ => s
  | .drop t => ⟨s.tmps.set t .top, s.heap⟩
  | .bag t c2 c => match s.tmps[t]? with
    | some (.c x) => match isNo x with
      | true => ⟨s.tmps.set t (.c (.jk s.heap.length .whole)), s.heap ++ [.bg c2 c [] none]⟩
      | false => s
    | _ => s
  | .tmp t c => match s.tmps[t]? with
    | some (.c x) => match isNo x with
      | true => ⟨s.tmps.set t (.c (.slw s.heap.length)), s.heap ++ [.row c []]⟩
      | false => s
    | _ => s
  | .cell t j c => match s.tmps[t]? with
    | some (.agg l) => match l[j]? with
      | some x => match isNo x with
        | true => ⟨s.tmps.set t (.agg (l.set j (.slw s.heap.length))), s.heap ++ [.row c []]⟩
        | false => s
      | none => s
    | _ => s
  | .blk b j c => match s.heap[b]? with
    | some (.cells l) => match l[j]? with
      | some x => match isNo x with
        | true => ⟨s.tmps, List.set (s.heap ++ [Blk.row c []]) b (.cells (l.set j (.slw s.heap.length)))⟩
        | false => s
      | none => s
    | _ => s

def coeS : List Plc → St → St
  | [], s => s
  | p :: r, s => coeS r (coe1 s p)

def setCond (s : St) (c : Operand) (b : Bool) : St := match c with | .tmp t => setLit s t b | _ => s

/-- What is read behind a return alone. -/
def keepT (ks : List Nat) : Nat → List AV → List AV
  | _, [] => []
  | i, v :: r => (match ks.any (Nat.beq i) with | true => v | false => .top) :: keepT ks (i + 1) r
def clrS (k : Option (List Nat)) (s : St) : St := match k with
  | none => s
  | some ks => ⟨keepT ks 0 s.tmps, s.heap⟩

def codeR (e : Env) (n0 : Nat) : Code → St → Res (Ex × St)
  | .skip, s | .label _, s => .val (.normal, s)
  | .region _ ops d, s => match d with
    | false => if wfGo ops.toList [] ops.toList then (opsR e false false ops.toList ops.toList ⟨[], []⟩ s).bind fun s => .val (.normal, s) else .fail
    | true => let ks := orderG e .any ops ops.size (Array.replicate ops.size false)
      match rowOps ops ks with
      | some r => if wfGo ops.toList [] r && Region.noSelect ops && Nat.beq r.length ops.size then
          (if goesB e false false .any ops (Array.replicate ops.size false) ks then (opsR e false false ops.toList r ⟨[], []⟩ s).bind fun s => .val (.normal, s)
           else if goesB e true false .any ops (Array.replicate ops.size false) ks then (opsR e true false ops.toList r ⟨[], []⟩ s).bind fun s => .val (.normal, s)
           else if goesB e true true .any ops (Array.replicate ops.size false) ks && ddB ops then (opsR e true true ops.toList r ⟨[], []⟩ s).bind fun s => .val (.normal, s) else .fail) else .fail
      | none => .fail
  | .seq a b, s => (codeR e n0 a s).bind fun p => match p.1 with
    | .normal => codeR e n0 b p.2
    | x => .val (x, p.2)
  | .cond c a b, s => match evO s [] [] c with
    | .c (.bool t) => .br t (codeR e n0 a (setCond s c true)) (codeR e n0 b (setCond s c false))
    | _ => .fail
  | .block id b, s => (codeR e n0 b s).bind fun p => match p.1 with
    | .exit i => if Nat.beq i id then .val (.normal, p.2) else .val (.exit i, p.2)
    | x => .val (x, p.2)
  | .loop b, s => loopR (codeR e n0 b) n0 (coeS e.rows s).tmps e.N (coeS e.rows s)
  | .exit id, s => .val (.exit id, s)
  | .ret, s => .val (.ret, clrS e.keep s)
  | .scope b, s => codeR e n0 b s
  | _, _ => .fail

def resAV (e : Env) (s : St) : ResultVar → Option AV
  | .tmp t => some (s.tmps.getD t .top)
  | .cell a t => match s.tmps.getD a .top with
    | .c (.ptr b o) => match s.heap[b]? with
      | some (.cells l) => if Nat.ble 1 (e.T t).size && Nat.ble (o + (e.T t).size) l.length then some (pack (e.T t).agg (slice l o (e.T t).size)) else none
      | _ => none
    | _ => none

def resAVs (e : Env) (s : St) : List ResultVar → Option (List AV)
  | [] => some []
  | x :: r => match resAV e s x, resAVs e s r with
    | some v, some l => some (v :: l)
    | _, _ => none

def resultsR (e : Env) (f : Func) (s : St) : Option AV := match resAVs e s f.results.toList with
  | some [v] => some v
  | some vs => some (.tup (vs.map AV.part?))
  | none => none

/-- A function's run: what it hands back, and the blocks that came in, as they now stand, before those that it has made and that its results lead to. -/
def runR (e : Env) (f : Func) (args : List AV) (h : List Blk) : Res (AV × List Blk) :=
  match f.body with
  | none => .fail
  | some c => (codeR e h.length c ⟨args ++ List.replicate (f.ntmps - args.length) .top, h⟩).bind fun p => match p.1 with
    | .exit _ => .fail
    | _ => match resultsR e f p.2 with
      | none => .fail
      | some v =>
        let m := reachOf p.2.heap (List.range h.length ++ refsV v)
        if nodupB m && firstB 0 h.length m then .val (renV (fun x => idxOf x m) v, pickB p.2.heap m) else .fail

end
end Ab
