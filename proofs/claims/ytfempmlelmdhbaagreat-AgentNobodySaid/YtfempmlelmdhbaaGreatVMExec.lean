/- VMExec: a part of a verified evaluator of the model's code (or of its run), used for this seat's laws; it has no conditions. -/
import Derived.Test.YtfempmlelmdhbaaGreatVMDefs
set_option linter.all false
namespace Go.Proofs.YtfempmlelmdhbaaGreat.VM
open Go

/-! ### types and functions, as the machine below looks them up -/
inductive VD where
  | bool
  | int (k : IntKind)
  | string
  | pointer
  | slice (e : TypeId)
  | map (k e : TypeId)
  | struct (fs : List (Nat × TypeId))
  | func
  | iface
  | other

structure TI where
  desc : VD
  size : Nat
  bytes : Nat
  zero : VV
  eqok : Bool

def mkVD : TypeDesc → VD
  | .bool => .bool
  | .int k => .int k
  | .string => .string
  | .pointer _ => .pointer
  | .slice e => .slice e
  | .map k e => .map k e
  | .struct fs => .struct (fs.toList.map fun f => (f.offset, f.type))
  | .func _ _ _ => .func
  | .interface _ => .iface
  | _ => .other

def noBlank : TypeDesc → Bool
  | .struct fs => fs.toList.all fun f => f.name != "_"
  | _ => true

/-- Does each part of a struct take some cell, so that a pointer to it is a plain one? -/
def fieldsWide (P : Program) : TypeDesc → Bool
  | .struct fs => fs.toList.all fun f => Nat.blt 0 (P.cellsOf f.type)
  | _ => true

def mkTI (P : Program) (t : TypeId) : Option TI :=
  match P.underlying t, P.info? t with
  | some d, some i => match i.zero with
    | some z => match toVV z with
      | some zv => if z.cells.size == i.size && fieldsWide P d then
          some ⟨mkVD d, i.size, i.bytes, zv, noBlank d && !P.stoodInHeld t && !P.eqGuardType P.depth t⟩ else none
      | none => none
    | none => none
  | _, _ => none

/-- What is looked at behind a region that draws its order: the places of the operations with an effect; and which operations are looked at again, at which of them. -/
structure DI where
  order : List Nat
  checks : List (Nat × List Nat)

structure VF where
  code : Code
  ntmps : Nat
  results : List ResultVar
  dr : Tr DI

/-- The tables of a program. -/
structure Tb where
  ty : Tr TI
  fn : Tr VF
  ms : Tr (List (String × FuncId))

/-! ### operands -/
abbrev Tm := Tr VV
def undefV : VV := .tuple []
def tget (tm : Tm) (t : Nat) : VV := match tm.get t with
  | some v => v
  | none => undefV
def tput (tm : Tm) : Option Tmp → VV → Tm
  | some d, v => tm.set 40 d v
  | none, _ => tm

def veval (tm : Tm) : Operand → Option VV
  | .tmp t => some (tget tm t)
  | .const v => toVV v
  | .func f => some (.func f [] [])
  | .global _ => none

def vevals (tm : Tm) : List Operand → Option (List VV)
  | [] => some []
  | o :: os => match veval tm o, vevals tm os with
    | some v, some vs => some (v :: vs)
    | _, _ => none

/-! ### cells -/
def takeN {α : Type} : Nat → List α → Option (List α)
  | 0, _ => some []
  | _ + 1, [] => none
  | n + 1, x :: xs => match takeN n xs with
    | some r => some (x :: r)
    | none => none
def dropN {α : Type} : Nat → List α → List α
  | 0, l => l
  | _ + 1, [] => []
  | n + 1, _ :: xs => dropN n xs
/-- The cells of a row from o on, overwritten. -/
def over {α : Type} : Nat → List α → List α → Option (List α)
  | 0, [], cs => some cs
  | 0, _ :: _, [] => none
  | 0, v :: vs, _ :: cs => match over 0 vs cs with
    | some r => some (v :: r)
    | none => none
  | _ + 1, _, [] => none
  | o + 1, vs, c :: cs => match over o vs cs with
    | some r => some (c :: r)
    | none => none

def loadN (h : VH) (b o n : Nat) : Option (List VV) :=
  match h.get b with
  | .cells _ cs => takeN n (dropN o cs)
  | _ => none

def allLeaf : List VV → Bool
  | [] => true
  | v :: vs => match v.leaf with
    | true => allLeaf vs
    | false => false

def storeN (h : VH) (b o : Nat) (vs : List VV) : Option VH :=
  match h.get b with
  | .cells false cs => match (match vs with | [] => false | _ :: _ => allLeaf vs) with
    | true => match over o vs cs with
      | some cs' => some (h.put b (.cells false cs'))
      | none => none
    | false => none
  | _ => none

/-! ### operations -/
def isAggD : VD → Bool
  | .struct _ => true
  | _ => false

def vpart (ty : Tr TI) (t : TypeId) (cs : List VV) (off : Nat) : Option VV :=
  match ty.get t with
  | some i => match i.desc with
    | .struct _ => match takeN i.size (dropN off cs) with
      | some l => some (.agg l)
      | none => none
    | .other => none
    | _ => match dropN off cs with
      | v :: _ => some v
      | [] => none
  | none => none

/-- '==' of two structs' fields, one by one. -/
def veqFs (ty : Tr TI) (eq : TypeId → VV → VV → Option Bool) : List (Nat × TypeId) → List VV → List VV → Option Bool
  | [], _, _ => some true
  | (off, t) :: fs, xs, ys =>
    match vpart ty t xs off, vpart ty t ys off with
    | some a, some b => match eq t a b with
      | some true => veqFs ty eq fs xs ys
      | some false => some false
      | none => none
    | _, _ => none

/-- '==' of two values of a type. -/
def veqT (ty : Tr TI) : Nat → TypeId → VV → VV → Option Bool
  | 0, _, _, _ => none
  | d + 1, t, x, y =>
    match ty.get t with
    | none => none
    | some i =>
      match i.desc, x, y with
      | .int _, .int k a, .int k' b => match decide (k = k') with
        | true => some (decide (a = b))
        | false => none
      | .bool, .bool a, .bool b => some (a == b)
      | .string, .str a, .str b => some (bytesEq a.data.toList b.data.toList)
      | .pointer, .nilptr, .nilptr => some true
      | .pointer, .nilptr, .ptr _ _ => some false
      | .pointer, .ptr _ _, .nilptr => some false
      | .slice _, .nilslice, .nilslice => some true
      | .slice _, .nilslice, .slice _ _ _ _ _ => some false
      | .slice _, .slice _ _ _ _ _, .nilslice => some false
      | .map _ _, .nilmap, .nilmap => some true
      | .map _ _, .nilmap, .map _ => some false
      | .map _ _, .map _, .nilmap => some false
      | .func, .nilfunc, .nilfunc => some true
      | .func, .nilfunc, .func _ _ _ => some false
      | .func, .func _ _ _, .nilfunc => some false
      | .iface, .niliface, .iface _ _ => some false
      | .iface, .iface _ _, .niliface => some false
      | .struct fs, .agg xs, .agg ys => match i.eqok with
        | true => veqFs ty (veqT ty d) fs xs ys
        | false => none
      | _, _, _ => none

def vbinInt (op : BinOp) (k : IntKind) (a : Int) (k' : IntKind) (b : Int) : Option VV :=
  match op with
  | .shl => if b < 0 then none else some (.int k (k.wrap (a * 2 ^ (min b.toNat k.bits))))
  | .shr => if b < 0 then none else some (.int k (a.fdiv (2 ^ (min b.toNat k.bits))))
  | op => if k ≠ k' then none else
    match op with
    | .add => some (.int k (k.wrap (a + b)))
    | .sub => some (.int k (k.wrap (a - b)))
    | .mul => some (.int k (k.wrap (a * b)))
    | .quo => if b = 0 then none else some (.int k (k.wrap (a.tdiv b)))
    | .rem => if b = 0 then none else some (.int k (a.tmod b))
    | .and => some (.int k (k.wrap ((BitVec.ofInt k.bits a &&& BitVec.ofInt k.bits b).toNat : Int)))
    | .or => some (.int k (k.wrap ((BitVec.ofInt k.bits a ||| BitVec.ofInt k.bits b).toNat : Int)))
    | .xor => some (.int k (k.wrap ((BitVec.ofInt k.bits a ^^^ BitVec.ofInt k.bits b).toNat : Int)))
    | .andNot => some (.int k (k.wrap ((BitVec.ofInt k.bits a &&& ~~~ BitVec.ofInt k.bits b).toNat : Int)))
    | .eql => some (.bool (a == b))
    | .neq => some (.bool (a != b))
    | .lss => some (.bool (decide (a < b)))
    | .leq => some (.bool (decide (a ≤ b)))
    | .gtr => some (.bool (decide (a > b)))
    | .geq => some (.bool (decide (a ≥ b)))
    | _ => none

def vbinStr (op : BinOp) (a b : ByteArray) : Option VV :=
  match op with
  | .add => if ((a.size + b.size : Nat) : Int) > 9223372036854775807 then none else some (.str (a ++ b))
  | .eql => some (.bool (bytesEq a.data.toList b.data.toList))
  | .neq => some (.bool (!(bytesEq a.data.toList b.data.toList)))
  | .lss => some (.bool (Op.bytesLess a.data.toList b.data.toList))
  | .leq => some (.bool (Op.bytesLess a.data.toList b.data.toList || bytesEq a.data.toList b.data.toList))
  | .gtr => some (.bool (!(Op.bytesLess a.data.toList b.data.toList || bytesEq a.data.toList b.data.toList)))
  | .geq => some (.bool (!(Op.bytesLess a.data.toList b.data.toList)))
  | _ => none

def vbin (ty : Tr TI) (op : BinOp) (t : TypeId) (x y : VV) : Option VV :=
  match x, y with
  | .int k a, .int k' b => vbinInt op k a k' b
  | .str a, .str b => vbinStr op a b
  | x, y => match op with
    | .eql => match veqT ty 50 t x y with
      | some r => some (.bool r)
      | none => none
    | .neq => match veqT ty 50 t x y with
      | some r => some (.bool (!r))
      | none => none
    | _ => none

def vun (op : UnOp) (x : VV) : Option VV :=
  match op, x with
  | .neg, .int k n => some (.int k (k.wrap (0 - n)))
  | .not, .bool b => some (.bool (!b))
  | .xor, .int k n => some (.int k (k.wrap ((BitVec.ofInt k.bits (if k.signed then -1 else k.max) ^^^ BitVec.ofInt k.bits n).toNat : Int)))
  | _, _ => none

/-- The parts of a literal, laid over its zero cells. -/
def vfill (place : Nat → Option (Nat × Nat)) : List (Nat × VV) → List VV → Option (List VV)
  | [], cs => some cs
  | (i, v) :: rest, cs => match place i with
    | some (off, size) => match Nat.beq v.cells.length size with
      | true => match over off v.cells cs with
        | some cs' => vfill place rest cs'
        | none => none
      | false => none
    | none => none

def rep {α : Type} : Nat → List α → List α
  | 0, _ => []
  | n + 1, l => l ++ rep n l

def fieldPlaces (ty : Tr TI) : List (Nat × TypeId) → Option (List (Nat × Nat))
  | [] => some []
  | (off, t) :: fs => match ty.get t, fieldPlaces ty fs with
    | some i, some r => some ((off, i.size) :: r)
    | _, _ => none

def vparts (tm : Tm) : List (Nat × Operand) → Option (List (Nat × VV))
  | [] => some []
  | (i, o) :: os => match veval tm o, vparts tm os with
    | some v, some vs => some ((i, v) :: vs)
    | _, _ => none

/-- A bound of a slice expression: an int between 0 and y. -/
def vbound (x : VV) (y : Nat) : Option Nat :=
  match x with
  | .int _ i => match i with
    | .ofNat n => match Nat.ble n y with
      | true => some n
      | false => none
    | .negSucc _ => none
  | _ => none

def optEval (tm : Tm) : Option Operand → Option (Option VV)
  | none => some none
  | some o => match veval tm o with
    | some v => some (some v)
    | none => none

def capOr : Option Nat → Nat → Nat
  | some c, _ => c
  | none, n => n
def maxB (len : Nat) (cap : Option Nat) : Option VV → Option (Option Nat)
  | none => some cap
  | some v => match vbound v (capOr cap len) with
    | some m => some (some m)
    | none => none
def highB (len : Nat) (m : Option Nat) : Option VV → Option VV → Option Nat
  | some v, _ => vbound v (capOr m len)
  | none, none => some len
  | none, some _ => none
def lowB (h : Nat) : Option VV → Option Nat
  | none => some 0
  | some v => vbound v h
/-- The bounds of a slice expression over something of len places (cap, where it is known). -/
def vbounds (len : Nat) (cap : Option Nat) (lo hi mx : Option VV) : Option (Nat × Nat × Option Nat) :=
  match maxB len cap mx with
  | none => none
  | some m => match highB len m hi mx with
    | none => none
    | some h => match lowB h lo with
      | none => none
      | some l => some (l, h, m)

def vslice (ty : Tr TI) (t : TypeId) (x : VV) (lo hi mx : Option VV) : Option VV :=
  match ty.get t with
  | none => none
  | some i => match i.desc, x with
    | .string, .str s => match mx with
      | none => match vbounds s.size (some s.size) lo hi none with
        | some (l, h, _) => some (.str (s.extract l h))
        | none => none
      | some _ => none
    | .slice e, .nilslice => match ty.get e, vbounds 0 (some 0) lo hi mx with
      | some _, some _ => some .nilslice
      | _, _ => none
    | .slice e, .slice b o len cap s => match ty.get e with
      | some j => match Nat.beq s j.size with
        | true => match vbounds len cap lo hi mx with
          | some (l, h, m) => some (.slice b (o + l * s) (h - l) (match m with | some m => some (m - l) | none => none) s)
          | none => none
        | false => none
      | none => none
    | _, _ => none

def vindexAddr (ty : Tr TI) (t : TypeId) (x ix : VV) : Option VV :=
  match ty.get t with
  | none => none
  | some i => match i.desc, x, ix with
    | .slice e, .slice b o len _ s, .int _ (.ofNat n) => match ty.get e with
      | some j => match Nat.beq s j.size, Nat.blt n len, Nat.blt 0 s with
        | true, true, true => some (.ptr b (o + n * s))
        | _, _, _ => none
      | none => none
    | _, _, _ => none

def vindex (ty : Tr TI) (t : TypeId) (x ix : VV) : Option VV :=
  match ty.get t with
  | none => none
  | some i => match i.desc, x, ix with
    | .string, .str s, .int _ (.ofNat n) => match s.data.toList[n]? with
      | some b => some (.int .u8 b.toNat)
      | none => none
    | _, _, _ => none

/-- Keys are looked for by '=='. -/
def vfind (ty : Tr TI) (kt : TypeId) (k : VV) : List (VV × VV) → Nat → Option (Option (Nat × VV))
  | [], _ => some none
  | (k', v) :: r, n => match veqT ty 50 kt k k' with
    | some true => some (some (n, v))
    | some false => vfind ty kt k r (n + 1)
    | none => none

def vkeyFs (ty : Tr TI) (okey : TypeId → VV → Bool) : List (Nat × TypeId) → List VV → Bool
  | [], _ => true
  | (off, t) :: fs, xs => match vpart ty t xs off with
    | some a => okey t a && vkeyFs ty okey fs xs
    | none => false

/-- May a value be a key of a type? No interface in it. -/
def vkeyOk (ty : Tr TI) : Nat → TypeId → VV → Bool
  | 0, _, _ => false
  | d + 1, t, x =>
    match ty.get t with
    | none => false
    | some i =>
      match i.desc, x with
      | .int _, .int _ _ => true
      | .bool, .bool _ => true
      | .string, .str _ => true
      | .struct fs, .agg xs => i.eqok && vkeyFs ty (vkeyOk ty d) fs xs
      | _, _ => false

/-- Are two keys the same, to the bit? -/
def vsameBits : VV → VV → Bool
  | .bool a, .bool b => a == b
  | .int k a, .int l b => decide (k = l) && decide (a = b)
  | .str a, .str b => bytesEq a.data.toList b.data.toList
  | .agg a, .agg b => go a b
  | _, _ => false
where
  go : List VV → List VV → Bool
    | [], [] => true
    | .bool a :: as, .bool b :: bs => a == b && go as bs
    | .int k a :: as, .int l b :: bs => (decide (k = l) && decide (a = b)) && go as bs
    | .str a :: as, .str b :: bs => bytesEq a.data.toList b.data.toList && go as bs
    | _, _ => false

def setAt {α : Type} : List α → Nat → α → List α
  | [], _, _ => []
  | _ :: xs, 0, v => v :: xs
  | x :: xs, n + 1, v => x :: setAt xs n v
def delAt {α : Type} : List α → Nat → List α
  | [], _ => []
  | _ :: xs, 0 => xs
  | x :: xs, n + 1 => x :: delAt xs n

def mapOf (h : VH) : VV → Option (List (VV × VV))
  | .nilmap => some []
  | .map b => match h.get b with
    | .map kvs _ _ => some kvs
    | _ => none
  | _ => none

def vlookup (ty : Tr TI) (h : VH) (t : TypeId) (x k : VV) (ok : Bool) : Option VV :=
  match ty.get t with
  | none => none
  | some i => match i.desc with
    | .map kt et => match mapOf h x, ty.get et, vkeyOk ty 50 kt k with
      | some kvs, some ei, true => match vfind ty kt k kvs 0 with
        | some (some (_, v)) => some (match ok with | true => .tuple [v, .bool true] | false => v)
        | some none => some (match ok with | true => .tuple [ei.zero, .bool false] | false => ei.zero)
        | none => none
      | _, _, _ => none
    | _ => none

def vmapUpdate (ty : Tr TI) (h : VH) (t : TypeId) (x k v : VV) : Option VH :=
  match ty.get t, x with
  | some i, .map b => match i.desc, h.get b with
    | .map kt _, .map kvs bs cl => match vkeyOk ty 50 kt k with
      | true => match vfind ty kt k kvs 0 with
        | some (some (n, _)) => match (match kvs[n]? with | some kv => vsameBits kv.1 k | none => false) with
          | true => some (h.put b (.map (setAt kvs n (k, v)) bs cl))
          | false => none
        | some none => some (h.put b (.map (kvs ++ [(k, v)]) (bs ++ [cl]) (cl + 1)))
        | none => none
      | false => none
    | _, _ => none
  | _, _ => none

def vdelete (ty : Tr TI) (h : VH) (t : TypeId) (x k : VV) : Option VH :=
  match ty.get t with
  | some i => match i.desc with
    | .map kt _ => match vkeyOk ty 50 kt k with
      | true => match x with
        | .nilmap => some h
        | .map b => match h.get b with
          | .map kvs bs cl => match vfind ty kt k kvs 0 with
            | some (some (n, _)) => some (h.put b (.map (delAt kvs n) (delAt bs n) cl))
            | some none => some (h.put b (.map kvs bs cl))
            | none => none
          | _ => none
        | _ => none
      | false => none
    | _ => none
  | none => none

def bytesVV : List UInt8 → List VV
  | [] => []
  | b :: bs => .int .u8 b.toNat :: bytesVV bs

/-- What is appended: its number of elements, and its cells. -/
def srcOf (h : VH) (size : Nat) : VV → Option (Nat × List VV)
  | .nilslice => some (0, [])
  | .slice b o len _ s => match Nat.beq s size with
    | true => match loadN h b o (len * size) with
      | some cs => some (len, cs)
      | none => none
    | false => none
  | .str s => match Nat.beq size 1 with
    | true => some (s.size, bytesVV s.data.toList)
    | false => none
  | _ => none

def smallB (n size bytes : Nat) : Bool := Nat.ble n 1000000000 && (Nat.ble size 65536 && Nat.ble bytes 65536)


inductive VN where
  | val (v : VV) (h : VH)
  | enter (f : FuncId) (args : List VV) (h : VH)

def vappend (ty : Tr TI) (h : VH) (t u : TypeId) (x y : VV) : Option VN :=
  match ty.get t, ty.get u with
  | some i, some iu => match i.desc, (match iu.desc with | .slice _ => true | .string => true | _ => false) with
    | .slice e, true => match ty.get e with
      | some j => match srcOf h j.size y with
        | some (n, news) => match x with
          | .nilslice => match n with
            | 0 => some (.val .nilslice h)
            | n + 1 => match smallB (n + 1) j.size j.bytes, h.room with
              | true, true => some (.val (.slice h.next 0 (n + 1) none j.size) (h.new (.cells false news)))
              | _, _ => none
          | .slice b o len cap s => match Nat.beq s j.size with
            | true => match n with
              | 0 => some (.val x h)
              | n + 1 => match loadN h b o (len * s), smallB (len + (n + 1)) j.size j.bytes, h.room with
                | some olds, true, true => match cap with
                  | some c => match Nat.blt c (len + (n + 1)) with
                    | true => some (.val (.slice h.next 0 (len + (n + 1)) none s) (h.new (.cells false (olds ++ news))))
                    | false => match h.get b with
                      | .cells false _ => some (.val (.slice h.next 0 (len + (n + 1)) (some c) s) ((h.new (.cells false (olds ++ news))).put b .dead))
                      | _ => none
                  | none => match h.get b with
                    | .cells false _ => some (.val (.slice h.next 0 (len + (n + 1)) none s) ((h.new (.cells false (olds ++ news))).put b .dead))
                    | _ => none
                | _, _, _ => none
            | false => none
          | _ => none
        | none => none
      | none => none
    | _, _ => none
  | _, _ => none

def vlen (ty : Tr TI) (h : VH) (t : TypeId) (x : VV) : Option VV :=
  match ty.get t with
  | none => none
  | some i => match i.desc, x with
    | .string, .str s => some (.int .i64 s.size)
    | .slice _, .nilslice => some (.int .i64 0)
    | .slice _, .slice _ _ n _ _ => some (.int .i64 n)
    | .map _ _, .nilmap => some (.int .i64 0)
    | .map _ _, .map b => match h.get b with
      | .map kvs _ _ => some (.int .i64 kvs.length)
      | _ => none
    | _, _ => none

def vmin : VV → List VV → Option VV
  | x, [] => some x
  | .int k a, .int _ b :: r => vmin (.int k (if b < a then b else a)) r
  | _, _ => none
def vmax : VV → List VV → Option VV
  | x, [] => some x
  | .int k a, .int _ b :: r => vmax (.int k (if a < b then b else a)) r
  | _, _ => none

/-! ### the four kinds of operations -/
inductive Cls where
  | pure
  | read
  | alloc
  | eff

def cls (ty : Tr TI) : Op → Cls
  | .move _ | .assign _ | .pick .. | .build .. | .binOp .. | .unOp .. | .nilCheck _ | .makeFunc .. | .slice .. | .fieldAddr .. | .field .. | .indexAddr .. | .index .. | .extract .. | .makeInterface .. | .typeAssert .. => .pure
  | .convert s d _ => match ty.get s, ty.get d with
    | some i, some j => match i.desc, j.desc with
      | .slice _, .slice _ => .read
      | .slice _, .string => .read
      | _, .slice _ => .alloc
      | _, _ => .pure
    | _, _ => .eff
  | .load .. | .lookup .. | .entry _ => .read
  | .alloc _ | .box .. | .buildSlice .. | .makeMap .. | .makeSlice .. => .alloc
  | .call c => match c.callee with
    | .builtin .len => .read
    | .builtin .min => .pure
    | .builtin .max => .pure
    | _ => .eff
  | _ => .eff

/-- 'x.(u)' at a type that is no interface. -/
def vassert (z : VV) (u : TypeId) (c : Bool) : VV → Option VV
  | .iface t v => match Nat.beq t u with
    | true => some (match c with | true => .tuple [v, .bool true] | false => v)
    | false => match c with
      | true => some (.tuple [z, .bool false])
      | false => none
  | .niliface => match c with
    | true => some (.tuple [z, .bool false])
    | false => none
  | _ => none

def vpure (T : Tb) (tm : Tm) (op : Op) : Option VV :=
  match op with
  | .move x => veval tm x
  | .assign x => veval tm x
  | .pick c a b => match veval tm c with
    | some (.bool true) => veval tm a
    | some (.bool false) => veval tm b
    | _ => none
  | .build t parts => match T.ty.get t with
    | some i => match i.desc with
      | .struct fs => match fieldPlaces T.ty fs, vparts tm parts.toList with
        | some pl, some ps => match vfill (fun i => pl[i]?) ps i.zero.cells with
          | some cs => some (.agg cs)
          | none => none
        | _, _ => none
      | _ => none
    | none => none
  | .nilCheck x => match veval tm x with
    | some (.ptr b o) => some (.ptr b o)
    | some (.func f a c) => some (.func f a c)
    | some (.iface t v) => some (.iface t v)
    | _ => none
  | .binOp op t x y _ => match veval tm x, veval tm y with
    | some a, some b => vbin T.ty op t a b
    | _, _ => none
  | .unOp op _ x => match veval tm x with
    | some a => vun op a
    | none => none
  | .convert s d x => match T.ty.get s, T.ty.get d, veval tm x with
    | some _, some j, some a => match j.desc, a with
      | .int k, .int _ n => some (.int k (k.wrap n))
      | .string, .str s => some (.str s)
      | _, _ => none
    | _, _, _ => none
  | .makeFunc (.func f) a c => match vevals tm a.toList, vevals tm c.toList with
    | some xs, some ys => some (.func f xs ys)
    | _, _ => none
  | .slice t x lo hi mx => match veval tm x, optEval tm lo, optEval tm hi, optEval tm mx with
    | some v, some l, some h', some m => vslice T.ty t v l h' m
    | _, _, _, _ => none
  | .fieldAddr t x f => match T.ty.get t, veval tm x with
    | some i, some (.ptr b o) => match i.desc with
      | .struct fs => match fs[f]? with
        | some (off, _) => some (.ptr b (o + off))
        | none => none
      | _ => none
    | _, _ => none
  | .field t x f => match T.ty.get t, veval tm x with
    | some i, some (.agg cs) => match i.desc with
      | .struct fs => match fs[f]? with
        | some (off, ft) => vpart T.ty ft cs off
        | none => none
      | _ => none
    | _, _ => none
  | .indexAddr t x ix => match veval tm x, veval tm ix with
    | some a, some b => vindexAddr T.ty t a b
    | _, _ => none
  | .index t x ix => match veval tm x, veval tm ix with
    | some a, some b => vindex T.ty t a b
    | _, _ => none
  | .extract t ix => match veval tm t with
    | some (.tuple vs) => vs[ix]?
    | _ => none
  | .makeInterface t x => match T.ty.get t, veval tm x with
    | some i, some v => match i.desc with
      | .iface => none
      | _ => some (.iface t v)
    | _, _ => none
  | .typeAssert x _ u c => match T.ty.get u, veval tm x with
    | some i, some v => match i.desc with
      | .iface => none
      | _ => vassert i.zero u c v
    | _, _ => none
  | .call c => match c.callee, vevals tm c.args.toList with
    | .builtin .min, some (x :: r) => vmin x r
    | .builtin .max, some (x :: r) => vmax x r
    | _, _ => none
  | _ => none

/-- What a variable of a type holds. -/
def vload (ty : Tr TI) (h : VH) (t : TypeId) (x : VV) : Option VV :=
  match ty.get t, x with
  | some i, .ptr b o => match i.desc with
    | .struct _ => match loadN h b o i.size with
      | some l => some (.agg l)
      | none => none
    | .other => none
    | _ => match loadN h b o 1 with
      | some [v] => some v
      | _ => none
  | _, _ => none

def bytesOf : List VV → Option (List UInt8)
  | [] => some []
  | .int .u8 n :: vs => match bytesOf vs with
    | some l => some (UInt8.ofNat n.toNat :: l)
    | none => none
  | _ :: _ => none

/-- The text that bytes are. -/
def vtext (ty : Tr TI) (h : VH) (s d : TypeId) (x : VV) : Option VV :=
  match ty.get s, ty.get d with
  | some i, some j => match i.desc, j.desc with
    | .slice e, .string => match ty.get e with
      | some ei => match ei.desc, x with
        | .int .u8, .nilslice => some (.str ByteArray.empty)
        | .int .u8, .slice b o len _ sz => match Nat.beq sz 1, loadN h b o len with
          | true, some cs => match bytesOf cs with
            | some l => some (.str ⟨l.toArray⟩)
            | none => none
          | _, _ => none
        | _, _ => none
      | none => none
    | _, _ => none
  | _, _ => none

/-- The entry that bears a stamp. -/
def stampOf : List (VV × VV) → List Nat → Nat → Option (VV × VV)
  | kv :: kvs, b :: bs, s => match Nat.beq b s with
    | true => some kv
    | false => stampOf kvs bs s
  | _, _, _ => none
/-- What an iterator came to. -/
def ventry (h : VH) (b : Nat) : Option VV :=
  match h.get b with
  | .iter (some m) _ seen last => match seen.getLast?, h.get m with
    | some s, .map kvs bs cl => match Nat.beq cl last, stampOf kvs bs s with
      | true, some kv => some (.tuple [kv.1, kv.2])
      | _, _ => none
    | _, _ => none
  | _ => none

def vread0 (T : Tb) (tm : Tm) (op : Op) (h : VH) : Option VV :=
  match op with
  | .entry it => match veval tm it with
    | some (.ptr b 0) => ventry h b
    | _ => none
  | .load t a => match veval tm a with
    | some p => vload T.ty h t p
    | none => none
  | .lookup t x k ok => match veval tm x, veval tm k with
    | some a, some b => vlookup T.ty h t a b ok
    | _, _ => none
  | .convert s d x => match veval tm x with
    | some a => vtext T.ty h s d a
    | none => none
  | .call c => match c.callee, c.argTypes.toList, vevals tm c.args.toList with
    | .builtin .len, t :: _, some (x :: _) => vlen T.ty h t x
    | _, _, _ => none
  | _ => none

/-- The bytes of a literal, made into their own type: they are marked, nothing else happens; the VM never writes such a block. -/
def vsil (T : Tb) (tm : Tm) (op : Op) (h : VH) : Option VV :=
  match op with
  | .convert s d x => match T.ty.get s, veval tm x with
    | some i, some (.slice b o len cap sz) => match i.desc, Nat.beq s d, h.get b with
      | .slice e, true, .cells true _ => match T.ty.get e with
        | some ei => match ei.desc with
          | .int .u8 => some (.slice b o len cap sz)
          | _ => none
        | none => none
      | _, _, _ => none
    | _, _ => none
  | _ => none
def vread (T : Tb) (tm : Tm) (op : Op) (h : VH) : Option VV :=
  match vsil T tm op h with
  | some v => some v
  | none => vread0 T tm op h

def isU8 : VD → Bool
  | .int .u8 => true
  | _ => false

/-- The object that is made, and what tells of it once it has a number. -/
def valloc (T : Tb) (tm : Tm) (op : Op) : Option (VObj × (Nat → VV)) :=
  match op with
  | .alloc e => match T.ty.get e with
    | some i => match allLeaf i.zero.cells with
      | true => some (.cells false i.zero.cells, fun b => .ptr b 0)
      | false => none
    | none => none
  | .box _ x => match veval tm x with
    | some v => match allLeaf v.cells with
      | true => some (.cells false v.cells, fun b => .ptr b 0)
      | false => none
    | none => none
  | .buildSlice t len parts => match T.ty.get t with
    | some i => match i.desc with
      | .slice e => match T.ty.get e, vparts tm parts.toList with
        | some j, some ps => match Nat.ble (len * j.size) 65536, vfill (fun i => some (i * j.size, j.size)) ps (rep len j.zero.cells) with
          | true, some cs => match allLeaf cs with
            | true => some (.cells (isU8 j.desc) cs, fun b => .slice b 0 len (some len) j.size)
            | false => none
          | _, _ => none
        | _, _ => none
      | _ => none
    | none => none
  | .makeMap _ none => some (.map [] [] 0, fun b => .map b)
  | .makeSlice t l c => match T.ty.get t, veval tm l, veval tm c with
    | some i, some (.int _ n), some (.int _ m) => match i.desc with
      | .slice e => match T.ty.get e with
        | some j => match decide (0 ≤ n ∧ n ≤ m ∧ 1 ≤ m ∧ m ≤ 65536), smallB m.toNat j.size j.bytes && Nat.blt 0 j.size, allLeaf j.zero.cells with
          | true, true, true => some (.cells false (rep m.toNat j.zero.cells), fun b => .slice b 0 n.toNat (some m.toNat) j.size)
          | _, _, _ => none
        | none => none
      | _ => none
    | _, _, _ => none
  | .convert s d x => match T.ty.get s, T.ty.get d, veval tm x with
    | some _, some j, some (.str s) => match j.desc with
      | .slice e => match T.ty.get e with
        | some ei => match ei.desc, smallB s.size 1 1, Nat.blt 0 s.size with
          | .int .u8, true, true => some (.cells true (bytesVV s.data.toList), fun b => .slice b 0 s.size none 1)
          | _, _, _ => none
        | none => none
      | _ => none
    | _, _, _ => none
  | _ => none

/-! ### a map's iterators -/
def leftOf : List (VV × VV) → List Nat → List Nat → List (VV × VV × Nat)
  | kv :: kvs, b :: bs, seen => match seen.any (Nat.beq b) with
    | true => leftOf kvs bs seen
    | false => (kv.1, kv.2, b) :: leftOf kvs bs seen
  | _, _, _ => []
/-- A new iterator over a map. -/
def vrange (ty : Tr TI) (h : VH) (t : TypeId) (x : VV) : Option VN :=
  match ty.get t, h.room with
  | some i, true => match i.desc, x with
    | .map _ _, .nilmap => some (.val (.ptr h.next 0) (h.new (.iter none 0 [] 0)))
    | .map _ _, .map b => match h.get b with
      | .map _ _ cl => some (.val (.ptr h.next 0) (h.new (.iter (some b) cl [] cl)))
      | _ => none
    | _, _ => none
  | _, _ => none
/-- Its next step, where there is one alone that may be. -/
def vnext (h : VH) (b : Nat) : Option VN :=
  match h.get b with
  | .iter none _ _ _ => some (.val (.tuple [.bool false]) h)
  | .iter (some m) since seen last => match h.get m with
    | .map kvs bs cl => match !seen.isEmpty && (!bs.isEmpty && bs.all (fun x => Nat.ble last x)) with
      | true => none
      | false => match leftOf kvs bs seen with
        | [] => some (.val (.tuple [.bool false]) h)
        | [(k, v, s)] => match Nat.blt s since with
          | true => some (.val (.tuple [.bool true, k, v]) (h.put b (.iter (some m) since (seen ++ [s]) cl)))
          | false => none
        | _ => none
    | _ => none
  | _ => none

def veff (T : Tb) (tm : Tm) (op : Op) (h : VH) : Option VN :=
  match op with
  | .range t x => match veval tm x with
    | some v => vrange T.ty h t v
    | none => none
  | .next it false => match veval tm it with
    | some (.ptr b 0) => vnext h b
    | _ => none
  | .store t a x => match T.ty.get t, veval tm a, veval tm x with
    | some i, some (.ptr b o), some v => match Nat.beq v.cells.length i.size with
      | true => match storeN h b o v.cells with
        | some h' => some (.val undefV h')
        | none => none
      | false => none
    | _, _, _ => none
  | .mapUpdate t m k v | .insert t m k v => match veval tm m, veval tm k, veval tm v with
    | some a, some b, some c => match vmapUpdate T.ty h t a b c with
      | some h' => some (.val undefV h')
      | none => none
    | _, _, _ => none
  | .convert s d x => match T.ty.get s, T.ty.get d, veval tm x with
    | some i, some _, some (.slice b o len cap sz) => match i.desc, Nat.beq s d with
      | .slice e, true => match T.ty.get e, h.get b with
        | some ei, .cells false cs => match ei.desc with
          | .int .u8 => some (.val (.slice b o len cap sz) (h.put b (.cells true cs)))
          | _ => none
        | _, _ => none
      | _, _ => none
    | _, _, _ => none
  | .call c => match vevals tm c.args.toList with
    | some args => match c.callee with
      | .builtin .append => match c.argTypes.toList, args with
        | t :: u :: _, x :: y :: _ => vappend T.ty h t u x y
        | _, _ => none
      | .builtin .delete => match c.argTypes.toList, args with
        | t :: _, x :: k :: _ => match vdelete T.ty h t x k with
          | some h' => some (.val (.tuple []) h')
          | none => none
        | _, _ => none
      | .value f => match veval tm f with
        | some (.func g first cap) => some (.enter g (first ++ args ++ cap) h)
        | _ => none
      | .invoke x name => match veval tm x with
        | some (.iface t v) => match T.ms.get t with
          | some l => match l.find? (fun y => y.1 == name) with
            | some y => some (.enter y.2 (v :: args) h)
            | none => none
          | none => none
        | _ => none
      | _ => none
    | none => none
  | _ => none

def vexec (T : Tb) (tm : Tm) (op : Op) (h : VH) : Option VN :=
  match cls T.ty op with
  | .pure => match vpure T tm op with
    | some v => some (.val v h)
    | none => none
  | .read => match vread T tm op h with
    | some v => some (.val v h)
    | none => none
  | .alloc => match h.room, valloc T tm op with
    | true, some (o, mk) => some (.val (mk h.next) (h.new o))
    | _, _ => none
  | .eff => veff T tm op h

/-! ### code -/
inductive VE where
  | normal
  | exit (id : Nat)
  | ret

def vyield (all : List Oper) (tm : Tm) (j : Nat) : Option Bool :=
  match all[j]? with
  | some o => match o.dst with
    | some d => match tget tm d with
      | .bool b => some b
      | _ => none
    | none => none
  | none => none

def vwanted (all : List Oper) (tm : Tm) (o : Oper) : Bool :=
  match o.guard with
  | none => true
  | some (j, want) => match vyield all tm j with
    | some b => b == want
    | none => false

def vresult (ty : Tr TI) (tm : Tm) (h : VH) : ResultVar → Option VV
  | .tmp t => some (tget tm t)
  | .cell a t => vload ty h t (tget tm a)
def vresultL (ty : Tr TI) (tm : Tm) (h : VH) : List ResultVar → Option (List VV)
  | [] => some []
  | r :: rs => match vresult ty tm h r, vresultL ty tm h rs with
    | some v, some vs => some (v :: vs)
    | _, _ => none
def vresults (ty : Tr TI) (tm : Tm) (h : VH) (rs : List ResultVar) : Option VV :=
  match vresultL ty tm h rs with
  | some [v] => some v
  | some vs => some (.tuple vs)
  | none => none


/-! ### regions that draw their order: what is told of them ahead -/
def ancStep (acc : List Nat) (o : Oper) : Nat := o.after.toList.foldl (fun s e => match Region.binds .any e with
  | true => Nat.lor (Nat.lor s (2 ^ e.on)) (acc.getD e.on 0)
  | false => s) 0
def ancGo : List Oper → List Nat → List Nat
  | [], acc => acc
  | o :: os, acc => ancGo os (acc ++ [ancStep acc o])
/-- Of each operation those that stand ahead of it, as bits. -/
def ancs (all : List Oper) : List Nat := ancGo all []

def isEffB (ty : Tr TI) (o : Oper) : Bool := match cls ty o.op with
  | .eff => true
  | _ => false
def isAllocB (ty : Tr TI) (o : Oper) : Bool := match cls ty o.op with
  | .alloc => true
  | _ => false
def isReadB (ty : Tr TI) (o : Oper) : Bool := match cls ty o.op with
  | .read => true
  | _ => false

/-- Stands operation j ahead of operation i? -/
def isAnc (an : List Nat) (i j : Nat) : Bool := (an.getD i 0).testBit j

/-- Are all that stand ahead of i among the listed ones? -/
def ahead (all : List Oper) (listed : List Nat) (i : Nat) : Bool := match all[i]? with
  | some o => o.after.toList.all fun e => !Region.binds .any e || listed.contains e.on
  | none => false

/-- An order: what has no effect as early as it can, then the first with an effect. -/
def orderGo (ty : Tr TI) (all : List Oper) : Nat → List Nat → List Nat → List Nat
  | 0, _, acc => acc
  | f + 1, left, acc =>
    match left.find? (fun i => ahead all acc i && !(match all[i]? with | some o => isEffB ty o | none => false)) with
    | some i => orderGo ty all f (left.erase i) (acc ++ [i])
    | none => match left.find? (fun i => ahead all acc i) with
      | some i => orderGo ty all f (left.erase i) (acc ++ [i])
      | none => acc
def orderOf (ty : Tr TI) (all : List Oper) : List Nat := orderGo ty all all.length (List.range all.length) []

def permOf (all : List Oper) : List Nat → List Oper
  | [] => []
  | i :: is => match all[i]? with
    | some o => o :: permOf all is
    | none => permOf all is

def namesOf (all : List Oper) (o : Oper) : List Tmp :=
  (o.op.operands.toList.filterMap fun | .tmp t => some t | _ => none) ++
  (match o.guard with
    | some (j, _) => match (all[j]?).bind (·.dst) with
      | some d => [d]
      | none => []
    | none => [])

def dstAt (all : List Oper) (i : Nat) : Option Tmp := match all[i]? with
  | some o => o.dst
  | none => none

def nodupB : List Nat → Bool
  | [] => true
  | x :: xs => !(xs.contains x) && nodupB xs

/-- Does an operation with an effect stand at a place of the order? (The end counts as one.) -/
def effAt (ty : Tr TI) (per : List Oper) (q : Nat) : Bool := match per[q]? with
  | some o => isEffB ty o
  | none => true
def allocAt (ty : Tr TI) (per : List Oper) (q : Nat) : Bool := match per[q]? with
  | some o => isAllocB ty o
  | none => false
def readAt (ty : Tr TI) (per : List Oper) (q : Nat) : Bool := match per[q]? with
  | some o => isReadB ty o
  | none => false

def rangeAll (n : Nat) (p : Nat → Bool) : Bool := (List.range n).all p

/-- The static conditions. -/
def drawStatic (ty : Tr TI) (all : List Oper) (od : List Nat) : Bool :=
  let an := ancs all
  let n := all.length
  let per := permOf all od
  -- an order of all
  Nat.beq od.length n && nodupB od && rangeAll n (fun i => od.contains i) && od.all (fun i => Nat.blt i n) &&
  -- a place is written once at most; who names it is ordered to the writer
  rangeAll n (fun j => match dstAt all j with
    | none => true
    | some d => rangeAll n fun i => i == j || (!(match dstAt all i with | some d' => Nat.beq d' d | none => false) &&
        (match all[i]? with
          | some o => !((namesOf all o).contains d) || isAnc an i j || isAnc an j i
          | none => true))) &&
  rangeAll n (fun p => match per[p]? with
    | some o => o.after.toList.all fun e => !Region.binds .any e || (od.take p).contains e.on
    | none => true) &&
  rangeAll n (fun i => match all[i]? with
    | some o => match o.guard with
      | none => true
      | some (j, _) => isAnc an i j
    | none => true) &&
  rangeAll n (fun q => !effAt ty per q || rangeAll q fun p => !effAt ty per p || isAnc an (od.getD q 0) (od.getD p 0)) &&
  rangeAll n (fun q => !allocAt ty per q || rangeAll q fun p => !effAt ty per p || isAnc an (od.getD q 0) (od.getD p 0))

/-- May the operation at place p come when of those with an effect just those ahead of place q have been? -/
def possible (ty : Tr TI) (an : List Nat) (od : List Nat) (per : List Oper) (p q : Nat) : Bool :=
  rangeAll per.length fun e => !effAt ty per e || (match Nat.blt e q with
    | true => !isAnc an (od.getD e 0) (od.getD p 0)
    | false => !isAnc an (od.getD p 0) (od.getD e 0))

/-- Is q the next place behind p with an effect? -/
def isNext (ty : Tr TI) (per : List Oper) (p q : Nat) : Bool := Nat.blt p q && rangeAll q fun r => Nat.ble r p || !effAt ty per r
def noAlloc (ty : Tr TI) (per : List Oper) (p q : Nat) : Bool := rangeAll q fun r => Nat.ble r p || !allocAt ty per r

def needs (ty : Tr TI) (an : List Nat) (od : List Nat) (per : List Oper) (p q : Nat) : Bool :=
  effAt ty per q && possible ty an od per p q &&
    ((readAt ty per p && !(isNext ty per p q && noAlloc ty per p q)) || (allocAt ty per p && !isNext ty per p q))

def drawChecks (ty : Tr TI) (all : List Oper) (od : List Nat) : List (Nat × List Nat) :=
  let an := ancs all
  let per := permOf all od
  ((List.range per.length).map fun p => (p, (List.range (per.length + 1)).filter fun q => needs ty an od per p q)).filter fun x => match x.2 with
    | [] => false
    | _ :: _ => true

def drawInfo (ty : Tr TI) (all : List Oper) : Option DI :=
  match drawStatic ty all (orderOf ty all) with
  | true => some ⟨orderOf ty all, drawChecks ty all (orderOf ty all)⟩
  | false => none

def diBeq (a b : DI) : Bool := decide (a.order = b.order) && decide (a.checks = b.checks)

def dstOk (n : Nat) (o : Oper) : Bool := match o.dst with
  | some d => Nat.blt d n
  | none => true

/-- The static conditions of a function's code. -/
def codeOk (ty : Tr TI) (n : Nat) (dr : Tr DI) : Code → Bool
  | .region id ops draw => ops.toList.all (dstOk n) && (!draw || (match dr.get id, drawInfo ty ops.toList with
    | some a, some b => diBeq a b
    | _, _ => false))
  | .seq a b => codeOk ty n dr a && codeOk ty n dr b
  | .cond _ a b => codeOk ty n dr a && codeOk ty n dr b
  | .block _ a => codeOk ty n dr a
  | .loop a => codeOk ty n dr a
  | .scope a => codeOk ty n dr a
  | _ => true

structure VFOk (ty : Tr TI) (v : VF) (fn : Func) : Prop where
  body : fn.body = some v.code
  name : (fn.name == "runtime.NumGoroutine") = false
  ntmps : fn.ntmps = v.ntmps
  results : fn.results.toList = v.results
  small : v.ntmps < 1000000
  code : codeOk ty v.ntmps v.dr v.code = true

/-- The method that an interface value's dynamic type, a pointer's, has by itself, with the pointer as its receiver. -/
def methB (P : Program) (t : TypeId) (name : String) : Option FuncId :=
  match P.underlying t, P.info? t with
  | some (.pointer _), some i => match i.methods.find? (fun m => m.name == name) with
    | some m => match m.path.isEmpty, m.func with
      | true, some (f, true) => some f
      | _, _ => none
    | none => none
  | _, _ => none
def methsB (P : Program) (t : TypeId) (l : List (String × FuncId)) : Bool := l.all fun x => match methB P t x.1 with
  | some f => Nat.beq f x.2
  | none => false

structure Tb.Ok (P : Program) (T : Tb) : Prop where
  ty : ∀ t i, T.ty.get t = some i → mkTI P t = some i
  fn : ∀ f v, T.fn.get f = some v → ∃ fn, P.funcs[f]? = some fn ∧ VFOk T.ty v fn
  mixed : P.follows .mixedOrders = true
  ms : ∀ t l, T.ms.get t = some l → methsB P t l = true

/-! ### the run -/
structure St where
  tm : Tm
  h : VH
  v : VV
  h' : VH

inductive Task where
  | code (dr : Tr DI) (c : Code) (tm : Tm) (h : VH)
  | ops (all rest : List Oper) (tm : Tm) (h : VH)
  | draw (di : DI) (all rest : List Oper) (tm : Tm) (h : VH) (acc : List St)
  | call (f : FuncId) (args : List VV) (h : VH)

inductive Res where
  | code (e : VE) (tm : Tm) (h : VH)
  | call (v : VV) (h : VH)

/-- Memory as it stands ahead of a place. -/
def heapAt (sts : List St) (hf : VH) (q : Nat) : VH := match sts[q]? with
  | some s => s.h
  | none => hf

def recheck (T : Tb) (all per : List Oper) (sts : List St) (hf : VH) (p q : Nat) : Bool :=
  match per[p]?, sts[p]? with
  | some o, some s => match vwanted all s.tm o with
    | true => match cls T.ty o.op with
      | .read => match vread T s.tm o.op (heapAt sts hf q) with
        | some v => VV.beq v s.v
        | none => false
      | .alloc => VObj.beq ((heapAt sts hf q).get s.h.next) (s.h'.get s.h.next)
      | _ => true
    | false => true
  | _, _ => false

def recheckAll (T : Tb) (all per : List Oper) (sts : List St) (hf : VH) (di : DI) : Bool :=
  match di.checks with
  | [] => true
  | c => c.all fun x => x.2.all fun q => recheck T all per sts hf x.1 q

def vrun (T : Tb) : Nat → Task → Option Res
  | 0, _ => none
  | n + 1, .code dr c tm h => match c with
    | .skip => some (.code .normal tm h)
    | .region id ops draw => match draw with
      | false => vrun T n (.ops ops.toList ops.toList tm h)
      | true => match dr.get id with
        | some di => vrun T n (.draw di ops.toList (permOf ops.toList di.order) tm h [])
        | none => none
    | .seq a b => match vrun T n (.code dr a tm h) with
      | some (.code .normal tm' h') => vrun T n (.code dr b tm' h')
      | r => r
    | .cond x a b => match veval tm x with
      | some (.bool true) => vrun T n (.code dr a tm h)
      | some (.bool false) => vrun T n (.code dr b tm h)
      | _ => none
    | .block id a => match vrun T n (.code dr a tm h) with
      | some (.code (.exit id') tm' h') => match Nat.beq id' id with
        | true => some (.code .normal tm' h')
        | false => some (.code (.exit id') tm' h')
      | r => r
    | .loop a => match vrun T n (.code dr a tm h) with
      | some (.code .normal tm' h') => vrun T n (.code dr (.loop a) tm' h')
      | r => r
    | .exit id => some (.code (.exit id) tm h)
    | .ret => some (.code .ret tm h)
    | _ => none
  | _ + 1, .ops _ [] tm h => some (.code .normal tm h)
  | n + 1, .ops all (o :: os) tm h => match vwanted all tm o with
    | false => vrun T n (.ops all os (tput tm o.dst undefV) h)
    | true => match vexec T tm o.op h with
      | some (.val v h') => vrun T n (.ops all os (tput tm o.dst v) h')
      | some (.enter f args h') => match vrun T n (.call f args h') with
        | some (.call v h'') => vrun T n (.ops all os (tput tm o.dst v) h'')
        | _ => none
      | none => none
  | _ + 1, .draw di all [] tm h acc => match recheckAll T all (permOf all di.order) acc.reverse h di with
    | true => some (.code .normal tm h)
    | false => none
  | n + 1, .draw di all (o :: os) tm h acc => match vwanted all tm o with
    | false => vrun T n (.draw di all os (tput tm o.dst undefV) h (⟨tm, h, undefV, h⟩ :: acc))
    | true => match vexec T tm o.op h with
      | some (.val v h') => vrun T n (.draw di all os (tput tm o.dst v) h' (⟨tm, h, v, h'⟩ :: acc))
      | some (.enter f args h') => match vrun T n (.call f args h') with
        | some (.call v h'') => vrun T n (.draw di all os (tput tm o.dst v) h'' (⟨tm, h, v, h''⟩ :: acc))
        | _ => none
      | none => none
  | n + 1, .call f args h => match T.fn.get f with
    | some vf => match Nat.ble args.length vf.ntmps, vrun T n (.code vf.dr vf.code (Tr.ofList args) h) with
      | true, some (.code e tm h') => match (match e with | .exit _ => none | _ => vresults T.ty tm h' vf.results) with
        | some v => some (.call v h')
        | none => none
      | _, _ => none
    | none => none

end Go.Proofs.YtfempmlelmdhbaaGreat.VM
