/- An abstract machine for the loaded program's functions: values, a heap of numbered blocks, no tape. What it answers is proved elsewhere to be what every real run answers. -/
import Derived.Calls
/- An abstract machine for the loaded program's functions: values, a heap of numbered blocks, no tape. What it answers is proved elsewhere to be what every real run answers. -/
namespace Go.Rx
noncomputable section

/-! ### Paths, tries -/
inductive Pth where
  | e
  | o (p : Pth)
  | i (p : Pth)

def pthF : Nat → Nat → Pth
  | 0, _ => .e
  | f + 1, n => bif Nat.beq n 0 then .e else bif Nat.beq (n % 2) 1 then .i (pthF f (n / 2)) else .o (pthF f (n / 2 - 1))
def pth (n : Nat) : Pth := pthF n n

inductive Tr (α : Type) where
  | nil
  | node (l : Tr α) (v : Option α) (r : Tr α)

def Tr.getP {α : Type} (t : Tr α) : Pth → Option α :=
  Tr.rec (fun _ => none) (fun _ v _ gl gr p => Pth.rec v (fun q _ => gr q) (fun q _ => gl q) p) t
def Tr.putP {α : Type} (x : Option α) (p : Pth) : Tr α → Tr α :=
  Pth.rec (fun t => Tr.rec (.node .nil x .nil) (fun l _ r _ _ => .node l x r) t)
    (fun _ ih t => Tr.rec (.node .nil none (ih .nil)) (fun l v r _ _ => .node l v (ih r)) t)
    (fun _ ih t => Tr.rec (.node (ih .nil) none .nil) (fun l v r _ _ => .node (ih l) v r) t) p
def Tr.get {α : Type} (t : Tr α) (i : Nat) : Option α := t.getP (pth i)
def Tr.put {α : Type} (t : Tr α) (i : Nat) (x : Option α) : Tr α := t.putP x (pth i)

/-! ### Numbers that are worked out on the spot -/
def forceN {α : Type} (n : Nat) (f : Nat → α) : α := Nat.rec (f 0) (fun k _ => f (k + 1)) n
def forceI {α : Type} (n : Int) (f : Int → α) : α := Int.rec (fun a => forceN a fun a => f (.ofNat a)) (fun a => forceN a fun a => f (.negSucc a)) n

/-! ### The heap -/
inductive Blk where
  | cells (cs : List Value) (e : TypeId) (rw : Bool)
  | map (es : List (Value × Value))

structure Heap where
  next : Nat
  tr : Tr Blk

def Heap.at (h : Heap) (b : Nat) : Option Blk := h.tr.get b
def Heap.set (h : Heap) (b : Nat) (x : Option Blk) : Heap := ⟨h.next, h.tr.put b x⟩
def Heap.new (h : Heap) (x : Blk) : Heap := ⟨h.next + 1, h.tr.put h.next (some x)⟩

abbrev Env := Tr Value
def Env.g (e : Env) (i : Nat) : Value := (Tr.get e i).getD undef
def Env.s (e : Env) (i : Nat) (v : Value) : Env := Tr.put e i (some v)

def rep (n : Nat) (v : Value) (l : List Value) : List Value := Nat.rec l (fun _ r => v :: r) n
/-- A list by its runs. -/
def rl : List (Nat × Value) → List Value
  | [] => []
  | (n, v) :: r => rep n v (rl r)

/-- Numbers by their runs. -/
def rn : List (Nat × Nat) → List Nat
  | [] => []
  | (n, v) :: r => List.replicate n v ++ rn r

/-! ### The code that is run -/
inductive Opd where
  | t (n : Nat)
  | k (v : Value)

inductive Ins where
  | mov (x : Opd)
  | pick (c a b : Opd)
  | alloc (e : TypeId) (zs : List Value)
  | box (e : TypeId) (sz : Nat) (x : Opd)
  | build (zs : List Value) (parts : List (Nat × Nat × Opd))
  | bslice (e : TypeId) (len : Nat) (zs : List Value) (parts : List (Nat × Nat × Opd))
  | load (a : Opd)
  | loadn (n : Nat) (a : Opd)
  | store (n : Nat) (a x : Opd)
  | nilchk (x : Opd)
  | bin (op : BinOp) (x y : Opd)
  | eqc (k : Nat) (neg : Bool) (x y : Opd)
  | eqa (ks : List Nat) (neg : Bool) (x y : Opd)
  | un (op : UnOp) (x : Opd)
  | conv (k : IntKind) (x : Opd)
  | convs (x : Opd)
  | b2s (x : Opd)
  | slc (e : TypeId) (sz : Nat) (x : Opd) (lo hi mx : Option Opd)
  | sls (x : Opd) (lo hi : Option Opd)
  | sla (n sz : Nat) (x : Opd) (lo hi mx : Option Opd)
  | fadr (off : Nat) (x : Opd)
  | ixs (sz : Nat) (x i : Opd)
  | ixa (n sz : Nat) (x i : Opd)
  | fld (off : Nat) (n : Option Nat) (x : Opd)
  | ixg (len sz : Nat) (agg : Bool) (x i : Opd)
  | ixt (x i : Opd)
  | lens (x : Opd)
  | lent (x : Opd)
  | lenm (x : Opd)
  | caps (x : Opd)
  | minmax (max : Bool) (xs : List Opd)
  | app (e : TypeId) (sz bytes : Nat) (x y : Opd)
  | mks (e : TypeId) (sz bytes : Nat) (zs : List Value) (l c : Opd)
  | mkm
  | look (ag : Bool) (ks : List Nat) (zero : Value) (ok : Bool) (m k : Opd)
  | mset (ag : Bool) (ks : List Nat) (m k v : Opd)
  | ment (ag : Bool) (ks : List Nat) (zero : Value) (m k : Opd)
  | mst (m s v : Opd)
  | ext (i : Nat) (x : Opd)
  | call (f : Nat) (args : List Opd)
  | calld (x : Opd) (args : List Opd)
  | mkf (fn : Fn) (first captured : List Opd)
  | mki (t : TypeId) (x : Opd)
  | cpy (sz : Nat) (x y : Opd)
  | fail

structure GI where
  dst : Option Nat
  g : Option (Nat × Bool)
  ins : Ins

/-- 'regd': a region whose order is open; the pairs: a reading operation, and one that writes or calls, neither of which waits for the other. -/
inductive AC where
  | skip
  | reg (l : List GI)
  | regd (l : List GI) (ps : List (Nat × Nat))
  | seq (a b : AC)
  | cond (c : Opd) (a b : AC)
  | block (id : Nat) (a : AC)
  | loop (a : AC)
  | exit (id : Nat)
  | ret

inductive Ex where
  | normal
  | exit (id : Nat)
  | ret

/-! ### What the operations do -/
def Opd.v : Opd → Env → Value
  | .t n => fun e => e.g n
  | .k v => fun _ => v

def ltI : Int → Int → Bool
  | .ofNat a => fun y => Int.rec (fun b => Nat.blt a b) (fun _ => false) y
  | .negSucc a => fun y => Int.rec (fun _ => true) (fun b => Nat.blt b a) y
def eqI : Int → Int → Bool
  | .ofNat a => fun y => Int.rec (fun b => Nat.beq a b) (fun _ => false) y
  | .negSucc a => fun y => Int.rec (fun _ => false) (fun b => Nat.beq a b) y

/-- Does a kind hold a number? -/
def fitsK : IntKind → Int → Bool
  | .i64 => fun n => Int.rec (fun a => Nat.blt a 9223372036854775808) (fun a => Nat.blt a 9223372036854775808) n
  | .u64 => fun n => Int.rec (fun a => Nat.blt a 18446744073709551616) (fun _ => false) n
  | .i32 => fun n => Int.rec (fun a => Nat.blt a 2147483648) (fun a => Nat.blt a 2147483648) n
  | .u32 => fun n => Int.rec (fun a => Nat.blt a 4294967296) (fun _ => false) n
  | .u8 => fun n => Int.rec (fun a => Nat.blt a 256) (fun _ => false) n
  | _ => fun _ => false
def wrapK (k : IntKind) (n : Int) : Int := bif fitsK k n then n else k.wrap n

def bitsI (k : IntKind) (f : Nat → Nat → Nat) (g : BitVec k.bits → BitVec k.bits → BitVec k.bits) (x y : Int) : Value :=
  bif fitsK k x && fitsK k y then Int.rec (fun a => Int.rec (fun b => .int k (.ofNat (f a b))) (fun _ => .int k (k.wrap (g (BitVec.ofInt k.bits x) (BitVec.ofInt k.bits y)).toNat)) y)
    (fun _ => .int k (k.wrap (g (BitVec.ofInt k.bits x) (BitVec.ofInt k.bits y)).toNat)) x
  else .int k (k.wrap (g (BitVec.ofInt k.bits x) (BitVec.ofInt k.bits y)).toNat)

def binI : BinOp → IntKind → Int → Int → Option Value
  | .add => fun k x y => some (.int k (wrapK k (Int.add x y)))
  | .sub => fun k x y => some (.int k (wrapK k (Int.sub x y)))
  | .mul => fun k x y => some (.int k (wrapK k (Int.mul x y)))
  | .quo => fun k x y => bif eqI y 0 then none else some (.int k (wrapK k (x.tdiv y)))
  | .rem => fun k x y => bif eqI y 0 then none else some (.int k (x.tmod y))
  | .and => fun k x y => some (bitsI k Nat.land (· &&& ·) x y)
  | .or => fun k x y => some (bitsI k Nat.lor (· ||| ·) x y)
  | .xor => fun k x y => some (bitsI k Nat.xor (· ^^^ ·) x y)
  | .andNot => fun k x y => some (.int k (k.wrap (BitVec.ofInt k.bits x &&& ~~~(BitVec.ofInt k.bits y)).toNat))
  | .eql => fun _ x y => some (.bool (eqI x y))
  | .neq => fun _ x y => some (.bool (!(eqI x y)))
  | .lss => fun _ x y => some (.bool (ltI x y))
  | .leq => fun _ x y => some (.bool (!(ltI y x)))
  | .gtr => fun _ x y => some (.bool (ltI y x))
  | .geq => fun _ x y => some (.bool (!(ltI x y)))
  | _ => fun _ _ _ => none

def shiftI : BinOp → IntKind → Int → Int → Option Value
  | .shl => fun k x y => bif ltI y 0 then none else some (.int k (wrapK k (Int.mul x (.ofNat (Nat.pow 2 (min y.toNat k.bits))))))
  | .shr => fun k x y => bif ltI y 0 then none else some (.int k (Int.rec (fun a => .ofNat (Nat.shiftRight a (min y.toNat k.bits))) (fun _ => x.fdiv (2 ^ (min y.toNat k.bits))) x))
  | _ => fun _ _ _ => none

def isShift : BinOp → Bool
  | .shl => true
  | .shr => true
  | _ => false

def kindN : IntKind → Nat
  | .i8 => 0 | .i16 => 1 | .i32 => 2 | .i64 => 3 | .u8 => 4 | .u16 => 5 | .u32 => 6 | .u64 => 7
def sameKind (a b : IntKind) : Bool := Nat.beq (kindN a) (kindN b)

def eqBytes (a : List UInt8) : List UInt8 → Bool :=
  List.rec (fun l => List.rec true (fun _ _ _ => false) l) (fun x _ ih l => List.rec false (fun y ys _ => bif Nat.beq x.toNat y.toNat then ih ys else false) l) a
def ltBytes (a : List UInt8) : List UInt8 → Bool :=
  List.rec (fun l => List.rec false (fun _ _ _ => true) l) (fun x _ ih l => List.rec false (fun y ys _ => bif Nat.blt x.toNat y.toNat then true else bif Nat.beq x.toNat y.toNat then ih ys else false) l) a

def strOp : BinOp → ByteArray → ByteArray → Option Value
  | .add => fun a b => bif Nat.ble (a.data.toList.length + b.data.toList.length) 9223372036854775807 then some (.string ⟨⟨a.data.toList ++ b.data.toList⟩⟩) else none
  | .eql => fun a b => some (.bool (eqBytes a.data.toList b.data.toList))
  | .neq => fun a b => some (.bool (!(eqBytes a.data.toList b.data.toList)))
  | .lss => fun a b => some (.bool (ltBytes a.data.toList b.data.toList))
  | .leq => fun a b => some (.bool (!(ltBytes b.data.toList a.data.toList)))
  | .gtr => fun a b => some (.bool (ltBytes b.data.toList a.data.toList))
  | .geq => fun a b => some (.bool (!(ltBytes a.data.toList b.data.toList)))
  | _ => fun _ _ => none

/-- A capacity of which only the least value is known. -/
def capLB (c : Nat) : Value := .complex .f64 c 0

def binV (op : BinOp) (x y : Value) : Option Value :=
  match x, y with
  | .int k a, .int k' b => bif isShift op then shiftI op k a b else bif sameKind k k' then binI op k a b else none
  | .complex .f64 c _, .int .i64 b => match op with
    | .lss => bif ltI (.ofNat c) b then none else some (.bool false)
    | _ => none
  | .string a, .string b => strOp op a b
  | _, _ => none

/-- Two cells of one kind: 0 bools, 1 pointers, 2 interface values (one of them is the constant nil), 3 slices, 4 maps, 5 functions. -/
def eqC (k : Nat) (x y : Value) : Option Bool :=
  match k, x, y with
  | 0, .bool a, .bool b => some (a == b)
  | 1, .pointer none, .pointer b => some b.isNone
  | 1, .pointer _, .pointer none => some false
  | 2, .nilIface, .nilIface => some true
  | 2, .nilIface, .iface _ _ => some false
  | 2, .iface _ _, .nilIface => some false
  | 3, .slice none _ _, .slice b _ _ => some b.isNone
  | 3, .slice _ _ _, .slice none _ _ => some false
  | 4, .map none, .map b => some b.isNone
  | 4, .map _, .map none => some false
  | 5, .nilFunc, .nilFunc => some true
  | 5, .nilFunc, .func _ _ _ => some false
  | 5, .func _ _ _, .nilFunc => some false
  | _, _, _ => none

/-- Two cells that hold plain data: 0 bools, 1 whole numbers, 2 strings. -/
def eqP (k : Nat) (x y : Value) : Option Bool :=
  match k, x, y with
  | 0, .bool a, .bool b => some (a == b)
  | 1, .int k a, .int k' b => bif sameKind k k' then some (eqI a b) else none
  | 2, .string a, .string b => some (eqBytes a.data.toList b.data.toList)
  | _, _, _ => none

def eqL : List Nat → List Value → List Value → Option Bool
  | [], [], [] => some true
  | k :: ks, x :: xs, y :: ys => match eqP k x y with
    | some b => match eqL ks xs ys with
      | some c => some (b && c)
      | none => none
    | none => none
  | _, _, _ => none

def unV (op : UnOp) (x : Value) : Option Value :=
  match op, x with
  | .neg, .int k n => some (.int k (wrapK k (Int.sub 0 n)))
  | .xor, .int k n => some (.int k (k.wrap (BitVec.ofInt k.bits (if k.signed then -1 else k.max) ^^^ BitVec.ofInt k.bits n).toNat))
  | .not, .bool b => some (.bool !b)
  | _, _ => none

def isAggV : Value → Bool
  | .agg _ => true
  | .tuple _ => true
  | _ => false

/-- The cells of a value that has so many. -/
def cellsN (n : Nat) (v : Value) : Option (List Value) :=
  match v with
  | .agg cs => bif Nat.beq cs.toList.length n then some cs.toList else none
  | .tuple _ => none
  | v => bif Nat.beq n 1 then some [v] else none

def dropR (l : List Value) : Nat → List Value :=
  List.rec (fun _ => []) (fun x xs ih n => Nat.rec (x :: xs) (fun m _ => ih m) n) l
def optCons (x : Value) (l : Option (List Value)) : Option (List Value) := Option.rec none (fun l => some (x :: l)) l
def takeN (n : Nat) : List Value → Option (List Value) :=
  Nat.rec (fun _ => some []) (fun _ ih l => List.rec none (fun x xs _ => optCons x (ih xs)) l) n

/-- n cells from an offset on; none: they are not all there. -/
def cut (cs : List Value) (off n : Nat) : Option (List Value) := takeN n (dropR cs off)

def setAt (cs : List Value) : Nat → List Value → Option (List Value) :=
  List.rec (fun _ vs => List.rec (some []) (fun _ _ _ => none) vs)
    (fun c cs ih i vs => Nat.rec (List.rec (some (c :: cs)) (fun v vs' _ => optCons v (ih 0 vs')) vs) (fun m _ => optCons c (ih m vs)) i) cs

def fillP (e : Env) : List Value → List (Nat × Nat × Opd) → Option (List Value)
  | zs, [] => some zs
  | zs, (off, sz, x) :: r => match cellsN sz (x.v e) with
    | some cs => match setAt zs off cs with
      | some zs' => fillP e zs' r
      | none => none
    | none => none

def repL (zs : List Value) (n : Nat) : List Value := Nat.rec [] (fun _ r => zs ++ r) n

def rdB (off n : Nat) : Option Blk → Option (List Value)
  | some (.cells cs _ _) => cut cs off n
  | _ => none
def rdCells (h : Heap) (a : Addr) (n : Nat) : Option (List Value) := rdB a.off n (h.at a.block)

/-- Is each value one cell? -/
def allOne (l : List Value) : Bool := List.rec true (fun x _ r => bif isAggV x then false else r) l

/-- Cells of a block that may be written. -/
def wrB (h : Heap) (b off : Nat) (vs : List Value) : Option Blk → Option Heap
  | some (.cells cs e true) => bif allOne vs then match setAt cs off vs with
    | some cs' => some (h.set b (some (.cells cs' e true)))
    | none => none else none
  | _ => none
def wrCells (h : Heap) (a : Addr) (vs : List Value) : Option Heap := wrB h a.block a.off vs (h.at a.block)

def bytesOf (s : ByteArray) : List Value := s.data.toList.map fun b => .int .u8 b.toNat

def strOf : List Value → Option (List UInt8)
  | [] => some []
  | .int .u8 n :: r => match strOf r with
    | some l => some (UInt8.ofNat n.toNat :: l)
    | none => none
  | _ => none

/-- Where an address goes. -/
def movA (a : Addr) (n : Nat) : Addr := bif Nat.beq n 0 then a else ⟨a.block, a.off + n, a.spot⟩

/-- An index that is in range. -/
def ix : Int → Nat → Option Nat
  | .ofNat a => fun n => bif Nat.blt a n then some a else none
  | .negSucc _ => fun _ => none

def bound (x : Option Value) (y dflt : Nat) : Option Nat :=
  match x with
  | none => some dflt
  | some (.int _ i) => ix i (y + 1)
  | some _ => none

def bounds (len cap : Nat) (lo hi mx : Option Value) : Option (Nat × Nat × Nat) :=
  match bound mx cap cap with
  | none => none
  | some m => match bound hi m len with
    | none => none
    | some h => match bound lo h 0 with
      | none => none
      | some l => some (l, h, m)

/-- Are the elements of a block of this type? (Asked where the capacity isn't known.) -/
def sameE (h : Heap) (e : TypeId) (a : Addr) : Bool := match a.spot with
  | some _ => true
  | none => match h.at a.block with
    | some (.cells _ e' _) => Nat.beq e e'
    | _ => false

def sliceV (h : Heap) (e : TypeId) (sz : Nat) (x : Value) (lo hi mx : Option Value) : Option Value :=
  match x with
  | .slice none 0 0 => match bounds 0 0 lo hi mx with
    | some (0, 0, 0) => some (.slice none 0 0)
    | _ => none
  | .slice (some a) len cap => match bounds len cap lo hi mx with
    | some (l, k, m) => bif Nat.ble l k && Nat.ble k m && sameE h e a then
        some (.slice (some ⟨a.block, a.off + l * sz, match mx with | none => a.spot | some _ => some 0⟩) (k - l) (m - l)) else none
    | none => none
  | _ => none

def sliceS (x : Value) (lo hi : Option Value) : Option Value :=
  match x with
  | .string s => match bounds s.data.toList.length s.data.toList.length lo hi none with
    | some (l, h, _) => some (.string ⟨⟨(s.data.toList.drop l).take (h - l)⟩⟩)
    | none => none
  | _ => none

def sliceA (n sz : Nat) (x : Value) (lo hi mx : Option Value) : Option Value :=
  match x with
  | .pointer (some a) => match bounds n n lo hi mx with
    | some (l, h, m) => bif Nat.ble l h && Nat.ble h m then some (.slice (some ⟨a.block, a.off + l * sz, some 0⟩) (h - l) (m - l)) else none
    | none => none
  | _ => none

def mm2 (mx : Bool) (x y : Value) : Option Value :=
  match x, y with
  | .int k a, .int k' b => bif sameKind k k' then some (.int k (bif mx then (bif ltI a b then b else a) else (bif ltI b a then b else a))) else none
  | _, _ => none

def mmL (mx : Bool) : Value → List Value → Option Value
  | x, [] => some x
  | x, y :: r => match mm2 mx x y with
    | some z => mmL mx z r
    | none => none

def keyEq (ag : Bool) (ks : List Nat) (x y : Value) : Option Bool :=
  bif ag then (match x, y with
    | .agg a, .agg b => eqL ks a.toList b.toList
    | _, _ => none) else (match ks with
    | [k] => eqP k x y
    | _ => none)

/-- Has a key its type's form? -/
def keyOk (ag : Bool) (ks : List Nat) (k : Value) : Bool :=
  bif ag then (match k with
    | .agg a => Nat.beq a.toList.length ks.length
    | _ => false) else true

def findK (ag : Bool) (ks : List Nat) (k : Value) : List (Value × Value) → Nat → Option (Option (Nat × Value))
  | [], _ => bif keyOk ag ks k then some none else none
  | (k', v) :: r, i => match keyEq ag ks k k' with
    | some true => some (some (i, v))
    | some false => findK ag ks k r (i + 1)
    | none => none

def setK : List (Value × Value) → Nat → Value → List (Value × Value)
  | [], _, _ => []
  | (k, _) :: r, 0, v => (k, v) :: r
  | x :: r, i + 1, v => x :: setK r i v

def limB : Nat := 140737488355328

/-- The cells that are appended, and how many elements. -/
def appNew (h : Heap) (sz : Nat) (y : Value) : Option (List Value × Nat) := match y with
  | .slice none 0 0 => some ([], 0)
  | .slice (some a) m _ => match rdCells h a (m * sz) with
    | some l => bif allOne l then some (l, m) else none
    | none => none
  | .string s => bif Nat.beq sz 1 then some (bytesOf s, s.data.toList.length) else none
  | _ => none

/-- A slice that grows beyond what is known of its capacity: the old block is given up, if it may be that one. -/
def appGrow (h : Heap) (e : TypeId) (a : Addr) (need : Nat) (cs : List Value) : Option (Value × Heap) := match a.spot with
  | some _ => some (.slice (some ⟨h.next, 0, none⟩) need need, h.new (.cells cs e true))
  | none => match h.at a.block with
    | some (.cells _ e' true) => bif Nat.beq e e' then some (.slice (some ⟨h.next, 0, none⟩) need need, (h.set a.block none).new (.cells cs e true)) else none
    | _ => none

/-- append -/
def appV (h : Heap) (e : TypeId) (sz bytes : Nat) (x y : Value) : Option (Value × Heap) :=
  match appNew h sz y with
  | none => none
  | some (new, m) =>
    match x with
    | .slice none 0 0 =>
      bif Nat.beq m 0 then some (.slice none 0 0, h)
      else bif Nat.ble (m * (bytes + 1)) limB then some (.slice (some ⟨h.next, 0, none⟩) m m, h.new (.cells new e true)) else none
    | .slice (some a) n c =>
      bif Nat.ble (n + m) c then
        bif Nat.beq m 0 then some (.slice (some a) n c, h)
        else match wrCells h ⟨a.block, a.off + n * sz, none⟩ new with
          | some h' => some (.slice (some a) (n + m) c, h')
          | none => none
      else bif Nat.ble ((n + m) * (bytes + 1)) limB then
        match rdCells h a (n * sz) with
        | none => none
        | some old => appGrow h e a (n + m) (old ++ new)
      else none
    | _ => none

/-- copy -/
def cpyNew (h : Heap) (sz n : Nat) (y : Value) : Option (List Value × Nat) := match y with
  | .slice none 0 0 => some ([], 0)
  | .slice (some b) m _ => match rdCells h b (min m n * sz) with
    | some l => some (l, min m n)
    | none => none
  | .string s => some ((bytesOf s).take (min s.data.toList.length n), min s.data.toList.length n)
  | _ => none

def copyV (h : Heap) (sz : Nat) (x y : Value) : Option (Value × Heap) :=
  match x with
  | .slice none 0 0 => (match y with
    | .slice _ _ _ => some (.int .i64 0, h)
    | .string _ => some (.int .i64 0, h)
    | _ => none)
  | .slice (some a) n _ =>
    match cpyNew h sz n y with
    | none => none
    | some (new, m) => bif Nat.beq m 0 then some (.int .i64 0, h) else match wrCells h a new with
      | some h' => some (.int .i64 m, h')
      | none => none
  | _ => none

def partV (cs : List Value) (off : Nat) (n : Option Nat) : Option Value :=
  match n with
  | some n => match cut cs off n with
    | some l => some (.agg ⟨l⟩)
    | none => none
  | none => match cut cs off 1 with
    | some [v] => some v
    | _ => none

abbrev R := Option (Value × Heap)
def ret (h : Heap) (v : Option Value) : R := Option.rec none (fun v => some (v, h)) v
def iPick : Value → Value → Value → Heap → R
  | .bool t => fun a b h => some (bif t then a else b, h)
  | _ => fun _ _ _ => none
def newPtr (t : TypeId) (cs : List Value) (h : Heap) : R := some (.pointer (some ⟨h.next, 0, none⟩), h.new (.cells cs t true))
def iBox (t : TypeId) (sz : Nat) (x : Value) (h : Heap) : R := match cellsN sz x with
  | some cs => newPtr t cs h
  | none => none
def iBuild (e : Env) (zs : List Value) (ps : List (Nat × Nat × Opd)) (h : Heap) : R := match fillP e zs ps with
  | some cs => some (.agg ⟨cs⟩, h)
  | none => none
def iBslice (e : Env) (t : TypeId) (len : Nat) (zs : List Value) (ps : List (Nat × Nat × Opd)) (h : Heap) : R := match fillP e zs ps with
  | some cs => some (.slice (some ⟨h.next, 0, none⟩) len len, h.new (.cells cs t true))
  | none => none
def one (h : Heap) : Option (List Value) → R
  | some [v] => some (v, h)
  | _ => none
def aggR (h : Heap) : Option (List Value) → R
  | some l => some (.agg ⟨l⟩, h)
  | none => none
def iLoad : Value → Heap → R
  | .pointer (some a) => fun h => one h (rdCells h a 1)
  | _ => fun _ => none
def iLoadn : Value → Nat → Heap → R
  | .pointer (some a) => fun n h => aggR h (rdCells h a n)
  | _ => fun _ _ => none
def iStore (n : Nat) (a x : Value) (h : Heap) : R := match a with
  | .pointer (some a) => match cellsN n x with
    | some cs => match wrCells h a cs with
      | some h' => some (undef, h')
      | none => none
    | none => none
  | _ => none
def iNilchk : Value → Heap → R
  | .pointer none => fun _ => none
  | .pointer (some a) => fun h => some (.pointer (some a), h)
  | .func (.func f) a b => fun h => some (.func (.func f) a b, h)
  | _ => fun _ => none
def iEqc (k : Nat) (neg : Bool) (x y : Value) (h : Heap) : R := match eqC k x y with
  | some b => some (.bool (bif neg then !b else b), h)
  | none => none
def iEqa (ks : List Nat) (neg : Bool) (x y : Value) (h : Heap) : R := match x, y with
  | .agg a, .agg b => match eqL ks a.toList b.toList with
    | some c => some (.bool (bif neg then !c else c), h)
    | none => none
  | _, _ => none
def iConv (k : IntKind) (x : Value) (h : Heap) : R := match x with
  | .int _ n => some (.int k (wrapK k n), h)
  | _ => none
def iConvs (x : Value) (h : Heap) : R := match x with
  | .string s => some (.string s, h)
  | _ => none
def iB2s (x : Value) (h : Heap) : R := match x with
  | .slice none 0 0 => some (.string ⟨⟨[]⟩⟩, h)
  | .slice (some a) n _ => match rdCells h a n with
    | some l => match strOf l with
      | some s => some (.string ⟨⟨s⟩⟩, h)
      | none => none
    | none => none
  | _ => none
def iFadr : Value → Nat → Heap → R
  | .pointer (some a) => fun off h => some (.pointer (some (movA a off)), h)
  | _ => fun _ _ => none
def iIxs (sz : Nat) (x i : Value) (h : Heap) : R := match x, i with
  | .slice (some a) len _, .int _ i => match ix i len with
    | some j => some (.pointer (some (movA ⟨a.block, a.off, none⟩ (j * sz))), h)
    | none => none
  | _, _ => none
def iIxa (n sz : Nat) (x i : Value) (h : Heap) : R := match x, i with
  | .pointer (some a), .int _ i => match ix i n with
    | some j => some (.pointer (some (movA a (j * sz))), h)
    | none => none
  | _, _ => none
def iFld (off : Nat) (n : Option Nat) (x : Value) (h : Heap) : R := match x with
  | .agg cs => ret h (partV cs.toList off n)
  | _ => none
def iIxg (len sz : Nat) (ag : Bool) (x i : Value) (h : Heap) : R := match x, i with
  | .agg cs, .int _ i => match ix i len with
    | some j => ret h (partV cs.toList (j * sz) (bif ag then some sz else none))
    | none => none
  | _, _ => none
def iIxt (x i : Value) (h : Heap) : R := match x, i with
  | .string s, .int _ i => match ix i s.data.toList.length with
    | some j => match s.data.toList[j]? with
      | some b => some (.int .u8 b.toNat, h)
      | none => none
    | none => none
  | _, _ => none
def iLens : Value → Heap → R
  | .slice _ n _ => fun h => some (.int .i64 n, h)
  | _ => fun _ => none
def iLent : Value → Heap → R
  | .string s => fun h => some (.int .i64 s.data.toList.length, h)
  | _ => fun _ => none
def iLenm (x : Value) (h : Heap) : R := match x with
  | .map none => some (.int .i64 0, h)
  | .map (some r) => match h.at r with
    | some (.map es) => some (.int .i64 es.length, h)
    | _ => none
  | _ => none
def iCaps (x : Value) (h : Heap) : R := match x with
  | .slice none 0 0 => some (.int .i64 0, h)
  | .slice (some a) _ c => some (match a.spot with | some _ => .int .i64 c | none => capLB c, h)
  | _ => none
def iMinmax (mx : Bool) (xs : List Value) (h : Heap) : R := match xs with
  | [] => none
  | x :: r => ret h (mmL mx x r)
def iMks (t : TypeId) (sz bytes : Nat) (zs : List Value) (l c : Value) (h : Heap) : R := match l, c with
  | .int _ (.ofNat l), .int _ (.ofNat c) =>
    bif Nat.ble l c && Nat.ble (c * bytes) limB && Nat.ble c 9223372036854775807 then
      some (.slice (some ⟨h.next, 0, none⟩) l c, h.new (.cells (repL zs (bif Nat.beq sz 0 then 0 else c)) t true)) else none
  | _, _ => none
/-- A map's entries. -/
def mapE (m : Value) (h : Heap) : Option (List (Value × Value)) := match m with
  | .map none => some []
  | .map (some r) => match h.at r with
    | some (.map es) => some es
    | _ => none
  | _ => none
def iLook (ag : Bool) (ks : List Nat) (zero : Value) (ok : Bool) (m k : Value) (h : Heap) : R := match mapE m h with
  | none => none
  | some es => match findK ag ks k es 0 with
    | some (some (_, v)) => some (bif ok then .tuple ⟨[v, .bool true]⟩ else v, h)
    | some none => some (bif ok then .tuple ⟨[zero, .bool false]⟩ else zero, h)
    | none => none
def iMset (ag : Bool) (ks : List Nat) (m k v : Value) (h : Heap) : R := match m with
  | .map (some r) => match h.at r with
    | some (.map es) => match findK ag ks k es 0 with
      | some (some (i, _)) => some (undef, h.set r (some (.map (setK es i v))))
      | some none => some (undef, h.set r (some (.map (es ++ [(k, v)]))))
      | none => none
    | _ => none
  | _ => none
def iMent (ag : Bool) (ks : List Nat) (zero : Value) (m k : Value) (h : Heap) : R := match m with
  | .map (some r) => match h.at r with
    | some (.map es) => match findK ag ks k es 0 with
      | some (some (i, v)) => some (.tuple ⟨[v, .int .i64 i]⟩, h.set r (some (.map es)))
      | some none => some (.tuple ⟨[zero, .int .i64 es.length]⟩, h.set r (some (.map (es ++ [(k, zero)]))))
      | none => none
    | _ => none
  | _ => none
def iMst (m s v : Value) (h : Heap) : R := match m, s with
  | .map (some r), .int .i64 i => match h.at r with
    | some (.map es) => match ix i es.length with
      | some j => some (undef, h.set r (some (.map (setK es j v))))
      | none => none
    | _ => none
  | _, _ => none
def iExt (i : Nat) (x : Value) (h : Heap) : R := match x with
  | .tuple vs => match vs.toList[i]? with
    | some v => some (v, h)
    | none => none
  | _ => none

def vO (e : Env) (x : Option Opd) : Option Value := Option.rec none (fun x => some (x.v e)) x
def vL (e : Env) (l : List Opd) : List Value := List.rec [] (fun x _ r => x.v e :: r) l

/-- A function. -/
structure AF where
  body : AC
  results : List (Nat × Option (Option Nat))

structure Ev where
  f : Nat → List Value → Heap → R
  c : AC → Env → Heap → Option (Ex × Env × Heap)

def callD : Value → Ev → List Value → Heap → R
  | .func (.func f) first captured => fun ev args h => ev.f f (first.toList ++ args ++ captured.toList) h
  | _ => fun _ _ _ => none

def runI : Ins → Ev → Env → Heap → R
  | .mov x => fun _ e h => some (x.v e, h)
  | .pick c a b => fun _ e h => iPick (c.v e) (a.v e) (b.v e) h
  | .alloc t zs => fun _ _ h => newPtr t zs h
  | .box t sz x => fun _ e h => iBox t sz (x.v e) h
  | .build zs ps => fun _ e h => iBuild e zs ps h
  | .bslice t len zs ps => fun _ e h => iBslice e t len zs ps h
  | .load a => fun _ e h => iLoad (a.v e) h
  | .loadn n a => fun _ e h => iLoadn (a.v e) n h
  | .store n a x => fun _ e h => iStore n (a.v e) (x.v e) h
  | .nilchk x => fun _ e h => iNilchk (x.v e) h
  | .bin op x y => fun _ e h => ret h (binV op (x.v e) (y.v e))
  | .eqc k neg x y => fun _ e h => iEqc k neg (x.v e) (y.v e) h
  | .eqa ks neg x y => fun _ e h => iEqa ks neg (x.v e) (y.v e) h
  | .un op x => fun _ e h => ret h (unV op (x.v e))
  | .conv k x => fun _ e h => iConv k (x.v e) h
  | .convs x => fun _ e h => iConvs (x.v e) h
  | .b2s x => fun _ e h => iB2s (x.v e) h
  | .slc t sz x lo hi mx => fun _ e h => ret h (sliceV h t sz (x.v e) (vO e lo) (vO e hi) (vO e mx))
  | .sls x lo hi => fun _ e h => ret h (sliceS (x.v e) (vO e lo) (vO e hi))
  | .sla n sz x lo hi mx => fun _ e h => ret h (sliceA n sz (x.v e) (vO e lo) (vO e hi) (vO e mx))
  | .fadr off x => fun _ e h => iFadr (x.v e) off h
  | .ixs sz x i => fun _ e h => iIxs sz (x.v e) (i.v e) h
  | .ixa n sz x i => fun _ e h => iIxa n sz (x.v e) (i.v e) h
  | .fld off n x => fun _ e h => iFld off n (x.v e) h
  | .ixg len sz ag x i => fun _ e h => iIxg len sz ag (x.v e) (i.v e) h
  | .ixt x i => fun _ e h => iIxt (x.v e) (i.v e) h
  | .lens x => fun _ e h => iLens (x.v e) h
  | .lent x => fun _ e h => iLent (x.v e) h
  | .lenm x => fun _ e h => iLenm (x.v e) h
  | .caps x => fun _ e h => iCaps (x.v e) h
  | .minmax mx xs => fun _ e h => iMinmax mx (vL e xs) h
  | .app t sz bytes x y => fun _ e h => appV h t sz bytes (x.v e) (y.v e)
  | .mks t sz bytes zs l c => fun _ e h => iMks t sz bytes zs (l.v e) (c.v e) h
  | .mkm => fun _ _ h => some (.map (some h.next), h.new (.map []))
  | .look ag ks zero ok m k => fun _ e h => iLook ag ks zero ok (m.v e) (k.v e) h
  | .mset ag ks m k v => fun _ e h => iMset ag ks (m.v e) (k.v e) (v.v e) h
  | .ment ag ks zero m k => fun _ e h => iMent ag ks zero (m.v e) (k.v e) h
  | .mst m s v => fun _ e h => iMst (m.v e) (s.v e) (v.v e) h
  | .ext i x => fun _ e h => iExt i (x.v e) h
  | .call f args => fun ev e h => ev.f f (vL e args) h
  | .calld x args => fun ev e h => callD (x.v e) ev (vL e args) h
  | .mkf fn first captured => fun _ e h => some (.func fn ⟨vL e first⟩ ⟨vL e captured⟩, h)
  | .mki t x => fun _ e h => some (.iface t (x.v e), h)
  | .cpy sz x y => fun _ e h => copyV h sz (x.v e) (y.v e)
  | .fail => fun _ _ _ => none

def envOf (l : List Value) : Nat → Env → Env := List.rec (fun _ e => e) (fun v _ ih i e => ih (i + 1) (e.s i v)) l

def isB : Value → Bool → Bool
  | .bool b => fun want => b == want
  | _ => fun _ => false
def onG (g : Option (Nat × Bool)) (e : Env) : Bool := Option.rec true (fun p => isB (e.g p.1) p.2) g
def putD (e : Env) (d : Option Nat) (v : Value) : Env := Option.rec e (fun d => e.s d v) d

/-- A value whose numbers are worked out. -/
def forceV {α : Type} : Value → (Value → α) → α
  | .int k n => fun f => forceI n fun n => f (.int k n)
  | .pointer (some a) => fun f => forceN a.block fun b => forceN a.off fun o => f (.pointer (some ⟨b, o, a.spot⟩))
  | .slice (some a) n c => fun f => forceN a.block fun b => forceN a.off fun o => forceN n fun n => forceN c fun c => f (.slice (some ⟨b, o, a.spot⟩) n c)
  | v => fun f => f v

abbrev RE := Option (Env × Heap)
def runB1 (k : Env → Heap → RE) (d : Option Nat) (e : Env) (x : R) : RE := Option.rec none (fun p => forceV p.1 fun v => k (putD e d v) p.2) x
def runB (ev : Ev) (l : List GI) : Env → Heap → RE :=
  List.rec (fun e h => some (e, h)) (fun g _ k e h => bif onG g.g e then runB1 k g.dst e (runI g.ins ev e h) else k (putD e g.dst undef) h) l

/-- Are two values surely one? -/
def sameV (x y : Value) : Bool :=
  match x, y with
  | .int k a, .int k' b => sameKind k k' && eqI a b
  | .bool a, .bool b => a == b
  | .string a, .string b => eqBytes a.data.toList b.data.toList
  | .pointer none, .pointer none => true
  | .pointer (some a), .pointer (some b) => Nat.beq a.block b.block && Nat.beq a.off b.off && a.spot == b.spot
  | .slice none n c, .slice none n' c' => Nat.beq n n' && Nat.beq c c'
  | .slice (some a) n c, .slice (some b) n' c' => Nat.beq a.block b.block && Nat.beq a.off b.off && a.spot == b.spot && Nat.beq n n' && Nat.beq c c'
  | .map none, .map none => true
  | .map (some a), .map (some b) => Nat.beq a b
  | _, _ => false
def sameL (a : List Value) : List Value → Bool :=
  List.rec (fun l => List.rec true (fun _ _ _ => false) l) (fun x _ ih l => List.rec false (fun y ys _ => sameV x y && ih ys) l) a
def sameA (x y : Value) : Bool :=
  match x, y with
  | .agg a, .agg b => sameL a.toList b.toList
  | _, _ => sameV x y

/-- The heaps ahead of each operation, and behind the last one. -/
abbrev RT := Option (Env × Heap × List Heap)
def runT1 (k : Env → Heap → List Heap → RT) (d : Option Nat) (e : Env) (hs : List Heap) (x : R) : RT := Option.rec none (fun p => forceV p.1 fun v => k (putD e d v) p.2 (hs ++ [p.2])) x
def runT (ev : Ev) (l : List GI) : Env → Heap → List Heap → RT :=
  List.rec (fun e h hs => some (e, h, hs)) (fun g _ k e h hs => bif onG g.g e then runT1 k g.dst e hs (runI g.ins ev e h) else k (putD e g.dst undef) h (hs ++ [h])) l

/-- Operation p, carried out in another heap, yields what it did. -/
def stays (ev : Ev) (l : List GI) (e : Env) (p : Nat) (h : Option Heap) : Bool := match l[p]?, h with
  | some g, some h => bif onG g.g e then match g.dst with
    | some d => match runI g.ins ev e h with
      | some (v, _) => sameA v (e.g d)
      | none => false
    | none => false else true
  | _, _ => false
def staysAll (ev : Ev) (l : List GI) (e : Env) (hs : List Heap) : List (Nat × Nat) → Bool
  | [] => true
  | (p, q) :: r => stays ev l e p hs[q]? && stays ev l e p hs[q + 1]? && staysAll ev l e hs r
/-- No heap loses blocks' numbers. -/
def monoH : List Heap → Bool
  | [] => true
  | h :: r => (match r with
    | [] => true
    | h' :: _ => Nat.ble h.next h'.next) && monoH r
def runD (ev : Ev) (l : List GI) (ps : List (Nat × Nat)) (e : Env) (h : Heap) : RE := match runT ev l e h [h] with
  | some (e', h', hs) => bif monoH hs && staysAll ev l e' hs ps then some (e', h') else none
  | none => none

/-- A result: a slot, or what lies in memory behind it (n cells, or one). -/
def res1 (e : Env) (h : Heap) : Nat × Option (Option Nat) → Option Value
  | (t, none) => some (e.g t)
  | (t, some none) => match iLoad (e.g t) h with
    | some (v, _) => some v
    | none => none
  | (t, some (some n)) => match iLoadn (e.g t) n h with
    | some (v, _) => some v
    | none => none

def resL (e : Env) (h : Heap) : List (Nat × Option (Option Nat)) → Option (List Value)
  | [] => some []
  | x :: r => match res1 e h x with
    | some v => match resL e h r with
      | some l => some (v :: l)
      | none => none
    | none => none

def resV (e : Env) (h : Heap) (rs : List (Nat × Option (Option Nat))) : Option Value :=
  match resL e h rs with
  | some [v] => some v
  | some l => some (.tuple ⟨l⟩)
  | none => none

abbrev RC := Option (Ex × Env × Heap)
def fEnd (rs : List (Nat × Option (Option Nat))) (x : RC) : R := match x with
  | some (.normal, e, h') => ret h' (resV e h' rs)
  | some (.ret, e, h') => ret h' (resV e h' rs)
  | _ => none
def stepF (F : Nat → Option AF) (r : Ev) (n : Nat) (args : List Value) (h : Heap) : R := match F n with
  | some a => fEnd a.results (r.c a.body (envOf args 0 .nil) h)
  | none => none
def thenC (r : Ev) (b : AC) (x : RC) : RC := match x with
  | some (.normal, e', h') => r.c b e' h'
  | some (.exit i, e', h') => some (.exit i, e', h')
  | some (.ret, e', h') => some (.ret, e', h')
  | none => none
def condC : Value → Ev → AC → AC → Env → Heap → RC
  | .bool t => fun r a b e h => bif t then r.c a e h else r.c b e h
  | _ => fun _ _ _ _ _ => none
def blockC (id : Nat) (x : RC) : RC := match x with
  | some (.exit id', e', h') => bif Nat.beq id' id then some (.normal, e', h') else some (.exit id', e', h')
  | some (.normal, e', h') => some (.normal, e', h')
  | some (.ret, e', h') => some (.ret, e', h')
  | none => none
def regC (x : RE) : RC := Option.rec none (fun p => some (.normal, p.1, p.2)) x
def stepC (r : Ev) : AC → Env → Heap → RC
  | .skip => fun e h => some (.normal, e, h)
  | .reg l => fun e h => regC (runB r l e h)
  | .regd l ps => fun e h => regC (runD r l ps e h)
  | .seq a b => fun e h => thenC r b (r.c a e h)
  | .cond c a b => fun e h => condC (c.v e) r a b e h
  | .block id a => fun e h => blockC id (r.c a e h)
  | .loop a => fun e h => thenC r (.loop a) (r.c a e h)
  | .exit id => fun e h => some (.exit id, e, h)
  | .ret => fun e h => some (.ret, e, h)

/-- One step deeper. 'F': the functions. 'O': those that are told otherwise. -/
def stepE (F : Nat → Option AF) (O : Nat → Option (List Value → Heap → R)) (r : Ev) : Ev where
  f := fun n args h => match O n with
    | some s => s args h
    | none => stepF F r n args h
  c := stepC r

def evN (F : Nat → Option AF) (O : Nat → Option (List Value → Heap → R)) (n : Nat) : Ev := Nat.rec ⟨fun _ _ _ => none, fun _ _ _ => none⟩ (fun _ r => stepE F O r) n

end
end Go.Rx
