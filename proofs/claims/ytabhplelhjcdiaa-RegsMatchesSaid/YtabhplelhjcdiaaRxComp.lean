/- Out of the loaded program: the abstract machine's code. -/
import Derived.Test.YtabhplelhjcdiaaRxBase
import Derived.Orders
/- Out of the loaded program: the abstract machine's code. -/
namespace Go.Rx

def groundV : Value → Bool
  | .bool _ | .int _ _ | .string _ | .nilIface | .nilFunc | .pointer none | .map none | .slice none 0 0 => true
  | _ => false

def Opd.of : Operand → Option Opd
  | .tmp n => some (.t n)
  | .const v => if groundV v then some (.k v) else none
  | .func f => some (.k (.func (.func f) ⟨[]⟩ ⟨[]⟩))
  | .global _ => none

def opdO : Option Operand → Option (Option Opd)
  | none => some none
  | some x => (Opd.of x).map some

def opdL : List Operand → Option (List Opd)
  | [] => some []
  | x :: r => match Opd.of x, opdL r with
    | some y, some l => some (y :: l)
    | _, _ => none

def sizeO (P : Program) (t : TypeId) : Option Nat := match P.info? t with
  | some i => some i.size
  | none => none
def zero1 (P : Program) (t : TypeId) : Option Value := match P.info? t with
  | some i => match i.zero with
    | some v => if v.cells.toList.all groundV then some v else none
    | none => none
  | none => none
def zeroO (P : Program) (t : TypeId) : Option (List Value) := match zero1 P t with
  | some v => some v.cells.toList
  | none => none

def isAggB : TypeDesc → Bool
  | .struct _ | .array _ _ => true
  | _ => false

def aggO (P : Program) (t : TypeId) : Option Bool := match P.underlying t with
  | some d => some (isAggB d)
  | none => none

/-- The kinds of a type's cells, if all are bools (0), whole numbers (1), strings (2). -/
def leafF (lf : TypeId → Option (List Nat)) (P : Program) : List Field → Nat → Option (List Nat)
  | [], _ => some []
  | f :: r, off => if f.name != "_" && f.offset == off then (match lf f.type with
    | some l => if l.length == P.cellsOf f.type then (match leafF lf P r (off + l.length) with
      | some k => some (l ++ k)
      | none => none) else none
    | none => none) else none
def repN (n : Nat) (l : List Nat) : List Nat := match n with
  | 0 => []
  | n + 1 => l ++ repN n l
def leafs (P : Program) : Nat → TypeId → Option (List Nat)
  | 0, _ => none
  | d + 1, t => match P.underlying t with
    | some .bool => if P.cellsOf t == 1 then some [0] else none
    | some (.int _) => if P.cellsOf t == 1 then some [1] else none
    | some .string => if P.cellsOf t == 1 then some [2] else none
    | some (.struct fs) => if P.stoodInHeld t then none else (match leafF (leafs P d) P fs.toList 0 with
      | some l => if l.length == P.cellsOf t then some l else none
      | none => none)
    | some (.array n e) => (match leafs P d e with
      | some l => if l.length == P.cellsOf e && P.cellsOf t == n * P.cellsOf e then some (repN n l) else none
      | none => none)
    | _ => none

/-- Of a map's key: is it a struct or an array; its cells' kinds. -/
def keyO (P : Program) (t : TypeId) : Option (Bool × List Nat) := match aggO P t, leafs P 50 t with
  | some b, some l => some (b, l)
  | _, _ => none

/-- Which '==' serves: of types that are no structs, arrays, numbers, strings. -/
def eqKind (d : TypeDesc) (x y : Opd) : Option Nat := match d with
  | .bool => some 0
  | .pointer _ => some 1
  | .interface _ => (match x, y with
    | .k .nilIface, _ => some 2
    | _, .k .nilIface => some 2
    | _, _ => none)
  | .slice _ => some 3
  | .map _ _ => some 4
  | .func _ _ _ => some 5
  | _ => none

def partsO (place : Nat → Option (Nat × Nat)) : List (Nat × Operand) → Option (List (Nat × Nat × Opd))
  | [] => some []
  | (i, x) :: r => match place i, Opd.of x, partsO place r with
    | some (off, sz + 1), some y, some l => some ((off, sz + 1, y) :: l)
    | _, _, _ => none

def structPlaces (P : Program) : List Field → Option (List (Nat × Nat))
  | [] => some []
  | f :: r => match sizeO P f.type, structPlaces P r with
    | some s, some l => some ((f.offset, s) :: l)
    | _, _ => none

def insBin (P : Program) (op : BinOp) (t : TypeId) (x y : Opd) : Option Ins := match P.underlying t with
  | some (.int _) => some (.bin op x y)
  | some .string => some (.bin op x y)
  | some d => match op with
    | .eql => if isAggB d then (leafs P 50 t).map (fun l => .eqa l false x y) else (eqKind d x y).map (fun k => .eqc k false x y)
    | .neq => if isAggB d then (leafs P 50 t).map (fun l => .eqa l true x y) else (eqKind d x y).map (fun k => .eqc k true x y)
    | _ => none
  | none => none

def insConv (P : Program) (s d : TypeId) (x : Opd) : Option Ins := match P.underlying s, P.underlying d with
  | some (.int _), some (.int k) => some (.conv k x)
  | some .string, some .string => some (.convs x)
  | some (.slice e), some .string => (match P.underlying e with
    | some (.int .u8) => if P.cellsOf e == 1 then some (.b2s x) else none
    | _ => none)
  | _, _ => none

def insSlice (P : Program) (t : TypeId) (x : Opd) (lo hi mx : Option Opd) : Option Ins := if hi.isNone && mx.isSome then none else match P.underlying t with
  | some (.slice e) => match sizeO P e with
    | some n => some (.slc e n x lo hi mx)
    | none => none
  | some .string => (match mx with | none => some (.sls x lo hi) | _ => none)
  | some (.array n e) => match sizeO P e with
    | some s => some (.sla n s x lo hi mx)
    | none => none
  | _ => none

def insLen (P : Program) (t : TypeId) (x : Opd) : Option Ins := match P.underlying t with
  | some .string => some (.lent x)
  | some (.slice _) => some (.lens x)
  | some (.map _ _) => some (.lenm x)
  | some (.array n _) => some (.mov (.k (.int .i64 n)))
  | _ => none

def insBuiltin (P : Program) (b : Builtin) (ts : List TypeId) (as : List Opd) : Option Ins := match b, ts, as with
  | .len, [t], [x] => insLen P t x
  | .cap, [t], [x] => (match P.underlying t with
    | some (.slice _) => some (.caps x)
    | _ => none)
  | .append, [t, u], [x, y] => (match P.underlying t, P.underlying u with
    | some (.slice e), some (.slice _) => (match sizeO P e, zeroO P e with
      | some s, some zs => if zs.length == s && 0 < s then some (.app e s (P.bytesOf e) x y) else none
      | _, _ => none)
    | some (.slice e), some .string => (match P.underlying e, sizeO P e, zeroO P e with
      | some (.int .u8), some 1, some [_] => some (.app e 1 (P.bytesOf e) x y)
      | _, _, _ => none)
    | _, _ => none)
  | .copy, [t, _], [x, y] => (match P.underlying t with
    | some (.slice e) => (match sizeO P e with
      | some s => some (.cpy s x y)
      | none => none)
    | _ => none)
  | .panic, _, _ => some .fail
  | .max, _, xs => some (.minmax true xs)
  | .min, _, xs => some (.minmax false xs)
  | _, _, _ => none

def insCall (P : Program) (c : Call) : Option Ins := match opdL c.args.toList with
  | none => none
  | some as => match c.callee with
    | .value (.func f) => some (.call f as)
    | .value x => (match Opd.of x with
      | some x => some (.calld x as)
      | none => none)
    | .invoke _ _ => none
    | .builtin b => insBuiltin P b c.argTypes.toList as

def insOf (P : Program) (o : Op) : Option Ins :=
  match o with
  | .move x => (Opd.of x).map .mov
  | .assign x => (Opd.of x).map .mov
  | .pick c a b => match Opd.of c, Opd.of a, Opd.of b with
    | some c, some a, some b => some (.pick c a b)
    | _, _, _ => none
  | .alloc t => (zeroO P t).map (.alloc t)
  | .box t x => match sizeO P t, Opd.of x with
    | some n, some x => some (.box t n x)
    | _, _ => none
  | .build t ps => match zeroO P t, P.underlying t with
    | some zs, some (.struct fs) => (match structPlaces P fs.toList with
      | some pl => (partsO (fun i => pl[i]?) ps.toList).map (.build zs)
      | none => none)
    | some zs, some (.array _ e) => (match sizeO P e with
      | some s => (partsO (fun i => some (i * s, s)) ps.toList).map (.build zs)
      | none => none)
    | _, _ => none
  | .buildSlice t len ps => match P.underlying t with
    | some (.slice e) => match sizeO P e, zeroO P e with
      | some s, some zs => if len * s > 16777216 then none else if zs.length == s then (partsO (fun i => some (i * s, s)) ps.toList).map (.bslice e len (repL zs len)) else none
      | _, _ => none
    | _ => none
  | .load t a => match Opd.of a, aggO P t, sizeO P t with
    | some a, some true, some n => some (.loadn n a)
    | some a, some false, some _ => some (.load a)
    | _, _, _ => none
  | .store t a x => match sizeO P t, Opd.of a, Opd.of x with
    | some n, some a, some x => some (.store n a x)
    | _, _, _ => none
  | .nilCheck x => (Opd.of x).map .nilchk
  | .binOp op t x y _ => match Opd.of x, Opd.of y with
    | some x, some y => insBin P op t x y
    | _, _ => none
  | .unOp op _ x => (Opd.of x).map (.un op)
  | .convert s d x => match Opd.of x with
    | some x => insConv P s d x
    | none => none
  | .slice t x lo hi mx => match Opd.of x, opdO lo, opdO hi, opdO mx with
    | some x, some lo, some hi, some mx => insSlice P t x lo hi mx
    | _, _, _, _ => none
  | .fieldAddr t x f => match Opd.of x, P.underlying t with
    | some x, some (.struct fs) => (match fs[f]? with
      | some f => (match sizeO P f.type with
        | some (_ + 1) => some (.fadr f.offset x)
        | _ => none)
      | none => none)
    | _, _ => none
  | .field t x f => match Opd.of x, P.underlying t with
    | some x, some (.struct fs) => (match fs[f]? with
      | some f => (match aggO P f.type, sizeO P f.type with
        | some true, some n => some (.fld f.offset (some n) x)
        | some false, some _ => some (.fld f.offset none x)
        | _, _ => none)
      | none => none)
    | _, _ => none
  | .indexAddr t x i => match Opd.of x, Opd.of i, P.underlying t with
    | some x, some i, some (.slice e) => (sizeO P e).map fun s => .ixs s x i
    | some x, some i, some (.array n e) => (sizeO P e).map fun s => .ixa n s x i
    | _, _, _ => none
  | .index t x i => match Opd.of x, Opd.of i, P.underlying t with
    | some x, some i, some .string => some (.ixt x i)
    | some x, some i, some (.array n e) => (match aggO P e, sizeO P e with
      | some b, some s => some (.ixg n s b x i)
      | _, _ => none)
    | _, _, _ => none
  | .makeSlice t l c => match P.underlying t, Opd.of l, Opd.of c with
    | some (.slice e), some l, some c => (match sizeO P e, zeroO P e with
      | some s, some zs => if zs.length == s then some (.mks e s (P.bytesOf e) zs l c) else none
      | _, _ => none)
    | _, _, _ => none
  | .makeMap t none => match P.underlying t with
    | some (.map _ _) => some .mkm
    | _ => none
  | .lookup t m k ok => match P.underlying t, Opd.of m, Opd.of k with
    | some (.map kt e), some m, some k => (match keyO P kt, zero1 P e with
      | some (ag, ks), some z => some (.look ag ks z ok m k)
      | _, _ => none)
    | _, _, _ => none
  | .mapUpdate t m k x => match P.underlying t, Opd.of m, Opd.of k, Opd.of x with
    | some (.map kt _), some m, some k, some x => (keyO P kt).map fun p => .mset p.1 p.2 m k x
    | _, _, _, _ => none
  | .mapEntry t m k => match P.underlying t, Opd.of m, Opd.of k with
    | some (.map kt e), some m, some k => (match keyO P kt, zero1 P e with
      | some (ag, ks), some z => some (.ment ag ks z m k)
      | _, _ => none)
    | _, _, _ => none
  | .entryStore _ m s x => match Opd.of m, Opd.of s, Opd.of x with
    | some m, some s, some x => some (.mst m s x)
    | _, _, _ => none
  | .extract x i => (Opd.of x).map (.ext i)
  | .makeFunc fn first cap => match opdL first.toList, opdL cap.toList with
    | some a, some b => some (.mkf fn a b)
    | _, _ => none
  | .makeInterface t x => match P.underlying t, Opd.of x with
    | some (.interface _), _ => none
    | some _, some x => some (.mki t x)
    | _, _ => none
  | .panic _ => some .fail
  | .call c => insCall P c
  | _ => none

def giOf (P : Program) (nt : Nat) (ops : Array Oper) (o : Oper) : Option GI :=
  match insOf P o.op with
  | none => none
  | some i => match o.dst with
    | some d => if d < nt then (match o.guard with
      | none => some ⟨some d, none, i⟩
      | some (j, want) => (match (ops[j]?).bind (·.dst) with
        | some dj => some ⟨some d, some (dj, want), i⟩
        | none => none)) else none
    | none => match o.guard with
      | none => some ⟨none, none, i⟩
      | some (j, want) => (match (ops[j]?).bind (·.dst) with
        | some dj => some ⟨none, some (dj, want), i⟩
        | none => none)

def gisOf (P : Program) (nt : Nat) (ops : Array Oper) : List Oper → Option (List GI)
  | [] => some []
  | o :: r => match giOf P nt ops o, gisOf P nt ops r with
    | some g, some l => some (g :: l)
    | _, _ => none

/-- 0: no memory; 1: reads; 2: makes a block; 3: writes, or calls. -/
def Ins.sort : Ins → Nat
  | .load _ | .loadn _ _ | .b2s _ | .lenm _ | .look _ _ _ _ _ _ | .slc _ _ _ _ _ _ => 1
  | .alloc _ _ | .box _ _ _ | .bslice _ _ _ _ | .mks _ _ _ _ _ _ | .mkm => 2
  | .store _ _ _ | .app _ _ _ _ _ | .mset _ _ _ _ _ | .ment _ _ _ _ _ | .mst _ _ _ | .call _ _ | .calld _ _ | .cpy _ _ _ | .fail => 3
  | _ => 0

/-- The slots that an instruction looks at. -/
def Opd.uses : Opd → List Nat
  | .t n => [n]
  | .k _ => []
def usesO : Option Opd → List Nat
  | none => []
  | some x => x.uses
def usesL : List Opd → List Nat
  | [] => []
  | x :: r => x.uses ++ usesL r
def usesP : List (Nat × Nat × Opd) → List Nat
  | [] => []
  | (_, _, x) :: r => x.uses ++ usesP r
def Ins.uses : Ins → List Nat
  | .mov x => x.uses
  | .pick c a b => c.uses ++ (a.uses ++ b.uses)
  | .alloc _ _ => []
  | .box _ _ x => x.uses
  | .build _ ps => usesP ps
  | .bslice _ _ _ ps => usesP ps
  | .load a => a.uses
  | .loadn _ a => a.uses
  | .store _ a x => a.uses ++ x.uses
  | .nilchk x => x.uses
  | .bin _ x y => x.uses ++ y.uses
  | .eqc _ _ x y => x.uses ++ y.uses
  | .eqa _ _ x y => x.uses ++ y.uses
  | .un _ x => x.uses
  | .conv _ x => x.uses
  | .convs x => x.uses
  | .b2s x => x.uses
  | .slc _ _ x lo hi mx => x.uses ++ (usesO lo ++ (usesO hi ++ usesO mx))
  | .sls x lo hi => x.uses ++ (usesO lo ++ usesO hi)
  | .sla _ _ x lo hi mx => x.uses ++ (usesO lo ++ (usesO hi ++ usesO mx))
  | .fadr _ x => x.uses
  | .ixs _ x i => x.uses ++ i.uses
  | .ixa _ _ x i => x.uses ++ i.uses
  | .fld _ _ x => x.uses
  | .ixg _ _ _ x i => x.uses ++ i.uses
  | .ixt x i => x.uses ++ i.uses
  | .lens x => x.uses
  | .lent x => x.uses
  | .lenm x => x.uses
  | .caps x => x.uses
  | .minmax _ xs => usesL xs
  | .app _ _ _ x y => x.uses ++ y.uses
  | .mks _ _ _ _ l c => l.uses ++ c.uses
  | .mkm => []
  | .look _ _ _ _ m k => m.uses ++ k.uses
  | .mset _ _ m k v => m.uses ++ (k.uses ++ v.uses)
  | .ment _ _ _ m k => m.uses ++ k.uses
  | .mst m s v => m.uses ++ (s.uses ++ v.uses)
  | .ext _ x => x.uses
  | .call _ xs => usesL xs
  | .calld x xs => x.uses ++ usesL xs
  | .mkf _ xs ys => usesL xs ++ usesL ys
  | .mki _ x => x.uses
  | .cpy _ x y => x.uses ++ y.uses
  | .fail => []

/-- For each operation those that it waits for, directly and through others (a number's bits). -/
def waitFold (b : List Nat) (o : Oper) : Nat := o.after.toList.foldl (fun s e => if Region.binds .any e then s ||| (2 ^ e.on ||| b.getD e.on 0) else s) 0
def waitsOf (ops : List Oper) : List Nat := ops.foldl (fun (acc : List Nat) o => acc ++ [waitFold acc o]) []

def pairs (n : Nat) : List (Nat × Nat) := (List.range n).flatMap fun j => (List.range j).map fun i => (i, j)

/-- Does i come ahead of j in every order? -/
def waitB (b : List Nat) (i j : Nat) : Bool := (b.getD j 0).testBit i
def sortAt (gs : List GI) (i : Nat) : Nat := match gs[i]? with
  | some g => g.ins.sort
  | none => 9
def dstAt (ops : List Oper) (i : Nat) : Option Nat := match ops[i]? with
  | some o => o.dst
  | none => none
def looksAt (ops : List Oper) (i : Nat) : List Nat := match ops[i]? with
  | some o => o.looksAt ops.toArray
  | none => []
/-- Is a place's destination not among these? -/
def awayB (d : Option Nat) (l : List Nat) : Bool := match d with
  | some d => !(l.contains d)
  | none => true
def otherB (d d' : Option Nat) : Bool := match d with
  | some d => !(d' == some d)
  | none => true

def opOk (ops : List Oper) (gs : List GI) (b : List Nat) (j : Nat) : Bool := match ops[j]?, gs[j]? with
  | some o, some g => (b.getD j 0 == waitFold b o) && (o.after.toList.all fun e => !(Region.binds .any e) || decide (e.on < j)) && (g.ins.uses.all fun t => (o.looksAt ops.toArray).contains t)
  | _, _ => false
def pairOk (ops : List Oper) (gs : List GI) (b : List Nat) (p : Nat × Nat) : Bool :=
  otherB (dstAt ops p.1) (dstAt ops p.2) && (waitB b p.1 p.2 || (awayB (dstAt ops p.1) (looksAt ops p.2) && awayB (dstAt ops p.2) (looksAt ops p.1) && !((sortAt gs p.2 == 3) && decide (2 ≤ sortAt gs p.1))))
/-- The pairs to be looked at: one that reads, one that writes. -/
def pairsOf (gs : List GI) (b : List Nat) : List (Nat × Nat) → List (Nat × Nat)
  | [] => []
  | (i, j) :: r => if waitB b i j then pairsOf gs b r
    else if sortAt gs i == 1 && sortAt gs j == 3 then (i, j) :: pairsOf gs b r
    else if sortAt gs i == 3 && sortAt gs j == 1 then (j, i) :: pairsOf gs b r
    else pairsOf gs b r
def lateOk (ops : List Oper) (n : Nat) (p : Nat × Nat) : Bool := (List.range n).all fun i => decide (i < p.1) || awayB (dstAt ops i) (looksAt ops p.1)

/-- Of a region whose order is open: none, if it isn't of the form that is served; else the pairs to be looked at. -/
def drawnB (ops : List Oper) (gs : List GI) (b : List Nat) (ps : List (Nat × Nat)) : Bool :=
  (gs.length == ops.length) && ((List.range ops.length).all (opOk ops gs b)) && ((pairs ops.length).all (pairOk ops gs b)) && (ps.all (lateOk ops ops.length))
def drawn (ops : List Oper) (gs : List GI) : Option (List (Nat × Nat)) :=
  if drawnB ops gs (waitsOf ops) (pairsOf gs (waitsOf ops) (pairs ops.length)) then some (pairsOf gs (waitsOf ops) (pairs ops.length)) else none

def acOf (P : Program) (nt : Nat) : Code → Option AC
  | .skip => some .skip
  | .region _ ops draw => match gisOf P nt ops ops.toList with
    | some gs => if draw then (drawn ops.toList gs).map (.regd gs) else some (.reg gs)
    | none => none
  | .seq a b => match acOf P nt a, acOf P nt b with
    | some x, some y => some (.seq x y)
    | _, _ => none
  | .cond c a b => match Opd.of c, acOf P nt a, acOf P nt b with
    | some c, some x, some y => some (.cond c x y)
    | _, _, _ => none
  | .block id a => (acOf P nt a).map (.block id)
  | .loop a => (acOf P nt a).map .loop
  | .exit id => some (.exit id)
  | .ret => some .ret
  | _ => none

def resO (P : Program) : List ResultVar → Option (List (Nat × Option (Option Nat)))
  | [] => some []
  | .tmp t :: r => (resO P r).map ((t, none) :: ·)
  | .cell a t :: r => match aggO P t, sizeO P t, resO P r with
    | some true, some n, some l => some ((a, some (some n)) :: l)
    | some false, some _, some l => some ((a, some none) :: l)
    | _, _, _ => none

def afOf (P : Program) (n : Nat) : Option AF := match P.funcs[n]? with
  | some f => if f.name == "runtime.NumGoroutine" then none else match f.body with
    | some c => match acOf P f.ntmps c, resO P f.results.toList with
      | some a, some r => if f.params.size + f.nfree ≤ f.ntmps then some ⟨a, r⟩ else none
      | _, _ => none
    | none => none
  | none => none

end Go.Rx
