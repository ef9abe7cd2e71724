/- What the proof of this claim stands on, part 0. -/
import Derived.Calls
import Derived.Orders
import Derived.Tactics
set_option linter.unusedVariables false
set_option linter.unusedSimpArgs false
set_option maxRecDepth 8000
set_option maxHeartbeats 0
/- AM: an abstract machine over plain data: what a Go function's operations do, told without the memory's addresses, capacities and orders. Definitions alone. -/
namespace Go.AM

inductive D where
 | undef
 | int (k : IntKind) (n : Int)
 | bool (b : Bool)
 /-- a slice of length and capacity 0 -/
 | nil
 /-- a slice of length 0; is it nil? -/
 | zs (b : Bool)
 /-- a slice whose cells stay: the rows that are known, from its start on; its length -/
 | sl (rows : List (List D)) (len : Nat)
 /-- an address of cells that stay -/
 | mem (cs : List D)
 /-- a slice in one of the call's own blocks -/
 | ref (b off len : Nat)
 /-- an address in one of the call's own blocks: row, cell -/
 | ptr (b i j : Nat)
 | agg (cs : List D)
 | tup (vs : List D)
 | fn (f : Nat) (first caps : List D)
 deriving Inhabited

inductive Kind where
 | box | ibox | mut | app
 deriving DecidableEq, Inhabited
def Kind.isBox : Kind → Bool
 | .box => true
 | .ibox => true
 | _ => false
def Kind.down : Kind → Kind
 | .box => .ibox
 | .mut => .app
 | k => k

structure Blk where
 rows : List (List D)
 esz : Nat
 kind : Kind
 deriving Inhabited

mutual
def D.mapR (fr fp : Nat → Nat → Nat → D) : D → D
 | .ref b o l => fr b o l
 | .ptr b i j => fp b i j
 | .agg cs => .agg (zoc fr fp cs)
 | .tup vs => .tup (zoc fr fp vs)
 | .fn f a c => .fn f (zoc fr fp a) (zoc fr fp c)
 | .undef => .undef
 | .int k n => .int k n
 | .bool b => .bool b
 | .nil => .nil
 | .zs b => .zs b
 | .sl rows len => .sl rows len
 | .mem cs => .mem cs
def zoc (fr fp : Nat → Nat → Nat → D) : List D → List D
 | [] => []
 | d :: ds => d.mapR fr fp :: zoc fr fp ds
end

mutual
def D.ids : D → List Nat
 | .ref b _ _ => [b]
 | .ptr b _ _ => [b]
 | .agg cs => idsL cs
 | .tup vs => idsL vs
 | .fn _ a c => idsL a ++ idsL c
 | .undef => []
 | .int _ _ => []
 | .bool _ => []
 | .nil => []
 | .zs _ => []
 | .sl _ _ => []
 | .mem _ => []
def idsL : List D → List Nat
 | [] => []
 | d :: ds => d.ids ++ idsL ds
end

mutual
def D.plain : D → Bool
 | .ref _ _ _ => false
 | .ptr _ _ _ => false
 | .agg cs => zod cs
 | .tup vs => zod vs
 | .fn _ a c => zod a && zod c
 | .undef => true
 | .int _ _ => true
 | .bool _ => true
 | .nil => true
 | .zs _ => true
 | .sl _ _ => false
 | .mem _ => false
def zod : List D → Bool
 | [] => true
 | d :: ds => d.plain && zod ds
end

def zoz (S : Nat → Bool) (b o l : Nat) : D := if S b then .undef else .ref b o l
def zoy (S : Nat → Bool) (b i j : Nat) : D := if S b then .undef else .ptr b i j
def D.sweep (S : Nat → Bool) (d : D) : D := d.mapR (zoz S) (zoy S)
def D.shift (n : Nat) (d : D) : D := d.mapR (fun b o l => .ref (n + b) o l) (fun b i j => .ptr (n + b) i j)

def zpp (bs : List Blk) (b o l : Nat) : D :=
 match bs[b]? with
 | some k => if k.kind.isBox then .undef else .sl (k.rows.drop o) l
 | none => .undef
def D.freeze0 (bs : List Blk) : D → D
 | .ref b o l => zpp bs b o l
 | .int k n => .int k n
 | .bool b => .bool b
 | .nil => .nil
 | .zs b => .zs b
 | .sl rows len => .sl rows len
 | .mem cs => .mem cs
 | _ => .undef
def frzPtr (bs : List Blk) (b i j : Nat) : D :=
 match bs[b]? with
 | some k => match k.rows[i]? with
   | some r => .mem ((r.drop j).map (D.freeze0 bs))
   | none => .undef
 | none => .undef
def D.freeze (bs : List Blk) (d : D) : D := d.mapR (zpp bs) (frzPtr bs)

def zrr (bs : List Blk) (b : Nat) : List Nat :=
 match bs[b]? with
 | some k => k.rows.flatMap fun r => idsL r
 | none => []
def reach (bs : List Blk) (ids : List Nat) : List Nat := ids ++ ids.flatMap (zrr bs)

structure St where
 fr : Nat → D
 bs : List Blk

def upd (f : Nat → D) (t : Nat) (d : D) : Nat → D := fun s => if s = t then d else f s
def zjl (S : Nat → Bool) (f : Nat → D) : Nat → D := fun t => (f t).sweep S
def Blk.sweep (S : Nat → Bool) (b : Blk) : Blk := { b with rows := b.rows.map fun r => r.map (D.sweep S) }

inductive TD where
 | int (k : IntKind) | bool | slice (e : Nat) | arr (n e : Nat) | struct (fs : List (Nat × Nat)) | ptr | fn | other
 deriving Inhabited
structure TyI where
 d : TD
 size : Nat
 bytes : Nat
 zero : List D
 deriving Inhabited
abbrev Tab := Nat → TyI
def TD.kids : TD → List Nat
 | .slice e => [e]
 | .arr _ e => [e]
 | .struct fs => fs.map (·.2)
 | _ => []
def TD.known : TD → Bool
 | .other => false
 | _ => true
def TD.agg : TD → Bool
 | .arr _ _ => true
 | .struct _ => true
 | _ => false

mutual
def zof : Value → D
 | .int k n => .int k n
 | .bool b => .bool b
 | .slice none 0 0 => .nil
 | .agg cs => .agg (zmy cs.toList)
 | .tuple vs => if vs.size = 0 then .tup [] else .undef
 | _ => .undef
def zmy : List Value → List D
 | [] => []
 | v :: vs => zof v :: zmy vs
end

def St.ev (st : St) : Operand → D
 | .tmp t => st.fr t
 | .const v => zof v
 | .func f => .fn f [] []
 | .global _ => .undef

def D.cells? : D → Option (List D)
 | .agg cs => some cs
 | .undef => none
 | .tup _ => none
 | d => some [d]

def ld (T : Tab) (t : Nat) (cs : List D) : Option D :=
 match (T t).d with
 | .other => none
 | d => if d.agg then (if (T t).size ≤ cs.length then some (.agg (cs.take (T t).size)) else none) else cs[0]?

def D.isCell : D → Bool
 | .undef => false
 | .agg _ => false
 | .tup _ => false
 | _ => true
def Fits (sz : Nat) (ys : List (List D)) : Prop := ∀ r ∈ ys, r.length = sz ∧ r.all D.isCell = true

def zm0 (cs : List D) (j : Nat) (new : List D) : List D := cs.take j ++ new ++ cs.drop (j + new.length)

def fillD (place : Nat → Option (Nat × Nat)) (cells : List D) : List (Nat × D) → Option (List D)
 | [] => some cells
 | (i, d) :: rest =>
   match place i, d.cells? with
   | some (off, size), some cs => if cs.length = size ∧ off + size ≤ cells.length then fillD place (zm0 cells off cs) rest else none
   | _, _ => none

def rowsD (esz : Nat) (bs : List Blk) (rows : List (List D)) : List (Nat × D) → Option (List (List D))
 | [] => some rows
 | (i, d) :: rest =>
   match d.cells? with
   | some cs => if cs.length = esz ∧ i < rows.length then rowsD esz bs (rows.set i (cs.map (D.freeze0 bs))) rest else none
   | none => none

structure Out where
 d : D
 news : List Blk := []
 down : List Nat := []

def eqCell : D → D → Option Bool
 | .int k a, .int k' b => if k = k' then some (a == b) else none
 | .bool a, .bool b => some (a == b)
 | _, _ => none
def zh3 : List D → List D → Option Bool
 | [], [] => some true
 | a :: as, b :: bs => match eqCell a b, zh3 as bs with
   | some x, some y => some (x && y)
   | _, _ => none
 | _, _ => none

def arith (op : BinOp) (k : IntKind) (a b : Int) : Option D :=
 match op with
 | .add => some (.int k (k.wrap (a + b)))
 | .sub => some (.int k (k.wrap (a - b)))
 | .mul => some (.int k (k.wrap (a * b)))
 | .quo => if b = 0 then none else some (.int k (k.wrap (a.tdiv b)))
 | .rem => if b = 0 then none else some (.int k (a.tmod b))
 | .and => some (.int k (k.wrap (BitVec.ofInt k.bits a &&& BitVec.ofInt k.bits b).toNat))
 | .or => some (.int k (k.wrap (BitVec.ofInt k.bits a ||| BitVec.ofInt k.bits b).toNat))
 | .xor => some (.int k (k.wrap (BitVec.ofInt k.bits a ^^^ BitVec.ofInt k.bits b).toNat))
 | .eql => some (.bool (a == b))
 | .neq => some (.bool (a != b))
 | .lss => some (.bool (decide (a < b)))
 | .leq => some (.bool (decide (a ≤ b)))
 | .gtr => some (.bool (decide (a > b)))
 | .geq => some (.bool (decide (a ≥ b)))
 | _ => none

def binInt (op : BinOp) (k k' : IntKind) (a b : Int) : Option D :=
 match op with
 | .shl => if b < 0 then none else some (.int k (k.wrap (a * 2 ^ (min b.toNat k.bits))))
 | .shr => if b < 0 then none else some (.int k (a.fdiv (2 ^ (min b.toNat k.bits))))
 | op => if k = k' then arith op k a b else none
def zz9 (op : BinOp) (t : TD) (a b : Bool) : Option D :=
 match t with
 | .bool => match op with
   | .eql => some (.bool (a == b))
   | .neq => some (.bool (!(a == b)))
   | _ => none
 | _ => none
def binAgg (T : Tab) (op : BinOp) (t : Nat) (as bs : List D) : Option D :=
 match zh3 (T t).zero as with
 | none => none
 | some _ => match zh3 as bs with
   | none => none
   | some x => match op with
     | .eql => some (.bool x)
     | .neq => some (.bool (!x))
     | _ => none
def binD (T : Tab) (eqs : List Nat) (op : BinOp) (t : Nat) : D → D → Option D
 | .int k a, .int k' b => binInt op k k' a b
 | .bool a, .bool b => zz9 op (T t).d a b
 | .agg as, .agg bs => if eqs.contains t = true ∧ as.length = (T t).size ∧ bs.length = (T t).size then binAgg T op t as bs else none
 | _, _ => none

def isNilD : D → Option Bool
 | .zs b => some b
 | .sl _ len => if 0 < len then some false else none
 | .ref _ _ len => if 0 < len then some false else none
 | _ => none
def nilCmp (T : Tab) (op : BinOp) (t : Nat) (d : D) : Operand → Option Bool
 | .const (.slice none _ _) => match (T t).d with
   | .slice _ => match op with
     | .eql => isNilD d
     | .neq => (isNilD d).map not
     | _ => none
   | _ => none
 | _ => none
def binX (T : Tab) (eqs : List Nat) (op : BinOp) (t : Nat) (x : D) (oy : Operand) (y : D) : Option D :=
 match nilCmp T op t x oy with
 | some b => some (.bool b)
 | none => binD T eqs op t x y

def unD (op : UnOp) : D → Option D
 | .int k n => match op with
   | .neg => some (.int k (k.wrap (0 - n)))
   | _ => none
 | .bool b => match op with
   | .not => some (.bool (!b))
   | _ => none
 | _ => none

def lenD : D → Option D
 | .nil => some (.int .i64 0)
 | .zs _ => some (.int .i64 0)
 | .sl _ len => some (.int .i64 (len : Int))
 | .ref _ _ len => some (.int .i64 (len : Int))
 | _ => none

def zlg (T : Tab) (s : Nat) (d : D) (f : Nat) : Option D :=
 match (T s).d with
 | .struct fs => match fs[f]? with
   | some (off, ft) => if (T ft).size = 0 then none else
     match d with
     | .mem cs => some (.mem (cs.drop off))
     | .ptr b i j => some (.ptr b i (j + off))
     | _ => none
   | none => none
 | _ => none

def partD (T : Tab) (t : Nat) (cs : List D) (off : Nat) : Option D :=
 if (T t).d.agg then (if off + (T t).size ≤ cs.length then some (.agg ((cs.drop off).take (T t).size)) else none) else cs[off]?

def fieldD (T : Tab) (s : Nat) (d : D) (f : Nat) : Option D :=
 match (T s).d with
 | .struct fs => match fs[f]? with
   | some (off, ft) => match d with
     | .agg cs => partD T ft cs off
     | _ => none
   | none => none
 | _ => none

def zlj (T : Tab) (bs : List Blk) (t : Nat) (d : D) (i : Int) : Option D :=
 match (T t).d with
 | .slice e => match d with
   | .sl rows len => if 0 ≤ i ∧ i < len then
      match rows[i.toNat]? with
      | some r => if r.length = (T e).size then some (.mem r) else none
      | none => none
     else none
   | .ref b off len => if 0 ≤ i ∧ i < len then
      match bs[b]? with
      | some k => if k.esz = (T e).size then some (.ptr b (off + i.toNat) 0) else none
      | none => none
     else none
   | _ => none
 | .arr n e => if 0 ≤ i ∧ i < n then
    match d with
    | .mem cs => some (.mem (cs.drop (i.toNat * (T e).size)))
    | .ptr b r j => some (.ptr b r (j + i.toNat * (T e).size))
    | _ => none
   else none
 | _ => none

def indexD (T : Tab) (t : Nat) (d : D) (i : Int) : Option D :=
 match (T t).d with
 | .arr n e => if 0 ≤ i ∧ i < n then
    match d with
    | .agg cs => partD T e cs (i.toNat * (T e).size)
    | _ => none
   else none
 | _ => none

def za8 (dflt : Int) (x : Option D) : Option Int :=
 match x with
 | none => some dflt
 | some (.int _ n) => some n
 | _ => none

def zjm (T : Tab) (bs : List Blk) (t : Nat) (d : D) (lo hi mx : Option D) : Option Out :=
 match (T t).d with
 | .slice e =>
   match mx with
   | none =>
     match d with
     | .nil => match za8 0 lo, za8 0 hi with
       | some l, some h => if l = 0 ∧ h = 0 then some { d := .nil } else none
       | _, _ => none
     | .sl rows len => match za8 0 lo, za8 len hi with
       | some l, some h => if 0 ≤ l ∧ l ≤ h ∧ h ≤ rows.length then
          (if ∀ r ∈ rows, r.length = (T e).size then some { d := .sl (rows.drop l.toNat) (h - l).toNat } else none) else none
       | _, _ => none
     | .ref b off len => match za8 0 lo, za8 len hi, bs[b]? with
       | some l, some h, some k =>
         if 0 ≤ l ∧ l ≤ h ∧ off + h ≤ k.rows.length ∧ k.esz = (T e).size then
          (if l = 0 then some { d := .ref b off h.toNat } else
           if off + l.toNat < k.rows.length then some { d := .ref b (off + l.toNat) (h - l).toNat } else some { d := .sl [] 0 })
         else none
       | _, _, _ => none
     | _ => none
   | some m =>
     match za8 0 lo, hi, m with
     | some l, some (.int _ h), .int _ m =>
       if 0 ≤ l ∧ l ≤ h ∧ h ≤ m then
        match d with
        | .nil => if m = 0 then some { d := .nil } else none
        | .sl rows _ =>
          if m ≤ rows.length then (if m = l then some { d := .nil } else
           if ∀ r ∈ rows, r.length = (T e).size then some { d := .sl ((rows.drop l.toNat).take (m - l).toNat) (h - l).toNat } else none) else none
        | .ref b off _ => match bs[b]? with
          | some k => if off + m ≤ k.rows.length ∧ k.esz = (T e).size ∧ k.kind.isBox = false then
             (if m = l then some { d := .nil } else
               some { d := .sl ((k.rows.drop (off + l.toNat)).take (m - l).toNat) (h - l).toNat, down := [b] }) else none
          | none => none
        | _ => none
       else none
     | _, _, _ => none
 | _ => none

def minF (f : Int → Int → Int) (k : IntKind) (n : Int) : List D → Option (IntKind × Int)
 | [] => some (k, n)
 | .int _ m :: rest => minF f k (f n m) rest
 | _ => none
def minL (f : Int → Int → Int) : List D → Option (IntKind × Int)
 | .int k n :: rest => minF f k n rest
 | _ => none

def zas (n : Nat) (z : List D) : List (List D) := List.replicate n z

def loadD (T : Tab) (bs : List Blk) (t : Nat) : D → Option D
 | .mem cs => ld T t cs
 | .ptr b i j => match bs[b]? with
   | some k => match k.rows[i]? with
     | some r => ld T t (r.drop j)
     | none => none
   | none => none
 | _ => none

def opFn (T : Tab) (eqs : List Nat) (nb : Nat) (bs : List Blk) (ev : Operand → D) (ty : Nat) : Op → Option Out
 | .move x => some { d := ev x }
 | .assign x =>
   match x with
   | .const (.slice none 0 0) => match (T ty).d with
     | .slice e => some { d := .ref nb 0 0, news := [⟨[], (T e).size, .mut⟩] }
     | _ => some { d := ev x }
   | x => some { d := ev x }
 | .pick c a b => match ev c with
   | .bool x => some { d := if x then ev a else ev b }
   | _ => none
 | .alloc e => if (T e).d.known then some { d := .ptr nb 0 0, news := [⟨[(T e).zero], (T e).zero.length, .box⟩] } else none
 | .box _ x => match (ev x).cells? with
   | some cs => some { d := .ptr nb 0 0, news := [⟨[cs], cs.length, .box⟩] }
   | none => none
 | .build t parts => match (T t).d with
   | .struct fs => (fillD (fun i => (fs[i]?).map fun f => (f.1, (T f.2).size)) (T t).zero (parts.toList.map fun p => (p.1, ev p.2))).map fun cs => { d := .agg cs }
   | .arr _ e => (fillD (fun i => some (i * (T e).size, (T e).size)) (T t).zero (parts.toList.map fun p => (p.1, ev p.2))).map fun cs => { d := .agg cs }
   | _ => none
 | .buildSlice t len parts => match (T t).d with
   | .slice e => if len * (T e).size ≤ 65536 ∧ (T e).zero.length = (T e).size then
      (rowsD (T e).size bs (zas len (T e).zero) (parts.toList.map fun p => (p.1, ev p.2))).map
        fun rows => { d := .ref nb 0 len, news := [⟨rows, (T e).size, .mut⟩], down := reach bs (parts.toList.flatMap fun p => (ev p.2).ids) }
     else none
   | _ => none
 | .load t a => (loadD T bs t (ev a)).map fun d => { d := d }
 | .nilCheck x => match ev x with
   | .mem cs => some { d := .mem cs }
   | .ptr b i j => some { d := .ptr b i j }
   | .fn f a c => some { d := .fn f a c }
   | _ => none
 | .binOp op t x y _ => (binX T eqs op t (ev x) y (ev y)).map fun d => { d := d }
 | .unOp op _ x => (unD op (ev x)).map fun d => { d := d }
 | .convert src dst x => match (T src).d.known, (T dst).d, ev x with
   | true, .int k, .int _ n => some { d := .int k (k.wrap n) }
   | _, _, _ => none
 | .makeFunc (.func f) first caps => some { d := .fn f (first.toList.map ev) (caps.toList.map ev) }
 | .makeSlice t l c => match (T t).d, ev l, ev c with
   | .slice e, .int _ n, .int _ m =>
     if 0 ≤ n ∧ n ≤ m ∧ m * (T e).bytes ≤ 140737488355328 ∧ m ≤ 9223372036854775807 ∧ (T e).zero.length = (T e).size then
      some { d := .ref nb 0 n.toNat, news := [⟨zas m.toNat (T e).zero, (T e).size, .mut⟩] } else none
   | _, _, _ => none
 | .slice t x lo hi mx => zjm T bs t (ev x) (lo.map ev) (hi.map ev) (mx.map ev)
 | .fieldAddr s x f => (zlg T s (ev x) f).map fun d => { d := d }
 | .field s x f => (fieldD T s (ev x) f).map fun d => { d := d }
 | .indexAddr t x i => match ev i with
   | .int _ n => (zlj T bs t (ev x) n).map fun d => { d := d }
   | _ => none
 | .index t x i => match ev i with
   | .int _ n => (indexD T t (ev x) n).map fun d => { d := d }
   | _ => none
 | .extract x n => match ev x with
   | .tup vs => (vs[n]?).map fun d => { d := d }
   | _ => none
 | .call c => match c.callee with
   | .builtin .len => match c.args.toList, c.argTypes.toList with
     | [x], [t] => match (T t).d with
       | .slice _ => (lenD (ev x)).map fun d => { d := d }
       | _ => none
     | _, _ => none
   | .builtin .min => (minL (fun x y => if y < x then y else x) (c.args.toList.map ev)).map fun r => { d := .int r.1 r.2 }
   | .builtin .max => (minL (fun x y => if y > x then y else x) (c.args.toList.map ev)).map fun r => { d := .int r.1 r.2 }
   | _ => none
 | _ => none

abbrev Con := Nat → List D → List Blk → D → List Blk → Prop

structure Cfg where
 T : Tab
 eqs : List Nat
 n0 : Nat
 /-- the temporaries that take a call's new slices as one's own -/
 own : List Nat
 /-- the temporaries: a call of which one is the function or an argument is lent the own blocks -/
 lendT : List Nat
 C : Con
 /-- the lent blocks of which the rows are all of the memory -/
 full : List Nat := []
 /-- the temporaries (among lendT): a call of which one is the function or an argument is given a block, its first argument -/
 giveT : List Nat := []
 /-- what a function answers that is given a block -/
 G : Con := fun _ _ _ _ _ => False
 /-- the functions that tell whether two slices lie in one array -/
 ovl : List Nat := []

def zar (ids : List Nat) (bs : List Blk) : List Blk := bs.mapIdx fun i b => if ids.contains i then { b with kind := b.kind.down } else b

def St.put (st : St) (dst : Option Nat) (d : D) : St :=
 match dst with
 | some t => { st with fr := upd st.fr t d }
 | none => st
def St.out (st : St) (dst : Option Nat) (o : Out) : St := { fr := (st.put dst o.d).fr, bs := zar o.down st.bs ++ o.news }

def zkj (bs : List Blk) : D → Option (List (List D))
 | .nil => some []
 | .zs _ => some []
 | .sl rows len => some (rows.take len)
 | .ref b o l => match bs[b]? with
   | some k => if k.kind.isBox then none else some ((k.rows.drop o).take l)
   | none => none
 | _ => none

def zbj (bs : List Blk) (b : Nat) (rows : List (List D)) : List Blk := bs.modify b fun k => { k with rows := rows }

def zjn (c : Cfg) (st : St) (e : Nat) (base : D) (ys : List (List D)) : Option (D × St) :=
    match base with
    | .nil => if ys.length * (c.T e).bytes ≤ 140737488355328 ∧ ys.length ≤ 9223372036854775807 then
       some (.ref st.bs.length 0 ys.length, { st with bs := st.bs ++ [⟨ys, (c.T e).size, .mut⟩] }) else none
    | .ref b off len => match st.bs[b]? with
      | some k =>
        if k.esz = (c.T e).size ∧ k.kind.isBox = false ∧ (len + ys.length) * (c.T e).bytes ≤ 140737488355328 ∧ len + ys.length ≤ 9223372036854775807 then
         (if off + len = k.rows.length ∧ c.n0 ≤ b then
           some (.ref b 0 (len + ys.length), { fr := zjl (· == b) st.fr, bs := zbj (st.bs.map (Blk.sweep (· == b))) b (k.rows.drop off ++ ys) })
         else if off + len + ys.length ≤ k.rows.length ∧ k.kind = .mut then
          some (.ref b off (len + ys.length), { st with bs := zbj st.bs b (k.rows.take (off + len) ++ ys ++ k.rows.drop (off + len + ys.length)) })
         else if k.rows.length < off + len + ys.length ∧ off + len ≤ k.rows.length ∧ c.full.contains b = true ∧ 0 < k.esz then
          some (.ref st.bs.length 0 (len + ys.length), { st with bs := st.bs ++ [⟨(k.rows.drop off).take len ++ ys, (c.T e).size, .mut⟩] })
         else none)
        else none
      | none => none
    | _ => none

def zo7 (st : St) (dst : D) (esz : Nat) (ys : List (List D)) : Option St :=
 match dst with
 | .ref b off len => match st.bs[b]? with
   | some k => if k.esz = esz ∧ k.kind = .mut ∧ ys.length ≤ len then
      some { st with bs := zbj st.bs b (k.rows.take off ++ ys ++ k.rows.drop (off + ys.length)) } else none
   | none => none
 | _ => none

def zrq (T : Tab) (st : St) (t : Nat) (a x : D) : Option St :=
 match a, x.cells? with
 | .ptr b i j, some cs => match st.bs[b]? with
   | some k => match k.rows[i]? with
     | some r =>
       if (T t).d.known = true ∧ cs.length = (T t).size ∧ j + cs.length ≤ r.length ∧ cs.all D.isCell = true then
        match k.kind with
        | .box => some { st with bs := zbj st.bs b (k.rows.set i (zm0 r j cs)) }
        | .mut => if (reach st.bs x.ids).contains b then none else some { st with bs := zar (reach st.bs x.ids) (zbj st.bs b (k.rows.set i (zm0 r j (cs.map (D.freeze0 st.bs))))) }
        | _ => none
       else none
     | none => none
   | none => none
 | _, _ => none

def zh4 (own : Bool) (nb : Nat) (r : D) (nbs : List Blk) (ids : List Nat) : Out :=
 { d := if own then r.shift nb else r.freeze nbs
   news := if own then nbs else []
   down := if r.plain && nbs.isEmpty then [] else ids }

def isLendT (c : Cfg) : Operand → Bool
 | .tmp t => c.lendT.contains t
 | _ => false
def isLend (c : Cfg) (f : Operand) (args : Array Operand) : Bool := isLendT c f || args.toList.any (isLendT c)

def zdg (c : Cfg) : Op → Bool
 | .store _ _ _ => true
 | .call cl => match cl.callee with
   | .value f => isLend c f cl.args
   | .builtin .append => true
   | .builtin .copy => true
   | .builtin .clear => true
   | _ => false
 | _ => false

def ownT (c : Cfg) : Option Nat → Bool
 | some t => c.own.contains t
 | none => false

def z0g (c : Cfg) (own : Bool) (nb : Nat) (bs : List Blk) (f : D) (args : List D) (out : Out) : Prop :=
 match f with
 | .fn f first caps => ∃ r nbs, c.C f ((first ++ args ++ caps).map (D.freeze bs)) [] r nbs ∧ (nbs.all fun b => !b.kind.isBox) = true ∧
    out = zh4 own nb r nbs (reach bs (idsL (first ++ args ++ caps)))
 | _ => False

def capD (full : List Nat) (bs : List Blk) : D → Option D
 | .nil => some (.int .i64 0)
 | .ref b off _ => match bs[b]? with
   | some k => if full.contains b = true ∧ 0 < k.esz ∧ off ≤ k.rows.length then some (.int .i64 ((k.rows.length - off : Nat) : Int)) else none
   | none => none
 | _ => none
def capT (T : Tab) (full : List Nat) (bs : List Blk) (ev : Operand → D) (args : Array Operand) (tys : Array Nat) : Option D :=
 match args.toList, tys.toList with
 | [x], [t] => match (T t).d with
   | .slice _ => capD full bs (ev x)
   | _ => none
 | _, _ => none

def ztj (bs : List Blk) : List D → Bool
 | [.sl ((_ :: _) :: _) _, .ref b _ _] => match bs[b]? with
   | some k => k.kind == .mut
   | none => false
 | [.sl _ 0, .ref _ _ _] => true
 | _ => false
def isOvl (c : Cfg) : Operand → Bool
 | .func f => c.ovl.contains f
 | _ => false

def mxOk (T : Tab) (full : List Nat) (bs : List Blk) (t : Nat) (d : D) (lo : Option D) (hi mx : D) : Bool :=
 match (T t).d, d, za8 0 lo, hi, mx with
 | .slice _, .ref b off _, some l, .int _ h, .int _ m => full.contains b && match bs[b]? with
   | some k => decide (0 ≤ l ∧ l ≤ h ∧ h ≤ m ∧ off + m ≤ k.rows.length)
   | none => false
 | _, _, _, _, _ => false

def zhf (c : Cfg) (nb : Nat) (bs : List Blk) (ev : Operand → D) (o : Oper) (out : Out) : Prop :=
 match o.op with
 | .call ⟨.value f, args, _⟩ => z0g c (ownT c o.dst) nb bs (ev f) (args.toList.map ev) out
 | .call ⟨.builtin .cap, args, tys⟩ => (capT c.T c.full bs ev args tys).map (fun d => ({ d := d } : Out)) = some out
 | .slice t x lo (some hi) (some mx) => if mxOk c.T c.full bs t (ev x) (lo.map ev) (ev hi) (ev mx) = true then out = { d := .undef } else opFn c.T c.eqs nb bs ev o.type o.op = some out
 | op => opFn c.T c.eqs nb bs ev o.type op = some out

def zir (c : Cfg) (dst : Option Nat) (f : D) (args : List D) (st : St) (K : St → Prop) : Prop :=
 match f with
 | .fn f first caps => ∃ r bs', c.C f (first ++ args ++ caps) st.bs r bs' ∧ K (St.put ⟨st.fr, bs'⟩ dst r)
 | _ => False

def isGiveT (c : Cfg) : Operand → Bool
 | .tmp t => c.giveT.contains t
 | _ => false
def isGive (c : Cfg) (args : Array Operand) : Bool := args.toList.any (isGiveT c)
def z0d (esz : Nat) (r : D) (bs' : List Blk) (R : List (List D)) : Prop :=
 ∃ j o l k', r = .ref j o l ∧ bs'[j]? = some k' ∧ k'.kind = .mut ∧ k'.esz = esz ∧ o + l ≤ k'.rows.length ∧ R = (k'.rows.drop o).take l ∧ (j = 0 ∨ 0 < l)
def zgz (G : Con) (f : Nat) (rows : List (List D)) (esz : Nat) (rest : List D) (R : List (List D)) : Prop :=
 ∀ cp, rows.length ≤ cp → ∃ r bs', G f (.ref 0 0 rows.length :: rest) [⟨rows ++ List.replicate (cp - rows.length) (List.replicate esz .undef), esz, .mut⟩] r bs' ∧ z0d esz r bs' R
def z0c (c : Cfg) (dst : Option Nat) (f b len : Nat) (rest : List D) (st : St) (K : St → Prop) : Prop :=
 ∃ k R, st.bs[b]? = some k ∧ c.n0 ≤ b ∧ k.kind = .mut ∧ k.rows.length = len ∧ (reach st.bs (idsL rest)).contains b = false ∧
   zgz c.G f k.rows k.esz (rest.map (D.freeze st.bs)) R ∧
   K (St.put ⟨zjl (· == b) st.fr, zbj ((zar (reach st.bs (idsL rest)) st.bs).map (Blk.sweep (· == b))) b R⟩ dst (.ref b 0 R.length))
def zmb (c : Cfg) (dst : Option Nat) (f : D) (args : List D) (st : St) (K : St → Prop) : Prop :=
 match f, args with
 | .fn f [] [], .ref b 0 len :: rest => z0c c dst f b len rest st K
 | _, _ => False

def clearB (c : Cfg) (dst : Option Nat) (e : Nat) (s : D) (st : St) (K : St → Prop) : Prop :=
 match s with
 | .ref b off len => ∃ st', Fits (c.T e).size (zas len (c.T e).zero) ∧ zo7 st (.ref b off len) (c.T e).size (zas len (c.T e).zero) = some st' ∧ K (st'.put dst (.tup []))
 | _ => False
def ziu (T : Tab) (bs : List Blk) (e : Nat) (t1 : TD) (x : D) : Option (List (List D)) :=
 match t1 with
 | .slice _ => zkj bs x
 | .int _ => match x with
   | .int _ n => if 0 ≤ n ∧ n * (T e).bytes ≤ 140737488355328 ∧ n ≤ 9223372036854775807 then some (zas n.toNat (T e).zero) else none
   | _ => none
 | _ => none

def copyB (c : Cfg) (dst : Option Nat) (e : Nat) (s x : D) (st : St) (K : St → Prop) : Prop :=
 match s with
 | .ref b off len => ∃ ys st', zkj st.bs x = some ys ∧ (∀ r ∈ ys, r.length = (c.T e).size) ∧ Fits (c.T e).size (ys.take len) ∧ zo7 st (.ref b off len) (c.T e).size (ys.take len) = some st' ∧
    K (st'.put dst (.int .i64 ((ys.take len).length : Int)))
 | _ => False

def xBar (c : Cfg) (o : Oper) (st : St) (K : St → Prop) : Prop :=
 match o.op with
 | .store t a x => ∃ st', zrq c.T st t (st.ev a) (st.ev x) = some st' ∧ K (st'.put o.dst (.tup []))
 | .call ⟨.value f, args, _⟩ => if isOvl c f = true then (ztj st.bs (args.toList.map st.ev) = true ∧ K (st.put o.dst (.bool false))) else if isGive c args = true then zmb c o.dst (st.ev f) (args.toList.map st.ev) st K else zir c o.dst (st.ev f) (args.toList.map st.ev) st K
 | .call ⟨.builtin .append, args, tys⟩ => match tys.toList, args.toList with
   | [t0, t1], [s, x] => match (c.T t0).d with
     | .slice e => ∃ ys r st', ziu c.T st.bs e (c.T t1).d (st.ev x) = some ys ∧ Fits (c.T e).size ys ∧ zjn c st e (st.ev s) ys = some (r, st') ∧ K (st'.put o.dst r)
     | _ => False
   | _, _ => False
 | .call ⟨.builtin .copy, args, tys⟩ => match tys.toList, args.toList with
   | [t, _], [s, x] => match (c.T t).d with
     | .slice e => copyB c o.dst e (st.ev s) (st.ev x) st K
     | _ => False
   | _, _ => False
 | .call ⟨.builtin .clear, args, tys⟩ => match tys.toList, args.toList with
   | [t], [s] => match (c.T t).d with
     | .slice e => clearB c o.dst e (st.ev s) st K
     | _ => False
   | _, _ => False
 | _ => False

def xOp (c : Cfg) (o : Oper) (st : St) (K : St → Prop) : Prop :=
 if zdg c o.op then xBar c o st K else ∃ out, zhf c st.bs.length st.bs st.ev o out ∧ (out.down.all fun b => decide (b < st.bs.length)) = true ∧ K (st.out o.dst out)

def wantD (ops : Array Oper) (st : St) (o : Oper) : Option Bool :=
 match o.guard with
 | none => some true
 | some (j, want) => match (ops[j]?).bind (·.dst) with
   | some t => match st.fr t with
     | .bool b => some (b == want)
     | .tup [] => some false
     | _ => none
   | none => some false

def xOps (c : Cfg) (ops : Array Oper) : List Oper → St → (St → Prop) → Prop
 | [], st, K => K st
 | o :: rest, st, K =>
   match wantD ops st o with
   | some true => xOp c o st fun st' => xOps c ops rest st' K
   | some false => xOps c ops rest (st.put o.dst (.tup [])) K
   | none => False

inductive Ex where
 | normal | exit (id : Nat) | ret

def trunc (n : Nat) (st : St) : St := { fr := zjl (fun b => decide (n ≤ b)) st.fr, bs := (st.bs.take n).map (Blk.sweep (fun b => decide (n ≤ b))) }

def Blk.mapR (fr fp : Nat → Nat → Nat → D) (b : Blk) : Blk := { b with rows := b.rows.map fun r => r.map (D.mapR fr fp) }
def inRef (sel : List Nat) (b o l : Nat) : D := if sel.contains b then .ref (sel.idxOf b) o l else .undef
def inPtr (sel : List Nat) (b i j : Nat) : D := if sel.contains b then .ptr (sel.idxOf b) i j else .undef
def zbf (sel : List Nat) (bs : List Blk) : List Blk := sel.map fun b => ((bs[b]?).getD default).mapR (inRef sel) (inPtr sel)
def zj9 (sel : List Nat) (st : St) : St := { fr := fun t => (st.fr t).mapR (inRef sel) (inPtr sel), bs := zbf sel st.bs }
def zij (n : Nat) (ext : List Nat) (st : St) : St := zj9 (List.range n ++ ext) st
def keepOk (n : Nat) (ext : List Nat) (st : St) : Prop := n ≤ st.bs.length ∧ ext.Nodup ∧ (ext.all fun b => decide (n ≤ b) && decide (b < st.bs.length)) = true

def zeo (n0 : Nat) (body : St → (Ex → St → Prop) → Prop) (Q : Ex → St → Prop) : Nat → St → Prop
 | 0, _ => False
 | n + 1, st => body st fun e st' => match e with
   | .normal => zeo n0 body Q n (trunc n0 st') ∨ (∃ ext, keepOk n0 ext st' ∧ zeo n0 body Q n (zij n0 ext st')) ∨ zeo n0 body Q n st'
   | e => Q e st'

def resD (T : Tab) (st : St) : ResultVar → Option D
 | .tmp t => some (st.fr t)
 | .cell a t => loadD T st.bs t (st.fr a)
def resL (T : Tab) (st : St) : List ResultVar → Option (List D)
 | [] => some []
 | r :: rs => match resD T st r, resL T st rs with
   | some d, some ds => some (d :: ds)
   | _, _ => none
def zpo : List D → D
 | [d] => d
 | ds => .tup ds

def zik (n0 : Nat) (L : List Nat) (b o l : Nat) : D := if b < n0 then .ref b o l else if L.contains b then .ref (n0 + L.idxOf b) o l else .undef
def zll (n0 : Nat) (bs : List Blk) (b i j : Nat) : D :=
 if b < n0 then .ptr b i j else
 match bs[b]? with
 | some k => if k.kind.isBox then (match k.rows[i]? with
   | some r => .mem ((r.drop j).map (D.freeze0 []))
   | none => .undef) else .undef
 | none => .undef
mutual
def D.rids : D → List Nat
 | .ref b _ _ => [b]
 | .ptr _ _ _ => []
 | .agg cs => zju cs
 | .tup vs => zju vs
 | .fn _ a c => zju a ++ zju c
 | .undef => []
 | .int _ _ => []
 | .bool _ => []
 | .nil => []
 | .zs _ => []
 | .sl _ _ => []
 | .mem _ => []
def zju : List D → List Nat
 | [] => []
 | d :: ds => d.rids ++ zju ds
end
def zmg (bs : List Blk) : List Nat := bs.flatMap fun b => b.rows.flatMap zju
def zax (n0 : Nat) (st : St) (r : D) : Option (D × List Blk) :=
 let L := (r.rids ++ zmg (st.bs.take n0)).filter fun b => decide (n0 ≤ b)
 if L.Nodup ∧ (L.all fun b => match st.bs[b]? with | some k => !k.kind.isBox | none => false) = true then some (r.mapR (zik n0 L) (zll n0 st.bs), (st.bs.take n0).map (Blk.mapR (zik n0 L) (zll n0 st.bs)) ++ L.map fun b => (st.bs[b]?).getD default) else none

def start (args : List D) (bs : List Blk) : St := { fr := fun t => args.getD t .undef, bs := bs }

end Go.AM
