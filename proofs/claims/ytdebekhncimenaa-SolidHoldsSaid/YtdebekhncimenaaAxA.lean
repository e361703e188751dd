/-
  Abstract values and an evaluator of the model's code over them. Nothing is proved here; what these words are good for is proved in the texts behind this one.
-/
import Derived.WalkKit
import Derived.OrdersIn
namespace Go.Ax

/-- Abstract values: v: this very value; any: whatever; agg, tup: cell by cell; ro: a slice of memory that nobody writes; rop: a pointer into such memory; bx, ptr: pointers into rows of our own (bx: into a row of one element); own: a slice that is the whole of such a row; vw: a part of one; fn: a function value; iface: a value in an interface; cond: there only if b, else undefined. -/
inductive AV where
  | v (x : Value)
  | any
  | agg (cs : List AV)
  | tup (cs : List AV)
  | ro (n sz : Nat) (get : Nat → List AV)
  | rop (cs : List AV)
  | bx (r k : Nat)
  | ptr (r f i sz k : Nat)
  | own (r f n sz : Nat)
  | vw (r f lo n sz : Nat)
  | fn (f : FuncId) (cap : List AV)
  | iface (t : TypeId) (x : AV)
  | cond (b : Bool) (x : AV)
  deriving Inhabited

/-- A row of our own: n elements of sz cells each. g: it is there only if so. -/
structure Row where
  n : Nat
  sz : Nat
  ty : TypeId
  get : Nat → List AV
  g : Option Bool

abbrev Fam := Nat → Row
abbrev Mem := List (Nat × Fam)

def look : Mem → Nat → Option Fam
  | [], _ => none
  | (k, x) :: rest, r => if k = r then some x else look rest r

/-- A new entry, the entries in falling order of their keys. -/
def insRow (k : Nat) (x : Fam) : Mem → Mem
  | [] => [(k, x)]
  | (k', y) :: rest => if k' < k then (k, x) :: (k', y) :: rest else (k', y) :: insRow k x rest

def setRow (r : Nat) (x : Fam) : Mem → Mem
  | [] => []
  | (k, y) :: rest => if k = r then (k, x) :: rest else (k, y) :: setRow r x rest

def dropRow (r : Nat) : Mem → Mem
  | [] => []
  | (k, y) :: rest => if k = r then dropRow r rest else (k, y) :: dropRow r rest

abbrev Slots := List (Nat × AV)
def slot : Slots → Nat → AV
  | [], _ => .v undef
  | (k, a) :: rest, j => if k = j then a else slot rest j

structure St where
  t : Slots
  m : Mem
  nx : Nat

def flat1 : AV → Option Value
  | .v x => some x
  | _ => none
def flats : List AV → Option (List Value)
  | [] => some []
  | a :: rest => match flat1 a with
    | some x => match flats rest with
      | some xs => some (x :: xs)
      | none => none
    | none => none
def flat : AV → Option Value
  | .v x => some x
  | .agg cs => match flats cs with
    | some xs => some (.agg xs.toArray)
    | none => none
  | _ => none
def flatAll : List AV → Bool
  | [] => true
  | a :: rest => match flat a with
    | some _ => flatAll rest
    | none => false

def ofVal1 : Value → AV
  | .agg cs => .agg (cs.toList.map .v)
  | x => .v x
def ofVal : Value → AV
  | .agg cs => .agg (cs.toList.map .v)
  | .tuple vs => .tup (vs.toList.map ofVal1)
  | x => .v x

/-- A run that touches nothing. -/
def pureRun {α : Type} (P : Program) : Sem α → Option α
  | .pure a => some a
  | .program k => pureRun P (k P)
  | _ => none

def opd (t : Slots) : Operand → AV
  | .tmp j => slot t j
  | .const x => .v x
  | .global g => .v (.pointer (some ⟨g, 0, none⟩))
  | .func f => .fn f []

def strip : AV → AV
  | .cond _ x => x
  | x => x
/-- What must hold for the operands to be there. -/
def needs : List AV → List Prop
  | [] => []
  | .cond b _ :: rest => (b = true) :: needs rest
  | _ :: rest => needs rest

def conj : List Prop → Prop → Prop
  | [], k => k
  | p :: ps, k => p ∧ conj ps k

/-- What an operation does to the rows: nothing; a new row under the operation's key; another content of a row; a row gives way to a new one. -/
inductive Upd where
  | none
  | new (x : Fam)
  | set (r : Nat) (x : Fam)
  | swap (r : Nat) (x : Fam)

def Upd.app (key : Nat) (m : Mem) : Upd → Mem
  | .none => m
  | .new x => insRow key x m
  | .set r x => setRow r x m
  | .swap r x => insRow key x (dropRow r m)

structure Eff where
  ob : List Prop
  val : AV
  u : Upd

/-- It is known to be the value of one cell. -/
def isCell : AV → Bool
  | .v (.agg _) => false
  | .v (.tuple _) => false
  | .v _ => true
  | .ro _ _ _ => true
  | .rop _ => true
  | .bx _ _ => true
  | .ptr _ _ _ _ _ => true
  | .own _ _ _ _ => true
  | .vw _ _ _ _ _ => true
  | .fn _ _ => true
  | .iface _ _ => true
  | _ => false
def allCells : List AV → Bool
  | [] => true
  | a :: rest => match isCell a with
    | true => allCells rest
    | false => false
/-- The cells of a value. -/
def cellsOf : AV → Option (List AV)
  | .agg cs => match allCells cs with
    | true => some cs
    | false => none
  | a => match isCell a with
    | true => some [a]
    | false => none

def isAggD : TypeDesc → Bool
  | .struct _ => true
  | .array _ _ => true
  | _ => false
/-- Is a value of the type one of many cells; how many has it? -/
def layT (P : Program) (t : TypeId) : Option (Bool × Nat) :=
  match P.underlying t with
  | some d => match P.info? t with
    | some i => some (isAggD d, i.size)
    | none => none
  | none => none
def sizeT (P : Program) (t : TypeId) : Nat := match P.info? t with
  | some i => i.size
  | none => 0
def zeroT (P : Program) (t : TypeId) : Option Value := match P.info? t with
  | some i => i.zero
  | none => none

/-- The value of type t that the first of these cells make. -/
def ofCells (P : Program) (t : TypeId) (cs : List AV) : Option AV :=
  match layT P t with
  | some (true, n) => if n ≤ cs.length then some (.agg (cs.take n)) else none
  | some (false, _) => match cs with
    | c :: _ => some c
    | [] => none
  | none => none

def putCells (cs : List AV) (k : Nat) (new : List AV) : List AV := cs.take k ++ new ++ cs.drop (k + new.length)

def fillA (place : Nat → Option (Nat × Nat)) (cells : List AV) : List (Nat × AV) → Option (List AV)
  | [] => some cells
  | (i, a) :: rest =>
    match place i with
    | none => none
    | some (off, size) => match cellsOf a with
      | some cs => if cs.length = size ∧ off + cs.length ≤ cells.length then fillA place (putCells cells off cs) rest
        else none
      | none => none

def rowsOf (sz : Nat) (cs : List AV) (i : Nat) : List AV := (cs.drop (i * sz)).take sz

/-- Where field f of a struct lies, if it is of any size; and its type. -/
def fOff (P : Program) (s : TypeId) (f : Nat) : Option Nat :=
  match P.underlying s with
  | some (.struct fs) => match fs[f]? with
    | some fd => if sizeT P fd.type = 0 then none else some fd.offset
    | none => none
  | _ => none
def fTy (P : Program) (s : TypeId) (f : Nat) : Option TypeId :=
  match P.underlying s with
  | some (.struct fs) => match fs[f]? with
    | some fd => some fd.type
    | none => none
  | _ => none
/-- The parts of a struct or an array: where each lies, and its size. -/
def bPlaces (P : Program) (t : TypeId) : Option (List (Nat × Nat)) :=
  match P.underlying t with
  | some (.struct fs) => if fs.all (fun f => (P.info? f.type).isSome) = true then some (fs.toList.map fun f => (f.offset, sizeT P f.type)) else none
  | some (.array n e) => if (P.info? e).isSome = true then some ((List.range n).map fun i => (i * sizeT P e, sizeT P e)) else none
  | _ => none
/-- The type of a slice's elements; the size of one, in bytes. -/
def sElem (P : Program) (t : TypeId) : Option TypeId :=
  match P.underlying t with
  | some (.slice e) => some e
  | _ => none
def aElem (P : Program) (t : TypeId) : Option (Nat × TypeId) :=
  match P.underlying t with
  | some (.array n e) => some (n, e)
  | _ => none
def bytesT (P : Program) (t : TypeId) : Nat := match P.info? t with
  | some i => i.bytes
  | none => 0
/-- No interface type. -/
def concreteT (P : Program) (t : TypeId) : Bool :=
  match P.underlying t with
  | some (.interface _) => false
  | some _ => true
  | none => false

/-- The pure rule: the model's own operation, at operands that are plain values. -/
def aPure (P : Program) (ρ : Operand → AV) (o : Oper) : Option AV :=
  match flatAll (o.op.operands.toList.map ρ) with
  | true => match pureRun P (execOp (fun x => (flat (ρ x)).getD undef) o) with
    | some (.value v) => some (ofVal v)
    | _ => none
  | false => none

def gOb : Option Bool → List Prop → List Prop
  | none, l => l
  | some b, l => (b = true) :: l

/-- A row of one element. -/
def one (ty : TypeId) (cs : List AV) (g : Option Bool) : Fam := fun _ => ⟨1, cs.length, ty, fun _ => cs, g⟩

def aAlloc (key : Nat) (ty : TypeId) (cs : List AV) (g : Option Bool) : Eff := ⟨[], .bx key 0, .new (fun f => if f = 0 then ⟨1, cs.length, ty, fun _ => cs, g⟩ else ⟨0, cs.length, ty, fun _ => [], g⟩)⟩

def aLoad (P : Program) (t : TypeId) (p : AV) (m : Mem) : Option (List Prop × AV) :=
  match p with
  | .bx r k => match look m r with
    | some fam => match (fam 0).n with
      | 1 => match ofCells P t (((fam 0).get 0).drop k) with
        | some a => some (gOb (fam 0).g [], a)
        | none => none
      | _ => none
    | none => none
  | .ptr r f i sz k => match look m r with
    | some fam => match ofCells P t (((fam f).get i).drop k) with
      | some a => some ((i < (fam f).n) :: (sz = (fam f).sz) :: gOb (fam f).g [], a)
      | none => none
    | none => none
  | .rop cs => match ofCells P t cs with
    | some a => some ([], a)
    | none => none
  | _ => none

def updAt (fam : Fam) (f i k : Nat) (new : List AV) : Fam :=
  fun f' => if f' = f then { fam f with get := fun j => if j = i then putCells ((fam f).get i) k new else (fam f).get j } else fam f'

/-- Another content of a row of one element. -/
def set1 (fam : Fam) (k : Nat) (new : List AV) : Fam :=
  fun f => if f = 0 then { fam 0 with get := fun _ => putCells ((fam 0).get 0) k new } else fam f

def aStore (P : Program) (t : TypeId) (p x : AV) (m : Mem) : Option Eff :=
  match cellsOf x with
  | some cs => if (layT P t).map (·.2) = some cs.length then
      match p with
      | .bx r k => match look m r with
        | some fam => match (fam 0).n with
          | 1 => if k + cs.length ≤ (fam 0).sz then some ⟨gOb (fam 0).g [], .v undef, .set r (set1 fam k cs)⟩ else none
          | _ => none
        | none => none
      | .ptr r f i sz k => match look m r with
        | some fam => if k + cs.length ≤ sz then some ⟨(i < (fam f).n) :: (sz = (fam f).sz) :: gOb (fam f).g [], .v undef, .set r (updAt fam f i k cs)⟩ else none
        | none => none
      | _ => none
    else none
  | none => none

/-- What an outsider may see of an abstract value: rows of our own become memory to read. -/
def pur : Nat → Mem → AV → AV
  | 0, _, .v x => .v x
  | 0, _, .ro n sz get => .ro n sz get
  | 0, _, .rop cs => .rop cs
  | 0, _, _ => .any
  | d + 1, m, a => match a with
    | .agg cs => .agg (cs.map (pur d m))
    | .tup cs => .tup (cs.map (pur d m))
    | .bx r k => match look m r with
      | some fam => match (fam 0).n, (fam 0).g with
        | 1, none => .rop ((((fam 0).get 0).drop k).map (pur d m))
        | _, _ => .any
      | none => .any
    | .own r f n sz => match look m r with
      | some fam => match (fam f).g with
        | none => if n ≤ (fam f).n ∧ sz = (fam f).sz then .ro n sz (fun i => ((fam f).get i).map (pur d m)) else .any
        | some _ => .any
      | none => .any
    | .vw r f lo n sz => match look m r with
      | some fam => match (fam f).g with
        | none => if lo + n ≤ (fam f).n ∧ sz = (fam f).sz then .ro n sz (fun i => ((fam f).get (lo + i)).map (pur d m)) else .any
        | some _ => .any
      | none => .any
    | .fn f cs => .fn f (cs.map (pur d m))
    | .iface t x => .iface t (pur d m x)
    | .cond b x => .cond b (pur d m x)
    | .ptr _ _ _ _ _ => .any
    | x => x

/-- What a callee may see: rows that are there under a guard as if they were there. -/
def purU : Nat → Mem → AV → AV
  | d + 1, m, a => match a with
    | .agg cs => .agg (cs.map (purU d m))
    | .tup cs => .tup (cs.map (purU d m))
    | .bx r k => match look m r with
      | some fam => match (fam 0).n with
        | 1 => .rop ((((fam 0).get 0).drop k).map (purU d m))
        | _ => .any
      | none => .any
    | .own r f n sz => match look m r with
      | some fam => if n ≤ (fam f).n ∧ sz = (fam f).sz then .ro n sz (fun i => ((fam f).get i).map (pur d m)) else .any
      | none => .any
    | .vw r f lo n sz => match look m r with
      | some fam => if lo + n ≤ (fam f).n ∧ sz = (fam f).sz then .ro n sz (fun i => ((fam f).get (lo + i)).map (pur d m)) else .any
      | none => .any
    | .fn f cs => .fn f (cs.map (purU d m))
    | .iface t x => .iface t (purU d m x)
    | x => pur (d + 1) m x
  | 0, m, a => pur 0 m a

/-- The guards of the rows that 'purU' takes as being there. -/
def pgs : Nat → Mem → AV → List Prop
  | d + 1, m, a => match a with
    | .agg cs => cs.flatMap (pgs d m)
    | .tup cs => cs.flatMap (pgs d m)
    | .bx r k => match look m r with
      | some fam => gOb (fam 0).g ((((fam 0).get 0).drop k).flatMap (pgs d m))
      | none => []
    | .own r f _ _ => match look m r with
      | some fam => gOb (fam f).g []
      | none => []
    | .vw r f _ _ _ => match look m r with
      | some fam => gOb (fam f).g []
      | none => []
    | .fn _ cs => cs.flatMap (pgs d m)
    | .iface _ x => pgs d m x
    | _ => []
  | 0, _, _ => []

/-- Nothing of our own is in it. -/
def clean : Nat → AV → Bool
  | _, .v _ => true
  | _, .any => true
  | _, .ro _ _ _ => true
  | _, .rop _ => true
  | d + 1, .agg cs => cs.all (clean d)
  | d + 1, .tup cs => cs.all (clean d)
  | d + 1, .fn _ cs => cs.all (clean d)
  | d + 1, .iface _ x => clean d x
  | d + 1, .cond _ x => clean d x
  | _, _ => false
/-- It speaks of no memory. -/
def plain : Nat → AV → Bool
  | _, .v _ => true
  | _, .any => true
  | d + 1, .agg cs => cs.all (plain d)
  | d + 1, .tup cs => cs.all (plain d)
  | d + 1, .iface _ x => plain d x
  | _, _ => false

/-! ### Equality -/

def partV (P : Program) (t : TypeId) (cs : List Value) (off : Nat) : Option Value :=
  match layT P t with
  | some (true, n) => some (.agg ((cs.drop off).take n).toArray)
  | some (false, _) => cs[off]?
  | none => none
/-- May values of the type be held against each other by the rule below? -/
def eqOkT (P : Program) (t : TypeId) : Bool := !P.eqGuardType P.depth t
def eqFs (P : Program) (eq : TypeId → Value → Value → Option Bool) (xs ys : List Value) : List Field → Option Bool
  | [] => some true
  | f :: fs => match decide (f.name = "_") with
    | true => eqFs P eq xs ys fs
    | false => match partV P f.type xs f.offset with
      | some a => match partV P f.type ys f.offset with
        | some b => match eq f.type a b with
          | some r => match eqFs P eq xs ys fs with
            | some q => some (r && q)
            | none => none
          | none => none
        | none => none
      | none => none
inductive Kd where
  | bool
  | int
  | string
  | struct (fs : List Field)
  | other
/-- What equality asks of a type. -/
def kindT (P : Program) (t : TypeId) : Kd :=
  match P.underlying t with
  | some .bool => .bool
  | some (.int _) => .int
  | some .string => .string
  | some (.struct fs) => if P.stoodInHeld t then .other else .struct fs.toList
  | _ => .other
def eqT (P : Program) : Nat → TypeId → Value → Value → Option Bool
  | 0, _, _, _ => none
  | d + 1, t, x, y => match kindT P t with
    | .bool => match x, y with
      | .bool a, .bool b => some (a == b)
      | _, _ => none
    | .int => match x, y with
      | .int k a, .int k' b => if k = k' then some (a == b) else none
      | _, _ => none
    | .string => match x, y with
      | .string a, .string b => some (a == b)
      | _, _ => none
    | .struct fs => match x, y with
      | .agg xs, .agg ys => eqFs P (eqT P d) xs.toList ys.toList fs
      | _, _ => none
    | .other => none

/-! ### The operations -/

def boolOf : AV → Option Bool
  | .v (.bool b) => some b
  | _ => none
def intOfA : AV → Option Int
  | .v (.int _ n) => some n
  | _ => none
def natLit : AV → Option Nat
  | .v (.int _ (.ofNat n)) => some n
  | _ => none

/-- 'a || b', 'a && b'; the second operand may be there only where it is asked for. -/
def aPick (ρ0 : Operand → AV) (c a b : Operand) : Option (List Prop × AV) :=
  match boolOf (strip (ρ0 c)) with
  | some t => match a, b with
    | .const (.bool true), y => match boolOf (strip (ρ0 y)) with
      | some q => some (needs [ρ0 c] ++ (needs [ρ0 y]).map (t = false → ·), .v (.bool (t || q)))
      | none => none
    | x, .const (.bool false) => match boolOf (strip (ρ0 x)) with
      | some q => some (needs [ρ0 c] ++ (needs [ρ0 x]).map (t = true → ·), .v (.bool (t && q)))
      | none => none
    | _, _ => none
  | none => none

def aBuild (P : Program) (ρ : Operand → AV) (t : TypeId) (parts : List (Nat × Operand)) : Option AV :=
  match zeroT P t with
  | some z => match bPlaces P t with
    | some pl => match fillA (fun i => pl[i]?) (z.cells.toList.map .v) (parts.map fun (i, x) => (i, ρ x)) with
      | some cs => some (.agg cs)
      | none => none
    | none => none
  | none => none

def zeros (z : Value) (n : Nat) : List AV := (List.replicate n (z.cells.toList.map AV.v)).flatten

def aBuildSlice (P : Program) (ρ : Operand → AV) (key : Nat) (t : TypeId) (len : Nat) (parts : List (Nat × Operand)) (g : Option Bool) : Option Eff :=
  match sElem P t with
  | some e => match zeroT P e with
    | some z => if len * sizeT P e ≤ 16777216 ∧ z.cells.size = sizeT P e then
        match fillA (fun i => some (i * sizeT P e, sizeT P e)) (zeros z len) (parts.map fun (i, x) => (i, ρ x)) with
        | some cs => some ⟨[], .own key 0 len (sizeT P e), .new (fun f => if f = 0 then ⟨len, sizeT P e, e, rowsOf (sizeT P e) cs, g⟩ else ⟨0, sizeT P e, e, fun _ => [], g⟩)⟩
        | none => none
      else none
    | none => none
  | none => none

/-- The place of an element. -/
def aIndexAddr (P : Program) (t : TypeId) (x i : AV) : Option (List Prop × AV) :=
  match intOfA i with
  | some n => match x with
    | .ro len sz get => match sElem P t with
      | some e => if (P.info? e).isSome = true ∧ sizeT P e = sz then some ([0 ≤ n, n < (len : Int)], .rop (get n.toNat)) else none
      | none => none
    | .own r f len sz => match sElem P t with
      | some e => if (P.info? e).isSome = true ∧ sizeT P e = sz then some ([0 ≤ n, n < (len : Int)], .ptr r f n.toNat sz 0) else none
      | none => none
    | .vw r f lo len sz => match sElem P t with
      | some e => if (P.info? e).isSome = true ∧ sizeT P e = sz then some ([0 ≤ n, n < (len : Int)], .ptr r f (lo + n.toNat) sz 0) else none
      | none => none
    | .bx r k => match aElem P t with
      | some (len, e) => if (P.info? e).isSome = true then some ([0 ≤ n, n < (len : Int)], .bx r (k + n.toNat * sizeT P e)) else none
      | none => none
    | .ptr r f j sz k => match aElem P t with
      | some (len, e) => if (P.info? e).isSome = true then some ([0 ≤ n, n < (len : Int)], .ptr r f j sz (k + n.toNat * sizeT P e)) else none
      | none => none
    | .rop cs => match aElem P t with
      | some (len, e) => if (P.info? e).isSome = true then some ([0 ≤ n, n < (len : Int)], .rop (cs.drop (n.toNat * sizeT P e))) else none
      | none => none
    | _ => none
  | none => none

def lenA : AV → Option Nat
  | .ro n _ _ => some n
  | .own _ _ n _ => some n
  | .vw _ _ _ n _ => some n
  | _ => none

def aField (P : Program) (s : TypeId) (f : Nat) (x : AV) : Option AV :=
  match x with
  | .agg cs => match fOff P s f with
    | some off => match fTy P s f with
      | some t => ofCells P t (cs.drop off)
      | none => none
    | none => none
  | _ => none

def aFieldAddr (P : Program) (s : TypeId) (f : Nat) (p : AV) : Option AV :=
  match fOff P s f with
  | some off => match p with
    | .bx r k => some (.bx r (k + off))
    | .ptr r g i sz k => some (.ptr r g i sz (k + off))
    | .rop cs => some (.rop (cs.drop off))
    | _ => none
  | none => none

def effOf (a : Option AV) : Option Eff :=
  match a with
  | some x => some ⟨[], x, .none⟩
  | none => none
def effOf2 (a : Option (List Prop × AV)) : Option Eff :=
  match a with
  | some (ob, x) => some ⟨ob, x, .none⟩
  | none => none

def orElse {α : Type} (a b : Option α) : Option α :=
  match a with
  | some x => some x
  | none => b

/-- A value in an interface against no value. -/
def aNil (P : Program) (t : TypeId) (x y : AV) : Option Bool :=
  match x, y with
  | .iface _ _, .v .nilIface => match P.underlying t with
    | some (.interface _) => some false
    | _ => none
  | _, _ => none
def aEq (P : Program) (t : TypeId) (x y : AV) : Option Bool :=
  match aNil P t x y with
  | some b => some b
  | none => match eqOkT P t with
  | true => match flat x, flat y with
    | some (.agg xs), some (.agg ys) => eqT P 20 t (.agg xs) (.agg ys)
    | _, _ => none
  | false => none

def nonNil : AV → Bool
  | .bx _ _ => true
  | .ptr _ _ _ _ _ => true
  | .rop _ => true
  | .iface _ _ => true
  | _ => false

/-- One operation that is no call of a function. ρ0: the operands as they stand; g: what guards the operation. -/
def aop (P : Program) (key : Nat) (g : Option Bool) (o : Oper) (ρ0 : Operand → AV) (m : Mem) : Option Eff :=
  let ρ := fun x => strip (ρ0 x)
  match o.op with
  | .move x => some ⟨[], ρ x, .none⟩
  | .assign x => some ⟨[], ρ x, .none⟩
  | .pick c a b => effOf2 (aPick ρ0 c a b)
  | .alloc t => match zeroT P t with
    | some z => some (aAlloc key t (z.cells.toList.map .v) g)
    | none => none
  | .box t x => match cellsOf (ρ x) with
    | some cs => some (aAlloc key t cs g)
    | none => none
  | .load t p => effOf2 (aLoad P t (ρ p) m)
  | .store t p x => aStore P t (ρ p) (ρ x) m
  | .build t parts => effOf (aBuild P ρ t parts.toList)
  | .buildSlice t len parts => aBuildSlice P ρ key t len parts.toList g
  | .fieldAddr s p f => effOf (aFieldAddr P s f (ρ p))
  | .field s x f => effOf (aField P s f (ρ x))
  | .indexAddr t x i => effOf2 (aIndexAddr P t (ρ x) (ρ i))
  | .makeFunc (.func f) first cap => match first.toList with
    | [] => some ⟨[], .fn f (cap.toList.map ρ), .none⟩
    | _ => none
  | .makeInterface t x => match concreteT P t with
    | true => some ⟨[], .iface t (ρ x), .none⟩
    | false => none
  | .extract x i => match ρ x with
    | .tup cs => effOf cs[i]?
    | _ => effOf (aPure P ρ o)
  | .nilCheck x => match nonNil (ρ x) with
    | true => some ⟨[], ρ x, .none⟩
    | false => effOf (aPure P ρ o)
  | .typeAssert x _ t true => match ρ x with
    | .iface u y => match concreteT P t with
      | true => if u = t then some ⟨[], .tup [y, .v (.bool true)], .none⟩ else match zeroT P t with
        | some z => some ⟨[], .tup [ofVal1 z, .v (.bool false)], .none⟩
        | none => none
      | false => none
    | _ => effOf (aPure P ρ o)
  | .typeAssert x _ t false => match ρ x with
    | .iface u y => match concreteT P t with
      | true => if u = t then some ⟨[], y, .none⟩ else none
      | false => none
    | _ => effOf (aPure P ρ o)
  | .binOp .eql t x y _ => match aEq P t (ρ x) (ρ y) with
    | some b => some ⟨[], .v (.bool b), .none⟩
    | none => effOf (aPure P ρ o)
  | .binOp .neq t x y _ => match aEq P t (ρ x) (ρ y) with
    | some b => some ⟨[], .v (.bool (!b)), .none⟩
    | none => effOf (aPure P ρ o)
  | .call ⟨.builtin .len, args, ats⟩ => match args.toList.map ρ, ats.toList with
    | [x], [t] => match lenA x with
      | some n => match sElem P t with
        | some _ => some ⟨[], .v (.int .i64 n), .none⟩
        | none => none
      | none => effOf (aPure P ρ o)
    | _, _ => none
  | _ => effOf (aPure P ρ o)

/-! ### Slices that are made, cut and appended to -/

/-- A row of some elements, alone in its family. -/
def famN (n sz : Nat) (ty : TypeId) (get : Nat → List AV) (g : Option Bool) : Fam := fun f => if f = 0 then ⟨n, sz, ty, get, g⟩ else ⟨0, sz, ty, fun _ => [], g⟩

def aMake (P : Program) (key : Nat) (g : Option Bool) (t : TypeId) (l c : AV) : Option Eff :=
  match sElem P t with
  | some e => match zeroT P e with
    | some z => match intOfA l with
      | some n => match intOfA c with
        | some q => if z.cells.size = sizeT P e then some ⟨[0 ≤ n, n ≤ q, q ≤ 9223372036854775807, (bytesT P e : Int) * q ≤ 281474976710656], .own key 0 n.toNat (sizeT P e), .new (famN n.toNat (sizeT P e) e (fun _ => z.cells.toList.map .v) g)⟩ else none
        | none => none
      | none => none
    | none => none
  | none => none

/-- The bounds of a slice expression. -/
def cutBound (d : Nat) : Option AV → Option Int
  | none => some d
  | some a => intOfA a
def aCut (P : Program) (t : TypeId) (x : AV) (lo hi : Option AV) : Option Eff :=
  match sElem P t with
  | some e => if (P.info? e).isSome = true then (match lenA x with
    | some n => match cutBound 0 lo, cutBound n hi with
      | some l, some h => match x with
        | .ro _ sz get => if sizeT P e = sz then some ⟨[0 ≤ l, l ≤ h, h ≤ (n : Int)], .ro (h - l).toNat sz (fun i => get (l.toNat + i)), .none⟩ else none
        | .own r f _ sz => if sizeT P e = sz then some ⟨[0 ≤ l, l ≤ h, h ≤ (n : Int)], .vw r f l.toNat (h - l).toNat sz, .none⟩ else none
        | .vw r f q _ sz => if sizeT P e = sz then some ⟨[0 ≤ l, l ≤ h, h ≤ (n : Int)], .vw r f (q + l.toNat) (h - l).toNat sz, .none⟩ else none
        | _ => none
      | _, _ => none
    | none => none) else none
  | none => none

/-- What is appended. -/
def srcOf (x : AV) (m : Mem) : Option (List Prop × Nat × Nat × (Nat → List AV)) := match x with
  | .ro k sz get => some ([], k, sz, get)
  | .own r f k sz => match look m r with
    | some fam => some ((k ≤ (fam f).n) :: (sz = (fam f).sz) :: gOb (fam f).g [], k, sz, (fam f).get)
    | none => none
  | .vw r f lo k sz => match look m r with
    | some fam => some ((lo + k ≤ (fam f).n) :: (sz = (fam f).sz) :: gOb (fam f).g [], k, sz, fun i => (fam f).get (lo + i))
    | none => none
  | _ => none
def isNilS : AV → Bool
  | .v (.slice none 0 0) => true
  | _ => false
def aAppend (P : Program) (key : Nat) (t : TypeId) (s x : AV) (m : Mem) : Option Eff :=
  match sElem P t with
  | some e => match zeroT P e with
    | some z => if z.cells.size = sizeT P e ∧ 0 < sizeT P e then (match srcOf x m with
      | some (ob, k, sz, getx) => if sz = sizeT P e then (match s with
        | .v (.slice none 0 0) => some ⟨ob ++ [∀ i, i < k → allCells (getx i) = true, k * bytesT P e ≤ 140737488355328, k ≤ 9223372036854775807], .own key 0 k sz, .new (famN k sz e getx none)⟩
        | .own r f n sz' => if f = 0 ∧ sz' = sz then (match look m r with
          | some fam => some ⟨ob ++ [n ≤ (fam 0).n, sz = (fam 0).sz, (fam 0).ty = e, (fam 0).g = none, ∀ i, i < k → allCells (getx i) = true, (n + k) * bytesT P e ≤ 140737488355328, n + k ≤ 9223372036854775807], .own key 0 (n + k) sz, .swap r (famN (n + k) sz e (fun i => if i < n then (fam 0).get i else getx (i - n)) none)⟩
          | none => none) else none
        | _ => none) else none
      | none => none) else none
    | none => none
  | none => none

def isExt : Op → Bool
  | .makeSlice _ _ _ => true
  | .slice _ _ _ _ none => true
  | .call ⟨.builtin .append, _, _⟩ => true
  | _ => false
def aExt (P : Program) (key : Nat) (g : Option Bool) (o : Oper) (ρ0 : Operand → AV) (m : Mem) : Option Eff :=
  match o.op with
  | .makeSlice t l c => aMake P key g t (strip (ρ0 l)) (strip (ρ0 c))
  | .slice t x lo hi none => aCut P t (strip (ρ0 x)) (lo.map fun y => strip (ρ0 y)) (hi.map fun y => strip (ρ0 y))
  | .call ⟨.builtin .append, args, ats⟩ => match args.toList, ats.toList, g with
    | [s, x], [t, u], none => if t = u then aAppend P key t (strip (ρ0 s)) (strip (ρ0 x)) m else none
    | _, _, _ => none
  | _ => none

/-! ### Calls of functions that only compute -/

/-- A contract: of the arguments, what is owed and the result. -/
abbrev Con := List AV → Option (List Prop × AV)
abbrev Ctx := List (FuncId × Con)
def ctxGet : Ctx → FuncId → Option Con
  | [], _ => none
  | (g, c) :: rest, f => if g = f then some c else ctxGet rest f

/-- Contracts of functions; those of iterators lie from this number on. -/
def seqBase : Nat := 1000000
def ctxCall (G : Ctx) (f : FuncId) : Option Con := if f < 1000000 then ctxGet G f else none

def aCall (G : Ctx) (f : FuncId) (as : List AV) (m : Mem) : Option (List Prop × AV) :=
  match ctxCall G f with
  | some c => match as.all (clean 3) with
    | true => c as
    | false => match c (as.map (purU 3 m)) with
      | some (ob, r) => match plain 3 r with
        | true => some (as.flatMap (pgs 3 m) ++ ob, r)
        | false => none
      | none => none
  | none => none

/-- The function that a method of a type's values is, if it takes the value as it is. -/
def methT (P : Program) (t : TypeId) (name : String) : Option FuncId :=
  match P.info? t with
  | some i => match i.methods.find? (·.name == name) with
    | some m => match m.path.toList, m.func with
      | [], some (f, ptr) => match P.underlying t with
        | some (.pointer _) => if ptr then some f else none
        | some _ => if ptr then none else some f
        | none => none
      | _, _ => none
    | none => none
  | none => none

def aStep (P : Program) (G : Ctx) (key : Nat) (g : Option Bool) (o : Oper) (ρ0 : Operand → AV) (m : Mem) : Option Eff :=
  match o.op with
  | .call ⟨.value f, args, _⟩ => match strip (ρ0 f) with
    | .fn h cap => effOf2 (aCall G h (args.toList.map (fun x => strip (ρ0 x)) ++ cap) m)
    | _ => none
  | .call ⟨.invoke r name, args, _⟩ => match strip (ρ0 r) with
    | .iface t x => match methT P t name with
      | some h => effOf2 (aCall G h (x :: args.toList.map (fun x => strip (ρ0 x))) m)
      | none => none
    | .v .nilIface => some ⟨[False], .v (.bool false), .none⟩
    | _ => none
  | _ => match isExt o.op with
    | true => aExt P key g o ρ0 m
    | false => aop P key g o ρ0 m

/-! ### Regions -/

def isPick : Op → Bool
  | .pick _ _ _ => true
  | _ => false
def owed (o : Oper) (ρ0 : Operand → AV) : List Prop := if isPick o.op then [] else needs (o.op.operands.toList.map ρ0)

def guardOf (ops : Array Oper) (sl : Nat → AV) (g : Nat × Bool) : Option Bool :=
  match (ops[g.1]?).bind (·.dst) with
  | some d => match sl d with
    | .v (.bool b) => some (match g.2 with | true => b | false => !b)
    | .cond c (.v (.bool b)) => some (c && (match g.2 with | true => b | false => !b))
    | _ => none
  | none => none

def putSlot (d : Option Tmp) (a : AV) (t : Slots) : Slots :=
  match d with
  | some d => (d, a) :: t
  | none => t

def Upd.mild : Upd → Bool
  | .none => true
  | .new _ => true
  | _ => false

/-- One operation of a region: what is owed; the value; the rows. -/
def stepE (P : Program) (G : Ctx) (ops : Array Oper) (key : Nat) (o : Oper) (t : Slots) (m : Mem) : Option Eff :=
  match o.guard with
  | none => match aStep P G key none o (opd t) m with
    | some e => some ⟨owed o (opd t) ++ e.ob, e.val, e.u⟩
    | none => none
  | some g => match guardOf ops (slot t) g with
    | some b => match aStep P G key (some b) o (opd t) m with
      | some e => match e.u.mild with
        | true => some ⟨(owed o (opd t) ++ e.ob).map (b = true → ·), .cond b e.val, e.u⟩
        | false => none
      | none => none
    | none => none

/-- Where the pointer of a store in a region that draws its order comes from: a slot that the region leaves alone, or an operation of the region that makes a row. -/
inductive Root where
  | slot (q : Nat)
  | made (a : Nat)
  deriving DecidableEq

/-- For a region that draws its order: the roots of its stores; which roots' rows an operation must do without. -/
structure Hot where
  root : List (Nat × Root)
  hide : List (Nat × List Root)
abbrev Hots := List (Nat × Hot)

def rootOf : List (Nat × Root) → Nat → Option Root
  | [], _ => none
  | (k, r) :: rest, i => if k = i then some r else rootOf rest i
def hideOf : List (Nat × List Root) → Nat → List Root
  | [], _ => []
  | (k, r) :: rest, i => if k = i then r else hideOf rest i
def hotAt : Hots → Nat → Hot
  | [], _ => ⟨[], []⟩
  | (k, h) :: rest, i => if k = i then h else hotAt rest i
def hotOf (H : Hots) (id : Nat) : Bool → Option Hot
  | true => some (hotAt H id)
  | false => none

def keyOf (base : Nat) (t : Slots) : Root → Option Nat
  | .made a => some (base + a)
  | .slot q => match slot t q with
    | .bx r _ => some r
    | .ptr r _ _ _ _ => some r
    | .own r _ _ _ => some r
    | _ => none
def hidden (base : Nat) (t : Slots) (k : Nat) : List Root → Bool
  | [] => false
  | r :: rest => (match keyOf base t r with
    | some q => decide (q = k)
    | none => false) || hidden base t k rest

/-- In a region that draws its order an operation may lean on rows made by operations that it names alone, and on none that another one may change meanwhile. -/
def restr (h : Hot) (base i : Nat) (o : Oper) (t : Slots) (m : Mem) : Mem :=
  m.filter fun e => (decide (e.1 < base) || o.after.any fun x => decide (base + x.on = e.1) && Region.binds .any x) && !hidden base t e.1 (hideOf h.hide i)
def memFor (hot : Option Hot) (base i : Nat) (o : Oper) (t : Slots) (m : Mem) : Mem :=
  match hot with
  | some h => restr h base i o t m
  | none => m

/-- A store changes the row that its root says. -/
def rootOK (hot : Option Hot) (base i : Nat) (t : Slots) (u : Upd) : Bool :=
  match hot with
  | some h => match u with
    | .set r _ => match rootOf h.root i with
      | some x => match keyOf base t x with
        | some q => decide (q = r)
        | none => false
      | none => true
    | .swap _ _ => false
    | _ => true
  | none => true

def optK {α : Type} (x : Option α) (k : α → Prop) : Prop :=
  match x with
  | some e => k e
  | none => False
def boolK (b : Bool) (k : Prop) : Prop :=
  match b with
  | true => k
  | false => False

def regP (P : Program) (G : Ctx) (hot : Option Hot) (ops : Array Oper) (base : Nat) : List Oper → Nat → St → (St → Prop) → Prop
  | [], _, s, K => K s
  | o :: rest, i, s, K => optK (stepE P G ops (base + i) o s.t (memFor hot base i o s.t s.m)) fun e =>
    boolK (rootOK hot base i s.t e.u) (conj e.ob (regP P G hot ops base rest (i + 1) { s with t := putSlot o.dst e.val s.t, m := e.u.app (base + i) s.m } K))

/-! ### Code -/

inductive AEx where
  | normal
  | exit (id : Nat)
  | ret

def writesOps : List Oper → List Nat
  | [] => []
  | o :: rest => match o.dst with
    | some d => d :: writesOps rest
    | none => writesOps rest
def writes : Code → List Nat
  | .region _ ops _ => writesOps ops.toList
  | .seq a b => writes a ++ writes b
  | .cond _ a b => writes a ++ writes b
  | .block _ c => writes c
  | .loop c => writes c
  | .rangeFunc _ ps a b => ps.toList ++ writes a ++ writes b
  | _ => []

/-- The slots of some numbers are forgotten. -/
def dropW (ws : List Nat) : Slots → Slots
  | [] => []
  | (j, a) :: rest => if j ∈ ws then dropW ws rest else (j, a) :: dropW ws rest
def havoc (ws : List Nat) (t : Slots) : Slots := dropW ws t ++ ws.map (fun j => (j, AV.any))

def seqK (K : AEx → St → Prop) (next : St → Prop) : AEx → St → Prop
  | .normal, s => next s
  | .exit j, s => K (.exit j) s
  | .ret, s => K .ret s
def blockK (id : Nat) (K : AEx → St → Prop) : AEx → St → Prop
  | .normal, s => K .normal s
  | .exit j, s => if j = id then K .normal s else K (.exit j) s
  | .ret, s => K .ret s

/-- All keys in it are below N. -/
def kb : Nat → Nat → AV → Prop
  | _, _, .v _ => True
  | _, _, .any => True
  | _, _, .ro _ _ _ => True
  | _, _, .rop _ => True
  | _, N, .bx r _ => r < N
  | _, N, .ptr r _ _ _ _ => r < N
  | _, N, .own r _ _ _ => r < N
  | _, N, .vw r _ _ _ _ => r < N
  | d + 1, N, .agg cs => ∀ c ∈ cs, kb d N c
  | d + 1, N, .tup cs => ∀ c ∈ cs, kb d N c
  | d + 1, N, .fn _ cs => ∀ c ∈ cs, kb d N c
  | d + 1, N, .iface _ x => kb d N x
  | d + 1, N, .cond _ x => kb d N x
  | _, _, _ => False

/-- What a loop's invariant says, x being what is left open: the values of variables that it writes (live); the rows that it writes (rows); the keys of rows that stay as they are (keep). Keys from the state's own bound on are names for rows that a round may exchange for others: so many of them (names). -/
structure Inv (X : Type) where
  live : X → Slots
  rows : X → Mem
  keep : List Nat
  names : Nat
  ok : X → Prop
  μ : X → Nat

/-- Which row a name stands for: no row: an empty one. -/
abbrev Names := List (Nat × Option Nat)
def asg : Names → Nat → Option Nat
  | [], r => some r
  | (k, x) :: rest, r => if k = r then x else asg rest r

/-- The new value says of the old one what is so. -/
def fit1 (N M : Nat) (σ : Names) (new old : AV) : Prop :=
  match new with
  | .own r f n sz => r < M ∧ match asg σ r with
    | some k => old = .own k f n sz
    | none => n = 0 ∧ old = .v (.slice none 0 0)
  | .any => True
  | a => old = a ∧ kb 3 N a
def fitL (N M : Nat) (σ : Names) : List AV → List AV → Prop
  | [], [] => True
  | a :: as, b :: bs => fit1 N M σ a b ∧ fitL N M σ as bs
  | _, _ => False
def fitSlots (N M : Nat) (σ : Names) (W : List Nat) (t : Slots) : Slots → Prop
  | [] => True
  | (j, a) :: rest => j ∈ W ∧ fit1 N M σ a (slot t j) ∧ fitSlots N M σ W t rest
def fitRow (N M : Nat) (σ : Names) (new old : Row) : Prop :=
  new.n = old.n ∧ new.sz = old.sz ∧ new.ty = old.ty ∧ old.g = none ∧ new.g = none ∧ ∀ i, i < new.n → fitL N M σ (new.get i) (old.get i)
def fitRows (N M : Nat) (σ : Names) (m : Mem) : Mem → Prop
  | [] => True
  | (r, x) :: rest => (match asg σ r with
    | some k => ∃ y, look m k = some y ∧ ∀ f, fitRow N M σ (x f) (y f)
    | none => ∀ f, (x f).n = 0 ∧ (x f).g = none) ∧ fitRows N M σ m rest
def fitKeep (m m' : Mem) : List Nat → Prop
  | [] => True
  | r :: rest => look m' r = look m r ∧ fitKeep m m' rest

/-- The rows that the invariant speaks of. -/
def keptRows (keep : List Nat) (m : Mem) : Mem := m.filter fun e => keep.contains e.1

/-- The state at a loop's head: what the loop writes is forgotten but for what the invariant says. -/
def headSt {X : Type} (I : Inv X) (W : List Nat) (s : St) (x : X) : St := ⟨I.live x ++ havoc W s.t, I.rows x ++ keptRows I.keep s.m, s.nx + I.names⟩

/-- The names serve: those of rows are different rows, and none of those that are kept. -/
def goodNames (N k : Nat) (σ : Names) (rows : Mem) (keep : List Nat) : Prop :=
  (∀ p ∈ σ, N ≤ p.1 ∧ p.1 < N + k) ∧ (rows.map (·.1)).Nodup ∧ ((rows.filterMap fun e => asg σ e.1) ++ keep).Nodup ∧ (∀ e ∈ rows, e.1 < N + k)

/-- A state 's'' at a loop's head fits the invariant, the loop having been met in the state 's'. -/
def fits {X : Type} (I : Inv X) (W : List Nat) (s : St) (x : X) (s' : St) : Prop :=
  ∃ σ : Names, fitSlots s.nx (s.nx + I.names) σ W s'.t (I.live x) ∧ fitRows s.nx (s.nx + I.names) σ s'.m (I.rows x) ∧ fitKeep s.m s'.m I.keep ∧ goodNames s.nx I.names σ (I.rows x) I.keep

def loopP (body : St → (AEx → St → Prop) → Prop) (W : List Nat) (s : St) (K : AEx → St → Prop) : Prop :=
  ∃ (X : Type) (I : Inv X), (∃ x, I.ok x ∧ fits I W s x s) ∧ ∀ x, I.ok x → body (headSt I W s x) (seqK K fun s' => ∃ y, I.ok y ∧ I.μ y < I.μ x ∧ fits I W s y s')

/-- The parameters of a round get their values. -/
def slotsOf : List Nat → List AV → Slots → Slots
  | p :: ps, a :: as, t => slotsOf ps as ((p, a) :: t)
  | _, _, t => t
/-- Behind a round of a range over a function: the temporaries are again those at the statement. -/
def rangeK {X : Type} (I : Inv X) (cnt : X → Nat) (W : List Nat) (s : St) (x : X) (K : AEx → St → Prop) : AEx → St → Prop
  | .normal, s' => ∃ y, I.ok y ∧ cnt y = cnt x + 1 ∧ fits I W s y { s' with t := havoc W s.t }
  | .exit j, s' => K (.exit j) { s' with t := havoc W s.t }
  | .ret, s' => K .ret { s' with t := havoc W s.t }
/-- A range over a function that hands over N times, the i-th time the values 'sq i'. -/
def rangeP (body : St → (AEx → St → Prop) → Prop) (W ps : List Nat) (N : Nat) (sq : Nat → List AV) (s : St) (K : AEx → St → Prop) : Prop :=
  (∀ i, i < N → (sq i).length = ps.length ∧ (sq i).all (plain 3) = true) ∧
  ∃ (X : Type) (I : Inv X) (cnt : X → Nat), (∀ x, I.live x = []) ∧ (∃ x, I.ok x ∧ cnt x = 0 ∧ fits I W s x { s with t := havoc W s.t }) ∧
    (∀ x, I.ok x → cnt x < N → body { headSt I W s x with t := slotsOf ps (sq (cnt x)) (havoc W s.t) } (rangeK I cnt W s x K)) ∧
    (∀ x, I.ok x → cnt x = N → K .normal (headSt I W s x))
/-- The iterator that is ranged over: what is owed; how often; what. -/
def seqOf (G : Ctx) (g : AV) : Option (List Prop × Nat × (Nat → List AV)) :=
  match g with
  | .fn f cs => match cs.all (clean 3) with
    | true => match ctxGet G (1000000 + f) with
      | some c => match c cs with
        | some (ob, .ro N _ sq) => some (ob, N, sq)
        | _ => none
      | none => none
    | false => none
  | _ => none

def awp (P : Program) (G : Ctx) (H : Hots) : Code → St → (AEx → St → Prop) → Prop
  | .skip, s, K => K .normal s
  | .region id ops draw, s, K => regP P G (hotOf H id draw) ops s.nx ops.toList 0 s fun s' => K .normal { s' with nx := s.nx + ops.size }
  | .seq a b, s, K => awp P G H a s (seqK K fun s' => awp P G H b s' K)
  | .cond c x y, s, K => optK (boolOf (opd s.t c)) fun b => (b = true → awp P G H x s K) ∧ (b = false → awp P G H y s K)
  | .block id c, s, K => awp P G H c s (blockK id K)
  | .ret, s, K => K .ret s
  | .exit id, s, K => K (.exit id) s
  | .loop c, s, K => loopP (awp P G H c) (writes c) s K
  | .rangeFunc g ps x c, s, K => optK (seqOf G (opd s.t g)) fun q => conj q.1 (rangeP (fun s' K' => awp P G H x s' (seqK (fun _ _ => False) fun s2 => awp P G H c s2 K')) (ps.toList ++ writes x ++ writes c) ps.toList q.2.1 q.2.2 s K)
  | _, _, _ => False

/-! ### Functions -/

def resOf (P : Program) (r : ResultVar) (s : St) : Option (List Prop × AV) :=
  match r with
  | .tmp t => match slot s.t t with
    | .cond _ _ => none
    | a => some ([], a)
  | .cell a t => aLoad P t (slot s.t a) s.m
def resList (P : Program) (s : St) : List ResultVar → Option (List Prop × List AV)
  | [] => some ([], [])
  | r :: rest => match resOf P r s with
    | some (ob, a) => match resList P s rest with
      | some (obs, as) => some (ob ++ obs, a :: as)
      | none => none
    | none => none
def resAll (P : Program) (s : St) (rs : List ResultVar) : Option (List Prop × AV) :=
  match resList P s rs with
  | some (ob, [a]) => some (ob, a)
  | some (ob, as) => some (ob, .tup as)
  | none => none

def argSlots (i : Nat) : List AV → Slots
  | [] => []
  | a :: rest => (i, a) :: argSlots (i + 1) rest

/-- At a function's end: the result, as an outsider sees it. -/
def endK (P : Program) (fn : Func) (K : AV → Prop) : AEx → St → Prop
  | .exit _, _ => False
  | _, s => match resAll P s fn.results.toList with
    | some (ob, a) => conj ob (K (pur 3 s.m a))
    | none => False

def fnVC (P : Program) (G : Ctx) (H : Hots) (fn : Func) (as : List AV) (K : AV → Prop) : Prop :=
  match fn.body with
  | some c => awp P G H c ⟨argSlots 0 as, [], 0⟩ (endK P fn K)
  | none => False

end Go.Ax
