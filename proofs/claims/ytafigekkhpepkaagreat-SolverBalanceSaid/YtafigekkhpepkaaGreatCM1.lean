/-
  Abstract values and an evaluator of the model's code over them. Nothing is proved here; what these words are good for is proved in the texts behind this one.
-/
import Derived.WalkKit
import Derived.OrdersIn
import Derived.Below
import Derived.ChangeKeysEq
import Derived.RangeFuncCalls
import Derived.RangeFuncSeq
import Derived.Laws.AppendOwn
import Derived.Laws.MakeOwn
import Derived.Laws.CopyRow
set_option linter.unusedVariables false
set_option linter.unusedSimpArgs false
section
namespace Go.Ax
theorem ob0 {a0:Prop} {l:List Prop} (h:∀ p ∈ a0::l,p):a0:=h _ (by simp)
theorem ob1 {a0 a1:Prop} {l:List Prop} (h:∀ p ∈ a0::a1::l,p):a1:=h _ (by simp)
theorem ob2 {a0 a1 a2:Prop} {l:List Prop} (h:∀ p ∈ a0::a1::a2::l,p):a2:=h _ (by simp)
theorem ob3 {a0 a1 a2 a3:Prop} {l:List Prop} (h:∀ p ∈ a0::a1::a2::a3::l,p):a3:=h _ (by simp)
theorem ob4 {a0 a1 a2 a3 a4:Prop} {l:List Prop} (h:∀ p ∈ a0::a1::a2::a3::a4::l,p):a4:=h _ (by simp)
theorem ob5 {a0 a1 a2 a3 a4 a5:Prop} {l:List Prop} (h:∀ p ∈ a0::a1::a2::a3::a4::a5::l,p):a5:=h _ (by simp)
theorem ob6 {a0 a1 a2 a3 a4 a5 a6:Prop} {l:List Prop} (h:∀ p ∈ a0::a1::a2::a3::a4::a5::a6::l,p):a6:=h _ (by simp)
theorem ob7 {a0 a1 a2 a3 a4 a5 a6 a7:Prop} {l:List Prop} (h:∀ p ∈ a0::a1::a2::a3::a4::a5::a6::a7::l,p):a7:=h _ (by simp)
theorem ob8 {a0 a1 a2 a3 a4 a5 a6 a7 a8:Prop} {l:List Prop} (h:∀ p ∈ a0::a1::a2::a3::a4::a5::a6::a7::a8::l,p):a8:=h _ (by simp)
theorem ob9 {a0 a1 a2 a3 a4 a5 a6 a7 a8 a9:Prop} {l:List Prop} (h:∀ p ∈ a0::a1::a2::a3::a4::a5::a6::a7::a8::a9::l,p):a9:=h _ (by simp)
theorem ob10 {a0 a1 a2 a3 a4 a5 a6 a7 a8 a9 a10:Prop} {l:List Prop} (h:∀ p ∈ a0::a1::a2::a3::a4::a5::a6::a7::a8::a9::a10::l,p):a10:=h _ (by simp)
theorem ob11 {a0 a1 a2 a3 a4 a5 a6 a7 a8 a9 a10 a11:Prop} {l:List Prop} (h:∀ p ∈ a0::a1::a2::a3::a4::a5::a6::a7::a8::a9::a10::a11::l,p):a11:=h _ (by simp)
theorem ob12 {a0 a1 a2 a3 a4 a5 a6 a7 a8 a9 a10 a11 a12:Prop} {l:List Prop} (h:∀ p ∈ a0::a1::a2::a3::a4::a5::a6::a7::a8::a9::a10::a11::a12::l,p):a12:=h _ (by simp)
theorem ob13 {a0 a1 a2 a3 a4 a5 a6 a7 a8 a9 a10 a11 a12 a13:Prop} {l:List Prop} (h:∀ p ∈ a0::a1::a2::a3::a4::a5::a6::a7::a8::a9::a10::a11::a12::a13::l,p):a13:=h _ (by simp)
theorem ob14 {a0 a1 a2 a3 a4 a5 a6 a7 a8 a9 a10 a11 a12 a13 a14:Prop} {l:List Prop} (h:∀ p ∈ a0::a1::a2::a3::a4::a5::a6::a7::a8::a9::a10::a11::a12::a13::a14::l,p):a14:=h _ (by simp)
theorem ob15 {a0 a1 a2 a3 a4 a5 a6 a7 a8 a9 a10 a11 a12 a13 a14 a15:Prop} {l:List Prop} (h:∀ p ∈ a0::a1::a2::a3::a4::a5::a6::a7::a8::a9::a10::a11::a12::a13::a14::a15::l,p):a15:=h _ (by simp)
inductive AV where
 | v (x:Value)
 | any
 | agg (cs:List AV)
 | tup (cs:List AV)
 | ro (n sz:Nat) (get:Nat→List AV)
 | rop (cs:List AV)
 | bx (r k:Nat)
 | ptr (r f i sz k:Nat)
 | own (r f n sz:Nat)
 | vw (r f lo n sz:Nat)
 | fn (f:FuncId) (cap:List AV)
 | iface (t:TypeId) (x:AV)
 | cond (b:Bool) (x:AV)
 deriving Inhabited
structure Row where
 n:Nat
 sz:Nat
 ty:TypeId
 get:Nat→List AV
 g:Option Bool
abbrev Fam:=Nat→Row
abbrev Mem:=List (Nat×Fam)
def look:Mem→Nat→Option Fam
 | [],_ => none
 | (k,x) :: rest,r => if k = r then some x else look rest r
def insRow (k:Nat) (x:Fam):Mem→Mem
 | [] => [(k,x)]
 | (k',y) :: rest => if k' < k then (k,x) :: (k',y) :: rest else (k',y) :: insRow k x rest
def setRow (r:Nat) (x:Fam):Mem→Mem
 | [] => []
 | (k,y) :: rest => if k = r then (k,x) :: rest else (k,y) :: setRow r x rest
def dead:Fam:=fun _ => ⟨0,0,0,fun _ => [],some false⟩
def dropRow (r:Nat):Mem→Mem
 | [] => []
 | (k,y) :: rest => if k = r then dropRow r rest else (k,y) :: dropRow r rest
abbrev Slots:=List (Nat×AV)
def slot:Slots→Nat→AV
 | [],_ => .v undef
 | (k,a) :: rest,j => if k = j then a else slot rest j
structure St where
 t:Slots
 m:Mem
 nx:Nat
def flat1:AV→Option Value
 | .v x => some x
 | _ => none
def flats:List AV→Option (List Value)
 | [] => some []
 | a :: rest => match flat1 a with
  | some x => match flats rest with
   | some xs => some (x :: xs)
   | none => none
  | none => none
def flat:AV→Option Value
 | .v x => some x
 | .agg cs => match flats cs with
  | some xs => some (.agg xs.toArray)
  | none => none
 | _ => none
def flatAll:List AV→Bool
 | [] => true
 | a :: rest => match flat a with
  | some _ => flatAll rest
  | none => false
def ofVal1:Value→AV
 | .agg cs => .agg (cs.toList.map .v)
 | x => .v x
def ofVal:Value→AV
 | .agg cs => .agg (cs.toList.map .v)
 | .tuple vs => .tup (vs.toList.map ofVal1)
 | x => .v x
def pureRun {α:Type} (P:Program):Sem α→Option α
 | .pure a => some a
 | .program k => pureRun P (k P)
 | _ => none
def opd (t:Slots):Operand→AV
 | .tmp j => slot t j
 | .const x => .v x
 | .global g => .v (.pointer (some ⟨g,0,none⟩))
 | .func f => .fn f []
def strip:AV→AV
 | .cond _ x => x
 | x => x
def needs:List AV→List Prop
 | [] => []
 | .cond b _ :: rest => (b = true) :: needs rest
 | _ :: rest => needs rest
def conj:List Prop→Prop→Prop
 | [],k => k
 | p :: ps,k => p∧conj ps k
def setRows:List (Nat×Fam)→Mem→Mem
 | [],m => m
 | (r,x) :: rest,m => setRows rest (setRow r x m)
inductive Upd where
 | none
 | new (x:Fam)
 | set (r:Nat) (x:Fam)
 | swap (r:Nat) (x:Fam)
 | many (sets:List (Nat×Fam)) (nw:Option Fam)
def Upd.app (key:Nat) (m:Mem):Upd→Mem
 | .none => m
 | .new x => insRow key x m
 | .set r x => setRow r x m
 | .swap r x => insRow key x (setRow r dead m)
 | .many sets nw => match nw with
  | .some x => insRow key x (setRows sets m)
  | .none => setRows sets m
structure Eff where
 ob:List Prop
 val:AV
 u:Upd
def isCell:AV→Bool
 | .v (.agg _) => false
 | .v (.tuple _) => false
 | .v _ => true
 | .ro _ _ _ => true
 | .rop _ => true
 | .bx _ _ => true
 | .ptr _ _ _ _ _ => true
 | .own _ _ _ _ => true
 | .vw _ _ _ _ _ => true
 | .fn _ _ => true
 | .iface _ _ => true
 | _ => false
def allCells:List AV→Bool
 | [] => true
 | a :: rest => match isCell a with
  | true => allCells rest
  | false => false
def cellsOf:AV→Option (List AV)
 | .agg cs => match allCells cs with
  | true => some cs
  | false => none
 | a => match isCell a with
  | true => some [a]
  | false => none
def isAggD:TypeDesc→Bool
 | .struct _ => true
 | .array _ _ => true
 | _ => false
def layT (P:Program) (t:TypeId):Option (Bool×Nat):=
 match P.underlying t with
 | some d => match P.info? t with
  | some i => some (isAggD d,i.size)
  | none => none
 | none => none
def sizeT (P:Program) (t:TypeId):Nat:=match P.info? t with
 | some i => i.size
 | none => 0
def zeroT (P:Program) (t:TypeId):Option Value:=match P.info? t with
 | some i => i.zero
 | none => none
def ofCells (P:Program) (t:TypeId) (cs:List AV):Option AV:=
 match layT P t with
 | some (true,n) => if n≤cs.length then some (.agg (cs.take n)) else none
 | some (false,_) => match cs with
  | c :: _ => some c
  | [] => none
 | none => none
def putCells (cs:List AV) (k:Nat) (new:List AV):List AV:=cs.take k ++ new ++ cs.drop (k + new.length)
def fillA (place:Nat→Option (Nat×Nat)) (cells:List AV):List (Nat×AV)→Option (List AV)
 | [] => some cells
 | (i,a) :: rest =>
  match place i with
  | none => none
  | some (off,size) => match cellsOf a with
   | some cs => if cs.length = size∧off + cs.length≤cells.length then fillA place (putCells cells off cs) rest
    else none
   | none => none
def rowsOf (sz:Nat) (cs:List AV) (i:Nat):List AV:=(cs.drop (i * sz)).take sz
def fOff (P:Program) (s:TypeId) (f:Nat):Option Nat:=
 match P.underlying s with
 | some (.struct fs) => match fs[f]? with
  | some fd => if sizeT P fd.type = 0 then none else some fd.offset
  | none => none
 | _ => none
def fTy (P:Program) (s:TypeId) (f:Nat):Option TypeId:=
 match P.underlying s with
 | some (.struct fs) => match fs[f]? with
  | some fd => some fd.type
  | none => none
 | _ => none
def bPlaces (P:Program) (t:TypeId):Option (List (Nat×Nat)):=
 match P.underlying t with
 | some (.struct fs) => if fs.all (fun f => (P.info? f.type).isSome) = true then some (fs.toList.map fun f => (f.offset,sizeT P f.type)) else none
 | some (.array n e) => if (P.info? e).isSome = true then some ((List.range n).map fun i => (i * sizeT P e,sizeT P e)) else none
 | _ => none
def sElem (P:Program) (t:TypeId):Option TypeId:=
 match P.underlying t with
 | some (.slice e) => some e
 | _ => none
def aElem (P:Program) (t:TypeId):Option (Nat×TypeId):=
 match P.underlying t with
 | some (.array n e) => some (n,e)
 | _ => none
def bytesT (P:Program) (t:TypeId):Nat:=match P.info? t with
 | some i => i.bytes
 | none => 0
def concreteT (P:Program) (t:TypeId):Bool:=
 match P.underlying t with
 | some (.interface _) => false
 | some _ => true
 | none => false
def aPure (P:Program) (ρ:Operand→AV) (o:Oper):Option AV:=
 match flatAll (o.op.operands.toList.map ρ) with
 | true => match pureRun P (execOp (fun x => (flat (ρ x)).getD undef) o) with
  | some (.value v) => some (ofVal v)
  | _ => none
 | false => none
def gOb:Option Bool→List Prop→List Prop
 | none,l => l
 | some b,l => (b = true) :: l
def one (ty:TypeId) (cs:List AV) (g:Option Bool):Fam:=fun _ => ⟨1,cs.length,ty,fun _ => cs,g⟩
def aAlloc (key:Nat) (ty:TypeId) (cs:List AV) (g:Option Bool):Eff:=⟨[],.bx key 0,.new (fun f => if f = 0 then ⟨1,cs.length,ty,fun _ => cs,g⟩ else ⟨0,cs.length,ty,fun _ => [],g⟩)⟩
def aLoad (P:Program) (t:TypeId) (p:AV) (m:Mem):Option (List Prop×AV):=
 match p with
 | .bx r k => match look m r with
  | some fam => match (fam 0).n with
   | 1 => match ofCells P t (((fam 0).get 0).drop k) with
    | some a => some (gOb (fam 0).g [],a)
    | none => none
   | _ => none
  | none => none
 | .ptr r f i sz k => match look m r with
  | some fam => match ofCells P t (((fam f).get i).drop k) with
   | some a => some ((i < (fam f).n) :: (sz = (fam f).sz) :: gOb (fam f).g [],a)
   | none => none
  | none => none
 | .rop cs => match ofCells P t cs with
  | some a => some ([],a)
  | none => none
 | _ => none
def updAt (fam:Fam) (f i k:Nat) (new:List AV):Fam:=
 fun f' => if f' = f then { fam f with get:=fun j => if j = i then putCells ((fam f).get i) k new else (fam f).get j } else fam f'
def set1 (fam:Fam) (k:Nat) (new:List AV):Fam:=
 fun f => if f = 0 then { fam 0 with get:=fun _ => putCells ((fam 0).get 0) k new } else fam f
def aStore (P:Program) (t:TypeId) (p x:AV) (m:Mem):Option Eff:=
 match cellsOf x with
 | some cs => if (layT P t).map (·.2) = some cs.length then
   match p with
   | .bx r k => match look m r with
    | some fam => match (fam 0).n with
     | 1 => if k + cs.length≤(fam 0).sz then some ⟨gOb (fam 0).g [],.v undef,.set r (set1 fam k cs)⟩ else none
     | _ => none
    | none => none
   | .ptr r f i sz k => match look m r with
    | some fam => if k + cs.length≤sz then some ⟨(i < (fam f).n) :: (sz = (fam f).sz) :: gOb (fam f).g [],.v undef,.set r (updAt fam f i k cs)⟩ else none
    | none => none
   | _ => none
  else none
 | none => none
def pur:Nat→Mem→AV→AV
 | 0,_,.v x => .v x
 | 0,_,.ro n sz get => .ro n sz get
 | 0,_,.rop cs => .rop cs
 | 0,_,_ => .any
 | d + 1,m,a => match a with
  | .agg cs => .agg (cs.map (pur d m))
  | .tup cs => .tup (cs.map (pur d m))
  | .bx r k => match look m r with
   | some fam => match (fam 0).n,(fam 0).g with
    | 1,none => .rop ((((fam 0).get 0).drop k).map (pur d m))
    | _,_ => .any
   | none => .any
  | .own r f n sz => match look m r with
   | some fam => match (fam f).g with
    | none => if n≤(fam f).n∧sz = (fam f).sz then .ro n sz (fun i => ((fam f).get i).map (pur d m)) else .any
    | some _ => .any
   | none => .any
  | .vw r f lo n sz => match look m r with
   | some fam => match (fam f).g with
    | none => if lo + n≤(fam f).n∧sz = (fam f).sz then .ro n sz (fun i => ((fam f).get (lo + i)).map (pur d m)) else .any
    | some _ => .any
   | none => .any
  | .fn f cs => .fn f (cs.map (pur d m))
  | .iface t x => .iface t (pur d m x)
  | .cond b x => .cond b (pur d m x)
  | .ptr _ _ _ _ _ => .any
  | x => x
def purU:Nat→Mem→AV→AV
 | d + 1,m,a => match a with
  | .agg cs => .agg (cs.map (purU d m))
  | .tup cs => .tup (cs.map (purU d m))
  | .bx r k => match look m r with
   | some fam => match (fam 0).n with
    | 1 => .rop ((((fam 0).get 0).drop k).map (purU d m))
    | _ => .any
   | none => .any
  | .ptr r f i _ k => match look m r with
   | some fam => .rop ((((fam f).get i).drop k).map (purU d m))
   | none => .any
  | .own r f n sz => match look m r with
   | some fam => if n≤(fam f).n∧sz = (fam f).sz then .ro n sz (fun i => ((fam f).get i).map (pur d m)) else .any
   | none => .any
  | .vw r f lo n sz => match look m r with
   | some fam => if lo + n≤(fam f).n∧sz = (fam f).sz then .ro n sz (fun i => ((fam f).get (lo + i)).map (pur d m)) else .any
   | none => .any
  | .fn f cs => .fn f (cs.map (purU d m))
  | .iface t x => .iface t (purU d m x)
  | x => pur (d + 1) m x
 | 0,m,a => pur 0 m a
def pgs:Nat→Mem→AV→List Prop
 | d + 1,m,a => match a with
  | .agg cs => cs.flatMap (pgs d m)
  | .tup cs => cs.flatMap (pgs d m)
  | .bx r k => match look m r with
   | some fam => gOb (fam 0).g ((((fam 0).get 0).drop k).flatMap (pgs d m))
   | none => []
  | .ptr r f i sz k => match look m r with
   | some fam => gOb (fam f).g ((i < (fam f).n) :: (sz = (fam f).sz) :: (((fam f).get i).drop k).flatMap (pgs d m))
   | none => []
  | .own r f _ _ => match look m r with
   | some fam => gOb (fam f).g []
   | none => []
  | .vw r f _ _ _ => match look m r with
   | some fam => gOb (fam f).g []
   | none => []
  | .fn _ cs => cs.flatMap (pgs d m)
  | .iface _ x => pgs d m x
  | _ => []
 | 0,_,_ => []
def clean:Nat→AV→Bool
 | _,.v _ => true
 | _,.any => true
 | _,.ro _ _ _ => true
 | _,.rop _ => true
 | d + 1,.agg cs => cs.all (clean d)
 | d + 1,.tup cs => cs.all (clean d)
 | d + 1,.fn _ cs => cs.all (clean d)
 | d + 1,.iface _ x => clean d x
 | d + 1,.cond _ x => clean d x
 | _,_ => false
def plain:Nat→AV→Bool
 | _,.v _ => true
 | _,.any => true
 | d + 1,.agg cs => cs.all (plain d)
 | d + 1,.tup cs => cs.all (plain d)
 | d + 1,.iface _ x => plain d x
 | _,_ => false
def partV (P:Program) (t:TypeId) (cs:List Value) (off:Nat):Option Value:=
 match layT P t with
 | some (true,n) => some (.agg ((cs.drop off).take n).toArray)
 | some (false,_) => cs[off]?
 | none => none
def eqOkT (P:Program) (t:TypeId):Bool:=!P.eqGuardType P.depth t
def eqFs (P:Program) (eq:TypeId→Value→Value→Option Bool) (xs ys:List Value):List Field→Option Bool
 | [] => some true
 | f :: fs => match decide (f.name = "_") with
  | true => eqFs P eq xs ys fs
  | false => match partV P f.type xs f.offset with
   | some a => match partV P f.type ys f.offset with
    | some b => match eq f.type a b with
     | some r => match eqFs P eq xs ys fs with
      | some q => some (r && q)
      | none => none
     | none => none
    | none => none
   | none => none
inductive Kd where
 | bool
 | int
 | string
 | struct (fs:List Field)
 | arr (fs:List Field)
 | other
def itemsF (P : Program) (e : TypeId) (is : List Nat) : List Field := is.map fun i => { name := "a", type := e, offset := i * P.cellsOf e, byteOffset := 0, embedded := false, tag := "", pkgPath := "" }
def kindT (P:Program) (t:TypeId):Kd:=
 match P.underlying t with
 | some .bool => .bool
 | some (.int _) => .int
 | some .string => .string
 | some (.struct fs) => if P.stoodInHeld t then .other else .struct fs.toList
 | some (.array n e) => match P.info? e with
  | some _ => .arr (itemsF P e (List.range n))
  | none => .other
 | _ => .other
def eqT (P:Program):Nat→TypeId→Value→Value→Option Bool
 | 0,_,_,_ => none
 | d + 1,t,x,y => match kindT P t with
  | .bool => match x,y with
   | .bool a,.bool b => some (a == b)
   | _,_ => none
  | .int => match x,y with
   | .int k a,.int k' b => if k = k' then some (a == b) else none
   | _,_ => none
  | .string => match x,y with
   | .string a,.string b => some (a == b)
   | _,_ => none
  | .struct fs => match x,y with
   | .agg xs,.agg ys => eqFs P (eqT P d) xs.toList ys.toList fs
   | _,_ => none
  | .arr fs => match x,y with
   | .agg xs,.agg ys => eqFs P (eqT P d) xs.toList ys.toList fs
   | _,_ => none
  | .other => none
def boolOf:AV→Option Bool
 | .v (.bool b) => some b
 | _ => none
def intOfA:AV→Option Int
 | .v (.int _ n) => some n
 | _ => none
def aPick (ρ0:Operand→AV) (c a b:Operand):Option (List Prop×AV):=
 match boolOf (strip (ρ0 c)) with
 | some t => match a,b with
  | .const (.bool true),y => match boolOf (strip (ρ0 y)) with
   | some q => some (needs [ρ0 c] ++ (needs [ρ0 y]).map (t = false→·),.v (.bool (t || q)))
   | none => none
  | x,.const (.bool false) => match boolOf (strip (ρ0 x)) with
   | some q => some (needs [ρ0 c] ++ (needs [ρ0 x]).map (t = true→·),.v (.bool (t && q)))
   | none => none
  | _,_ => none
 | none => none
def aBuild (P:Program) (ρ:Operand→AV) (t:TypeId) (parts:List (Nat×Operand)):Option AV:=
 match zeroT P t with
 | some z => match bPlaces P t with
  | some pl => match fillA (fun i => pl[i]?) (z.cells.toList.map .v) (parts.map fun (i,x) => (i,ρ x)) with
   | some cs => some (.agg cs)
   | none => none
  | none => none
 | none => none
def zeros (z:Value) (n:Nat):List AV:=(List.replicate n (z.cells.toList.map AV.v)).flatten
def aBuildSlice (P:Program) (ρ:Operand→AV) (key:Nat) (t:TypeId) (len:Nat) (parts:List (Nat×Operand)) (g:Option Bool):Option Eff:=
 match sElem P t with
 | some e => match zeroT P e with
  | some z => if len * sizeT P e≤16777216∧z.cells.size = sizeT P e then
    match fillA (fun i => some (i * sizeT P e,sizeT P e)) (zeros z len) (parts.map fun (i,x) => (i,ρ x)) with
    | some cs => if 13≤sizeT P e * (1 - (1 - ((key - 33) + (33 - key))))∧cs.all (clean 2) = true then some ⟨[],.ro len (sizeT P e) (rowsOf (sizeT P e) cs),.none⟩
     else some ⟨[],.own key 0 len (sizeT P e),.new (fun f => if f = 0 then ⟨len,sizeT P e,e,rowsOf (sizeT P e) cs,g⟩ else ⟨0,sizeT P e,e,fun _ => [],g⟩)⟩
    | none => none
   else none
  | none => none
 | none => none
def aIndexAddr (P:Program) (t:TypeId) (x i:AV):Option (List Prop×AV):=
 match intOfA i with
 | some n => match x with
  | .ro len sz get => match sElem P t with
   | some e => if (P.info? e).isSome = true∧sizeT P e = sz then some ([0≤n,n < (len:Int)],.rop (get n.toNat)) else none
   | none => none
  | .own r f len sz => match sElem P t with
   | some e => if (P.info? e).isSome = true∧sizeT P e = sz then some ([0≤n,n < (len:Int)],.ptr r f n.toNat sz 0) else none
   | none => none
  | .vw r f lo len sz => match sElem P t with
   | some e => if (P.info? e).isSome = true∧sizeT P e = sz then some ([0≤n,n < (len:Int)],.ptr r f (lo + n.toNat) sz 0) else none
   | none => none
  | .bx r k => match aElem P t with
   | some (len,e) => if (P.info? e).isSome = true then some ([0≤n,n < (len:Int)],.bx r (k + n.toNat * sizeT P e)) else none
   | none => none
  | .ptr r f j sz k => match aElem P t with
   | some (len,e) => if (P.info? e).isSome = true then some ([0≤n,n < (len:Int)],.ptr r f j sz (k + n.toNat * sizeT P e)) else none
   | none => none
  | .rop cs => match aElem P t with
   | some (len,e) => if (P.info? e).isSome = true then some ([0≤n,n < (len:Int)],.rop (cs.drop (n.toNat * sizeT P e))) else none
   | none => none
  | _ => none
 | none => none
def lenA:AV→Option Nat
 | .ro n _ _ => some n
 | .own _ _ n _ => some n
 | .vw _ _ _ n _ => some n
 | _ => none
def aField (P:Program) (s:TypeId) (f:Nat) (x:AV):Option AV:=
 match x with
 | .agg cs => match fOff P s f with
  | some off => match fTy P s f with
   | some t => ofCells P t (cs.drop off)
   | none => none
  | none => none
 | _ => none
def aFieldAddr (P:Program) (s:TypeId) (f:Nat) (p:AV):Option AV:=
 match fOff P s f with
 | some off => match p with
  | .bx r k => some (.bx r (k + off))
  | .ptr r g i sz k => some (.ptr r g i sz (k + off))
  | .rop cs => some (.rop (cs.drop off))
  | _ => none
 | none => none
def effOf (a:Option AV):Option Eff:=
 match a with
 | some x => some ⟨[],x,.none⟩
 | none => none
def effOf2 (a:Option (List Prop×AV)):Option Eff:=
 match a with
 | some (ob,x) => some ⟨ob,x,.none⟩
 | none => none
def aNil (P:Program) (t:TypeId) (x y:AV):Option Bool:=
 match x,y with
 | .iface _ _,.v .nilIface => match P.underlying t with
  | some (.interface _) => some false
  | _ => none
 | _,_ => none
def aEq (P:Program) (t:TypeId) (x y:AV):Option Bool:=
 match aNil P t x y with
 | some b => some b
 | none => match eqOkT P t with
 | true => match flat x,flat y with
  | some (.agg xs),some (.agg ys) => eqT P 20 t (.agg xs) (.agg ys)
  | _,_ => none
 | false => none
def nonNil:AV→Bool
 | .bx _ _ => true
 | .ptr _ _ _ _ _ => true
 | .rop _ => true
 | .iface _ _ => true
 | _ => false
def aop (P:Program) (key:Nat) (g:Option Bool) (o:Oper) (ρ0:Operand→AV) (m:Mem):Option Eff:=
 let ρ:=fun x => strip (ρ0 x)
 match o.op with
 | .move x => some ⟨[],ρ x,.none⟩
 | .assign x => some ⟨[],ρ x,.none⟩
 | .pick c a b => effOf2 (aPick ρ0 c a b)
 | .alloc t => match zeroT P t with
  | some z => some (aAlloc key t (z.cells.toList.map .v) g)
  | none => none
 | .box t x => match cellsOf (ρ x) with
  | some cs => some (aAlloc key t cs g)
  | none => none
 | .load t p => effOf2 (aLoad P t (ρ p) m)
 | .store t p x => aStore P t (ρ p) (ρ x) m
 | .build t parts => effOf (aBuild P ρ t parts.toList)
 | .buildSlice t len parts => aBuildSlice P ρ key t len parts.toList g
 | .fieldAddr s p f => effOf (aFieldAddr P s f (ρ p))
 | .field s x f => effOf (aField P s f (ρ x))
 | .indexAddr t x i => effOf2 (aIndexAddr P t (ρ x) (ρ i))
 | .makeFunc (.func f) first cap => match first.toList with
  | [] => some ⟨[],.fn f (cap.toList.map ρ),.none⟩
  | _ => none
 | .makeInterface t x => match concreteT P t with
  | true => some ⟨[],.iface t (ρ x),.none⟩
  | false => none
 | .extract x i => match ρ x with
  | .tup cs => effOf cs[i]?
  | _ => effOf (aPure P ρ o)
 | .nilCheck x => match nonNil (ρ x) with
  | true => some ⟨[],ρ x,.none⟩
  | false => effOf (aPure P ρ o)
 | .typeAssert x _ t true => match ρ x with
  | .iface u y => match concreteT P t with
   | true => if u = t then some ⟨[],.tup [y,.v (.bool true)],.none⟩ else match zeroT P t with
    | some z => some ⟨[],.tup [ofVal1 z,.v (.bool false)],.none⟩
    | none => none
   | false => none
  | _ => effOf (aPure P ρ o)
 | .typeAssert x _ t false => match ρ x with
  | .iface u y => match concreteT P t with
   | true => if u = t then some ⟨[],y,.none⟩ else none
   | false => none
  | _ => effOf (aPure P ρ o)
 | .binOp .eql t x y _ => match aEq P t (ρ x) (ρ y) with
  | some b => some ⟨[],.v (.bool b),.none⟩
  | none => effOf (aPure P ρ o)
 | .binOp .neq t x y _ => match aEq P t (ρ x) (ρ y) with
  | some b => some ⟨[],.v (.bool (!b)),.none⟩
  | none => effOf (aPure P ρ o)
 | .call ⟨.builtin .len,args,ats⟩ => match args.toList.map ρ,ats.toList with
  | [x],[t] => match lenA x with
   | some n => match sElem P t with
    | some _ => some ⟨[],.v (.int .i64 n),.none⟩
    | none => none
   | none => effOf (aPure P ρ o)
  | _,_ => none
 | _ => effOf (aPure P ρ o)
def famN (n sz:Nat) (ty:TypeId) (get:Nat→List AV) (g:Option Bool):Fam:=fun f => if f = 0 then ⟨n,sz,ty,get,g⟩ else ⟨0,sz,ty,fun _ => [],g⟩
def aMake (P:Program) (key:Nat) (g:Option Bool) (t:TypeId) (l c:AV):Option Eff:=
 match sElem P t with
 | some e => match zeroT P e with
  | some z => match intOfA l with
   | some n => match intOfA c with
    | some q => if z.cells.size = sizeT P e then some ⟨[0≤n,n≤q,q≤9223372036854775807,(bytesT P e:Int) * q≤281474976710656],.own key 0 n.toNat (sizeT P e),.new (famN n.toNat (sizeT P e) e (fun _ => z.cells.toList.map .v) g)⟩ else none
    | none => none
   | none => none
  | none => none
 | none => none
def cutBound (d:Nat):Option AV→Option Int
 | none => some d
 | some a => intOfA a
def aCut (P:Program) (t:TypeId) (x:AV) (lo hi:Option AV):Option Eff:=
 match sElem P t with
 | some e => if (P.info? e).isSome = true then (match lenA x with
  | some n => match cutBound 0 lo,cutBound n hi with
   | some l,some h => match x with
    | .ro _ sz get => if sizeT P e = sz then some ⟨[0≤l,l≤h,h≤(n:Int)],.ro (h - l).toNat sz (fun i => get (l.toNat + i)),.none⟩ else none
    | .own r f _ sz => if sizeT P e = sz then some ⟨[0≤l,l≤h,h≤(n:Int)],.vw r f l.toNat (h - l).toNat sz,.none⟩ else none
    | .vw r f q _ sz => if sizeT P e = sz then some ⟨[0≤l,l≤h,h≤(n:Int)],.vw r f (q + l.toNat) (h - l).toNat sz,.none⟩ else none
    | _ => none
   | _,_ => none
  | none => none) else none
 | none => none
def srcOf (x:AV) (m:Mem):Option (List Prop×Nat×Nat×(Nat→List AV)):=match x with
 | .ro k sz get => some ([],k,sz,get)
 | .own r f k sz => match look m r with
  | some fam => some ((k≤(fam f).n) :: (sz = (fam f).sz) :: gOb (fam f).g [],k,sz,(fam f).get)
  | none => none
 | .vw r f lo k sz => match look m r with
  | some fam => some ((lo + k≤(fam f).n) :: (sz = (fam f).sz) :: gOb (fam f).g [],k,sz,fun i => (fam f).get (lo + i))
  | none => none
 | _ => none
def aAppend (P:Program) (key:Nat) (t:TypeId) (s x:AV) (m:Mem):Option Eff:=
 match sElem P t with
 | some e => match zeroT P e with
  | some z => if z.cells.size = sizeT P e∧0 < sizeT P e then (match srcOf x m with
   | some (ob,k,sz,getx) => if sz = sizeT P e then (match s with
    | .v (.slice none 0 0) => some ⟨ob ++ [∀ i,i < k→allCells (getx i) = true,k * bytesT P e≤140737488355328,k≤9223372036854775807],.own key 0 k sz,.new (famN k sz e getx none)⟩
    | .own r f n sz' => if f = 0∧sz' = sz then (match look m r with
     | some fam => some ⟨ob ++ [n≤(fam 0).n,sz = (fam 0).sz,(fam 0).ty = e,(fam 0).g = none,∀ i,i < k→allCells (getx i) = true,(n + k) * bytesT P e≤140737488355328,n + k≤9223372036854775807],.own key 0 (n + k) sz,.swap r (famN (n + k) sz e (fun i => if i < n then (fam 0).get i else getx (i - n)) none)⟩
     | none => none) else none
    | _ => none) else none
   | none => none) else none
  | none => none
 | none => none
def isExt:Op→Bool
 | .makeSlice _ _ _ => true
 | .slice _ _ _ _ none => true
 | .call ⟨.builtin .append,_,_⟩ => true
 | _ => false
def aExt (P:Program) (key:Nat) (g:Option Bool) (o:Oper) (ρ0:Operand→AV) (m:Mem):Option Eff:=
 match o.op with
 | .makeSlice t l c => aMake P key g t (strip (ρ0 l)) (strip (ρ0 c))
 | .slice t x lo hi none => aCut P t (strip (ρ0 x)) (lo.map fun y => strip (ρ0 y)) (hi.map fun y => strip (ρ0 y))
 | .call ⟨.builtin .append,args,ats⟩ => match args.toList,ats.toList,g with
  | [s,x],[t,u],none => if t = u then aAppend P key t (strip (ρ0 s)) (strip (ρ0 x)) m else none
  | _,_,_ => none
 | _ => none
abbrev Con:=List AV→Option (List Prop×AV)
abbrev MCon:=Nat→Mem→List AV→Option Eff
inductive CE where
 | pure (c:Con)
 | wr (c:MCon)
instance:Coe Con CE:=⟨.pure⟩
instance:Coe MCon CE:=⟨.wr⟩
abbrev Ctx:=List (FuncId×CE)
def ctxGet:Ctx→FuncId→Option CE
 | [],_ => none
 | (g,c) :: rest,f => if g = f then some c else ctxGet rest f
def pureOf:Option CE→Option Con
 | some (.pure c) => some c
 | _ => none
def mutOf:Option CE→Option MCon
 | some (.wr c) => some c
 | _ => none
def ctxCall (G:Ctx) (f:FuncId):Option Con:=if f < 1000000 then pureOf (ctxGet G f) else none
def aMut (g:Option Bool) (x:Option Eff):Option Eff:=
 match g with
 | none => match x with
  | some e => match e.u with
   | .many [] (some y) => some { e with u:=.new y }
   | .many _ _ => some e
   | _ => none
  | none => none
 | some _ => none
def aCall (G:Ctx) (f:FuncId) (ars:List AV) (m:Mem):Option (List Prop×AV):=
 match ctxCall G f with
 | some c => match ars.all (clean 3) with
  | true => c ars
  | false => match c (ars.map (purU 3 m)) with
   | some (ob,r) => match plain 3 r with
    | true => some (ars.flatMap (pgs 3 m) ++ ob,r)
    | false => none
   | none => none
 | none => none
def methT (P:Program) (t:TypeId) (name:String):Option FuncId:=
 match P.info? t with
 | some i => match i.methods.find? (·.name == name) with
  | some m => match m.path.toList,m.func with
   | [],some (f,ptr) => match P.underlying t with
    | some (.pointer _) => if ptr then some f else none
    | some _ => if ptr then none else some f
    | none => none
   | _,_ => none
  | none => none
 | none => none
def aStep (P:Program) (G:Ctx) (key:Nat) (g:Option Bool) (o:Oper) (ρ0:Operand→AV) (m:Mem):Option Eff:=
 match o.op with
 | .call ⟨.value f,args,_⟩ => match strip (ρ0 f) with
  | .fn h cap => match mutOf (ctxGet G h) with
   | some c => aMut g (c key m (args.toList.map (fun x => strip (ρ0 x)) ++ cap))
   | none => effOf2 (aCall G h (args.toList.map (fun x => strip (ρ0 x)) ++ cap) m)
  | _ => none
 | .call ⟨.invoke r name,args,_⟩ => match strip (ρ0 r) with
  | .iface t x => match methT P t name with
   | some h => effOf2 (aCall G h (x :: args.toList.map (fun x => strip (ρ0 x))) m)
   | none => none
  | .v .nilIface => some ⟨[False],.v (.bool false),.none⟩
  | _ => none
 | _ => match isExt o.op with
  | true => aExt P key g o ρ0 m
  | false => aop P key g o ρ0 m
def isPick:Op→Bool
 | .pick _ _ _ => true
 | _ => false
def owed (o:Oper) (ρ0:Operand→AV):List Prop:=if isPick o.op then [] else needs (o.op.operands.toList.map ρ0)
def guardOf (ops:Array Oper) (sl:Nat→AV) (g:Nat×Bool):Option Bool:=
 match (ops[g.1]?).bind (·.dst) with
 | some d => match sl d with
  | .v (.bool b) => some (match g.2 with | true => b | false => !b)
  | .cond c (.v (.bool b)) => some (c && (match g.2 with | true => b | false => !b))
  | _ => none
 | none => none
def putSlot (d:Option Tmp) (a:AV) (t:Slots):Slots:=
 match d with
 | some d => (d,a) :: t
 | none => t
def Upd.mild:Upd→Bool
 | .none => true
 | .new _ => true
 | _ => false
def stepE (P:Program) (G:Ctx) (ops:Array Oper) (key:Nat) (o:Oper) (t:Slots) (m:Mem):Option Eff:=
 match o.guard with
 | none => match aStep P G key none o (opd t) m with
  | some e => some ⟨owed o (opd t) ++ e.ob,e.val,e.u⟩
  | none => none
 | some g => match guardOf ops (slot t) g with
  | some b => match aStep P G key (some b) o (opd t) m with
   | some e => match e.u.mild with
    | true => some ⟨(owed o (opd t) ++ e.ob).map (b = true→·),.cond b e.val,e.u⟩
    | false => none
   | none => none
  | none => none
inductive Root where
 | slot (q:Nat)
 | made (a:Nat)
 | call
 deriving DecidableEq
structure Hot where
 root:List (Nat×Root)
 hide:List (Nat×List Root)
abbrev Hots:=List (Nat×Hot)
def rootOf:List (Nat×Root)→Nat→Option Root
 | [],_ => none
 | (k,r) :: rest,i => if k = i then some r else rootOf rest i
def hideOf:List (Nat×List Root)→Nat→List Root
 | [],_ => []
 | (k,r) :: rest,i => if k = i then r else hideOf rest i
def hotAt:Hots→Nat→Hot
 | [],_ => ⟨[],[]⟩
 | (k,h) :: rest,i => if k = i then h else hotAt rest i
def hotOf (H:Hots) (id:Nat):Bool→Option Hot
 | true => some (hotAt H id)
 | false => none
def keyOf (base:Nat) (t:Slots):Root→Option Nat
 | .made a => some (base + a)
 | .slot q => match slot t q with
  | .bx r _ => some r
  | .ptr r _ _ _ _ => some r
  | .own r _ _ _ => some r
  | _ => none
 | .call => none
def callAt (h:Hot) (i:Nat):Bool:=match rootOf h.root i with
 | some .call => true
 | _ => false
def hidden (base:Nat) (t:Slots) (k:Nat):List Root→Bool
 | [] => false
 | r :: rest => (match keyOf base t r with
  | some q => decide (q = k)
  | none => false) || hidden base t k rest
def restr (h:Hot) (base i:Nat) (o:Oper) (t:Slots) (m:Mem):Mem:=
 m.filter fun e => (decide (e.1 < base) || o.after.any fun x => decide (base + x.on = e.1) && Region.binds .any x) && !hidden base t e.1 (hideOf h.hide i)
def memFor (hot:Option Hot) (base i:Nat) (o:Oper) (t:Slots) (m:Mem):Mem:=
 match hot with
 | some h => restr h base i o t m
 | none => m
def rootOK (hot:Option Hot) (base i:Nat) (t:Slots) (u:Upd):Bool:=
 match hot with
 | some h => match u with
  | .set r _ => match rootOf h.root i with
   | some x => match keyOf base t x with
    | some q => decide (q = r)
    | none => false
   | none => true
  | .swap r _ => match rootOf h.root i with
   | some x => match keyOf base t x with
    | some q => decide (q = r)
    | none => false
   | none => true
  | .many _ _ => callAt h i
  | _ => true
 | none => true
def optK {α:Type} (x:Option α) (k:α→Prop):Prop:=
 match x with
 | some e => k e
 | none => False
def boolK (b:Bool) (k:Prop):Prop:=
 match b with
 | true => k
 | false => False
def regP (P:Program) (G:Ctx) (hot:Option Hot) (ops:Array Oper) (base:Nat):List Oper→Nat→St→(St→Prop)→Prop
 | [],_,s,K => K s
 | o :: rest,i,s,K => optK (stepE P G ops (base + i) o s.t (memFor hot base i o s.t s.m)) fun e =>
  boolK (rootOK hot base i s.t e.u) (conj e.ob (regP P G hot ops base rest (i + 1) { s with t:=putSlot o.dst e.val s.t,m:=e.u.app (base + i) s.m } K))
inductive AEx where
 | normal
 | exit (id:Nat)
 | ret
def writesOps:List Oper→List Nat
 | [] => []
 | o :: rest => match o.dst with
  | some d => d :: writesOps rest
  | none => writesOps rest
def writes:Code→List Nat
 | .region _ ops _ => writesOps ops.toList
 | .seq a b => writes a ++ writes b
 | .cond _ a b => writes a ++ writes b
 | .block _ c => writes c
 | .loop c => writes c
 | .rangeFunc _ ps a b => ps.toList ++ writes a ++ writes b
 | .scope c => writes c
 | _ => []
def dropW (ws:List Nat):Slots→Slots
 | [] => []
 | (j,a) :: rest => if j ∈ ws then dropW ws rest else (j,a) :: dropW ws rest
def havoc (ws:List Nat) (t:Slots):Slots:=dropW ws t ++ ws.map (fun j => (j,AV.any))
def seqK (K:AEx→St→Prop) (next:St→Prop):AEx→St→Prop
 | .normal,s => next s
 | .exit j,s => K (.exit j) s
 | .ret,s => K .ret s
def blockK (id:Nat) (K:AEx→St→Prop):AEx→St→Prop
 | .normal,s => K .normal s
 | .exit j,s => if j = id then K .normal s else K (.exit j) s
 | .ret,s => K .ret s
def kb:Nat→Nat→AV→Prop
 | _,_,.v _ => True
 | _,_,.any => True
 | _,_,.ro _ _ _ => True
 | _,_,.rop _ => True
 | _,N,.bx r _ => r < N
 | _,N,.ptr r _ _ _ _ => r < N
 | _,N,.own r _ _ _ => r < N
 | _,N,.vw r _ _ _ _ => r < N
 | d + 1,N,.agg cs => ∀ c ∈ cs,kb d N c
 | d + 1,N,.tup cs => ∀ c ∈ cs,kb d N c
 | d + 1,N,.fn _ cs => ∀ c ∈ cs,kb d N c
 | d + 1,N,.iface _ x => kb d N x
 | d + 1,N,.cond _ x => kb d N x
 | _,_,_ => False
structure Inv (X:Type) where
 live:X→Slots
 rows:X→Mem
 keep:List Nat
 names:Nat
 ok:X→Prop
 μ:X→Nat
abbrev Names:=List (Nat×Option Nat)
def asg:Names→Nat→Option Nat
 | [],r => some r
 | (k,x) :: rest,r => if k = r then x else asg rest r
def fit1 (N M:Nat) (σ:Names) (new old:AV):Prop:=
 match new with
 | .own r f n sz => r < M∧match asg σ r with
  | some k => old = .own k f n sz
  | none => n = 0∧old = .v (.slice none 0 0)
 | .any => True
 | a => old = a∧kb 3 N a
def fitL (N M:Nat) (σ:Names):List AV→List AV→Prop
 | [],[] => True
 | a :: ars,b :: bs => fit1 N M σ a b∧fitL N M σ ars bs
 | _,_ => False
def fitSlots (N M:Nat) (σ:Names) (W:List Nat) (t:Slots):Slots→Prop
 | [] => True
 | (j,a) :: rest => j ∈ W∧fit1 N M σ a (slot t j)∧fitSlots N M σ W t rest
def fitRow (N M:Nat) (σ:Names) (new old:Row):Prop:=
 new.n = old.n∧new.sz = old.sz∧new.ty = old.ty∧old.g = none∧new.g = none∧∀ i,i < new.n→fitL N M σ (new.get i) (old.get i)
def fitRows (N M:Nat) (σ:Names) (m:Mem):Mem→Prop
 | [] => True
 | (r,x) :: rest => (match asg σ r with
  | some k => ∃ y,look m k = some y∧∀ f,fitRow N M σ (x f) (y f)
  | none => ∀ f,(x f).n = 0∧(x f).g = none)∧fitRows N M σ m rest
def fitKeep (m m':Mem):List Nat→Prop
 | [] => True
 | r :: rest => look m' r = look m r∧fitKeep m m' rest
def keptRows (keep:List Nat) (m:Mem):Mem:=m.filter fun e => keep.contains e.1
def headSt {X:Type} (I:Inv X) (W:List Nat) (s:St) (x:X):St:=⟨I.live x ++ havoc W s.t,I.rows x ++ keptRows I.keep s.m,s.nx + I.names⟩
def goodNames (N k:Nat) (σ:Names) (rows:Mem) (keep:List Nat):Prop:=
 (∀ p ∈ σ,N≤p.1∧p.1 < N + k)∧(rows.map (·.1)).Nodup∧((rows.filterMap fun e => asg σ e.1) ++ keep).Nodup∧(∀ e ∈ rows,e.1 < N + k)
abbrev Alias:=Nat→Nat→Option (Nat×Nat)
def fit1A (N M:Nat) (θ:Alias) (new old:AV):Prop:=
 match new with
 | .own r f n sz => r < M∧match θ r f with
  | some (k,g) => old = .own k g n sz
  | none => n = 0∧old = .v (.slice none 0 0)
 | .ptr r f i sz k => r < M∧match θ r f with
  | some (q,g) => old = .ptr q g i sz k∨(g = 0∧i = 0∧old = .bx q k)
  | none => False
 | .bx r k => r < M∧match θ r 0 with
  | some (q,g) => g = 0∧old = .bx q k
  | none => False
 | .any => True
 | a => old = a∧kb 3 N a
def fitLA (N M:Nat) (θ:Alias):List AV→List AV→Prop
 | [],[] => True
 | a :: ars,b :: bs => fit1A N M θ a b∧fitLA N M θ ars bs
 | _,_ => False
def fitSlotsA (N M:Nat) (θ:Alias) (W:List Nat) (t:Slots):Slots→Prop
 | [] => True
 | (j,a) :: rest => j ∈ W∧fit1A N M θ a (slot t j)∧fitSlotsA N M θ W t rest
def fitRowA (N M:Nat) (θ:Alias) (new old:Row):Prop:=
 new.n = old.n∧new.sz = old.sz∧new.ty = old.ty∧old.g = none∧new.g = none∧∀ i,i < new.n→fitLA N M θ (new.get i) (old.get i)
def fitRowsA (N M:Nat) (θ:Alias) (m:Mem):Mem→Prop
 | [] => True
 | (r,x) :: rest => (∀ f,match θ r f with
  | some (k,g) => ∃ y,look m k = some y∧fitRowA N M θ (x f) (y g)
  | none => (x f).n = 0∧(x f).g = none)∧fitRowsA N M θ m rest
def goodA (N k:Nat) (θ:Alias) (rows:Mem) (keep:List Nat):Prop:=
 (∀ r f,r < N→θ r f = some (r,f))∧(∀ e ∈ rows,e.1 < N + k) ∧
 ∀ r f r' f' q g,(r ∈ rows.map (·.1)∨r ∈ keep)→(r' ∈ rows.map (·.1)∨r' ∈ keep)→θ r f = some (q,g)→θ r' f' = some (q,g)→r = r'∧f = f'
def fitsA {X:Type} (I:Inv X) (W:List Nat) (s:St) (x:X) (s':St):Prop:=
 ∃ θ:Alias,fitSlotsA s.nx (s.nx + I.names) θ W s'.t (I.live x)∧fitRowsA s.nx (s.nx + I.names) θ s'.m (I.rows x)∧fitKeep s.m s'.m I.keep∧goodA s.nx I.names θ (I.rows x) I.keep
def fitsN {X:Type} (I:Inv X) (W:List Nat) (s:St) (x:X) (s':St):Prop:=
 ∃ σ:Names,fitSlots s.nx (s.nx + I.names) σ W s'.t (I.live x)∧fitRows s.nx (s.nx + I.names) σ s'.m (I.rows x)∧fitKeep s.m s'.m I.keep∧goodNames s.nx I.names σ (I.rows x) I.keep
def fits {X:Type} (I:Inv X) (W:List Nat) (s:St) (x:X) (s':St):Prop:=fitsN I W s x s'∨fitsA I W s x s'
def loopP (body:St→(AEx→St→Prop)→Prop) (W:List Nat) (s:St) (K:AEx→St→Prop):Prop:=
 ∃ (X:Type) (I:Inv X),(∃ x,I.ok x∧fits I W s x s)∧∀ x,I.ok x→body (headSt I W s x) (seqK K fun s' => ∃ y,I.ok y∧I.μ y < I.μ x∧fits I W s y s')
def slotsOf:List Nat→List AV→Slots→Slots
 | p :: ps,a :: ars,t => slotsOf ps ars ((p,a) :: t)
 | _,_,t => t
def rangeK {X:Type} (I:Inv X) (cnt:X→Nat) (W:List Nat) (s:St) (x:X) (K:AEx→St→Prop):AEx→St→Prop
 | .normal,s' => ∃ y,I.ok y∧cnt y = cnt x + 1∧fits I W s y { s' with t:=havoc W s.t }
 | .exit j,s' => K (.exit j) { s' with t:=havoc W s.t }
 | .ret,s' => K .ret { s' with t:=havoc W s.t }
def rangeP (body:St→(AEx→St→Prop)→Prop) (W ps:List Nat) (N:Nat) (sq:Nat→List AV) (s:St) (K:AEx→St→Prop):Prop:=
 (∀ i,i < N→(sq i).length = ps.length∧(sq i).all (plain 3) = true) ∧
 ∃ (X:Type) (I:Inv X) (cnt:X→Nat),(∀ x,I.live x = [])∧(∃ x,I.ok x∧cnt x = 0∧fits I W s x { s with t:=havoc W s.t }) ∧
  (∀ x,I.ok x→cnt x < N→body { headSt I W s x with t:=slotsOf ps (sq (cnt x)) (havoc W s.t) } (rangeK I cnt W s x K)) ∧
  (∀ x,I.ok x→cnt x = N→K .normal (headSt I W s x))
def seqOf (G:Ctx) (g:AV):Option (List Prop×Nat×(Nat→List AV)):=
 match g with
 | .fn f cs => match cs.all (clean 3) with
  | true => match pureOf (ctxGet G (1000000 + f)) with
   | some c => match c cs with
    | some (ob,.ro N _ sq) => some (ob,N,sq)
    | _ => none
   | none => none
  | false => none
 | _ => none
def awp (P:Program) (G:Ctx) (H:Hots):Code→St→(AEx→St→Prop)→Prop
 | .skip,s,K => K .normal s
 | .region id ops draw,s,K => regP P G (hotOf H id draw) ops s.nx ops.toList 0 s fun s' => K .normal { s' with nx:=s.nx + ops.size }
 | .seq a b,s,K => awp P G H a s (seqK K fun s' => awp P G H b s' K)
 | .cond c x y,s,K => optK (boolOf (opd s.t c)) fun b => (b = true→awp P G H x s K)∧(b = false→awp P G H y s K)
 | .block id c,s,K => awp P G H c s (blockK id K)
 | .ret,s,K => K .ret s
 | .exit id,s,K => K (.exit id) s
 | .loop c,s,K => loopP (awp P G H c) (writes c) s K
 | .rangeFunc g ps x c,s,K => optK (seqOf G (opd s.t g)) fun q => conj q.1 (rangeP (fun s' K' => awp P G H x s' (seqK (fun _ _ => False) fun s2 => awp P G H c s2 K')) (ps.toList ++ writes x ++ writes c) ps.toList q.2.1 q.2.2 s K)
 | .scope c,s,K => awp P G H c s K
 | .label _,s,K => K .normal s
 | _,_,_ => False
def resOf (P:Program) (r:ResultVar) (s:St):Option (List Prop×AV):=
 match r with
 | .tmp t => match slot s.t t with
  | .cond _ _ => none
  | a => some ([],a)
 | .cell a t => aLoad P t (slot s.t a) s.m
def resList (P:Program) (s:St):List ResultVar→Option (List Prop×List AV)
 | [] => some ([],[])
 | r :: rest => match resOf P r s with
  | some (ob,a) => match resList P s rest with
   | some (obs,ars) => some (ob ++ obs,a :: ars)
   | none => none
  | none => none
def resAll (P:Program) (s:St) (rs:List ResultVar):Option (List Prop×AV):=
 match resList P s rs with
 | some (ob,[a]) => some (ob,a)
 | some (ob,ars) => some (ob,.tup ars)
 | none => none
def argSlots (i:Nat):List AV→Slots
 | [] => []
 | a :: rest => (i,a) :: argSlots (i + 1) rest
def endK (P:Program) (fn:Func) (K:AV→Prop):AEx→St→Prop
 | .exit _,_ => False
 | _,s => match resAll P s fn.results.toList with
  | some (ob,a) => conj ob (K (pur 3 s.m a))
  | none => False
def fnVC (P:Program) (G:Ctx) (H:Hots) (fn:Func) (ars:List AV) (K:AV→Prop):Prop:=
 match fn.body with
 | some c => awp P G H c ⟨argSlots 0 ars,[],0⟩ (endK P fn K)
 | none => False
end Go.Ax
end
section
namespace Go.Ax
open Go.RowKit
structure Env where
 dom:Nat→Prop
 blk:Nat→Nat→Nat
 cap:Nat→Nat→Nat
 imm:Nat→Prop
def Env.ext (I:Nat→Prop):Env:=⟨fun _ => False,fun _ _ => 0,fun _ _ => 0,I⟩
def Has (w:World) (b o:Nat) (v:Value):Prop:=w.cell? ⟨b,o,none⟩ = some v
inductive R (w:World):Env→AV→Value→Prop
 | v {ρ x}:R w ρ (.v x) x
 | any {ρ x}:R w ρ .any x
 | agg {ρ:Env} {cs:List AV} {vs:List Value} (hl:vs.length = cs.length) (h:∀ (i:Nat) (a:AV) (x:Value),cs[i]? = some a→vs[i]? = some x→R w ρ a x):R w ρ (.agg cs) (.agg vs.toArray)
 | tup {ρ:Env} {cs:List AV} {vs:List Value} (hl:vs.length = cs.length) (h:∀ (i:Nat) (a:AV) (x:Value),cs[i]? = some a→vs[i]? = some x→R w ρ a x):R w ρ (.tup cs) (.tuple vs.toArray)
 | ro {ρ:Env} {n sz:Nat} {get:Nat→List AV} {a:Option Addr} {cap:Nat} (b o:Nat) (hn:n≤cap) (ha:0 < n→a = some ⟨b,o,none⟩) (hi:0 < n→ρ.imm b)
   (hlen:∀ i,i < n→(get i).length = sz) (hex:∀ i k,i < n→k < sz→∃ x,Has w b (o + i * sz + k) x)
   (hr:∀ (i k:Nat) (c:AV) (x:Value),i < n→(get i)[k]? = some c→Has w b (o + i * sz + k) x→R w (.ext ρ.imm) c x):R w ρ (.ro n sz get) (.slice a n cap)
 | rop {ρ:Env} {cs:List AV} (b o:Nat) (hi:ρ.imm b) (hex:∀ k,k < cs.length→∃ x,Has w b (o + k) x)
   (hr:∀ (k:Nat) (c:AV) (x:Value),cs[k]? = some c→Has w b (o + k) x→R w (.ext ρ.imm) c x):R w ρ (.rop cs) (.pointer (some ⟨b,o,none⟩))
 | bx {ρ r k} (hd:ρ.dom r):R w ρ (.bx r k) (.pointer (some ⟨ρ.blk r 0,k,none⟩))
 | ptr {ρ r f i sz k} (hd:ρ.dom r):R w ρ (.ptr r f i sz k) (.pointer (some ⟨ρ.blk r f,i * sz + k,none⟩))
 | own {ρ:Env} {r f n sz:Nat} {a:Option Addr} (hd:ρ.dom r) (hn:n≤ρ.cap r f) (ha:0 < ρ.cap r f→a = some ⟨ρ.blk r f,0,none⟩):R w ρ (.own r f n sz) (.slice a n (ρ.cap r f))
 | vw {ρ:Env} {r f lo n sz:Nat} {a:Option Addr} {cap:Nat} (hd:ρ.dom r) (hn:n≤cap) (ha:0 < n→a = some ⟨ρ.blk r f,lo * sz,none⟩):R w ρ (.vw r f lo n sz) (.slice a n cap)
 | fn {ρ:Env} {f:FuncId} {cs:List AV} {vs:List Value} (hl:vs.length = cs.length) (h:∀ (i:Nat) (a:AV) (x:Value),cs[i]? = some a→vs[i]? = some x→R w ρ a x):R w ρ (.fn f cs) (.func (.func f) #[] vs.toArray)
 | iface {ρ t a x} (h:R w ρ a x):R w ρ (.iface t a) (.iface t x)
 | yes {ρ a x} (h:R w ρ a x):R w ρ (.cond true a) x
 | no {ρ a}:R w ρ (.cond false a) undef
def Rs (w:World) (ρ:Env) (ars:List AV) (vs:List Value):Prop:=
 vs.length = ars.length∧∀ (i:Nat) (a:AV) (x:Value),ars[i]? = some a→vs[i]? = some x→R w ρ a x
structure Env.le (ρ ρ':Env):Prop where
 dom:∀ r,ρ.dom r→ρ'.dom r
 blk:∀ r f,ρ.dom r→ρ'.blk r f = ρ.blk r f
 cap:∀ r f,ρ.dom r→ρ'.cap r f = ρ.cap r f
 imm:∀ b,ρ.imm b→ρ'.imm b
def Keeps (N:Nat) (ρ ρ':Env):Prop:=∀ r,r < N→ρ.dom r→ρ'.dom r∧∀ f,ρ'.blk r f = ρ.blk r f∧ρ'.cap r f = ρ.cap r f
theorem Keeps.refl (N:Nat) (ρ:Env):Keeps N ρ ρ:=fun _ _ h => ⟨h,fun _ => ⟨rfl,rfl⟩⟩
theorem Keeps.trans {N N':Nat} {a b c:Env} (h:Keeps N a b) (k:Keeps N' b c) (hN:N≤N'):Keeps N a c:=fun r hr hd => by
 obtain ⟨h1,h2⟩:=h r hr hd
 obtain ⟨k1,k2⟩:=k r (Nat.lt_of_lt_of_le hr hN) h1
 exact ⟨k1,fun f => ⟨(k2 f).1.trans (h2 f).1,(k2 f).2.trans (h2 f).2⟩⟩
theorem Env.le.keeps {ρ ρ':Env} (h:ρ.le ρ') (N:Nat):Keeps N ρ ρ':=fun r _ hd => ⟨h.dom r hd,fun f => ⟨h.blk r f hd,h.cap r f hd⟩⟩
theorem Env.le.refl (ρ:Env):ρ.le ρ:=⟨fun _ h => h,fun _ _ _ => rfl,fun _ _ _ => rfl,fun _ h => h⟩
theorem Env.le.trans {a b c:Env} (h:a.le b) (k:b.le c):a.le c:=
 ⟨fun r x => k.dom r (h.dom r x),fun r f x => (k.blk r f (h.dom r x)).trans (h.blk r f x),fun r f x => (k.cap r f (h.dom r x)).trans (h.cap r f x),fun b x => k.imm b (h.imm b x)⟩
theorem Env.le.ext {I J:Nat→Prop} (h:∀ b,I b→J b):(Env.ext I).le (Env.ext J):=
 ⟨fun _ h => h.elim,fun _ _ h => h.elim,fun _ _ h => h.elim,h⟩
def Same (I:Nat→Prop) (w w':World):Prop:=∀ b,I b→w'.heap[b]? = w.heap[b]?
theorem Same.refl (I:Nat→Prop) (w:World):Same I w w:=fun _ _ => rfl
theorem Same.trans {I:Nat→Prop} {a b c:World} (h:Same I a b) (k:Same I b c):Same I a c:=fun x hx => (k x hx).trans (h x hx)
theorem Same.has {I:Nat→Prop} {w w':World} (h:Same I w w') {b o:Nat} {v:Value} (hb:I b):Has w' b o v ↔ Has w b o v:=by
 unfold Has World.cell?
 simp only [h b hb]
theorem Same.mono {I J:Nat→Prop} {w w':World} (h:Same J w w') (hi:∀ b,I b→J b):Same I w w':=fun b hb => h b (hi b hb)
theorem Same.of_below {I:Nat→Prop} {w w':World} (h:Below w.heap.size w w') (hi:∀ b,I b→b < w.heap.size):Same I w w':=fun b hb => h.block b (hi b hb)
theorem R.mono {w w':World} {ρ ρ':Env} {a:AV} {x:Value} (h:R w ρ a x) (hle:ρ.le ρ') (hs:Same ρ.imm w w'):R w' ρ' a x:=by
 induction h generalizing ρ' with
 | v => exact .v
 | any => exact .any
 | agg hl _ ih => exact .agg hl fun i a x h1 h2 => ih i a x h1 h2 hle hs
 | tup hl _ ih => exact .tup hl fun i a x h1 h2 => ih i a x h1 h2 hle hs
 | ro b o hn ha hi hlen hex hr ih =>
  refine .ro b o hn ha (fun h => hle.imm _ (hi h)) hlen (fun i k h1 h2 => ?_) (fun i k c x h1 h2 h3 => ?_)
  ·obtain ⟨x,hx⟩:=hex i k h1 h2
   exact ⟨x,(hs.has (hi (by omega))).2 hx⟩
  ·exact ih i k c x h1 h2 ((hs.has (hi (by omega))).1 h3) (Env.le.ext hle.imm) hs
 | rop b o hi hex hr ih =>
  refine .rop b o (hle.imm _ hi) (fun k h1 => ?_) (fun k c x h1 h2 => ?_)
  ·obtain ⟨x,hx⟩:=hex k h1
   exact ⟨x,(hs.has hi).2 hx⟩
  ·exact ih k c x h1 ((hs.has hi).1 h2) (Env.le.ext hle.imm) hs
 | bx hd => rw [← hle.blk _ _ hd]; exact .bx (hle.dom _ hd)
 | ptr hd => rw [← hle.blk _ _ hd]; exact .ptr (hle.dom _ hd)
 | own hd hn ha => rw [← hle.cap _ _ hd] at hn ha ⊢; rw [← hle.blk _ _ hd] at ha; exact .own (hle.dom _ hd) hn ha
 | vw hd hn ha => rw [← hle.blk _ _ hd] at ha; exact .vw (hle.dom _ hd) hn ha
 | fn hl _ ih => exact .fn hl fun i a x h1 h2 => ih i a x h1 h2 hle hs
 | iface _ ih => exact .iface (ih hle hs)
 | yes _ ih => exact .yes (ih hle hs)
 | no => exact .no
theorem Rs.mono {w w':World} {ρ ρ':Env} {ars:List AV} {vs:List Value} (h:Rs w ρ ars vs) (hle:ρ.le ρ') (hs:Same ρ.imm w w'):Rs w' ρ' ars vs:=
 ⟨h.1,fun i a x h1 h2 => (h.2 i a x h1 h2).mono hle hs⟩
theorem Rs.nil {w:World} {ρ:Env}:Rs w ρ [] []:=⟨rfl,fun i a x h => by simp at h⟩
theorem Rs.cons {w:World} {ρ:Env} {a:AV} {x:Value} {ars:List AV} {vs:List Value} (h:R w ρ a x) (hs:Rs w ρ ars vs):Rs w ρ (a :: ars) (x :: vs):=
 ⟨by simp [hs.1],fun i b y h1 h2 => by
  cases i with
  | zero => simp at h1 h2; subst h1 h2; exact h
  | succ i => simp at h1 h2; exact hs.2 i b y h1 h2⟩
theorem Rs.inv {w:World} {ρ:Env} {a:AV} {ars:List AV} {vs:List Value} (h:Rs w ρ (a :: ars) vs):∃ x xs,vs = x :: xs∧R w ρ a x∧Rs w ρ ars xs:=by
 cases vs with
 | nil => have:=h.1; simp at this
 | cons x xs =>
  refine ⟨x,xs,rfl,h.2 0 a x rfl rfl,by simpa using h.1,fun i b y h1 h2 => h.2 (i + 1) b y (by simpa using h1) (by simpa using h2)⟩
theorem Rs.append {w:World} {ρ:Env} {ars bs:List AV} {vs us:List Value} (h:Rs w ρ ars vs) (k:Rs w ρ bs us):Rs w ρ (ars ++ bs) (vs ++ us):=by
 refine ⟨by simp [h.1,k.1],fun i a x h1 h2 => ?_⟩
 by_cases hi:i < ars.length
 ·rw [List.getElem?_append_left hi] at h1
  rw [List.getElem?_append_left (by rw [h.1]; exact hi)] at h2
  exact h.2 i a x h1 h2
 ·rw [List.getElem?_append_right (by omega)] at h1
  rw [List.getElem?_append_right (by rw [h.1]; omega)] at h2
  exact k.2 _ a x h1 (by rw [← h.1]; exact h2)
theorem R.flat1 {w:World} {ρ:Env} {a:AV} {x y:Value} (h:R w ρ a x) (hf:flat1 a = some y):x = y:=by
 cases a <;> simp [Ax.flat1] at hf
 subst hf; cases h; rfl
theorem Rs.flats {w:World} {ρ:Env}:∀ {ars:List AV} {vs ys:List Value},Rs w ρ ars vs→flats ars = some ys→vs = ys
 | [],vs,ys,h,hf => by
  simp [Ax.flats] at hf; subst hf
  have:=h.1; simpa using this
 | a :: ars,vs,ys,h,hf => by
  obtain ⟨x,xs,rfl,h1,h2⟩:=h.inv
  simp only [Ax.flats] at hf
  split at hf
  ·rename_i y hy
   split at hf
   ·rename_i zs hz
    cases hf
    rw [h1.flat1 hy,Rs.flats h2 hz]
   ·cases hf
  ·cases hf
theorem R.flat {w:World} {ρ:Env} {a:AV} {x y:Value} (h:R w ρ a x) (hf:flat a = some y):x = y:=by
 cases a with
 | v z => simp [Ax.flat] at hf; subst hf; cases h; rfl
 | agg cs =>
  simp only [Ax.flat] at hf
  split at hf
  ·rename_i xs hxs
   cases hf
   cases h with
   | agg hl hh => rw [Rs.flats (w:=w) (ρ:=ρ) ⟨hl,hh⟩ hxs]
  ·cases hf
 | _ => simp [Ax.flat] at hf
theorem R_list {w:World} {ρ:Env} (l:List Value):Rs w ρ (l.map .v) l:=
 ⟨by simp,fun i a x h1 h2 => by
  simp [List.getElem?_map,h2] at h1; subst h1; exact .v⟩
theorem R.ofVal1 {w:World} {ρ:Env} (x:Value):R w ρ (ofVal1 x) x:=by
 cases x <;> simp only [Ax.ofVal1] <;> first | exact .v | skip
 rename_i cs
 have:=R_list (w:=w) (ρ:=ρ) cs.toList
 exact .agg (vs:=cs.toList) this.1 this.2
theorem R.ofVal {w:World} {ρ:Env} (x:Value):R w ρ (ofVal x) x:=by
 cases x <;> simp only [Ax.ofVal] <;> first | exact .v | skip
 ·rename_i cs
  have:=R_list (w:=w) (ρ:=ρ) cs.toList
  exact .agg (vs:=cs.toList) this.1 this.2
 ·rename_i vs
  refine .tup (vs:=vs.toList) (by simp) fun i a x h1 h2 => ?_
  simp only [List.getElem?_map,h2,Option.map_some,Option.some.injEq] at h1
  subst h1; exact R.ofVal1 x
theorem pureRun_sound {α:Type} {P:Program} {s:Sem α} {a:α} (h:pureRun P s = some a) (w:World):s.run P w = .ok a w:=by
 induction s with
 | pure b => simp [pureRun] at h; subst h; rfl
 | program k ih => exact ih P h
 | _ => simp [pureRun] at h
structure Base extends World where
 old:Nat→Prop
 /-- Blocks that stay ars they are: what a range over a function lays; what a callee that writes rows must leave alone. -/
 fix:List (Nat×Obj)
 /-- Blocks that are read alone,and stay ars they are. -/
 kept:List (Nat×Obj)
structure RowOK (w0:Base) (ρ:Env) (w:World) (r f:Nat) (o:Row):Prop where
 n_le:o.n≤ρ.cap r f
 blk:0 < ρ.cap r f→w0.heap.size≤ρ.blk r f∧¬ ρ.imm (ρ.blk r f)∧∃ c:Array Value,w.heap[ρ.blk r f]? = some (.cells c o.ty (0,0))∧c.size = ρ.cap r f * o.sz
 len:∀ i,i < o.n→(o.get i).length = o.sz
 rel:∀ (i k:Nat) (c:AV) (x:Value),i < o.n→(o.get i)[k]? = some c→Has w (ρ.blk r f) (i * o.sz + k) x→R w ρ c x
def Off (ρ:Env) (m:Mem) (b:Nat):Prop:=∀ r x f,look m r = some x→(x f).g≠some false→0 < ρ.cap r f→ρ.blk r f≠b
structure Rel (w0:Base) (ρ:Env) (m:Mem) (D:Nat→Prop) (w:World):Prop where
 below:Below w0.heap.size w0.toWorld w
 imm2:∀ b,ρ.imm b→b < w.heap.size∧(w0.old b∨w0.heap.size≤b)
 dom:∀ r,ρ.dom r→D r
 key:∀ r x,look m r = some x→D r
 row:∀ r x f,look m r = some x→(x f).g≠some false→ρ.dom r∧RowOK w0 ρ w r f (x f)
 sep:∀ r x f r' x' f',look m r = some x→look m r' = some x'→(x f).g≠some false→(x' f').g≠some false→0 < ρ.cap r f→0 < ρ.cap r' f'→ρ.blk r f = ρ.blk r' f'→r = r'∧f = f'
 fix:∀ p ∈ w0.fix,w0.heap.size≤p.1∧Off ρ m p.1∧¬ ρ.imm p.1∧w.heap[p.1]? = some p.2
 kept:∀ p ∈ w0.kept,ρ.imm p.1∧w.heap[p.1]? = some p.2
theorem look_ins {k:Nat} {x:Fam}:∀ {m:Mem} {r:Nat},look m k = none→look (insRow k x m) r = if k = r then some x else look m r
 | [],r,_ => by simp [insRow,look]
 | (k',y) :: rest,r,h => by
  have hne:k'≠k:=by intro e; subst e; simp [look] at h
  have h':look rest k = none:=by simpa [look,hne] using h
  simp only [insRow]
  split
  ·simp only [look]
  ·simp only [look]
   rw [look_ins h']
   by_cases h1:k' = r
   ·subst h1; simp [Ne.symm hne]
   ·simp [h1]
theorem look_set {r:Nat} {x:Fam}:∀ {m:Mem} {q:Nat},look (setRow r x m) q = if r = q∧(look m r).isSome then some x else look m q
 | [],q => by simp [setRow,look]
 | (k,y) :: rest,q => by
  simp only [setRow]
  by_cases hk:k = r
  ·subst hk
   simp only [if_true,look,Option.isSome_some,and_true]
   by_cases h:k = q <;> simp [h]
  ·simp only [hk,if_false,look]
   rw [look_set]
   by_cases h:k = q
   ·subst h; simp [Ne.symm hk]
   ·simp [h]
theorem look_drop {r:Nat}:∀ {m:Mem} {q:Nat},look (dropRow r m) q = if r = q then none else look m q
 | [],q => by simp [dropRow,look]
 | (k,y) :: rest,q => by
  simp only [dropRow]
  by_cases hk:k = r
  ·subst hk
   simp only [if_true,look]
   rw [look_drop]
   by_cases h:k = q <;> simp [h]
  ·simp only [hk,if_false,look]
   rw [look_drop]
   by_cases h:k = q
   ·subst h; simp [Ne.symm hk]
   ·simp [h]
theorem Rel.imm {w0:Base} {ρ:Env} {m:Mem} {D:Nat→Prop} {w:World} (h:Rel w0 ρ m D w) (b:Nat) (hb:ρ.imm b):b < w.heap.size:=(h.imm2 b hb).1
theorem Rel.lt {w0:Base} {ρ:Env} {m:Mem} {D:Nat→Prop} {w:World} (h:Rel w0 ρ m D w) {r f:Nat} {x:Fam} (hx:look m r = some x) (hg:(x f).g≠some false) (hc:0 < ρ.cap r f):ρ.blk r f < w.heap.size:=by
 obtain ⟨_,_,c,hh,_⟩:=(h.row r x f hx hg).2.blk hc
 exact (Array.getElem?_eq_some_iff.1 hh).1
theorem Rel.fixlt {w0:Base} {ρ:Env} {m:Mem} {D:Nat→Prop} {w:World} (h:Rel w0 ρ m D w) {p:Nat×Obj} (hp:p ∈ w0.fix):p.1 < w.heap.size:=
 (Array.getElem?_eq_some_iff.1 (h.fix p hp).2.2.2).1
theorem Rel.keeps {w0:Base} {ρ:Env} {m:Mem} {D:Nat→Prop} {w w':World} (h:Rel w0 ρ m D w) (hs:Same ρ.imm w w'):∀ p ∈ w0.kept,ρ.imm p.1∧w'.heap[p.1]? = some p.2:=
 fun p hp => ⟨(h.kept p hp).1,(hs _ (h.kept p hp).1).trans (h.kept p hp).2⟩
theorem Rel.fixed {w0:Base} {ρ ρ':Env} {m m':Mem} {D:Nat→Prop} {w w':World} (h:Rel w0 ρ m D w) (hs:∀ p ∈ w0.fix,w'.heap[p.1]? = w.heap[p.1]?)
  (ho:∀ b,b < w.heap.size→Off ρ m b→Off ρ' m' b) (hi:∀ b,b < w.heap.size→ρ'.imm b→ρ.imm b):∀ p ∈ w0.fix,w0.heap.size≤p.1∧Off ρ' m' p.1∧¬ ρ'.imm p.1∧w'.heap[p.1]? = some p.2:=
 fun p hp => ⟨(h.fix p hp).1,ho _ (h.fixlt hp) (h.fix p hp).2.1,fun k => (h.fix p hp).2.2.1 (hi _ (h.fixlt hp) k),(hs p hp).trans (h.fix p hp).2.2.2⟩
theorem Rel.fix_ne {w0:Base} {ρ:Env} {m:Mem} {D:Nat→Prop} {w:World} (h:Rel w0 ρ m D w) {r f:Nat} {x:Fam} (hx:look m r = some x) (hg:(x f).g≠some false) (hc:0 < ρ.cap r f) {p:Nat×Obj} (hp:p ∈ w0.fix):p.1≠ρ.blk r f:=
 fun e => (h.fix p hp).2.1 r x f hx hg hc e.symm
theorem Off.of {ρ ρ':Env} {m m':Mem} {b:Nat} (h:Off ρ m b) (k:∀ r x f,look m' r = some x→(x f).g≠some false→0 < ρ'.cap r f→(∃ r' x' f',look m r' = some x'∧(x' f').g≠some false∧0 < ρ.cap r' f'∧ρ'.blk r f = ρ.blk r' f')∨ρ'.blk r f≠b):Off ρ' m' b:=fun r x f h1 h2 h3 => by
 rcases k r x f h1 h2 h3 with ⟨r',x',f',a1,a2,a3,a4⟩ | a
 ·rw [a4]; exact h r' x' f' a1 a2 a3
 ·exact a
theorem Has_block {w w':World} {b k:Nat} {v:Value} (hb:w'.heap[b]? = w.heap[b]?):Has w' b k v ↔ Has w b k v:=by
 unfold Has World.cell?
 simp only [hb]
def Env.add (ρ:Env) (key b:Nat) (cap:Nat):Env:=
 { dom:=fun r => ρ.dom r∨r = key,blk:=fun r f => if r = key then b else ρ.blk r f,cap:=fun r f => if r = key then (if f = 0 then cap else 0) else ρ.cap r f,imm:=ρ.imm }
theorem Env.le_add {ρ:Env} {key b cap:Nat} (h:¬ ρ.dom key):ρ.le (ρ.add key b cap):=
 ⟨fun _ h => .inl h,fun r f hr => by have:r≠key:=fun e => h (e ▸ hr); simp [Env.add,this],fun r f hr => by have:r≠key:=fun e => h (e ▸ hr); simp [Env.add,this],fun _ h => h⟩
theorem RowOK.mono {w0:Base} {w w':World} {ρ ρ':Env} {r f:Nat} {o:Row} (h:RowOK w0 ρ w r f o) (hd:ρ.dom r) (hle:ρ.le ρ') (himm:∀ b,b < w.heap.size→ρ'.imm b→ρ.imm b) (hs:Same ρ.imm w w')
  (hb:0 < ρ.cap r f→w'.heap[ρ.blk r f]? = w.heap[ρ.blk r f]?):RowOK w0 ρ' w' r f o:=by
 have e1:=hle.cap r f hd
 have e2:=hle.blk r f hd
 refine ⟨e1 ▸ h.n_le,fun hc => ?_,h.len,fun i k c x h1 h2 h3 => ?_⟩
 ·rw [e1] at hc
  obtain ⟨a1,a2,c,a3,a4⟩:=h.blk hc
  rw [e2,e1,hb hc]
  exact ⟨a1,fun hi => a2 (himm _ (Array.getElem?_eq_some_iff.1 a3).1 hi),c,a3,a4⟩
 ·have hc:0 < ρ.cap r f:=by have:=h.n_le; omega
  rw [e2] at h3
  exact (h.rel i k c x h1 h2 ((Has_block (hb hc)).1 h3)).mono hle hs
theorem Rel.new {w0:Base} {w:World} {ρ:Env} {m:Mem} {D:Nat→Prop} (h:Rel w0 ρ m D w) {key:Nat} (hk:¬ D key) {x:Fam} {c:Array Value} {cap:Nat}
  (hsz:c.size = cap * (x 0).sz) (hn:(x 0).n≤cap) (hf:∀ f,f≠0→(x f).n = 0) (hlen:∀ i,i < (x 0).n→((x 0).get i).length = (x 0).sz)
  (hrel:∀ (i k:Nat) (a:AV) (v:Value),i < (x 0).n→((x 0).get i)[k]? = some a→c[i * (x 0).sz + k]? = some v→R w ρ a v) :
  Rel w0 (ρ.add key w.heap.size cap) (insRow key x m) (fun r => D r∨r = key) (w.alloc (.cells c (x 0).ty))∧ρ.le (ρ.add key w.heap.size cap)∧Same ρ.imm w (w.alloc (.cells c (x 0).ty)):=by
 have hkd:¬ ρ.dom key:=fun hd => hk (h.dom _ hd)
 have hkl:look m key = none:=by
  cases hl:look m key with
  | none => rfl
  | some y => exact absurd (h.key _ _ hl) hk
 have hle:ρ.le (ρ.add key w.heap.size cap):=Env.le_add hkd
 have hs:Same ρ.imm w (w.alloc (.cells c (x 0).ty)):=fun b hb => Below.heap_alloc _ _ _ (h.imm b hb)
 refine ⟨⟨h.below.alloc h.below.size _,fun b hb => ?_,fun r hr => ?_,fun r y hy => ?_,fun r y f hy hg => ?_,fun r y f r' y' f' hy hy' hg hg' hc hc' he => ?_,h.fixed (fun p hp => Below.heap_alloc _ _ _ (h.fixlt hp)) (fun b hb ho => ho.of fun r y f hy hg hc => ?_) (fun b _ h => h),h.keeps hs⟩,hle,hs⟩
 ·have:=h.imm2 b hb
  exact ⟨by simp; omega,this.2⟩
 ·exact hr.imp (h.dom r) id
 ·rw [look_ins hkl] at hy
  split at hy
  ·rename_i e; exact .inr e.symm
  ·exact .inl (h.key r y hy)
 ·rw [look_ins hkl] at hy
  split at hy
  ·rename_i e; subst e; cases hy
   refine ⟨.inr rfl,?_⟩
   by_cases hf0:f = 0
   ·subst hf0
    refine ⟨by simp [Env.add]; exact hn,fun hc => ?_,hlen,fun i k a v h1 h2 h3 => ?_⟩
    ·simp only [Env.add,if_true]
     refine ⟨h.below.size,fun hi => by have:=h.imm _ hi; omega,c,Go.heap_alloc_new _ _,hsz⟩
    ·simp only [Env.add,if_true] at h3
     have h3':c[i * (x 0).sz + k]? = some v:=by
      unfold Has World.cell? at h3
      rw [Go.heap_alloc_new] at h3
      simpa using h3
     exact (hrel i k a v h1 h2 h3').mono hle hs
   ·have hn0:=hf f hf0
    refine ⟨by simp [Env.add,hf0,hn0],fun hc => ?_,fun i hi => by omega,fun i k a v hi => by omega⟩
    simp [Env.add,hf0] at hc
  ·rename_i hne
   obtain ⟨hd,hr⟩:=h.row r y f hy hg
   refine ⟨.inl hd,hr.mono hd hle (fun b _ hb => hb) hs (fun hc => Below.heap_alloc _ _ _ (h.lt hy hg hc))⟩
 ·rw [look_ins hkl] at hy hy'
  have cap0:∀ q f,¬ key = q→(ρ.add key w.heap.size cap).cap q f = ρ.cap q f∧(ρ.add key w.heap.size cap).blk q f = ρ.blk q f:=fun q f hq => by simp [Env.add,Ne.symm hq]
  have capk:∀ f,0 < (ρ.add key w.heap.size cap).cap key f→f = 0:=fun f hc => by
   simp only [Env.add,if_true] at hc
   split at hc
   ·assumption
   ·omega
  by_cases e1:key = r <;> by_cases e2:key = r'
  ·subst e1 e2
   exact ⟨rfl,(capk f hc).trans (capk f' hc').symm⟩
  ·subst e1
   simp only [e2,if_false] at hy'
   rw [(cap0 r' f' e2).1] at hc'
   rw [(cap0 r' f' e2).2] at he
   have:=h.lt hy' hg' hc'
   simp [Env.add] at he; omega
  ·subst e2
   simp only [e1,if_false] at hy
   rw [(cap0 r f e1).1] at hc
   rw [(cap0 r f e1).2] at he
   have:=h.lt hy hg hc
   simp [Env.add] at he; omega
  ·simp only [e1,if_false] at hy
   simp only [e2,if_false] at hy'
   rw [(cap0 r f e1).1] at hc
   rw [(cap0 r' f' e2).1] at hc'
   rw [(cap0 r f e1).2,(cap0 r' f' e2).2] at he
   exact h.sep r y f r' y' f' hy hy' hg hg' hc hc' he
 ·rw [look_ins hkl] at hy
  by_cases e:key = r
  ·subst e
   right
   simp only [Env.add,if_true]
   omega
  ·simp only [e,if_false] at hy
   simp only [Env.add,Ne.symm e,if_false] at hc ⊢
   exact .inl ⟨r,y,f,hy,hg,hc,rfl⟩
def Env.grow (ρ:Env) (w w':World):Env:={ ρ with imm:=fun b => ρ.imm b∨(w.heap.size≤b∧b < w'.heap.size) }
theorem Env.le_grow (ρ:Env) (w w':World):ρ.le (ρ.grow w w'):=⟨fun _ h => h,fun _ _ _ => rfl,fun _ _ _ => rfl,fun _ h => .inl h⟩
theorem Rel.grow {w0:Base} {w w':World} {ρ:Env} {m:Mem} {D:Nat→Prop} (h:Rel w0 ρ m D w) (hb:Below w.heap.size w w'):Rel w0 (ρ.grow w w') m D w':=by
 have hs:Same ρ.imm w w':=Same.of_below hb h.imm
 refine ⟨h.below.trans (hb.mono h.below.size),fun b hi => ?_,h.dom,h.key,fun r x f hx hg => ?_,fun r x f r' x' f' hx hx' hg hg' hc hc' he => h.sep r x f r' x' f' hx hx' hg hg' hc hc' he,h.fixed (fun p hp => hb.block _ (h.fixlt hp)) (fun _ _ h => h) (fun b hlt hi => hi.resolve_right (by omega)),fun p hp => ⟨.inl (h.kept p hp).1,(h.keeps hs p hp).2⟩⟩
 ·rcases hi with hi | hi
  ·exact ⟨Nat.lt_of_lt_of_le (h.imm b hi) hb.size,(h.imm2 b hi).2⟩
  ·exact ⟨hi.2,.inr (Nat.le_trans h.below.size hi.1)⟩
 ·obtain ⟨hd,hr⟩:=h.row r x f hx hg
  exact ⟨hd,hr.mono hd (Env.le_grow ρ w w') (fun b hlt hi => hi.resolve_right (by omega)) hs (fun hc => hb.block _ (h.lt hx hg hc))⟩
theorem Rel.sub {w0:Base} {w:World} {ρ:Env} {m m':Mem} {D D':Nat→Prop} (h:Rel w0 ρ m D w) (hm:∀ r x,look m' r = some x→look m r = some x) (hD:∀ r,D r→D' r):Rel w0 ρ m' D' w:=
 ⟨h.below,h.imm2,fun r hr => hD r (h.dom r hr),fun r x hx => hD r (h.key r x (hm r x hx)),fun r x f hx hg => h.row r x f (hm r x hx) hg,
  fun r x f r' x' f' hx hx' => h.sep r x f r' x' f' (hm r x hx) (hm r' x' hx'),h.fixed (fun _ _ => rfl) (fun _ _ ho r x f hx => ho r x f (hm r x hx)) (fun _ _ h => h),h.kept⟩
def Gives (P:Program) (ev:Operand→Value) (o:Oper) (w:World) (Q:Value→World→Prop):Prop:=
 ∃ v w',((execOp ev o).run P w = .ok (.value v) w'∨((execOp ev o).run P w = .ok .skip w'∧v = undef))∧Q v w'
def Post (w0:Base) (ρ:Env) (m:Mem) (D:Nat→Prop) (key:Nat) (e:Eff) (w:World) (v:Value) (w':World):Prop:=
 ∃ ρ',R w' ρ' e.val v∧Rel w0 ρ' (e.u.app key m) (fun r => D r∨r = key) w'∧ρ.le ρ'∧Same ρ.imm w w'
section
variable {P:Program} {w0:Base} {w:World} {ρ:Env} {m:Mem} {D:Nat→Prop} {key:Nat} {ev:Operand→Value} {ρ0:Operand→AV} {o:Oper}
theorem Post.still (hR:Rel w0 ρ m D w) {a:AV} {v:Value} (h:R w ρ a v) {ob:List Prop}:Post w0 ρ m D key ⟨ob,a,.none⟩ w v w:=
 ⟨ρ,h,hR.sub (fun _ _ h => h) (fun _ h => .inl h),.refl _,.refl _ _⟩
theorem run_value {s:Sem Value} {v:Value} {w':World} (h:s.run P w = .ok v w'):(do pure (Next.value (← s)):Sem Next).run P w = .ok (.value v) w':=by
 simp [h]
theorem run_skip {s:Sem Unit} {w':World} (h:s.run P w = .ok () w'):(do s; pure Next.skip:Sem Next).run P w = .ok .skip w':=by
 simp [h]
theorem conj_map_imp {l:List Prop} {q:Prop} (h:∀ p ∈ l.map (q→·),p) (hq:q):∀ p ∈ l,p:=fun p hp => h (q→p) (List.mem_map.2 ⟨p,hp,rfl⟩) hq
theorem strip_sound {a:AV} {v:Value} (h:R w ρ a v) (hn:∀ p ∈ needs [a],p):R w ρ (strip a) v:=by
 cases a <;> simp only [strip] <;> first | exact h | skip
 rename_i b x
 have hb:b = true:=hn _ (by simp [needs])
 subst hb
 cases h; assumption
theorem needs_mem {ars:List AV} (h:∀ p ∈ needs ars,p) {a:AV} (ha:a ∈ ars):∀ p ∈ needs [a],p:=by
 induction ars with
 | nil => cases ha
 | cons b bs ih =>
  intro p hp
  cases ha with
  | head =>
   cases a <;> simp only [needs] at hp h <;> first | (cases hp; done) | skip
   exact h p (by
    cases hp with
    | head => exact List.mem_cons_self
    | tail _ h => cases h)
  | tail _ ha =>
   refine ih ?_ ha p hp
   intro q hq
   cases b <;> simp only [needs] at h <;> first | exact h q hq | exact h q (List.mem_cons_of_mem _ hq)
theorem boolOf_sound {a:AV} {v:Value} {b:Bool} (h:R w ρ a v) (hb:boolOf a = some b):v = .bool b:=by
 unfold boolOf at hb
 split at hb
 ·cases hb; cases h; rfl
 ·cases hb
theorem intOfA_sound {a:AV} {v:Value} {n:Int} (h:R w ρ a v) (hb:intOfA a = some n):∃ k,v = .int k n:=by
 unfold intOfA at hb
 split at hb
 ·cases hb; cases h; exact ⟨_,rfl⟩
 ·cases hb
theorem flatAll_mem:∀ {ars:List AV},flatAll ars = true→∀ a ∈ ars,∃ x,flat a = some x
 | [],_,_,h => by cases h
 | b :: bs,h,a,ha => by
  simp only [flatAll] at h
  split at h
  ·rename_i y hy
   cases ha with
   | head => exact ⟨y,hy⟩
   | tail _ ha => exact flatAll_mem h a ha
  ·cases h
theorem aPure_sound (hsel:∀ cs b,o.op≠.select cs b) {f:Operand→AV} {a:AV} (h:aPure P f o = some a) (hv:∀ x ∈ o.op.operands,R w ρ (f x) (ev x)) :
  ∃ v,(execOp ev o).run P w = .ok (.value v) w∧R w ρ a v:=by
 unfold aPure at h
 split at h
 ·rename_i hfl
  have he:execOp ev o = execOp (fun x => (flat (f x)).getD undef) o:=execOp_congr o hsel fun x hx => by
   obtain ⟨y,hy⟩:=flatAll_mem hfl (f x) (List.mem_map.2 ⟨x,by simpa using hx,rfl⟩)
   simp only [hy,Option.getD_some]
   exact (hv x hx).flat hy
  split at h
  ·rename_i v hp
   cases h
   rw [he]
   exact ⟨v,pureRun_sound hp w,R.ofVal v⟩
  ·cases h
 ·cases h
theorem allCells_mem:∀ {ars:List AV},allCells ars = true→∀ a ∈ ars,isCell a = true
 | [],_,_,h => by cases h
 | b :: bs,h,a,ha => by
  simp only [allCells] at h
  split at h
  ·rename_i y
   cases ha with
   | head => exact y
   | tail _ ha => exact allCells_mem h a ha
  ·cases h
theorem isCell_sound {a:AV} {v:Value} (h:R w ρ a v) (hc:isCell a = true):v.oneCell' = true∧v.cells = #[v]:=by
 cases h with
 | v => cases v <;> simp [isCell] at hc <;> simp [Value.oneCell',Value.cells]
 | ro => simp [Value.oneCell',Value.cells]
 | rop => simp [Value.oneCell',Value.cells]
 | bx => simp [Value.oneCell',Value.cells]
 | ptr => simp [Value.oneCell',Value.cells]
 | own => simp [Value.oneCell',Value.cells]
 | vw => simp [Value.oneCell',Value.cells]
 | fn => simp [Value.oneCell',Value.cells]
 | iface => simp [Value.oneCell',Value.cells]
 | _ => simp [isCell] at hc
theorem cellsOf_sound {a:AV} {v:Value} {cs:List AV} (h:R w ρ a v) (hc:cellsOf a = some cs):Rs w ρ cs v.cells.toList∧∀ x ∈ v.cells.toList,x.oneCell' = true:=by
 unfold cellsOf at hc
 split at hc
 ·rename_i ds
  split at hc
  ·rename_i hall
   cases hc
   cases h with
   | agg hl hh =>
    simp only [Value.cells]
    refine ⟨⟨hl,hh⟩,fun x hx => ?_⟩
    obtain ⟨i,hi,rfl⟩:=List.mem_iff_getElem.1 hx
    have hi':i < cs.length:=by rw [← hl]; simpa using hi
    exact (isCell_sound (hh i cs[i] _ (List.getElem?_eq_getElem hi') (by simp)) (allCells_mem hall _ (List.getElem_mem _))).1
  ·cases hc
 ·split at hc
  ·rename_i hcell
   cases hc
   obtain ⟨h1,h2⟩:=isCell_sound h hcell
   rw [h2]
   exact ⟨.cons h .nil,fun x hx => by simp at hx; subst hx; exact h1⟩
  ·cases hc
theorem aAlloc_post (hR:Rel w0 ρ m D w) (hk:¬ D key) {ty:TypeId} {cs:List AV} {vs:List Value} (hs:Rs w ρ cs vs) (g:Option Bool) :
  Post w0 ρ m D key (aAlloc key ty cs g) w (.pointer (some ⟨w.heap.size,0,none⟩)) (w.alloc (.cells vs.toArray ty)):=by
 obtain ⟨h1,h2,h3⟩:=hR.new hk (x:=fun f => if f = 0 then ⟨1,cs.length,ty,fun _ => cs,g⟩ else ⟨0,cs.length,ty,fun _ => [],g⟩) (c:=vs.toArray) (cap:=1)
  (by simp [hs.1]) (by simp) (fun f hf => by simp [hf]) (fun i _ => by simp)
  (fun i k a v hi ha hv => by
   simp at hi ha hv
   subst hi
   simp at hv
   exact hs.2 k a v ha hv)
 simp only [if_true] at h1 h3
 refine ⟨_,?_,h1,h2,h3⟩
 have:(ρ.add key w.heap.size 1).blk key 0 = w.heap.size:=by simp [Env.add]
 simp only [aAlloc]
 have hb:=R.bx (w:=w.alloc (.cells vs.toArray ty)) (ρ:=ρ.add key w.heap.size 1) (r:=key) (k:=0) (.inr rfl)
 rw [this] at hb
 exact hb
theorem run_newVar (t:TypeId) (v:Value):(newVar t v).run P w = .ok ⟨w.heap.size,0,none⟩ (w.alloc (.cells v.cells t)):=by
 simp [newVar,newRow]
theorem box_sound (hR:Rel w0 ρ m D w) (hk:¬ D key) {t:TypeId} {x:Operand} {g:Option Bool} {cs:List AV} {a:AV} (ho:o.op = .box t x) (hv:R w ρ a (ev x)) (hc:cellsOf a = some cs) :
  Gives P ev o w (Post w0 ρ m D key (aAlloc key t cs g) w):=by
 obtain ⟨hs,_⟩:=cellsOf_sound hv hc
 refine ⟨_,_,.inl ?_,by simpa using aAlloc_post hR hk (ty:=t) hs g⟩
 unfold execOp
 simp only [ho]
 exact run_value (by simp [Instr.box,run_newVar])
theorem zeroT_run {t:TypeId} {z:Value} (h:zeroT P t = some z):(zeroValue t).run P w = .ok z w:=by
 unfold zeroT at h
 split at h
 ·rename_i i hi
  simp [zeroValue,typeInfo,hi,h]
 ·cases h
theorem alloc_sound (hR:Rel w0 ρ m D w) (hk:¬ D key) {t:TypeId} {g:Option Bool} {z:Value} (ho:o.op = .alloc t) (hz:zeroT P t = some z) :
  Gives P ev o w (Post w0 ρ m D key (aAlloc key t (z.cells.toList.map .v) g) w):=by
 refine ⟨_,_,.inl ?_,by simpa using aAlloc_post hR hk (ty:=t) (R_list (w:=w) (ρ:=ρ) z.cells.toList) g⟩
 unfold execOp
 simp only [ho]
 exact run_value (by simp [Instr.alloc,zeroT_run hz,run_newVar])
theorem add_eq (b o k:Nat):(⟨b,o,none⟩:Addr).add k = ⟨b,o + k,none⟩:=by unfold Addr.add; split <;> simp_all
theorem layT_run {t:TypeId} {b:Bool} {n:Nat} (h:layT P t = some (b,n)):(isAgg t).run P w = .ok b w∧(sizeOf t).run P w = .ok n w:=by
 unfold layT at h
 split at h
 ·rename_i d hd
  split at h
  ·rename_i i hi
   cases h
   refine ⟨?_,by simp [sizeOf,typeInfo,hi]⟩
   simp only [isAgg,Sem.run_bind,run_underlying hd,Result.andThen_ok]
   cases d <;> simp [isAggD]
  ·cases h
 ·cases h
theorem loadVar_sound {t:TypeId} {cs:List AV} {a:AV} {b o:Nat} (h:ofCells P t cs = some a)
  (hex:∀ k,k < cs.length→∃ x,Has w b (o + k) x) (hr:∀ (k:Nat) (c:AV) (x:Value),cs[k]? = some c→Has w b (o + k) x→R w ρ c x) :
  ∃ v,(loadVar t ⟨b,o,none⟩).run P w = .ok v w∧R w ρ a v:=by
 unfold ofCells at h
 split at h
 ·rename_i n hlay
  obtain ⟨h1,h2⟩:=layT_run (w:=w) hlay
  split at h
  rotate_left
  ·cases h
  rename_i hl
  cases h
  have hx:∀ j,j < n→w.cell? ((⟨b,o,none⟩:Addr).add j) = some ((w.cell? ⟨b,o + j,none⟩).getD undef):=fun j hj => by
   obtain ⟨x,hx⟩:=hex j (by omega)
   unfold Has at hx
   rw [add_eq,hx]; rfl
  have hld:=run_loadCells (P:=P) w ⟨b,o,none⟩ n (fun j => (w.cell? ⟨b,o + j,none⟩).getD undef) hx
  refine ⟨_,by simp [loadVar,h1,h2,hld]; rfl,.agg (by simp; omega) fun k c x h1 h2 => ?_⟩
  rw [List.getElem?_take] at h1
  split at h1
  ·rename_i hk
   simp only [List.getElem?_map,List.getElem?_range hk,Option.map_some,Option.some.injEq] at h2
   obtain ⟨y,hy⟩:=hex k (by omega)
   have hy':=hy
   unfold Has at hy
   rw [hy] at h2
   simp at h2
   subst h2
   exact hr k c y h1 hy'
  ·cases h1
 ·rename_i n hlay
  obtain ⟨h1,h2⟩:=layT_run (w:=w) hlay
  split at h
  ·rename_i c rest
   cases h
   obtain ⟨x,hx⟩:=hex 0 (by simp)
   refine ⟨x,?_,hr 0 a x rfl hx⟩
   unfold Has at hx
   simp only [Nat.add_zero] at hx
   simp [loadVar,h1,load,Sem.run,hx]
  ·cases h
 ·cases h
theorem row_cells (hR:Rel w0 ρ m D w) {r f:Nat} {x:Fam} (hx:look m r = some x) (hg:(x f).g≠some false) {i:Nat} (hi:i < (x f).n) :
  ρ.dom r∧(∀ k,k < ((x f).get i).length→∃ v,Has w (ρ.blk r f) (i * (x f).sz + k) v) ∧
  ∀ (k:Nat) (c:AV) (v:Value),((x f).get i)[k]? = some c→Has w (ρ.blk r f) (i * (x f).sz + k) v→R w ρ c v:=by
 obtain ⟨hd,hr⟩:=hR.row r x f hx hg
 have hc:0 < ρ.cap r f:=by have:=hr.n_le; omega
 obtain ⟨_,_,c,hb,hsz⟩:=hr.blk hc
 refine ⟨hd,fun k hk => ?_,fun k a v h1 h2 => hr.rel i k a v hi h1 h2⟩
 rw [hr.len i hi] at hk
 have hlt:i * (x f).sz + k < c.size:=by
  rw [hsz]
  have h1:(i + 1) * (x f).sz≤ρ.cap r f * (x f).sz:=Nat.mul_le_mul_right _ (by have:=hr.n_le; omega)
  rw [Nat.add_mul] at h1
  omega
 exact ⟨c[i * (x f).sz + k],by unfold Has World.cell?; simp [hb,hlt]⟩
theorem gOb_true {g:Option Bool} (h:∀ p ∈ gOb g [],p):g≠some false:=by
 intro e
 subst e
 have:=h (false = true) (by simp [gOb])
 cases this
theorem R.of_ext {a:AV} {x:Value} (h:R w (.ext ρ.imm) a x):R w ρ a x:=h.mono ⟨fun _ h => h.elim,fun _ _ h => h.elim,fun _ _ h => h.elim,fun _ h => h⟩ (.refl _ _)
theorem list_drop_get {α:Type} {l:List α} {k j:Nat} {a:α} (h:(l.drop k)[j]? = some a):l[k + j]? = some a:=by
 rw [List.getElem?_drop] at h; exact h
theorem aLoad_sound (hR:Rel w0 ρ m D w) {t:TypeId} {p a:AV} {ob:List Prop} {v:Value} (h:aLoad P t p m = some (ob,a)) (hob:∀ q ∈ ob,q) (hp:R w ρ p v) :
  ∃ x,(Instr.loadAt t v).run P w = .ok x w∧R w ρ a x:=by
 unfold aLoad at h
 split at h
 ·rename_i r k
  split at h
  ·rename_i fam hl
   split at h
   ·rename_i hn
    split at h
    ·rename_i a' hc
     cases h
     obtain ⟨hd,hex,hr⟩:=row_cells hR hl (f:=0) (gOb_true hob) (i:=0) (by omega)
     cases hp with
     | bx _ =>
      obtain ⟨x,h1,h2⟩:=loadVar_sound (P:=P) (b:=ρ.blk r 0) (o:=k) hc (fun j hj => by
        simp at hj
        obtain ⟨v,hv⟩:=hex (k + j) (by omega)
        exact ⟨v,by simpa using hv⟩)
       (fun j c x h1 h2 => hr (k + j) c x (list_drop_get h1) (by simpa using h2))
      exact ⟨x,by simp [Instr.loadAt,Instr.sureAddr,h1],h2⟩
    ·cases h
   ·cases h
  ·cases h
 ·rename_i r f i sz k
  split at h
  ·rename_i fam hl
   split at h
   ·rename_i a' hc
    cases h
    have hi:i < (fam f).n:=hob _ (by simp)
    have hsz:sz = (fam f).sz:=hob _ (by simp)
    obtain ⟨hd,hex,hr⟩:=row_cells hR hl (f:=f) (gOb_true fun q hq => hob q (by simp [hq])) hi
    cases hp with
    | ptr _ =>
     obtain ⟨x,h1,h2⟩:=loadVar_sound (P:=P) (b:=ρ.blk r f) (o:=i * sz + k) hc (fun j hj => by
       simp at hj
       obtain ⟨v,hv⟩:=hex (k + j) (by omega)
       exact ⟨v,by rw [hsz]; rw [Nat.add_assoc]; exact hv⟩)
      (fun j c x h1 h2 => hr (k + j) c x (list_drop_get h1) (by rw [hsz,Nat.add_assoc] at h2; exact h2))
     exact ⟨x,by simp [Instr.loadAt,Instr.sureAddr,h1],h2⟩
   ·cases h
  ·cases h
 ·rename_i cs
  split at h
  ·rename_i a' hc
   cases h
   cases hp with
   | rop b o hi hex hr =>
    obtain ⟨x,h1,h2⟩:=loadVar_sound (P:=P) (ρ:=ρ) hc hex (fun j c x h1 h2 => (hr j c x h1 h2).of_ext)
    exact ⟨x,by simp [Instr.loadAt,Instr.sureAddr,h1],h2⟩
  ·cases h
 ·cases h
end
theorem putCells_length {α:Type} {cs:List α} {k:Nat} {new:List α} (h:k + new.length≤cs.length):(cs.take k ++ new ++ cs.drop (k + new.length)).length = cs.length:=by
 simp; omega
theorem putCells_get {α:Type} {cs:List α} {k:Nat} {new:List α} (h:k + new.length≤cs.length) (j:Nat) :
  (cs.take k ++ new ++ cs.drop (k + new.length))[j]? = if k≤j∧j < k + new.length then new[j - k]? else cs[j]?:=by
 have hm:(cs.take k).length = k:=by simp; omega
 by_cases h1:j < k
 ·rw [List.append_assoc,List.getElem?_append_left (by omega),List.getElem?_take,if_pos h1,if_neg (by omega)]
 ·by_cases h2:j < k + new.length
  ·rw [List.append_assoc,List.getElem?_append_right (by omega),List.getElem?_append_left (by omega),if_pos ⟨by omega,h2⟩,hm]
  ·rw [List.getElem?_append_right (by simp; omega),if_neg (by omega),List.getElem?_drop]
   congr 1
   simp
   omega
section
variable {P:Program} {w0:Base} {w:World} {ρ:Env} {m:Mem} {D:Nat→Prop} {key:Nat} {ev:Operand→Value} {ρ0:Operand→AV} {o:Oper}
theorem mul_add_inj {sz i j p q:Nat} (hp:p < sz) (hq:q < sz) (h:i * sz + p = j * sz + q):i = j∧p = q:=by
 have hsz:0 < sz:=by omega
 have h1:(i * sz + p) / sz = i:=by rw [Nat.mul_comm,Nat.mul_add_div hsz,Nat.div_eq_of_lt hp]; rfl
 have h2:(j * sz + q) / sz = j:=by rw [Nat.mul_comm,Nat.mul_add_div hsz,Nat.div_eq_of_lt hq]; rfl
 have h3:i = j:=by rw [← h1,← h2,h]
 subst h3
 exact ⟨rfl,by omega⟩
theorem Rel.set (hR:Rel w0 ρ m D w) {r f:Nat} {fam:Fam} (hl:look m r = some fam) (hg:(fam f).g≠some false) {i k:Nat} (hi:i < (fam f).n) {cs:List AV} {vs:List Value} (hk:k + cs.length≤(fam f).sz) (hs:Rs w ρ cs vs)
  {c:Array Value} (hc:w.heap[ρ.blk r f]? = some (.cells c (fam f).ty (0,0))) :
  Rel w0 ρ (setRow r (updAt fam f i k cs) m) D (w.setRow (ρ.blk r f) (c.toList.take (i * (fam f).sz + k) ++ vs ++ c.toList.drop (i * (fam f).sz + k + vs.length)).toArray) ∧
  Same ρ.imm w (w.setRow (ρ.blk r f) (c.toList.take (i * (fam f).sz + k) ++ vs ++ c.toList.drop (i * (fam f).sz + k + vs.length)).toArray):=by
 obtain ⟨hd,hr⟩:=hR.row r fam f hl hg
 have hcap:0 < ρ.cap r f:=by have:=hr.n_le; omega
 obtain ⟨b1,b2,c',b3,b4⟩:=hr.blk hcap
 rw [hc] at b3
 cases b3
 have hfit:i * (fam f).sz + k + vs.length≤c.toList.length:=by
  rw [hs.1,show c.toList.length = c.size from rfl,b4]
  have h1:(i + 1) * (fam f).sz≤ρ.cap r f * (fam f).sz:=Nat.mul_le_mul_right _ (by have:=hr.n_le; omega)
  rw [Nat.add_mul] at h1
  omega
 have hsame:Same ρ.imm w (w.setRow (ρ.blk r f) (c.toList.take (i * (fam f).sz + k) ++ vs ++ c.toList.drop (i * (fam f).sz + k + vs.length)).toArray):=
  fun b hb => setRow_other _ _ _ _ (fun e => b2 (e ▸ hb))
 have hnew:=setRow_heap w (ρ.blk r f) c (c.toList.take (i * (fam f).sz + k) ++ vs ++ c.toList.drop (i * (fam f).sz + k + vs.length)).toArray _ _ hc
 have hlook:∀ q y,look (setRow r (updAt fam f i k cs) m) q = some y→(q = r∧y = updAt fam f i k cs)∨(q≠r∧look m q = some y):=fun q y hy => by
  rw [look_set] at hy
  by_cases e:r = q
  ·subst e; simp [hl] at hy; exact .inl ⟨rfl,hy.symm⟩
  ·simp [e] at hy; exact .inr ⟨Ne.symm e,hy⟩
 have hother:∀ q y g',look m q = some y→(y g').g≠some false→0 < ρ.cap q g'→¬ (q = r∧g' = f)→ρ.blk q g'≠ρ.blk r f:=fun q y g' hy hgy hcq hne he => by
  have:=hR.sep q y g' r fam f hy hl hgy hg hcq hcap he
  exact hne this
 have hgg:∀ g',(updAt fam f i k cs g').g = (fam g').g:=fun g' => by unfold updAt; split <;> simp_all
 refine ⟨⟨hR.below.trans ⟨rfl,rfl,rfl,by simp,fun k hk => setRow_other _ _ _ _ (by omega)⟩,fun b hb => by simpa using hR.imm2 b hb,hR.dom,fun q y hy => ?_,fun q y g' hy hgy => ?_,fun q y g' q' y' g'' hy hy' hgy hgy' hcq hcq' he => ?_,hR.fixed (fun p hp => setRow_other _ _ _ _ (hR.fix_ne hl hg hcap hp)) (fun b _ ho => ho.of fun q y g' hy hgy hcq => ?_) (fun _ _ h => h),hR.keeps hsame⟩,hsame⟩
 ·rcases hlook q y hy with ⟨e,_⟩ | ⟨_,h⟩
  ·subst e; exact hR.key _ _ hl
  ·exact hR.key _ _ h
 ·rcases hlook q y hy with ⟨e,e2⟩ | ⟨hne,h⟩
  ·subst e e2
   rw [hgg] at hgy
   by_cases hf:g' = f
   ·subst hf
    refine ⟨hd,?_⟩
    have hget:(updAt fam g' i k cs g') = { fam g' with get:=fun j => if j = i then putCells ((fam g').get i) k cs else (fam g').get j }:=by simp [updAt]
    rw [hget]
    refine ⟨hr.n_le,fun _ => ⟨b1,b2,_,hnew,?_⟩,fun j hj => ?_,fun j q' a x hj h1 h2 => ?_⟩
    ·rw [← b4]
     have:=putCells_length hfit
     simpa using this
    ·dsimp only
     split
     ·rename_i e; subst e
      unfold putCells
      rw [putCells_length (by rw [hr.len j hi]; exact hk)]
      exact hr.len j hi
     ·exact hr.len j hj
    ·dsimp only at h1 h2 hj
     have hlen:q' < (fam g').sz:=by
      have hlt:=(List.getElem?_eq_some_iff.1 h1).1
      split at hlt
      ·unfold putCells at hlt
       rw [putCells_length (by rw [hr.len i hi]; exact hk),hr.len i hi] at hlt
       exact hlt
      ·rw [hr.len j hj] at hlt; exact hlt
     have h2':(c.toList.take (i * (fam g').sz + k) ++ vs ++ c.toList.drop (i * (fam g').sz + k + vs.length))[j * (fam g').sz + q']? = some x:=by
      unfold Has World.cell? at h2
      rw [hnew] at h2
      simpa using h2
     rw [putCells_get hfit] at h2'
     have hold:c[j * (fam g').sz + q']? = some x→Has w (ρ.blk q g') (j * (fam g').sz + q') x:=fun h => by
      unfold Has World.cell?; simp [hc,h]
     by_cases hji:j = i
     ·subst hji
      simp only [if_true] at h1
      unfold putCells at h1
      rw [putCells_get (by rw [hr.len j hi]; exact hk)] at h1
      by_cases hin:k≤q'∧q' < k + cs.length
      ·have:j * (fam g').sz + k≤j * (fam g').sz + q'∧j * (fam g').sz + q' < j * (fam g').sz + k + vs.length:=by rw [hs.1]; omega
       simp only [this,and_self,if_true] at h2'
       simp only [hin,and_self,if_true] at h1
       have e:j * (fam g').sz + q' - (j * (fam g').sz + k) = q' - k:=by omega
       rw [e] at h2'
       exact (hs.2 _ a x h1 h2').mono (.refl _) hsame
      ·have:¬ (j * (fam g').sz + k≤j * (fam g').sz + q'∧j * (fam g').sz + q' < j * (fam g').sz + k + vs.length):=by rw [hs.1]; omega
       simp only [this,if_false] at h2'
       simp only [hin,if_false] at h1
       exact (hr.rel j q' a x hi h1 (hold (by simpa using h2'))).mono (.refl _) hsame
     ·simp only [hji,if_false] at h1
      have:¬ (i * (fam g').sz + k≤j * (fam g').sz + q'∧j * (fam g').sz + q' < i * (fam g').sz + k + vs.length):=by
       rw [hs.1]
       rintro ⟨a1,a2⟩
       have:i * (fam g').sz + (k + (j * (fam g').sz + q' - (i * (fam g').sz + k))) = j * (fam g').sz + q':=by omega
       exact hji (mul_add_inj (by omega) hlen this).1.symm
      simp only [this,if_false] at h2'
      exact (hr.rel j q' a x hj h1 (hold (by simpa using h2'))).mono (.refl _) hsame
   ·have hget:updAt fam f i k cs g' = fam g':=by simp [updAt,hf]
    rw [hget]
    obtain ⟨hd',hr'⟩:=hR.row q fam g' hl hgy
    exact ⟨hd',hr'.mono hd' (.refl _) (fun _ _ h => h) hsame (fun hcq => setRow_other _ _ _ _ (hother q fam g' hl hgy hcq (fun e => hf e.2)))⟩
  ·obtain ⟨hd',hr'⟩:=hR.row q y g' h hgy
   exact ⟨hd',hr'.mono hd' (.refl _) (fun _ _ h => h) hsame (fun hcq => setRow_other _ _ _ _ (hother q y g' h hgy hcq (fun e => hne e.1)))⟩
 ·have key:∀ q y g',look (setRow r (updAt fam f i k cs) m) q = some y→(y g').g≠some false→∃ y',look m q = some y'∧(y' g').g≠some false:=fun q y g' hy hgy => by
   rcases hlook q y hy with ⟨e,e2⟩ | ⟨_,h⟩
   ·subst e e2; rw [hgg] at hgy; exact ⟨fam,hl,hgy⟩
   ·exact ⟨y,h,hgy⟩
  obtain ⟨z,hz,hgz⟩:=key q y g' hy hgy
  obtain ⟨z',hz',hgz'⟩:=key q' y' g'' hy' hgy'
  exact hR.sep q z g' q' z' g'' hz hz' hgz hgz' hcq hcq' he
 ·rcases hlook q y hy with ⟨e,e2⟩ | ⟨_,h⟩
  ·subst e e2; rw [hgg] at hgy; exact .inl ⟨_,fam,g',hl,hgy,hcq,rfl⟩
  ·exact .inl ⟨q,y,g',h,hgy,hcq,rfl⟩
theorem Rel.alike {r:Nat} {x y:Fam} (h:Rel w0 ρ (setRow r x m) D w) (ha:∀ f,(y f).n = (x f).n∧(y f).sz = (x f).sz∧(y f).ty = (x f).ty∧(y f).g = (x f).g∧∀ i,i < (x f).n→(y f).get i = (x f).get i):Rel w0 ρ (setRow r y m) D w:=by
 have key:∀ q z,look (setRow r y m) q = some z→∃ z',look (setRow r x m) q = some z'∧∀ f,(z f).n = (z' f).n∧(z f).sz = (z' f).sz∧(z f).ty = (z' f).ty∧(z f).g = (z' f).g∧∀ i,i < (z' f).n→(z f).get i = (z' f).get i:=fun q z hz => by
  rw [look_set] at hz ⊢
  by_cases e:r = q
  ·subst e
   cases hl:look m r with
   | none => simp [hl] at hz
   | some o => simp [hl] at hz; subst hz; exact ⟨x,by simp,ha⟩
  ·simp [e] at hz ⊢
   exact ⟨z,hz,fun f => ⟨rfl,rfl,rfl,rfl,fun _ _ => rfl⟩⟩
 refine ⟨h.below,h.imm2,h.dom,fun q z hz => ?_,fun q z f hz hg => ?_,fun q z f q' z' f' hz hz' hg hg' => ?_,h.fixed (fun _ _ => rfl) (fun b _ ho => ho.of fun q z f hz hg hc => ?_) (fun _ _ h => h),h.kept⟩
 ·obtain ⟨z',h1,_⟩:=key q z hz
  exact h.key q z' h1
 ·obtain ⟨z',h1,h2⟩:=key q z hz
  obtain ⟨a1,a2,a3,a4,a5⟩:=h2 f
  obtain ⟨b1,b2⟩:=h.row q z' f h1 (by rw [← a4]; exact hg)
  refine ⟨b1,⟨by rw [a1]; exact b2.n_le,fun hc => ?_,fun i hi => ?_,fun i k c v hi => ?_⟩⟩
  ·rw [a2,a3]; exact b2.blk hc
  ·rw [a1] at hi; rw [a5 i hi,a2]; exact b2.len i hi
  ·rw [a1] at hi; rw [a5 i hi,a2]; exact b2.rel i k c v hi
 ·obtain ⟨y1,h1,h2⟩:=key q z hz
  obtain ⟨y2,h3,h4⟩:=key q' z' hz'
  exact h.sep q y1 f q' y2 f' h1 h3 (by rw [← (h2 f).2.2.2.1]; exact hg) (by rw [← (h4 f').2.2.2.1]; exact hg')
 ·obtain ⟨z',h1,h2⟩:=key q z hz
  exact .inl ⟨q,z',f,h1,by rw [← (h2 f).2.2.2.1]; exact hg,hc,rfl⟩
theorem storeVar_row {t:TypeId} {b o:Nat} {n:Nat} {ag:Bool} {v:Value} {c:Array Value} {ty:TypeId} (hlay:layT P t = some (ag,n)) (hv:v.cells.size = n) (hc:w.heap[b]? = some (.cells c ty (0,0))) (hfit:o + n≤c.size) (h1:∀ x ∈ v.cells.toList,x.oneCell' = true) :
  (storeVar t ⟨b,o,none⟩ v).run P w = .ok () (w.setRow b (c.toList.take o ++ v.cells.toList ++ c.toList.drop (o + v.cells.toList.length)).toArray):=by
 have h2:=(layT_run (P:=P) (w:=w) hlay).2
 have hst:=run_storeCells_at P b o ty v.cells.toList 0 c w hc (by simp; omega) h1
 simp only [storeVar,Sem.run_bind,h2,Result.andThen_ok,hv,ne_eq,not_true_eq_false,if_false,Nat.add_zero] at hst ⊢
 exact hst
theorem aStore_sound (hR:Rel w0 ρ m D w) {m':Mem} (hm:∀ r x,look m' r = some x→look m r = some x) {t:TypeId} {p x:AV} {e:Eff} {pv xv:Value} (h:aStore P t p x m' = some e) (hob:∀ q ∈ e.ob,q) (hp:R w ρ p pv) (hx:R w ρ x xv) :
  ∃ w',(Instr.storeAt t pv xv).run P w = .ok () w'∧Post w0 ρ m D key e w undef w':=by
 unfold aStore at h
 split at h
 ·rename_i cs hcs
  obtain ⟨hs,h1⟩:=cellsOf_sound hx hcs
  split at h
  ·rename_i hlay
   obtain ⟨⟨ag,n⟩,hlay,hn⟩:=Option.map_eq_some_iff.1 hlay
   simp only at hn
   have hsz:xv.cells.size = n:=by have:=hs.1; rw [hn]; simpa using this
   have finish:∀ (r f i sz k:Nat) (fam:Fam),look m r = some fam→(fam f).g≠some false→i < (fam f).n→sz = (fam f).sz→k + cs.length≤sz →
     ∃ w',(storeVar t ⟨ρ.blk r f,i * sz + k,none⟩ xv).run P w = .ok () w'∧Rel w0 ρ (setRow r (updAt fam f i k cs) m) D w'∧Same ρ.imm w w':=by
    intro r f i sz k fam hl hg hi hsz' hk
    subst hsz'
    obtain ⟨hd,hr⟩:=hR.row r fam f hl hg
    have hcap:0 < ρ.cap r f:=by have:=hr.n_le; omega
    obtain ⟨b1,b2,c,b3,b4⟩:=hr.blk hcap
    have hfit:i * (fam f).sz + k + n≤c.size:=by
     rw [b4]
     have h1:(i + 1) * (fam f).sz≤ρ.cap r f * (fam f).sz:=Nat.mul_le_mul_right _ (by have:=hr.n_le; omega)
     rw [Nat.add_mul] at h1
     omega
    obtain ⟨k1,k2⟩:=hR.set hl hg hi hk hs b3
    exact ⟨_,storeVar_row hlay hsz b3 hfit h1,k1,k2⟩
   have wrap:∀ w' r y ob,Rel w0 ρ (setRow r y m) D w'→Same ρ.imm w w'→Post w0 ρ m D key ⟨ob,.v undef,.set r y⟩ w undef w':=fun w' r y ob h1 h2 =>
    ⟨ρ,.v,h1.sub (fun _ _ h => h) (fun _ h => .inl h),.refl _,h2⟩
   split at h
   ·rename_i r k
    split at h
    ·rename_i fam hl
     split at h
     ·rename_i hn1
      split at h
      ·rename_i hk
       cases h
       obtain ⟨w',a1,a2,a3⟩:=finish r 0 0 (fam 0).sz k fam (hm _ _ hl) (gOb_true hob) (by omega) rfl hk
       cases hp with
       | bx _ =>
        simp only [Nat.zero_mul,Nat.zero_add] at a1
        refine ⟨w',by simp [Instr.storeAt,Instr.sureAddr,a1],wrap _ _ _ _ (a2.alike fun f => ?_) a3⟩
        unfold set1 updAt
        by_cases e:f = 0
        ·subst e
         refine ⟨rfl,rfl,rfl,rfl,fun i hi => ?_⟩
         have hi:i < (fam 0).n:=hi
         have:i = 0:=by omega
         subst this
         rfl
        ·rw [if_neg e,if_neg e]
         exact ⟨rfl,rfl,rfl,rfl,fun _ _ => rfl⟩
      ·cases h
     ·cases h
    ·cases h
   ·rename_i r f i sz k
    split at h
    ·rename_i fam hl
     split at h
     ·rename_i hk
      cases h
      obtain ⟨w',a1,a2,a3⟩:=finish r f i sz k fam (hm _ _ hl) (gOb_true fun q hq => hob q (by simp [hq])) (hob _ (by simp)) (hob _ (by simp)) hk
      cases hp with
      | ptr _ => exact ⟨w',by simp [Instr.storeAt,Instr.sureAddr,a1],wrap _ _ _ _ a2 a3⟩
     ·cases h
    ·cases h
   ·cases h
  ·cases h
 ·cases h
theorem fOff_run {s:TypeId} {f off:Nat} (h:fOff P s f = some off):∃ (fs:Array Field) (fd:Field) (n:Nat),P.underlying s = some (.struct fs)∧fs[f]? = some fd∧fd.offset = off∧n≠0∧sizeT P fd.type = n∧(sizeOf fd.type).run P w = .ok n w:=by
 unfold fOff at h
 split at h
 ·rename_i fs hu
  split at h
  ·rename_i fd hfd
   split at h
   ·cases h
   ·rename_i hn
    cases h
    refine ⟨fs,fd,_,hu,hfd,rfl,hn,rfl,?_⟩
    unfold sizeT at hn ⊢
    split
    ·rename_i i hi
     simp [sizeOf,typeInfo,hi]
    ·rename_i hi
     simp [hi] at hn
  ·cases h
 ·cases h
theorem aFieldAddr_sound {s:TypeId} {f:Nat} {p a:AV} {v:Value} (h:aFieldAddr P s f p = some a) (hp:R w ρ p v):∃ x,(Instr.fieldAt s v f).run P w = .ok x w∧R w ρ a x:=by
 unfold aFieldAddr at h
 split at h
 ·rename_i off hoff
  obtain ⟨fs,fd,n,hu,hfd,rfl,hn,_,hsz⟩:=fOff_run (w:=w) hoff
  have run:∀ b o,(Instr.fieldAt s (.pointer (some ⟨b,o,none⟩)) f).run P w = .ok (.pointer (some ⟨b,o + fd.offset,none⟩)) w:=fun b o => by
   simp [Instr.fieldAt,run_underlying hu,hfd,Instr.sureAddr,fieldPlace,hsz,hn,add_eq]
  split at h
  ·cases h; cases hp with
   | bx hd => exact ⟨_,run _ _,.bx hd⟩
  ·cases h; cases hp with
   | ptr hd => exact ⟨_,run _ _,by rw [Nat.add_assoc]; exact .ptr hd⟩
  ·rename_i cs
   cases h; cases hp with
   | rop b o hi hex hr =>
    refine ⟨_,run _ _,.rop _ _ hi (fun k hk => ?_) (fun k c x h1 h2 => ?_)⟩
    ·simp at hk
     obtain ⟨y,hy⟩:=hex (fd.offset + k) (by omega)
     exact ⟨y,by rw [Nat.add_assoc]; exact hy⟩
    ·exact hr (fd.offset + k) c x (list_drop_get h1) (by rw [Nat.add_assoc] at h2; exact h2)
  ·cases h
 ·cases h
theorem sElem_run {t e:TypeId} (h:sElem P t = some e):P.underlying t = some (.slice e):=by
 unfold sElem at h; split at h <;> simp_all
theorem aElem_run {t e:TypeId} {n:Nat} (h:aElem P t = some (n,e)):P.underlying t = some (.array n e):=by
 unfold aElem at h; split at h <;> simp_all
theorem sizeT_info {e:TypeId} (hi:(P.info? e).isSome = true):(sizeOf e).run P w = .ok (sizeT P e) w:=by
 obtain ⟨i,hi⟩:=Option.isSome_iff_exists.1 hi
 simp [sizeOf,typeInfo,sizeT,hi]
theorem run_indexAt_slice {t e:TypeId} (hu:P.underlying t = some (.slice e)) (hi:(P.info? e).isSome = true) {b o len cap:Nat} {k:IntKind} {n:Int} (h0:0≤n) (h1:n < (len:Int)) {a:Option Addr} (ha:0 < len→a = some ⟨b,o,none⟩) :
  (Instr.indexAt t (.slice a len cap) (.int k n)).run P w = .ok (.pointer (some ⟨b,o + n.toNat * sizeT P e,none⟩)) w:=by
 rw [ha (by omega)]
 simp [Instr.indexAt,asIntOf,run_underlying hu,h0,h1,sizeT_info hi,add_eq]
theorem run_indexAt_array {t e:TypeId} {len:Nat} (hu:P.underlying t = some (.array len e)) (hi:(P.info? e).isSome = true) {b o:Nat} {k:IntKind} {n:Int} (h0:0≤n) (h1:n < (len:Int)) :
  (Instr.indexAt t (.pointer (some ⟨b,o,none⟩)) (.int k n)).run P w = .ok (.pointer (some ⟨b,o + n.toNat * sizeT P e,none⟩)) w:=by
 simp [Instr.indexAt,asIntOf,run_underlying hu,Instr.sureAddr,h0,h1,sizeT_info hi,add_eq]
theorem aIndexAddr_sound {t:TypeId} {x i a:AV} {ob:List Prop} {xv iv:Value} (h:aIndexAddr P t x i = some (ob,a)) (hob:∀ q ∈ ob,q) (hx:R w ρ x xv) (hi:R w ρ i iv):∃ y,(Instr.indexAt t xv iv).run P w = .ok y w∧R w ρ a y:=by
 unfold aIndexAddr at h
 split at h
 ·rename_i n hn
  obtain ⟨k,rfl⟩:=intOfA_sound hi hn
  split at h
  ·rename_i len sz get
   split at h
   ·rename_i e he
    split at h
    ·rename_i hsz
     cases h
     have h0:0≤n:=hob _ (by simp)
     have h1:n < (len:Int):=hob _ (by simp)
     cases hx with
     | ro b o hn ha himm hlen hex hr =>
      refine ⟨_,run_indexAt_slice (sElem_run he) hsz.1 h0 h1 ha,.rop _ _ (himm (by omega)) (fun k hk => ?_) (fun k c x h2 h3 => ?_)⟩
      ·rw [hlen _ (by omega)] at hk
       obtain ⟨y,hy⟩:=hex n.toNat k (by omega) hk
       exact ⟨y,by rw [hsz.2]; exact hy⟩
      ·rw [hsz.2] at h3
       exact hr _ k c x (by omega) h2 h3
    ·cases h
   ·cases h
  ·rename_i r f len sz
   split at h
   ·rename_i e he
    split at h
    ·rename_i hsz
     cases h
     have h0:0≤n:=hob _ (by simp)
     have h1:n < (len:Int):=hob _ (by simp)
     cases hx with
     | own hd hn ha =>
      have:=run_indexAt_slice (w:=w) (cap:=ρ.cap r f) (k:=k) (sElem_run he) hsz.1 h0 h1 (fun hl => ha (by omega))
      refine ⟨_,this,?_⟩
      rw [hsz.2,show 0 + n.toNat * sz = n.toNat * sz + 0 by omega]
      exact .ptr hd
    ·cases h
   ·cases h
  ·rename_i r f lo len sz
   split at h
   ·rename_i e he
    split at h
    ·rename_i hsz
     cases h
     have h0:0≤n:=hob _ (by simp)
     have h1:n < (len:Int):=hob _ (by simp)
     cases hx with
     | vw hd hn ha =>
      refine ⟨_,run_indexAt_slice (sElem_run he) hsz.1 h0 h1 ha,?_⟩
      rw [hsz.2,show lo * sz + n.toNat * sz = (lo + n.toNat) * sz + 0 by rw [Nat.add_mul]; omega]
      exact .ptr hd
    ·cases h
   ·cases h
  ·rename_i r k
   split at h
   ·rename_i len e he
    split at h
    ·rename_i hsz
     cases h
     have h0:0≤n:=hob _ (by simp)
     have h1:n < (len:Int):=hob _ (by simp)
     cases hx with
     | bx hd => exact ⟨_,run_indexAt_array (aElem_run he) hsz h0 h1,.bx hd⟩
    ·cases h
   ·cases h
  ·rename_i r f j sz k
   split at h
   ·rename_i len e he
    split at h
    ·rename_i hsz
     cases h
     have h0:0≤n:=hob _ (by simp)
     have h1:n < (len:Int):=hob _ (by simp)
     cases hx with
     | ptr hd =>
      refine ⟨_,run_indexAt_array (aElem_run he) hsz h0 h1,?_⟩
      rw [Nat.add_assoc]
      exact .ptr hd
    ·cases h
   ·cases h
  ·rename_i cs
   split at h
   ·rename_i len e he
    split at h
    ·rename_i hsz
     cases h
     have h0:0≤n:=hob _ (by simp)
     have h1:n < (len:Int):=hob _ (by simp)
     cases hx with
     | rop b o himm hex hr =>
      refine ⟨_,run_indexAt_array (aElem_run he) hsz h0 h1,.rop _ _ himm (fun k hk => ?_) (fun k c x h2 h3 => ?_)⟩
      ·simp at hk
       obtain ⟨y,hy⟩:=hex (n.toNat * sizeT P e + k) (by omega)
       exact ⟨y,by rw [Nat.add_assoc]; exact hy⟩
      ·exact hr _ c x (list_drop_get h2) (by rw [Nat.add_assoc] at h3; exact h3)
    ·cases h
   ·cases h
  ·cases h
 ·cases h
end
section
variable {P:Program} {w0:Base} {w:World} {ρ:Env} {m:Mem} {D:Nat→Prop} {key:Nat} {ev:Operand→Value} {ρ0:Operand→AV} {o:Oper}
theorem foldl_put (off:Nat):∀ (l:List Value) (k:Nat) (cells:Array Value),off + k + l.length≤cells.size →
  ((l.zipIdx k).foldl (fun cs (x:Value×Nat) => cs.setIfInBounds (off + x.2) x.1) cells).toList = cells.toList.take (off + k) ++ l ++ cells.toList.drop (off + k + l.length)
 | [],k,cells,_ => by simp
 | v :: rest,k,cells,h => by
  simp only [List.zipIdx_cons,List.foldl_cons]
  rw [foldl_put off rest (k + 1) _ (by simp at h ⊢; omega)]
  have e:=list_seg_step cells.toList (off + k) v rest (by simp at h ⊢; omega)
  simpa [Array.toList_setIfInBounds,Nat.add_assoc] using e
theorem fill_one (off:Nat) (new cells:Array Value) (h:off + new.size≤cells.size) :
  (new.zipIdx.foldl (fun cs (x:Value×Nat) => cs.setIfInBounds (off + x.2) x.1) cells).toList = cells.toList.take off ++ new.toList ++ cells.toList.drop (off + new.size):=by
 rw [← Array.foldl_toList,Array.toList_zipIdx]
 have:=foldl_put off new.toList 0 cells (by simpa using h)
 simpa using this
theorem Rs.put {cs new:List AV} {vs us:List Value} {off:Nat} (h:Rs w ρ cs vs) (k:Rs w ρ new us) (hf:off + new.length≤cs.length):Rs w ρ (putCells cs off new) (vs.take off ++ us ++ vs.drop (off + us.length)):=by
 have h1:(putCells cs off new).length = cs.length:=putCells_length hf
 have h2:(vs.take off ++ us ++ vs.drop (off + us.length)).length = vs.length:=putCells_length (by rw [k.1,h.1]; exact hf)
 refine ⟨by rw [h1,h2,h.1],fun i a x e1 e2 => ?_⟩
 unfold putCells at e1
 rw [putCells_get hf] at e1
 rw [putCells_get (by rw [k.1,h.1]; exact hf),k.1] at e2
 split at e1
 ·rename_i hc; rw [if_pos hc] at e2; exact k.2 _ a x e1 e2
 ·rename_i hc; rw [if_neg hc] at e2; exact h.2 _ a x e1 e2
def PRs (w:World) (ρ:Env):List (Nat×AV)→List (Nat×Value)→Prop
 | [],[] => True
 | (i,a) :: ars,(j,x) :: xs => i = j∧R w ρ a x∧PRs w ρ ars xs
 | _,_ => False
theorem fillA_sound {place:Nat→Option (Nat×Nat)}:∀ {parts:List (Nat×AV)} {pvs:List (Nat×Value)} {cs cs':List AV} {vs:List Value},fillA place cs parts = some cs'→Rs w ρ cs vs→PRs w ρ parts pvs →
  ∃ vs',Instr.fill place vs.toArray pvs = some vs'.toArray∧Rs w ρ cs' vs'
 | [],[],cs,cs',vs,h,hs,_ => by simp [fillA] at h; subst h; exact ⟨vs,by simp [Instr.fill],hs⟩
 | (i,a) :: ars,(j,x) :: xs,cs,cs',vs,h,hs,hp => by
  obtain ⟨rfl,hax,hrest⟩:=hp
  simp only [fillA] at h
  split at h
  ·cases h
  ·rename_i off size hpl
   split at h
   ·rename_i ds hds
    split at h
    ·rename_i hc
     obtain ⟨hd,_⟩:=cellsOf_sound hax hds
     have hsz:x.cells.size = size:=by have:=hd.1; simp at this; omega
     have hfit:¬ (off + x.cells.size > vs.toArray.size):=by have:=hs.1; simp; omega
     have hput:=hs.put hd hc.2
     obtain ⟨vs',h1,h2⟩:=fillA_sound h hput hrest
     refine ⟨vs',?_,h2⟩
     have hfold:(x.cells.zipIdx.foldl (fun cs (y:Value×Nat) => cs.setIfInBounds (off + y.2) y.1) vs.toArray) = (vs.take off ++ x.cells.toList ++ vs.drop (off + x.cells.toList.length)).toArray:=by
      apply Array.ext'
      rw [fill_one off x.cells vs.toArray (by have:=hs.1; simp; omega)]
      simp
     simp only [Instr.fill,hpl,hsz]
     simp only [hsz] at hfit
     simp only [ne_eq,not_true_eq_false,decide_false,Bool.false_or,hfit,Bool.false_eq_true,if_false]
     rw [← h1,← hfold]
    ·cases h
   ·cases h
 | [],(_,_) :: _,_,_,_,_,_,hp => hp.elim
 | (_,_) :: _,[],_,_,_,_,_,hp => hp.elim
theorem PRs_map {f:Operand→AV}:∀ (parts:List (Nat×Operand)),(∀ p ∈ parts,R w ρ (f p.2) (ev p.2))→PRs w ρ (parts.map fun (i,x) => (i,f x)) (parts.map fun (i,x) => (i,ev x))
 | [],_ => trivial
 | (i,x) :: rest,h => ⟨rfl,h (i,x) (by simp),PRs_map rest fun p hp => h p (by simp [hp])⟩
theorem mapM_places (fs:List Field) (h:∀ f ∈ fs,(P.info? f.type).isSome = true):(fs.mapM fun f => Functor.map (Prod.mk f.offset) (sizeOf f.type)).run P w = .ok (fs.map fun f => (f.offset,sizeT P f.type)) w:=by
 induction fs with
 | nil => simp
 | cons f fs ih =>
  have h1:=sizeT_info (w:=w) (h f (by simp))
  simp [List.mapM_cons,h1,ih fun g hg => h g (by simp [hg])]
theorem aBuild_sound {f:Operand→AV} {t:TypeId} {parts:Array (Nat×Operand)} {a:AV} (h:aBuild P f t parts.toList = some a) (hv:∀ p ∈ parts.toList,R w ρ (f p.2) (ev p.2)) :
  ∃ x,(Instr.build t (parts.map fun (i,x) => (i,ev x))).run P w = .ok x w∧R w ρ a x:=by
 unfold aBuild at h
 split at h
 ·rename_i z hz
  split at h
  ·rename_i pl hpl
   split at h
   ·rename_i cs hcs
    cases h
    obtain ⟨vs',h1,h2⟩:=fillA_sound hcs (R_list (w:=w) (ρ:=ρ) z.cells.toList) (PRs_map (ev:=ev) parts.toList hv)
    have hz':=zeroT_run (w:=w) hz
    have harr:(parts.map fun (i,x) => (i,ev x)).toList = parts.toList.map fun (i,x) => (i,ev x):=by simp
    refine ⟨.agg vs'.toArray,?_,.agg h2.1 h2.2⟩
    unfold bPlaces at hpl
    split at hpl
    ·rename_i fs hu
     split at hpl
     ·rename_i hall
      cases hpl
      have hm:=mapM_places (P:=P) (w:=w) fs.toList (fun f hf => by rw [Array.all_eq_true_iff_forall_mem] at hall; exact hall f (by simpa using hf))
      simp only [Instr.build,Sem.run_bind,hz',Result.andThen_ok,run_underlying hu]
      rw [Array.mapM_eq_mapM_toList]
      have h1':Instr.fill (fun i => (fs.toList.map fun f => (f.offset,sizeT P f.type)).toArray[i]?) z.cells (parts.map fun (i,x) => (i,ev x)).toList = some vs'.toArray:=by
       rw [harr]; simpa using h1
      simp at h1'
      simp [hm,h1']
     ·cases hpl
    ·rename_i n e hu
     split at hpl
     ·rename_i hinfo
      cases hpl
      have hsz:=sizeT_info (w:=w) hinfo
      simp only [Instr.build,Sem.run_bind,hz',Result.andThen_ok,run_underlying hu,hsz]
      have hplace:∀ (parts:List (Nat×AV)) (pvs:List (Nat×Value)) (cs:List AV) (cs':List AV) (vs vs':Array Value),fillA (fun i => ((List.range n).map fun i => (i * sizeT P e,sizeT P e))[i]?) cs parts = some cs'→PRs w ρ parts pvs →
        Instr.fill (fun i => ((List.range n).map fun i => (i * sizeT P e,sizeT P e))[i]?) vs pvs = some vs'→Instr.fill (fun i => some (i * sizeT P e,sizeT P e)) vs pvs = some vs':=by
       intro parts
       induction parts with
       | nil => intro pvs cs cs' vs vs' _ hp h; cases pvs with | nil => simpa [Instr.fill] using h | cons _ _ => exact hp.elim
       | cons p parts ih =>
        intro pvs cs cs' vs vs' hA hp h
        cases pvs with
        | nil => exact hp.elim
        | cons q pvs =>
         obtain ⟨i,a⟩:=p
         obtain ⟨j,x⟩:=q
         obtain ⟨rfl,_,hrest⟩:=hp
         simp only [fillA] at hA
         by_cases hi:i < n
         ·have e1:((List.range n).map fun i => (i * sizeT P e,sizeT P e))[i]? = some (i * sizeT P e,sizeT P e):=by simp [hi]
          simp only [e1] at hA
          simp only [Instr.fill,e1] at h ⊢
          split at hA
          ·split at hA
           ·split at h
            ·cases h
            ·rename_i hc
             rw [if_neg hc]
             exact ih _ _ _ _ _ hA hrest h
           ·cases hA
          ·cases hA
         ·have e1:((List.range n).map fun i => (i * sizeT P e,sizeT P e))[i]? = none:=by simp; omega
          simp [e1] at hA
      have h1':=hplace _ _ _ _ _ _ hcs (PRs_map (ev:=ev) (w:=w) (ρ:=ρ) parts.toList hv) (by simpa using h1)
      rw [← harr] at h1'
      simp at h1'
      simp [h1']
     ·cases hpl
    ·cases hpl
   ·cases h
  ·cases h
 ·cases h
theorem flatten_replicate_get {α:Type} (l:List α):∀ (n j:Nat),j < n * l.length→(List.replicate n l).flatten[j]? = l[j % l.length]?
 | 0,j,h => by simp at h
 | n + 1,j,h => by
  simp only [List.replicate_succ,List.flatten_cons]
  by_cases hj:j < l.length
  ·rw [List.getElem?_append_left hj,Nat.mod_eq_of_lt hj]
  ·rw [List.getElem?_append_right (by omega),flatten_replicate_get l n _ (by rw [Nat.add_mul] at h; omega)]
   congr 1
   rw [← Nat.mod_eq_sub_mod (by omega)]
theorem zeros_length (z:Value) (n:Nat):(zeros z n).length = n * z.cells.size:=by
 simp [zeros]
theorem zeros_sound (z:Value) (n:Nat):Rs w ρ (zeros z n) ((Array.range (n * z.cells.size)).map (z.cells[· % z.cells.size]!)).toList:=by
 refine ⟨by simp [zeros_length],fun i a x h1 h2 => ?_⟩
 have hi:i < n * z.cells.size:=by have:=(List.getElem?_eq_some_iff.1 h1).1; rwa [zeros_length] at this
 have hsz:0 < z.cells.size:=by
  rcases Nat.eq_zero_or_pos z.cells.size with h0 | h0
  ·rw [h0] at hi; omega
  ·exact h0
 have hmod:=Nat.mod_lt i hsz
 unfold zeros at h1
 rw [flatten_replicate_get _ _ _ (by simpa using hi)] at h1
 simp [hmod] at h1
 simp [hi] at h2
 rw [getElem!_pos z.cells (i % z.cells.size) hmod] at h2
 subst h1 h2
 exact .v
theorem rowsOf_length {sz n:Nat} {cs:List AV} (h:cs.length = n * sz) {i:Nat} (hi:i < n):(rowsOf sz cs i).length = sz:=by
 unfold rowsOf
 have h1:(i + 1) * sz≤n * sz:=Nat.mul_le_mul_right _ hi
 rw [Nat.add_mul] at h1
 simp; omega
theorem newSlice_post (hR:Rel w0 ρ m D w) (hk:¬ D key) {e:TypeId} {n sz cap:Nat} {get:Nat→List AV} {vs:List Value} (hn:n≤cap) (hsz:vs.length = cap * sz) (hlen:∀ i,i < n→(get i).length = sz)
  (hrel:∀ (i k:Nat) (a:AV) (v:Value),i < n→(get i)[k]? = some a→vs[i * sz + k]? = some v→R w ρ a v) (g:Option Bool) {ob:List Prop} :
  Post w0 ρ m D key ⟨ob,.own key 0 n sz,.new (fun f => if f = 0 then ⟨n,sz,e,get,g⟩ else ⟨0,sz,e,fun _ => [],g⟩)⟩ w (.slice (some ⟨w.heap.size,0,none⟩) n cap) (w.alloc (.cells vs.toArray e)):=by
 obtain ⟨h1,h2,h3⟩:=hR.new hk (x:=fun f => if f = 0 then ⟨n,sz,e,get,g⟩ else ⟨0,sz,e,fun _ => [],g⟩) (c:=vs.toArray) (cap:=cap)
  (by simpa using hsz) (by simpa using hn) (fun f hf => by simp [hf]) (fun i hi => by simp at hi; simpa using hlen i hi)
  (fun i k a v hi ha hv => by
   simp at hi ha hv
   exact hrel i k a v hi ha hv)
 simp only [if_true] at h1 h3
 refine ⟨_,?_,h1,h2,h3⟩
 have hc:(ρ.add key w.heap.size cap).cap key 0 = cap:=by simp [Env.add]
 have hb:(ρ.add key w.heap.size cap).blk key 0 = w.heap.size:=by simp [Env.add]
 have:=R.own (w:=w.alloc (.cells vs.toArray e)) (ρ:=ρ.add key w.heap.size cap) (r:=key) (f:=0) (n:=n) (sz:=sz) (a:=some ⟨w.heap.size,0,none⟩) (.inr rfl) (by rw [hc]; exact hn) (fun _ => by rw [hb])
 rw [hc] at this
 exact this
theorem run_newRow (t:TypeId) (cs:Array Value):(newRow t cs).run P w = .ok ⟨w.heap.size,0,none⟩ (w.alloc (.cells cs t)):=by
 simp [newRow]
theorem cleanR:∀ (d:Nat) {a:AV} {v:Value},clean d a = true→R w ρ a v→R w (.ext ρ.imm) a v
 | d,.v x,v,_,h => by cases h; exact .v
 | d,.any,v,_,h => .any
 | d,.ro n sz get,v,_,h => by cases h with | ro b o hn ha hi hlen hex hr => exact .ro b o hn ha hi hlen hex hr
 | d,.rop cs,v,_,h => by cases h with | rop b o hi hex hr => exact .rop b o hi hex hr
 | d + 1,.agg cs,v,hc,h => by
  simp only [clean,List.all_eq_true] at hc
  cases h with | agg hl hh => exact .agg hl fun i a x h1 h2 => cleanR d (hc a (List.mem_of_getElem? h1)) (hh i a x h1 h2)
 | d + 1,.tup cs,v,hc,h => by
  simp only [clean,List.all_eq_true] at hc
  cases h with | tup hl hh => exact .tup hl fun i a x h1 h2 => cleanR d (hc a (List.mem_of_getElem? h1)) (hh i a x h1 h2)
 | d + 1,.fn f cs,v,hc,h => by
  simp only [clean,List.all_eq_true] at hc
  cases h with | fn hl hh => exact .fn hl fun i a x h1 h2 => cleanR d (hc a (List.mem_of_getElem? h1)) (hh i a x h1 h2)
 | d + 1,.iface t x,v,hc,h => by
  simp only [clean] at hc
  cases h with | iface h => exact .iface (cleanR d hc h)
 | d + 1,.cond b x,v,hc,h => by
  simp only [clean] at hc
  cases h with
  | yes h => exact .yes (cleanR d hc h)
  | no => exact .no
 | 0,.agg _,_,hc,_ => by simp [clean] at hc
 | 0,.tup _,_,hc,_ => by simp [clean] at hc
 | 0,.fn _ _,_,hc,_ => by simp [clean] at hc
 | 0,.iface _ _,_,hc,_ => by simp [clean] at hc
 | 0,.cond _ _,_,hc,_ => by simp [clean] at hc
 | 0,.bx _ _,_,hc,_ => by simp [clean] at hc
 | 0,.ptr _ _ _ _ _,_,hc,_ => by simp [clean] at hc
 | 0,.own _ _ _ _,_,hc,_ => by simp [clean] at hc
 | 0,.vw _ _ _ _ _,_,hc,_ => by simp [clean] at hc
 | d + 1,.bx _ _,_,hc,_ => by simp [clean] at hc
 | d + 1,.ptr _ _ _ _ _,_,hc,_ => by simp [clean] at hc
 | d + 1,.own _ _ _ _,_,hc,_ => by simp [clean] at hc
 | d + 1,.vw _ _ _ _ _,_,hc,_ => by simp [clean] at hc
theorem newRo_post (hR:Rel w0 ρ m D w) {e:TypeId} {n sz:Nat} {get:Nat→List AV} {vs:List Value} (hsz:vs.length = n * sz) (hlen:∀ i,i < n→(get i).length = sz)
  (hrel:∀ (i k:Nat) (a:AV) (v:Value),i < n→(get i)[k]? = some a→vs[i * sz + k]? = some v→R w ρ a v) (hcl:∀ (i k:Nat) (a:AV),i < n→(get i)[k]? = some a→clean 2 a = true) :
  Post w0 ρ m D key ⟨[],.ro n sz get,.none⟩ w (.slice (some ⟨w.heap.size,0,none⟩) n n) (w.alloc (.cells vs.toArray e)):=by
 have hb:Below w.heap.size w (w.alloc (.cells vs.toArray e)):=Below.alloc (Below.refl _ w) (Nat.le_refl _) _
 have hs:Same ρ.imm w (w.alloc (.cells vs.toArray e)):=Same.of_below hb hR.imm
 have hz:w.heap.size < (w.alloc (.cells vs.toArray e)).heap.size:=(Array.getElem?_eq_some_iff.1 (Go.heap_alloc_new w (.cells vs.toArray e))).1
 have hH:∀ (k:Nat) (x:Value),Has (w.alloc (.cells vs.toArray e)) w.heap.size k x ↔ vs[k]? = some x:=fun k x => by
  unfold Has World.cell?
  rw [Go.heap_alloc_new]
  simp
 refine ⟨ρ.grow w (w.alloc (.cells vs.toArray e)),.ro w.heap.size 0 (Nat.le_refl _) (fun _ => rfl) (fun _ => .inr ⟨Nat.le_refl _,hz⟩) hlen (fun i k hi hk => ?_) (fun i k c x hi hc hx => ?_),(hR.grow hb).sub (fun _ _ h => h) (fun _ h => .inl h),Env.le_grow _ _ _,hs⟩
 ·have hlt:i * sz + k < vs.length:=by
   rw [hsz]
   have:=Nat.mul_le_mul_right sz (show i + 1≤n by omega)
   rw [Nat.add_mul,Nat.one_mul] at this
   omega
  exact ⟨vs[i * sz + k],(hH _ _).2 (by rw [Nat.zero_add]; exact List.getElem?_eq_getElem hlt)⟩
 ·have hv:=(hH _ _).1 hx
  rw [Nat.zero_add] at hv
  exact (cleanR 2 (hcl i k c hi hc) (hrel i k c x hi hc hv)).mono (Env.le.ext fun b h => .inl h) hs
theorem aBuildSlice_sound (hR:Rel w0 ρ m D w) (hk:¬ D key) {f:Operand→AV} {t:TypeId} {len:Nat} {parts:Array (Nat×Operand)} {g:Option Bool} {e:Eff} (h:aBuildSlice P f key t len parts.toList g = some e) (hv:∀ p ∈ parts.toList,R w ρ (f p.2) (ev p.2)) :
  ∃ x w',(Instr.buildSlice t len (parts.map fun (i,x) => (i,ev x))).run P w = .ok x w'∧Post w0 ρ m D key e w x w':=by
 unfold aBuildSlice at h
 split at h
 ·rename_i el hel
  split at h
  ·rename_i z hz
   split at h
   ·rename_i hc
    split at h
    ·rename_i cs hcs
     have hinfo:(P.info? el).isSome = true:=by unfold zeroT at hz; split at hz <;> simp_all
     obtain ⟨vs',h1,h2⟩:=fillA_sound hcs (zeros_sound (w:=w) (ρ:=ρ) z len) (PRs_map (ev:=ev) parts.toList hv)
     have hl0:cs.length = len * sizeT P el:=by
      have:=h2.1
      have hA:∀ (parts:List (Nat×AV)) (cs cs':List AV),fillA (fun i => some (i * sizeT P el,sizeT P el)) cs parts = some cs'→cs'.length = cs.length:=by
       intro parts
       induction parts with
       | nil => intro cs cs' h; simp [fillA] at h; subst h; rfl
       | cons p parts ih =>
        intro cs cs' h
        obtain ⟨i,a⟩:=p
        simp only [fillA] at h
        split at h
        ·split at h
         ·rename_i hc2
          rw [ih _ _ h]
          unfold putCells
          rw [putCells_length hc2.2]
         ·cases h
        ·cases h
      rw [hA _ _ _ hcs,zeros_length,hc.2]
     have hrun:(Instr.buildSlice t len (parts.map fun (i,x) => (i,ev x))).run P w = .ok (.slice (some ⟨w.heap.size,0,none⟩) len len) (w.alloc (.cells vs'.toArray el)):=by
      have hsz:=sizeT_info (w:=w) hinfo
      have hz':=zeroT_run (w:=w) hz
      have hbig:¬ (len * sizeT P el > 2 ^ 24):=by have:=hc.1; omega
      simp only [Instr.buildSlice,Sem.run_bind,run_underlying (sElem_run hel),Result.andThen_ok,hsz,hbig,if_false,Sem.run_pure]
      have harr:(parts.map fun (i,x) => (i,ev x)).toList = parts.toList.map fun (i,x) => (i,ev x):=by simp
      by_cases h0:len * sizeT P el = 0
      ·simp only [h0,if_true,Sem.run_pure,Result.andThen_ok]
       have e1:((Array.range (len * z.cells.size)).map (z.cells[· % z.cells.size]!)).toList.toArray = ((Array.range 0).map fun x => (#[]:Array Value)[x % 0]!):=by
        rw [hc.2,h0]; simp
       rw [e1] at h1
       rw [← harr] at h1
       simp at h1
       simp [h1,run_newRow]
      ·simp only [h0,if_false,Sem.run_bind,hz',Result.andThen_ok,Sem.run_pure]
       have e1:((Array.range (len * z.cells.size)).map (z.cells[· % z.cells.size]!)).toList.toArray = ((Array.range (len * sizeT P el)).map fun x => z.cells[x % z.cells.size]!):=by
        rw [hc.2]
       rw [e1,← harr] at h1
       simp at h1
       simp [h1,run_newRow]
     have hget:∀ (i k:Nat) (a:AV) (v:Value),i < len→(rowsOf (sizeT P el) cs i)[k]? = some a→vs'[i * sizeT P el + k]? = some v→R w ρ a v:=fun i k a v hi ha hx => by
      unfold rowsOf at ha
      rw [List.getElem?_take] at ha
      split at ha
      ·exact h2.2 _ a v (list_drop_get ha) hx
      ·cases ha
     split at h
     ·rename_i hcl
      cases h
      refine ⟨_,_,hrun,newRo_post hR (by rw [h2.1,hl0]) (fun i hi => rowsOf_length hl0 hi) hget fun i k a hi ha => ?_⟩
      unfold rowsOf at ha
      rw [List.getElem?_take] at ha
      split at ha
      ·exact List.all_eq_true.1 hcl.2 a (List.mem_of_getElem? (list_drop_get ha))
      ·cases ha
     ·cases h
      exact ⟨_,_,hrun,newSlice_post hR hk (cap:=len) (Nat.le_refl _) (by rw [h2.1,hl0]) (fun i hi => rowsOf_length hl0 hi) hget g⟩
    ·cases h
   ·cases h
  ·cases h
 ·cases h
end
section
variable {P:Program} {w0:Base} {w:World} {ρ:Env} {m:Mem} {D:Nat→Prop} {key:Nat} {ev:Operand→Value} {ρ0:Operand→AV} {o:Oper}
theorem partV_run {t:TypeId} {xs:Array Value} {off:Nat} {a:Value} (h:partV P t xs.toList off = some a):(part t xs off).run P w = .ok a w:=by
 unfold partV at h
 split at h
 ·rename_i n hl
  obtain ⟨h1,h2⟩:=layT_run (w:=w) hl
  cases h
  simp only [part,Sem.run_bind,h1,Result.andThen_ok,if_true,h2,Sem.run_pure]
  congr 2
  apply Array.ext'
  simp [Array.toList_extract,List.extract_eq_take_drop]
 ·rename_i n hl
  obtain ⟨h1,h2⟩:=layT_run (w:=w) hl
  have h':xs[off]? = some a:=by simpa using h
  simp [part,h1,h']
 ·cases h
theorem eqFs_sound {d:Nat} (ih:∀ (t:TypeId) (x y:Value) (b:Bool),eqT P d t x y = some b→(Op.equalIn d t x y).run P w = .ok b w) (xs ys:Array Value) :
  ∀ (fs:List Field) (b:Bool),eqFs P (eqT P d) xs.toList ys.toList fs = some b→(Op.eqFields d xs ys fs).run P w = .ok b w
 | [],b,h => by simp [eqFs] at h; subst h; simp [Op.eqFields]
 | f :: fs,b,h => by
  simp only [eqFs] at h
  split at h
  ·rename_i hn
   simp at hn
   simp only [Op.eqFields,hn,ne_eq,not_true_eq_false,if_false]
   exact eqFs_sound ih xs ys fs b h
  ·rename_i hn
   simp at hn
   split at h
   ·rename_i a ha
    split at h
    ·rename_i a' ha'
     split at h
     ·rename_i r hr
      split at h
      ·rename_i q hq
       cases h
       simp only [Op.eqFields,hn,ne_eq,not_false_eq_true,if_true,Sem.run_bind,partV_run (w:=w) ha,partV_run (w:=w) ha',Result.andThen_ok,ih _ _ _ _ hr]
       cases r
       ·simp
       ·simpa using eqFs_sound ih xs ys fs q hq
      ·cases h
     ·cases h
    ·cases h
   ·cases h
theorem eqItems_fields {d:Nat} {e:TypeId} {xs ys:Array Value}:∀ (is:List Nat) (w:World),(Op.eqItems d e (P.cellsOf e) xs ys is).run P w = (Op.eqFields d xs ys (itemsF P e is)).run P w
 | [],_ => rfl
 | i :: is,w => by
  have hn : ("a" : String) ≠ "_" := by decide
  simp only [Op.eqItems,itemsF,List.map_cons,Op.eqFields,hn,ne_eq,not_false_eq_true,if_true,Sem.run_bind]
  congr 1; funext a w1
  congr 1; funext b w2
  congr 1; funext c w3
  split
  ·rfl
  ·exact eqItems_fields is w3
theorem eqT_sound:∀ (d:Nat) (t:TypeId) (x y:Value) (b:Bool),eqT P d t x y = some b→(Op.equalIn d t x y).run P w = .ok b w
 | 0,_,_,_,_,h => by simp [eqT] at h
 | d + 1,t,x,y,b,h => by
  simp only [eqT] at h
  split at h
  ·rename_i hk
   split at h
   ·cases h
    have hu:P.underlying t = some .bool:=by unfold kindT at hk; (repeat' split at hk) <;> simp_all
    exact run_equalIn_bool w d t _ _ hu
   ·cases h
  ·rename_i hk
   split at h
   ·split at h
    ·rename_i hkk
     cases h
     subst hkk
     have hu:∃ k,P.underlying t = some (.int k):=by unfold kindT at hk; (repeat' split at hk) <;> first | exact ⟨_,‹_›⟩ | simp_all
     obtain ⟨k,hu⟩:=hu
     exact run_equalIn_int w d t _ k _ _ hu
    ·cases h
   ·cases h
  ·rename_i hk
   split at h
   ·cases h
    have hu:P.underlying t = some .string:=by unfold kindT at hk; (repeat' split at hk) <;> simp_all
    rw [beq_toListBytes]
    exact run_equalIn_string w d t _ _ hu
   ·cases h
  ·rename_i fs hk
   split at h
   ·rename_i xs ys
    have hu:∃ gs:Array Field,P.underlying t = some (.struct gs)∧P.stoodInHeld t = false∧gs.toList = fs:=by
     unfold kindT at hk
     split at hk <;> try (simp at hk; done)
     ·rename_i gs hg
      split at hk
      ·simp at hk
      ·rename_i hs
       cases hk
       exact ⟨gs,hg,by simpa using hs,rfl⟩
     ·split at hk <;> simp at hk
    obtain ⟨gs,hu,hs,rfl⟩:=hu
    have hf:P.fieldsOf t = gs:=by simp [Program.fieldsOf,hu]
    rw [run_equalIn_struct w d t xs ys (by rw [hf]; exact hu) hs,hf]
    exact eqFs_sound (eqT_sound d) xs ys gs.toList b h
   ·cases h
  ·rename_i fs hk
   split at h
   ·rename_i xs ys
    have hu:∃ (n:Nat) (e:TypeId) (i:TypeInfo),P.underlying t = some (.array n e)∧P.info? e = some i∧itemsF P e (List.range n) = fs:=by
     unfold kindT at hk
     split at hk <;> try (simp at hk; done)
     ·split at hk <;> simp at hk
     ·rename_i n e hu
      split at hk
      ·rename_i i hi
       simp at hk
       exact ⟨n,e,i,hu,hi,hk⟩
      ·simp at hk
    obtain ⟨n,e,i,hu,hi,rfl⟩:=hu
    rw [run_equalIn_array w d xs ys hu hi,eqItems_fields]
    exact eqFs_sound (eqT_sound d) xs ys _ b h
   ·cases h
  ·cases h
theorem eqT_mono:∀ (d:Nat) (t:TypeId) (x y:Value) (b:Bool) (d':Nat),d≤d'→eqT P d t x y = some b→eqT P d' t x y = some b:=by
 intro d
 induction d with
 | zero => intro t x y b d' _ h; simp [eqT] at h
 | succ d ih =>
  intro t x y b d' hd h
  obtain ⟨d',rfl⟩:∃ e,d' = e + 1:=⟨d' - 1,by omega⟩
  simp only [eqT] at h ⊢
  split at h <;> rename_i hk <;> try exact h
  ·split at h
   ·rename_i xs ys
    have:∀ fs b,eqFs P (eqT P d) xs.toList ys.toList fs = some b→eqFs P (eqT P d') xs.toList ys.toList fs = some b:=by
     intro fs
     induction fs with
     | nil => intro b h; simpa [eqFs] using h
     | cons f fs ihf =>
      intro b h
      simp only [eqFs] at h ⊢
      split at h
      ·exact ihf b h
      ·split at h
       ·split at h
        ·split at h
         ·rename_i r hr
          split at h
          ·rename_i q hq
           rw [ih _ _ _ _ d' (by omega) hr,ihf q hq]
           exact h
          ·cases h
         ·cases h
        ·cases h
       ·cases h
    exact this _ _ h
   ·cases h
  ·split at h
   ·rename_i xs ys
    have:∀ fs b,eqFs P (eqT P d) xs.toList ys.toList fs = some b→eqFs P (eqT P d') xs.toList ys.toList fs = some b:=by
     intro fs
     induction fs with
     | nil => intro b h; simpa [eqFs] using h
     | cons f fs ihf =>
      intro b h
      simp only [eqFs] at h ⊢
      split at h
      ·exact ihf b h
      ·split at h
       ·split at h
        ·split at h
         ·rename_i r hr
          split at h
          ·rename_i q hq
           rw [ih _ _ _ _ d' (by omega) hr,ihf q hq]
           exact h
          ·cases h
         ·cases h
        ·cases h
       ·cases h
    exact this _ _ h
   ·cases h
theorem aEq_sound {op:BinOp} (hop:op = .eql∨op = .neq) {t:TypeId} {x y:AV} {b:Bool} {xo yo:Operand} {xv yv:Value} (h:aEq P t x y = some b) (hx:R w ρ x xv) (hy:R w ρ y yv) :
  (do eqGuard op t xo yo xv yv; binOp op t xv yv:Sem Value).run P w = .ok (.bool (if op = .eql then b else !b)) w:=by
 unfold aEq at h
 split at h
 ·rename_i b' hb
  cases h
  unfold aNil at hb
  split at hb
  ·split at hb
   ·rename_i ms hu
    cases hb
    cases hx
    cases hy
    rename_i u _ _ xv _
    have he:(Op.equal t (.iface u xv) .nilIface).run P w = .ok false w:=by
     show (Op.equalIn (9999 + 1) t (.iface u xv) .nilIface).run P w = _
     unfold Op.equalIn
     simp only [Sem.run_bind,run_underlying hu,Result.andThen_ok,Sem.run_pure]
    rcases hop with rfl | rfl
    ·show (Sem.bind (Sem.pure ()) fun _ => Sem.bind (Op.equal t (.iface u xv) .nilIface) fun b => Sem.pure (Value.bool b)).run P w = _
     show (Sem.bind (Op.equal t (.iface u xv) .nilIface) fun b => Sem.pure (Value.bool b)).run P w = _
     exact (Sem.run_bind _ _ _ _).trans (by rw [he]; rfl)
    ·show (Sem.bind (Op.equal t (.iface u xv) .nilIface) fun b => Sem.pure (Value.bool (!b))).run P w = _
     exact (Sem.run_bind _ _ _ _).trans (by rw [he]; rfl)
   ·cases hb
  ·cases hb
 split at h
 ·rename_i hok
  split at h
  ·rename_i xs ys hfx hfy
   cases hx.flat hfx
   cases hy.flat hfy
   have hg:P.eqGuardType P.depth t = false:=by simpa [eqOkT] using hok
   have he:=eqT_sound (w:=w) 10000 t _ _ b (eqT_mono 20 t _ _ b 10000 (by omega) h)
   have h1:=run_eqGuard_agg (P:=P) w op t xo yo xs ys hg
   rcases hop with rfl | rfl
   ·simp only [Sem.run_bind,h1,Result.andThen_ok,run_eql_struct,he,if_true]
   ·simp only [Sem.run_bind,h1,Result.andThen_ok,run_neq_struct,he]
    simp
  ·cases h
 ·cases h
theorem lenA_sound {t e:TypeId} {x:AV} {xv:Value} {n:Nat} (ht:sElem P t = some e) (h:lenA x = some n) (hx:R w ρ x xv) {ty:TypeId}:(Builtin.len_ #[t] ty #[xv]).run P w = .ok (.int .i64 n) w:=by
 have hu:=sElem_run ht
 unfold lenA at h
 split at h <;> cases h
 all_goals
  cases hx
  simp [Builtin.len_,run_underlying hu,goInt]
theorem concreteT_run {t:TypeId} (h:concreteT P t = true):∃ d,P.underlying t = some d∧∀ ms,d≠.interface ms:=by
 unfold concreteT at h
 split at h
 ·cases h
 ·rename_i d hne hu
  exact ⟨d,hu,fun ms e => by subst e; exact hne ms rfl⟩
 ·cases h
theorem aPick_sound (hconst:∀ v,ev (.const v) = v) {c a b:Operand} {ob:List Prop} {r:AV} (h:aPick ρ0 c a b = some (ob,r)) (hob:∀ q ∈ ob,q) (hv:∀ x ∈ [c,a,b],R w ρ (ρ0 x) (ev x)) :
  ∃ t,ev c = .bool t∧R w ρ r (if t then ev a else ev b):=by
 unfold aPick at h
 split at h
 ·rename_i t ht
  have hc:∀ ob',(∀ q ∈ needs [ρ0 c] ++ ob',q)→ev c = .bool t:=fun ob' hob' => boolOf_sound (strip_sound (hv c (by simp)) fun p hp => hob' p (by simp [hp])) ht
  split at h
  ·split at h
   ·rename_i q hq
    cases h
    refine ⟨t,hc _ hob,?_⟩
    cases t
    ·have hy:=boolOf_sound (strip_sound (hv b (by simp)) (conj_map_imp (q:=(false:Bool) = false) (fun p hp => hob p (List.mem_append_right _ hp)) rfl)) hq
     simp only [Bool.false_or,Bool.false_eq_true,if_false,hy]
     exact .v
    ·simp only [Bool.true_or,if_true,hconst]
     exact .v
   ·cases h
  ·split at h
   ·rename_i q hq
    cases h
    refine ⟨t,hc _ hob,?_⟩
    cases t
    ·simp only [Bool.false_and,Bool.false_eq_true,if_false,hconst]
     exact .v
    ·have hy:=boolOf_sound (strip_sound (hv a (by simp)) (conj_map_imp (q:=(true:Bool) = true) (fun p hp => hob p (List.mem_append_right _ hp)) rfl)) hq
     simp only [Bool.true_and,if_true,hy]
     exact .v
   ·cases h
  ·cases h
 ·cases h
theorem aField_sound {s:TypeId} {f:Nat} {x a:AV} {v:Value} (h:aField P s f x = some a) (hx:R w ρ x v):∃ y,(Instr.field s v f).run P w = .ok y w∧R w ρ a y:=by
 unfold aField at h
 split at h
 ·rename_i cs
  split at h
  ·rename_i off hoff
   split at h
   ·rename_i t ht
    obtain ⟨fs,fd,n,hu,hfd,rfl,hn,_,hsz⟩:=fOff_run (w:=w) hoff
    have e:fd.type = t:=by simp [fTy,hu,hfd] at ht; exact ht
    subst e
    cases hx with
    | agg hl hr =>
     rename_i vs
     unfold ofCells at h
     split at h
     ·rename_i k hlay
      obtain ⟨h1,h2⟩:=layT_run (w:=w) hlay
      split at h
      ·rename_i hk
       cases h
       refine ⟨.agg ((vs.drop fd.offset).take k).toArray,?_,.agg (by simp at hk ⊢; omega) fun i a x e1 e2 => ?_⟩
       ·simp only [Instr.field,Sem.run_bind,run_underlying hu,Result.andThen_ok,hfd,asAgg,Sem.run_pure,part,h1,if_true,h2]
        congr 2
        apply Array.ext'
        simp [Array.toList_extract,List.extract_eq_take_drop]
       ·rw [List.getElem?_take] at e1 e2
        split at e1
        ·rename_i hi
         rw [if_pos hi] at e2
         exact hr _ a x (list_drop_get e1) (list_drop_get e2)
        ·cases e1
      ·cases h
     ·rename_i k hlay
      obtain ⟨h1,h2⟩:=layT_run (w:=w) hlay
      split at h
      ·rename_i c rest hd
       cases h
       have hc:cs[fd.offset]? = some a:=by
        have:=congrArg (fun l => l[0]?) hd
        simpa [List.getElem?_drop] using this
       have hlt:fd.offset < vs.length:=by rw [hl]; exact (List.getElem?_eq_some_iff.1 hc).1
       refine ⟨vs[fd.offset],?_,hr _ a _ hc (List.getElem?_eq_getElem hlt)⟩
       simp [Instr.field,run_underlying hu,hfd,asAgg,part,h1,hlt]
      ·cases h
     ·cases h
   ·cases h
  ·cases h
 ·cases h
theorem Rs_map {f:Operand→AV} (xs:List Operand) (h:∀ x ∈ xs,R w ρ (f x) (ev x)):Rs w ρ (xs.map f) (xs.map ev):=
 ⟨by simp,fun i a x h1 h2 => by
  simp only [List.getElem?_map,Option.map_eq_some_iff] at h1 h2
  obtain ⟨y,hy,rfl⟩:=h1
  obtain ⟨z,hz,rfl⟩:=h2
  rw [hy] at hz; cases hz
  exact h y (List.mem_of_getElem? hy)⟩
theorem aop_sound (hconst:∀ v,ev (.const v) = v) (hsel:∀ cs b,o.op≠.select cs b) (hR:Rel w0 ρ m D w) (hk:¬ D key) {m':Mem} (hm:∀ r x,look m' r = some x→look m r = some x) {g:Option Bool} {e:Eff} (h:aop P key g o ρ0 m' = some e) (hob:∀ q ∈ e.ob,q)
  (hn:(∃ c a b,o.op = .pick c a b)∨∀ p ∈ needs (o.op.operands.toList.map ρ0),p) (hv:∀ x ∈ o.op.operands,R w ρ (ρ0 x) (ev x)):Gives P ev o w (Post w0 ρ m D key e w):=by
 have hs:(∀ c a b,o.op≠.pick c a b)→∀ x ∈ o.op.operands,R w ρ (strip (ρ0 x)) (ev x):=fun hnp x hx => by
  rcases hn with ⟨c,a,b,e⟩ | hn
  ·exact absurd e (hnp c a b)
  ·exact strip_sound (hv x hx) (needs_mem hn (List.mem_map.2 ⟨x,by simpa using hx,rfl⟩))
 have pure_case:∀ {a:Option AV},(∀ c x y,o.op≠.pick c x y)→effOf (aPure P (fun x => strip (ρ0 x)) o) = some e→Gives P ev o w (Post w0 ρ m D key e w):=by
  intro _ hnp h
  unfold effOf at h
  split at h
  ·rename_i x hx
   cases h
   obtain ⟨v,h1,h2⟩:=aPure_sound (ρ:=ρ) (w:=w) hsel hx (hs hnp)
   exact ⟨v,w,.inl h1,.still hR h2⟩
  ·cases h
 obtain ⟨dst,op,type,pos,after,guard⟩:=o
 unfold aop at h
 dsimp only at h hs hsel hv pure_case
 have val:∀ {s:Sem Value} {v:Value} {w':World},s.run P w = .ok v w'→(do pure (Next.value (← s)):Sem Next).run P w = .ok (.value v) w':=fun h => run_value h
 split at h
 case h_1 x =>
  cases h
  exact ⟨_,w,.inl (by simp [execOp]),.still hR (hs (by simp) x (by simp [Op.operands]))⟩
 case h_2 x =>
  cases h
  exact ⟨_,w,.inl (by simp [execOp]),.still hR (hs (by simp) x (by simp [Op.operands]))⟩
 case h_3 c a b =>
  unfold effOf2 at h
  split at h
  ·rename_i ob r hp
   cases h
   obtain ⟨t,h1,h2⟩:=aPick_sound (w:=w) (ρ:=ρ) hconst hp hob (fun x hx => hv x (by simpa [Op.operands] using hx))
   refine ⟨_,w,.inl ?_,.still hR h2⟩
   simp [execOp,h1,asBool]
  ·cases h
 case h_4 t =>
  split at h
  ·rename_i z hz
   cases h
   exact alloc_sound hR hk rfl hz
  ·cases h
 case h_5 t x =>
  split at h
  ·rename_i cs hcs
   cases h
   exact box_sound hR hk rfl (hs (by simp) x (by simp [Op.operands])) hcs
  ·cases h
 case h_6 t p =>
  unfold effOf2 at h
  split at h
  ·rename_i ob a hp
   cases h
   obtain ⟨x,h1,h2⟩:=aLoad_sound (hR.sub hm fun _ h => h) hp hob (hs (by simp) p (by simp [Op.operands]))
   exact ⟨x,w,.inl (by simp only [execOp]; exact val h1),.still hR h2⟩
  ·cases h
 case h_7 t p x =>
  obtain ⟨w',h1,h2⟩:=aStore_sound (key:=key) hR hm h hob (hs (by simp) p (by simp [Op.operands])) (hs (by simp) x (by simp [Op.operands]))
  exact ⟨undef,w',.inr ⟨by simp only [execOp]; exact run_skip h1,rfl⟩,h2⟩
 case h_8 t parts =>
  unfold effOf at h
  split at h
  ·rename_i a hp
   cases h
   obtain ⟨x,h1,h2⟩:=aBuild_sound (ev:=ev) (w:=w) (ρ:=ρ) hp (fun p hp => hs (by simp) p.2 (by simp [Op.operands]; exact ⟨p.1,by simpa using hp⟩))
   exact ⟨x,w,.inl (by simp only [execOp]; exact val h1),.still hR h2⟩
  ·cases h
 case h_9 t len parts =>
  obtain ⟨x,w',h1,h2⟩:=aBuildSlice_sound (ev:=ev) hR hk h (fun p hp => hs (by simp) p.2 (by simp [Op.operands]; exact ⟨p.1,by simpa using hp⟩))
  exact ⟨x,w',.inl (by simp only [execOp]; exact val h1),h2⟩
 case h_10 s p f =>
  unfold effOf at h
  split at h
  ·rename_i a hp
   cases h
   obtain ⟨x,h1,h2⟩:=aFieldAddr_sound hp (hs (by simp) p (by simp [Op.operands]))
   exact ⟨x,w,.inl (by simp only [execOp]; exact val h1),.still hR h2⟩
  ·cases h
 case h_11 s x f =>
  unfold effOf at h
  split at h
  ·rename_i a hp
   cases h
   obtain ⟨y,h1,h2⟩:=aField_sound hp (hs (by simp) x (by simp [Op.operands]))
   exact ⟨y,w,.inl (by simp only [execOp]; exact val h1),.still hR h2⟩
  ·cases h
 case h_12 t x i =>
  unfold effOf2 at h
  split at h
  ·rename_i ob a hp
   cases h
   obtain ⟨y,h1,h2⟩:=aIndexAddr_sound hp hob (hs (by simp) x (by simp [Op.operands])) (hs (by simp) i (by simp [Op.operands]))
   exact ⟨y,w,.inl (by simp only [execOp]; exact val h1),.still hR h2⟩
  ·cases h
 case h_13 f first cap =>
  split at h
  ·rename_i hf
   cases h
   have hc:=Rs_map (ev:=ev) (w:=w) (ρ:=ρ) (f:=fun x => strip (ρ0 x)) cap.toList (fun x hx => hs (by simp) x (by simp [Op.operands]; exact .inr (by simpa using hx)))
   have hf':first = #[]:=by simpa using hf
   subst hf'
   refine ⟨.func (.func f) #[] (cap.toList.map ev).toArray,w,.inl ?_,.still hR (.fn hc.1 hc.2)⟩
   simp only [execOp,Instr.makeFunc]
   refine val ?_
   simp only [List.map_toArray,List.map_nil,Array.map_empty,Sem.run_pure]
   congr 2
   apply Array.ext'
   simp
  ·cases h
 case h_14 t x =>
  split at h
  ·rename_i hc
   cases h
   obtain ⟨d,hu,hne⟩:=concreteT_run hc
   refine ⟨.iface t (ev x),w,.inl ?_,.still hR (.iface (hs (by simp) x (by simp [Op.operands])))⟩
   simp only [execOp]
   refine val ?_
   simp only [Instr.makeInterface,Sem.run_bind,run_underlying hu,Result.andThen_ok]
   cases d <;> first | exact absurd rfl (hne _) | rfl
  ·cases h
 case h_15 x i =>
  split at h
  ·rename_i cs hx
   unfold effOf at h
   split at h
   ·rename_i a ha
    cases h
    have hr:=hs (by simp) x (by simp [Op.operands])
    rw [hx] at hr
    generalize hev:ev x = xv at hr
    cases hr with
    | tup hl hh =>
     rename_i vs
     have hlt:i < vs.length:=by rw [hl]; exact (List.getElem?_eq_some_iff.1 ha).1
     refine ⟨vs[i],w,.inl ?_,.still hR (hh i a _ ha (List.getElem?_eq_getElem hlt))⟩
     simp only [execOp,hev]
     exact val (by simp [Instr.extract,hlt])
   ·cases h
  ·exact pure_case (a:=none) (by simp) h
 case h_16 x =>
  split at h
  ·rename_i hnn
   cases h
   have hr:=hs (by simp) x (by simp [Op.operands])
   refine ⟨ev x,w,.inl ?_,.still hR hr⟩
   generalize hev:ev x = xv at hr
   generalize strip (ρ0 x) = a at hr hnn
   cases hr <;> simp [nonNil] at hnn <;> simp [execOp,hev]
  ·exact pure_case (a:=none) (by simp) h
 case h_17 x xt t =>
  split at h
  ·rename_i u y hx
   have hr:=hs (by simp) x (by simp [Op.operands])
   rw [hx] at hr
   generalize hev:ev x = xv at hr
   split at h
   ·rename_i hc
    obtain ⟨d,hu,hne⟩:=concreteT_run hc
    cases hr with
    | iface hy =>
     rename_i yv
     split at h
     ·rename_i ht
      cases h
      subst ht
      refine ⟨.tuple #[yv,.bool true],w,.inl ?_,.still hR (.tup (vs:=[yv,.bool true]) (by simp) fun i a x e1 e2 => ?_)⟩
      ·simp only [execOp,hev]
       refine val ?_
       simp only [Instr.typeAssert,Sem.run_bind,run_underlying hu,Result.andThen_ok]
       cases d <;> first | exact absurd rfl (hne _) | simp
      ·match i with
       | 0 => simp at e1 e2; subst e1 e2; exact hy
       | 1 => simp at e1 e2; subst e1 e2; exact .v
       | i + 2 => simp at e1
     ·rename_i ht
      split at h
      ·rename_i z hz
       cases h
       have hz':=zeroT_run (w:=w) hz
       refine ⟨.tuple #[z,.bool false],w,.inl ?_,.still hR (.tup (vs:=[z,.bool false]) (by simp) fun i a x e1 e2 => ?_)⟩
       ·simp only [execOp,hev]
        refine val ?_
        simp only [Instr.typeAssert,Sem.run_bind,run_underlying hu,Result.andThen_ok]
        cases d <;> first | exact absurd rfl (hne _) | simp [ht,hz']
       ·match i with
        | 0 => simp at e1 e2; subst e1 e2; exact R.ofVal1 _
        | 1 => simp at e1 e2; subst e1 e2; exact .v
        | i + 2 => simp at e1
      ·cases h
   ·cases h
  ·exact pure_case (a:=none) (by simp) h
 case h_18 x xt t =>
  split at h
  ·rename_i u y hx
   have hr:=hs (by simp) x (by simp [Op.operands])
   rw [hx] at hr
   generalize hev:ev x = xv at hr
   split at h
   ·rename_i hc
    obtain ⟨d,hu,hne⟩:=concreteT_run hc
    cases hr with
    | iface hy =>
     rename_i yv
     split at h
     ·rename_i ht
      cases h
      subst ht
      refine ⟨yv,w,.inl ?_,.still hR hy⟩
      simp only [execOp,hev]
      refine val ?_
      simp only [Instr.typeAssert,Sem.run_bind,run_underlying hu,Result.andThen_ok]
      cases d <;> first | exact absurd rfl (hne _) | simp
     ·cases h
   ·cases h
  ·exact pure_case (a:=none) (by simp) h
 case h_19 t x y yt =>
  split at h
  ·rename_i b hb
   cases h
   have:=aEq_sound (P:=P) (w:=w) (op:=.eql) (.inl rfl) (xo:=x) (yo:=y) hb (hs (by simp) x (by simp [Op.operands])) (hs (by simp) y (by simp [Op.operands]))
   simp only [if_true] at this
   exact ⟨.bool b,w,.inl (by simp only [execOp]; exact val this),.still hR .v⟩
  ·exact pure_case (a:=none) (by simp) h
 case h_20 t x y yt =>
  split at h
  ·rename_i b hb
   cases h
   have:=aEq_sound (P:=P) (w:=w) (op:=.neq) (.inr rfl) (xo:=x) (yo:=y) hb (hs (by simp) x (by simp [Op.operands])) (hs (by simp) y (by simp [Op.operands]))
   exact ⟨.bool (!b),w,.inl (by simp only [execOp]; exact val (by simpa using this)),.still hR .v⟩
  ·exact pure_case (a:=none) (by simp) h
 case h_21 args ats =>
  split at h
  ·rename_i x t hx ht
   split at h
   ·rename_i n hn'
    split at h
    ·rename_i e he
     cases h
     obtain ⟨x0,hx0⟩:∃ x0,args.toList = [x0]:=by
      cases hl:args.toList with
      | nil => rw [hl] at hx; simp at hx
      | cons a rest => cases rest with
       | nil => exact ⟨a,rfl⟩
       | cons b r => rw [hl] at hx; simp at hx
     rw [hx0] at hx
     simp only [List.map_cons,List.map_nil,List.cons.injEq,and_true] at hx
     have hargs:args = #[x0]:=by apply Array.ext'; simpa using hx0
     have hats:ats = #[t]:=by apply Array.ext'; simpa using ht
     subst hargs hats
     have hr:=hs (by simp) x0 (by simp [Op.operands,Call.operands])
     rw [hx] at hr
     refine ⟨_,w,.inl ?_,.still hR .v⟩
     simp [execOp,resolve,invoke,builtin,lenA_sound (w:=w) he hn' hr]
    ·cases h
   ·exact pure_case (a:=none) (by simp) h
  ·cases h
 case h_22 =>
  refine pure_case (a:=none) ?_ h
  intro c x y e
  rename_i h3 _ _ _ _ _ _ _ _ _ _ _ _ _ _ _ _ _ _
  exact absurd e (by first | exact h3 c x y | skip)
end
def Fw (ro:Option Nat):Fence:={ Fence.wide with round:=ro }
def Invokes (P:Program) (f:FuncId) (vs:List Value) (w:World) (Q:Value→World→Prop):Prop:=
 (∃ v w',(callFunc f vs.toArray).run P w = .ok (.value v) w'∧Q v w') ∨
 ((callFunc f vs.toArray).run P w = .ok (.enter f vs.toArray) w∧Calls P f vs.toArray w fun e w' => ∃ v,e = .returned v∧Q v w')
theorem Invokes.mono {P:Program} {f:FuncId} {vs:List Value} {w:World} {Q Q':Value→World→Prop} (h:Invokes P f vs w Q) (hq:∀ v w',Q v w'→Q' v w'):Invokes P f vs w Q':=by
 rcases h with ⟨v,w',h1,h2⟩ | ⟨h1,h2⟩
 ·exact .inl ⟨v,w',h1,hq _ _ h2⟩
 ·exact .inr ⟨h1,h2.mono fun e w' ⟨v,he,h⟩ => ⟨v,he,hq _ _ h⟩⟩
def New (I:Nat→Prop) (w w':World):Nat→Prop:=fun b => I b∨(w.heap.size≤b∧b < w'.heap.size)
def Pur (P:Program) (f:FuncId) (ars:List AV) (r:AV):Prop:=
 ∀ (I:Nat→Prop) (w:World) (vs:List Value),(∀ b,I b→b < w.heap.size)→Rs w (.ext I) ars vs →
  Invokes P f vs w fun v w' => R w' (.ext (New I w w')) r v∧Below w.heap.size w w'
def ConOK (P:Program) (f:FuncId) (c:Con):Prop:=∀ ars ob r,c ars = some (ob,r)→(∀ p ∈ ob,p)→Pur P f ars r
def SeqPure (P:Program) (f:FuncId) (ars:List AV) (N:Nat) (sq:Nat→List AV):Prop:=
 ∀ (I:Nat→Prop) (w:World) (vs:List Value) (n l:Nat) (J:Nat→World→Prop) (Jx:World→Prop),(∀ b,I b→b < w.heap.size)→Rs w (.ext I) ars vs →
  (∀ i W W',J i W→Below W.heap.size W W'→J i W')→(∀ W W',Jx W→Below W.heap.size W W'→Jx W')→J 0 w →
  (∀ i W args,i < N→J i W→Same I w W→Rs W (.ext I) (sq i) args→YieldAt Fence.wide (n - 1) P l args.toArray W fun e W' =>
   Same I W W'∧((e = .returned (.bool true)∧J (i + 1) W')∨(e = .returned (.bool false)∧Jx W'))) →
  (∀ args w,(callFunc f args).run P w = .ok (.enter f args) w) ∧
  CallsIn Fence.wide n P f (#[.func (.yield l) #[] #[]] ++ vs.toArray) w fun e W' => (∃ v,e = .returned v)∧(J N W'∨Jx W')
def SeqOK (P:Program) (f:FuncId) (c:Con):Prop:=∀ ars ob N k sq,c ars = some (ob,.ro N k sq)→(∀ p ∈ ob,p)→SeqPure P f ars N sq
def MConOK (P:Program) (f:FuncId) (c:MCon):Prop:=
 ∀ (w0:Base) (ρ:Env) (m m':Mem) (D:Nat→Prop) (w:World) (key:Nat) (ars:List AV) (vs:List Value) (e:Eff),Rel w0 ρ m D w→¬ D key→(∀ r x,look m' r = some x→look m r = some x)→Rs w ρ ars vs→c key m' ars = some e→(∀ p ∈ e.ob,p)→(∃ s n,e.u = .many s n) →
  Invokes P f vs w fun v w' => Post w0 ρ m D key e w v w'
def CEOK (P:Program) (f:FuncId):CE→Prop
 | .pure c => (f < 1000000→ConOK P f c)∧(1000000≤f→SeqOK P (f - 1000000) c)
 | .wr c => MConOK P f c
def CtxOK (P:Program) (G:Ctx):Prop:=∀ f c,ctxGet G f = some c→CEOK P f c
theorem CtxOK.nil {P:Program}:CtxOK P []:=fun _ _ h => by simp [ctxGet] at h
theorem CtxOK.mcons {P:Program} {f:FuncId} {c:MCon} {G:Ctx} (h:MConOK P f c) (hG:CtxOK P G):CtxOK P ((f,.wr c) :: G):=fun g d hg => by
 simp only [ctxGet] at hg
 split at hg
 ·rename_i e; subst e; cases hg; exact h
 ·exact hG g d hg
theorem CtxOK.cons {P:Program} {f:FuncId} {c:Con} {G:Ctx} (h:ConOK P f c) (hG:CtxOK P G) (hf:f < 1000000:=by decide):CtxOK P ((f,.pure c) :: G):=fun g d hg => by
 simp only [ctxGet] at hg
 split at hg
 ·rename_i e; subst e; cases hg; exact ⟨fun _ => h,fun k => absurd hf (Nat.not_lt.2 k)⟩
 ·exact hG g d hg
theorem CtxOK.seq {P:Program} {f:FuncId} {c:Con} {G:Ctx} (h:SeqOK P f c) (hG:CtxOK P G):CtxOK P ((1000000 + f,.pure c) :: G):=fun g d hg => by
 simp only [ctxGet] at hg
 split at hg
 ·rename_i e; subst e; cases hg
  exact ⟨fun k => absurd (Nat.le_add_right 1000000 f) (Nat.not_le.2 k),fun _ => by rw [Nat.add_sub_cancel_left]; exact h⟩
 ·exact hG g d hg
theorem CtxOK.call {P:Program} {G:Ctx} (hG:CtxOK P G) {f:FuncId} {c:Con} (h:ctxCall G f = some c):ConOK P f c:=by
 unfold ctxCall at h
 split at h
 ·rename_i hf
  unfold pureOf at h
  split at h
  ·rename_i c' hc; cases h; exact (hG f _ hc).1 hf
  ·cases h
 ·cases h
theorem CtxOK.wr {P:Program} {G:Ctx} (hG:CtxOK P G) {f:FuncId} {c:MCon} (h:mutOf (ctxGet G f) = some c):MConOK P f c:=by
 unfold mutOf at h
 split at h
 ·rename_i c' hc; cases h; exact hG f _ hc
 ·cases h
theorem CtxOK.range {P:Program} {G:Ctx} (hG:CtxOK P G) {f:FuncId} {c:Con} (h:pureOf (ctxGet G (1000000 + f)) = some c):SeqOK P f c:=by
 have hc:ctxGet G (1000000 + f) = some (.pure c):=by
  unfold pureOf at h
  split at h
  ·rename_i c' hc; cases h; exact hc
  ·cases h
 have:=(hG _ _ hc).2 (Nat.le_add_right _ _)
 rw [Nat.add_sub_cancel_left] at this
 exact this
section
variable {P:Program} {w0:Base} {w:World} {ρ:Env} {m:Mem} {D:Nat→Prop} {key:Nat}
theorem clean_sound:∀ (d:Nat) {a:AV} {v:Value},clean d a = true→R w ρ a v→R w (.ext ρ.imm) a v
 | d,.v x,v,_,h => by cases h; exact .v
 | d,.any,v,_,h => .any
 | d,.ro n sz get,v,_,h => by cases h with | ro b o hn ha hi hlen hex hr => exact .ro b o hn ha hi hlen hex hr
 | d,.rop cs,v,_,h => by cases h with | rop b o hi hex hr => exact .rop b o hi hex hr
 | d + 1,.agg cs,v,hc,h => by
  simp only [clean,List.all_eq_true] at hc
  cases h with | agg hl hh => exact .agg hl fun i a x h1 h2 => clean_sound d (hc a (List.mem_of_getElem? h1)) (hh i a x h1 h2)
 | d + 1,.tup cs,v,hc,h => by
  simp only [clean,List.all_eq_true] at hc
  cases h with | tup hl hh => exact .tup hl fun i a x h1 h2 => clean_sound d (hc a (List.mem_of_getElem? h1)) (hh i a x h1 h2)
 | d + 1,.fn f cs,v,hc,h => by
  simp only [clean,List.all_eq_true] at hc
  cases h with | fn hl hh => exact .fn hl fun i a x h1 h2 => clean_sound d (hc a (List.mem_of_getElem? h1)) (hh i a x h1 h2)
 | d + 1,.iface t x,v,hc,h => by
  simp only [clean] at hc
  cases h with | iface h => exact .iface (clean_sound d hc h)
 | d + 1,.cond b x,v,hc,h => by
  simp only [clean] at hc
  cases h with
  | yes h => exact .yes (clean_sound d hc h)
  | no => exact .no
 | 0,.agg _,_,hc,_ => by simp [clean] at hc
 | 0,.tup _,_,hc,_ => by simp [clean] at hc
 | 0,.fn _ _,_,hc,_ => by simp [clean] at hc
 | 0,.iface _ _,_,hc,_ => by simp [clean] at hc
 | 0,.cond _ _,_,hc,_ => by simp [clean] at hc
 | 0,.bx _ _,_,hc,_ => by simp [clean] at hc
 | 0,.ptr _ _ _ _ _,_,hc,_ => by simp [clean] at hc
 | 0,.own _ _ _ _,_,hc,_ => by simp [clean] at hc
 | 0,.vw _ _ _ _ _,_,hc,_ => by simp [clean] at hc
 | d + 1,.bx _ _,_,hc,_ => by simp [clean] at hc
 | d + 1,.ptr _ _ _ _ _,_,hc,_ => by simp [clean] at hc
 | d + 1,.own _ _ _ _,_,hc,_ => by simp [clean] at hc
 | d + 1,.vw _ _ _ _ _,_,hc,_ => by simp [clean] at hc
theorem plain_sound {w':World} {ρ':Env}:∀ (d:Nat) {a:AV} {v:Value},plain d a = true→R w ρ a v→R w' ρ' a v
 | d,.v x,v,_,h => by cases h; exact .v
 | d,.any,v,_,h => .any
 | d + 1,.agg cs,v,hc,h => by
  simp only [plain,List.all_eq_true] at hc
  cases h with | agg hl hh => exact .agg hl fun i a x h1 h2 => plain_sound d (hc a (List.mem_of_getElem? h1)) (hh i a x h1 h2)
 | d + 1,.tup cs,v,hc,h => by
  simp only [plain,List.all_eq_true] at hc
  cases h with | tup hl hh => exact .tup hl fun i a x h1 h2 => plain_sound d (hc a (List.mem_of_getElem? h1)) (hh i a x h1 h2)
 | d + 1,.iface t x,v,hc,h => by
  simp only [plain] at hc
  cases h with | iface h => exact .iface (plain_sound d hc h)
 | 0,.agg _,_,hc,_ => by simp [plain] at hc
 | 0,.tup _,_,hc,_ => by simp [plain] at hc
 | 0,.iface _ _,_,hc,_ => by simp [plain] at hc
 | 0,.ro _ _ _,_,hc,_ => by simp [plain] at hc
 | 0,.rop _,_,hc,_ => by simp [plain] at hc
 | 0,.fn _ _,_,hc,_ => by simp [plain] at hc
 | 0,.cond _ _,_,hc,_ => by simp [plain] at hc
 | 0,.bx _ _,_,hc,_ => by simp [plain] at hc
 | 0,.ptr _ _ _ _ _,_,hc,_ => by simp [plain] at hc
 | 0,.own _ _ _ _,_,hc,_ => by simp [plain] at hc
 | 0,.vw _ _ _ _ _,_,hc,_ => by simp [plain] at hc
 | d + 1,.ro _ _ _,_,hc,_ => by simp [plain] at hc
 | d + 1,.rop _,_,hc,_ => by simp [plain] at hc
 | d + 1,.fn _ _,_,hc,_ => by simp [plain] at hc
 | d + 1,.cond _ _,_,hc,_ => by simp [plain] at hc
 | d + 1,.bx _ _,_,hc,_ => by simp [plain] at hc
 | d + 1,.ptr _ _ _ _ _,_,hc,_ => by simp [plain] at hc
 | d + 1,.own _ _ _ _,_,hc,_ => by simp [plain] at hc
 | d + 1,.vw _ _ _ _ _,_,hc,_ => by simp [plain] at hc
def All (w:World):Nat→Prop:=fun b => b < w.heap.size
theorem pur_map {f:AV→AV} {cs:List AV} {vs:List Value} {ρ':Env} (hf:∀ a x,R w ρ a x→R w ρ' (f a) x) (h:∀ (i:Nat) (a:AV) (x:Value),cs[i]? = some a→vs[i]? = some x→R w ρ a x) :
  ∀ (i:Nat) (a:AV) (x:Value),(cs.map f)[i]? = some a→vs[i]? = some x→R w ρ' a x:=fun i a x h1 h2 => by
 simp only [List.getElem?_map,Option.map_eq_some_iff] at h1
 obtain ⟨b,hb,rfl⟩:=h1
 exact hf b x (h i b x hb h2)
theorem ext_all {J:Nat→Prop} {a:AV} {x:Value} (hJ:∀ b,ρ.imm b→J b) (h:R w (.ext ρ.imm) a x):R w (.ext J) a x:=h.mono (Env.le.ext hJ) (.refl _ _)
theorem guard_ne {g:Option Bool} {l:List Prop} (h:∀ p ∈ gOb g l,p):g≠some false:=by
 cases g with
 | none => simp
 | some b => have:=h (b = true) (by simp [gOb]); simp [this]
theorem guard_rest {g:Option Bool} {l:List Prop} (h:∀ p ∈ gOb g l,p):∀ p ∈ l,p:=by
 cases g with
 | none => exact h
 | some b => intro p hp; exact h p (by simp [gOb,hp])
section
variable {J:Nat→Prop} {fam:Fam} {r k f n sz lo:Nat} {F:AV→AV} {v:Value}
theorem bx_ext (hR:Rel w0 ρ m D w) (hN:∀ b,b < w.heap.size→w0.heap.size≤b→J b) (hl:look m r = some fam) (hn:(fam 0).n = 1) (hgn:(fam 0).g≠some false)
  (ih:∀ a ∈ ((fam 0).get 0).drop k,∀ x,R w ρ a x→R w (.ext J) (F a) x) (h:R w ρ (.bx r k) v):R w (.ext J) (.rop ((((fam 0).get 0).drop k).map F)) v:=by
 obtain ⟨hd,hex,hr⟩:=row_cells hR hl hgn (i:=0) (by omega)
 have hok:=(hR.row r fam 0 hl hgn).2
 have hc:0 < ρ.cap r 0:=by have:=hok.n_le; omega
 cases h with
 | bx _ =>
  refine .rop _ _ (hN _ (hR.lt hl hgn hc) (hok.blk hc).1) (fun j hj => ?_) (fun j c x h1 h2 => ?_)
  ·simp at hj
   obtain ⟨x,hx⟩:=hex (k + j) (by omega)
   exact ⟨x,by simpa using hx⟩
  ·simp only [List.getElem?_map,Option.map_eq_some_iff] at h1
   obtain ⟨b,hb,rfl⟩:=h1
   exact ih b (List.mem_of_getElem? hb) x (hr (k + j) b x (list_drop_get hb) (by simpa using h2))
theorem ptr_ext {i:Nat} (hR:Rel w0 ρ m D w) (hN:∀ b,b < w.heap.size→w0.heap.size≤b→J b) (hl:look m r = some fam) (hi:i < (fam f).n) (hsz:sz = (fam f).sz) (hgn:(fam f).g≠some false)
  (ih:∀ a ∈ ((fam f).get i).drop k,∀ x,R w ρ a x→R w (.ext J) (F a) x) (h:R w ρ (.ptr r f i sz k) v):R w (.ext J) (.rop ((((fam f).get i).drop k).map F)) v:=by
 obtain ⟨hd,hex,hr⟩:=row_cells hR hl hgn hi
 have hok:=(hR.row r fam f hl hgn).2
 have hc:0 < ρ.cap r f:=by have:=hok.n_le; omega
 cases h with
 | ptr _ =>
  refine .rop _ _ (hN _ (hR.lt hl hgn hc) (hok.blk hc).1) (fun j hj => ?_) (fun j c x h1 h2 => ?_)
  ·simp at hj
   obtain ⟨x,hx⟩:=hex (k + j) (by omega)
   exact ⟨x,by rw [hsz,Nat.add_assoc]; simpa using hx⟩
  ·simp only [List.getElem?_map,Option.map_eq_some_iff] at h1
   obtain ⟨b,hb,rfl⟩:=h1
   exact ih b (List.mem_of_getElem? hb) x (hr (k + j) b x (list_drop_get hb) (by rw [hsz,Nat.add_assoc] at h2; simpa using h2))
theorem own_ext (hR:Rel w0 ρ m D w) (hN:∀ b,b < w.heap.size→w0.heap.size≤b→J b) (hl:look m r = some fam) (hc:n≤(fam f).n∧sz = (fam f).sz) (hgn:(fam f).g≠some false)
  (ih:∀ a x,R w ρ a x→R w (.ext J) (F a) x) (h:R w ρ (.own r f n sz) v):R w (.ext J) (.ro n sz (fun i => ((fam f).get i).map F)) v:=by
 have hok:=(hR.row r fam f hl hgn).2
 cases h with
 | own hd hn ha =>
  refine .ro (ρ.blk r f) 0 hn (fun h => ha (by omega)) (fun h => hN _ (hR.lt hl hgn (by omega)) (hok.blk (by omega)).1) (fun i hi => ?_) (fun i k hi hk => ?_) (fun i k c x hi h1 h2 => ?_)
  ·simp only [List.length_map]; rw [hok.len i (by omega),hc.2]
  ·obtain ⟨_,hex,_⟩:=row_cells hR hl hgn (i:=i) (by omega)
   rw [hok.len i (by omega)] at hex
   obtain ⟨x,hx⟩:=hex k (by omega)
   exact ⟨x,by rw [hc.2]; simpa using hx⟩
  ·obtain ⟨_,_,hr⟩:=row_cells hR hl hgn (i:=i) (by omega)
   simp only [List.getElem?_map,Option.map_eq_some_iff] at h1
   obtain ⟨b,hb,rfl⟩:=h1
   exact ih b x (hr k b x hb (by rw [hc.2] at h2; simpa using h2))
theorem vw_ext (hR:Rel w0 ρ m D w) (hN:∀ b,b < w.heap.size→w0.heap.size≤b→J b) (hl:look m r = some fam) (hc:lo + n≤(fam f).n∧sz = (fam f).sz) (hgn:(fam f).g≠some false)
  (ih:∀ a x,R w ρ a x→R w (.ext J) (F a) x) (h:R w ρ (.vw r f lo n sz) v):R w (.ext J) (.ro n sz (fun i => ((fam f).get (lo + i)).map F)) v:=by
 have hok:=(hR.row r fam f hl hgn).2
 cases h with
 | vw hd hn ha =>
  refine .ro (ρ.blk r f) (lo * sz) hn ha (fun h => hN _ (hR.lt hl hgn (by have:=hok.n_le; omega)) (hok.blk (by have:=hok.n_le; omega)).1) (fun i hi => ?_) (fun i k hi hk => ?_) (fun i k c x hi h1 h2 => ?_)
  ·simp only [List.length_map]; rw [hok.len _ (by omega),hc.2]
  ·obtain ⟨_,hex,_⟩:=row_cells hR hl hgn (i:=lo + i) (by omega)
   rw [hok.len _ (by omega)] at hex
   obtain ⟨x,hx⟩:=hex k (by omega)
   refine ⟨x,?_⟩
   rw [← Nat.add_mul,hc.2]; exact hx
  ·obtain ⟨_,_,hr⟩:=row_cells hR hl hgn (i:=lo + i) (by omega)
   simp only [List.getElem?_map,Option.map_eq_some_iff] at h1
   obtain ⟨b,hb,rfl⟩:=h1
   exact ih b x (hr k b x hb (by rw [← Nat.add_mul,hc.2] at h2; exact h2))
end
theorem pur_sound {J:Nat→Prop} (hR:Rel w0 ρ m D w) (hJ:∀ b,ρ.imm b→J b) (hN:∀ b,b < w.heap.size→w0.heap.size≤b→J b):∀ (d:Nat) (a:AV) (v:Value),R w ρ a v→R w (.ext (J)) (pur d m a) v
 | 0,a,v,h => by
  cases a <;> simp only [pur] <;> first | exact .any | skip
  ·cases h; exact .v
  ·cases h with | ro b o hn ha hi hlen hex hr => exact .ro b o hn ha (fun h => hJ _ (hi h)) hlen hex fun i k c x h1 h2 h3 => ext_all hJ (hr i k c x h1 h2 h3)
  ·cases h with | rop b o hi hex hr => exact .rop b o (hJ _ hi) hex fun k c x h1 h2 => ext_all hJ (hr k c x h1 h2)
 | d + 1,a,v,h => by
  have ih:=pur_sound hR hJ hN d
  have ih':∀ a x,R w ρ a x→R w (.ext (J)) (pur d m a) x:=fun a x h => ih a x h
  simp only [pur]
  split
  ·cases h with | agg hl hh => exact .agg (by simpa using hl) (pur_map ih' hh)
  ·cases h with | tup hl hh => exact .tup (by simpa using hl) (pur_map ih' hh)
  ·rename_i r k
   split
   ·rename_i fam hl
    split
    ·rename_i hn hg
     exact bx_ext hR hN hl hn (by rw [hg]; simp) (fun a _ => ih a) h
    ·exact .any
   ·exact .any
  ·rename_i r f n sz
   split
   ·rename_i fam hl
    split
    ·rename_i hg
     split
     ·rename_i hc
      exact own_ext hR hN hl hc (by rw [hg]; simp) ih h
     ·exact .any
    ·exact .any
   ·exact .any
  ·rename_i r f lo n sz
   split
   ·rename_i fam hl
    split
    ·rename_i hg
     split
     ·rename_i hc
      exact vw_ext hR hN hl hc (by rw [hg]; simp) ih h
     ·exact .any
    ·exact .any
   ·exact .any
  ·cases h with | fn hl hh => exact .fn (by simpa using hl) (pur_map ih' hh)
  ·cases h with | iface h => exact .iface (ih _ _ h)
  ·cases h with
   | yes h => exact .yes (ih _ _ h)
   | no => exact .no
  ·exact .any
  ·rename_i h1 h2 h3 h4 h5 h6 h7 h8 h9
   cases h with
   | v => exact .v
   | any => exact .any
   | ro b o hn ha hi hlen hex hr => exact .ro b o hn ha (fun h => hJ _ (hi h)) hlen hex fun i k c x h1 h2 h3 => ext_all hJ (hr i k c x h1 h2 h3)
   | rop b o hi hex hr => exact .rop b o (hJ _ hi) hex fun k c x h1 h2 => ext_all hJ (hr k c x h1 h2)
   | agg => exact absurd rfl (h1 _)
   | tup => exact absurd rfl (h2 _)
   | bx => exact absurd rfl (h3 _ _)
   | ptr => exact absurd rfl (h9 _ _ _ _ _)
   | own => exact absurd rfl (h4 _ _ _ _)
   | vw => exact absurd rfl (h5 _ _ _ _ _)
   | fn => exact absurd rfl (h6 _ _)
   | iface => exact absurd rfl (h7 _ _)
   | yes => exact absurd rfl (h8 _ _)
   | no => exact absurd rfl (h8 _ _)
theorem mapF {F:AV→AV} {cs:List AV} {vs:List Value} {ρ':Env} (hf:∀ a ∈ cs,∀ x,R w ρ a x→R w ρ' (F a) x) (h:∀ (i:Nat) (a:AV) (x:Value),cs[i]? = some a→vs[i]? = some x→R w ρ a x) :
  ∀ (i:Nat) (a:AV) (x:Value),(cs.map F)[i]? = some a→vs[i]? = some x→R w ρ' a x:=fun i a x h1 h2 => by
 simp only [List.getElem?_map,Option.map_eq_some_iff] at h1
 obtain ⟨b,hb,rfl⟩:=h1
 exact hf b (List.mem_of_getElem? hb) x (h i b x hb h2)
theorem purU_sound {J:Nat→Prop} (hR:Rel w0 ρ m D w) (hJ:∀ b,ρ.imm b→J b) (hN:∀ b,b < w.heap.size→w0.heap.size≤b→J b):∀ (d:Nat) (a:AV) (v:Value),(∀ p ∈ pgs d m a,p)→R w ρ a v→R w (.ext J) (purU d m a) v
 | 0,a,v,_,h => by
  have:=pur_sound hR hJ hN 0 a v h
  simpa only [purU] using this
 | d + 1,a,v,hp,h => by
  have ih:=purU_sound hR hJ hN d
  have ihl:∀ {l:List AV},(∀ p ∈ l.flatMap (pgs d m),p)→∀ a ∈ l,∀ x,R w ρ a x→R w (.ext J) (purU d m a) x:=fun hl a ha x hx => ih a x (fun p hp => hl p (List.mem_flatMap.2 ⟨a,ha,hp⟩)) hx
  have ps:=pur_sound hR hJ hN
  simp only [purU]
  split
  ·simp only [pgs] at hp; cases h with | agg hl hh => exact .agg (by simpa using hl) (mapF (ihl hp) hh)
  ·simp only [pgs] at hp; cases h with | tup hl hh => exact .tup (by simpa using hl) (mapF (ihl hp) hh)
  ·split
   ·rename_i fam hl
    simp only [pgs,hl] at hp
    split
    ·rename_i hn
     exact bx_ext hR hN hl hn (guard_ne hp) (ihl (guard_rest hp)) h
    ·exact .any
   ·exact .any
  ·split
   ·rename_i fam hl
    simp only [pgs,hl] at hp
    have hp2:=guard_rest hp
    have hp3:∀ {l:List Prop} {p q:Prop},(∀ x ∈ p :: q :: l,x)→p∧q∧∀ x ∈ l,x:=fun h => ⟨h _ (by simp),h _ (by simp),fun x hx => h x (by simp [hx])⟩
    obtain ⟨h1,h2,h3⟩:=hp3 hp2
    exact ptr_ext hR hN hl h1 h2 (guard_ne hp) (ihl h3) h
   ·exact .any
  ·split
   ·rename_i fam hl
    simp only [pgs,hl] at hp
    split
    ·rename_i hc
     exact own_ext hR hN hl hc (guard_ne hp) (ps d) h
    ·exact .any
   ·exact .any
  ·split
   ·rename_i fam hl
    simp only [pgs,hl] at hp
    split
    ·rename_i hc
     exact vw_ext hR hN hl hc (guard_ne hp) (ps d) h
    ·exact .any
   ·exact .any
  ·simp only [pgs] at hp; cases h with | fn hl hh => exact .fn (by simpa using hl) (mapF (ihl hp) hh)
  ·simp only [pgs] at hp; cases h with | iface h => exact .iface (ih _ _ hp h)
  ·exact ps (d + 1) _ _ h
theorem purUs_sound {J:Nat→Prop} (hR:Rel w0 ρ m D w) (hJ:∀ b,ρ.imm b→J b) (hN:∀ b,b < w.heap.size→w0.heap.size≤b→J b) {d:Nat} {ars:List AV} {vs:List Value} (hp:∀ p ∈ ars.flatMap (pgs d m),p) (h:Rs w ρ ars vs):Rs w (.ext J) (ars.map (purU d m)) vs:=
 ⟨by simpa using h.1,mapF (fun a ha x hx => purU_sound hR hJ hN d a x (fun p hq => hp p (List.mem_flatMap.2 ⟨a,ha,hq⟩)) hx) h.2⟩
end
section
variable {P:Program} {w0:Base} {w:World} {ρ:Env} {m:Mem} {D:Nat→Prop} {key:Nat} {ev:Operand→Value} {ρ0:Operand→AV} {o:Oper}
theorem madeCells_get {z:Array Value} {N j:Nat} {v:Value} (h:(madeCells z N).toList[j]? = some v):z[j % z.size]! = v:=by
 unfold madeCells at h
 simp only [Array.toList_map,List.getElem?_map,Array.toList_range] at h
 by_cases hj:j < N
 ·rw [List.getElem?_range hj] at h
  simpa using h
 ·rw [List.getElem?_eq_none (by simpa using hj)] at h
  simp at h
theorem aMake_sound (hR:Rel w0 ρ m D w) (hk:¬ D key) {g:Option Bool} {t:TypeId} {l c:AV} {lv cv:Value} {e:Eff} (h:aMake P key g t l c = some e) (hob:∀ p ∈ e.ob,p) (hl:R w ρ l lv) (hc:R w ρ c cv) :
  ∃ x w',(Instr.makeSlice t lv cv).run P w = .ok x w'∧Post w0 ρ m D key e w x w':=by
 unfold aMake at h
 split at h
 ·rename_i el hel
  split at h
  ·rename_i z hz
   split at h
   ·rename_i n hn
    split at h
    ·rename_i q hq
     split at h
     ·rename_i hzs
      cases h
      obtain ⟨kl,rfl⟩:=intOfA_sound hl hn
      obtain ⟨kc,rfl⟩:=intOfA_sound hc hq
      have h0:0≤n:=hob _ (by simp)
      have h1:n≤q:=hob _ (by simp)
      have h2:q≤9223372036854775807:=hob _ (by simp)
      have h3:(bytesT P el:Int) * q≤281474976710656:=hob _ (by simp)
      obtain ⟨i,hi⟩:∃ i,P.info? el = some i:=by
       unfold zeroT at hz
       split at hz
       ·rename_i i hi; exact ⟨i,hi⟩
       ·cases hz
      have hz':i.zero = some z:=by unfold zeroT at hz; rw [hi] at hz; exact hz
      have hsz:sizeT P el = i.size:=by unfold sizeT; rw [hi]
      have hby:bytesT P el = i.bytes:=by unfold bytesT; rw [hi]
      rw [hby] at h3
      refine ⟨_,_,run_make w t el i z (sElem_run hel) hi hz' kl kc n q h0 h1 h3 h2,?_⟩
      have hp:=newSlice_post hR hk (e:=el) (n:=n.toNat) (sz:=sizeT P el) (cap:=q.toNat) (get:=fun _ => z.cells.toList.map .v) (vs:=(madeCells z.cells (q.toNat * i.size)).toList) (by omega)
       (by rw [Array.length_toList,size_madeCells,hsz]) (fun j _ => by simp [hzs]) (fun j k a v hj ha hv => by
        have hk2:k < z.cells.size:=by
         have:=(List.getElem?_eq_some_iff.1 ha).1
         simpa using this
        have:=madeCells_get hv
        rw [← hzs,Nat.mul_comm,Nat.mul_add_mod,Nat.mod_eq_of_lt hk2] at this
        simp [List.getElem?_map,hk2] at ha
        subst ha
        have e2:z.cells[k]! = z.cells[k]:=by simp [hk2]
        rw [e2] at this
        subst this
        exact .v) g (ob:=[0≤n,n≤q,q≤9223372036854775807,(bytesT P el:Int) * q≤281474976710656])
      exact hp
     ·cases h
    ·cases h
   ·cases h
  ·cases h
 ·cases h
theorem run_bound {v:Value} {k:IntKind} {x:Int} {y:Nat} {code:BoundsCode} (hv:v = .int k x) (h0:0≤x) (h1:x≤(y:Int)):(Instr.sliceBound v y code).run P w = .ok x.toNat w:=by
 subst hv
 simp [Instr.sliceBound,asIntOf,h0,h1]
theorem run_bounds {len cap:Nat} {lo hi:Option Value} {l h:Int}
  (hl:match lo with
   | none => l = 0
   | some v => ∃ k,v = .int k l)
  (hh:match hi with
   | none => h = len
   | some v => ∃ k,v = .int k h) (h0:0≤l) (h1:l≤h) (h2:h≤(len:Int)) (h3:len≤cap) :
  (Instr.sliceBounds true len cap lo hi none).run P w = .ok (l.toNat,h.toNat,cap) w:=by
 have hc:h≤(cap:Int):=by omega
 have hh0:0≤h:=by omega
 have hl2:l≤(h.toNat:Int):=by omega
 unfold Instr.sliceBounds
 cases lo with
 | none =>
  dsimp only at hl
  subst hl
  cases hi with
  | none =>
   dsimp only at hh
   subst hh
   simp
  | some v =>
   obtain ⟨k,hv⟩:=hh
   simp [run_bound (P:=P) (w:=w) hv hh0 hc]
 | some u =>
  obtain ⟨k',hu⟩:=hl
  cases hi with
  | none =>
   dsimp only at hh
   subst hh
   have hl3:l≤(len:Int):=by omega
   simp [run_bound (P:=P) (w:=w) hu h0 hl3]
  | some v =>
   obtain ⟨k,hv⟩:=hh
   simp [run_bound (P:=P) (w:=w) hv hh0 hc,run_bound (P:=P) (w:=w) hu h0 hl2]
theorem run_cut {t e:TypeId} {a:Option Addr} {len cap:Nat} {lo hi:Option Value} {l h:Int} (ht:P.underlying t = some (.slice e)) (hi':(P.info? e).isSome = true)
  (hl:match lo with
   | none => l = 0
   | some v => ∃ k,v = .int k l)
  (hh:match hi with
   | none => h = len
   | some v => ∃ k,v = .int k h) (h0:0≤l) (h1:l≤h) (h2:h≤(len:Int)) (h3:len≤cap) :
  (Instr.sliceAt t (.slice a len cap) lo hi none).run P w = .ok (.slice (if cap = l.toNat then a else a.map (·.add (l.toNat * sizeT P e))) (h - l).toNat (cap - l.toNat)) w:=by
 have e1:h.toNat - l.toNat = (h - l).toNat:=by omega
 have hs:=sizeT_info (w:=w) hi'
 have hb:=run_bounds (P:=P) (w:=w) hl hh h0 h1 h2 h3
 rw [← e1]
 simp only [Instr.sliceAt,Sem.run_bind,run_underlying ht,Result.andThen_ok,Instr.slice,hb,hs,Sem.run_pure]
def optR (w:World) (ρ:Env) (x:Option AV) (v:Option Value):Prop:=match x,v with
 | none,none => True
 | some a,some v => R w ρ a v
 | _,_ => False
theorem cutB {d:Nat} {x:Option AV} {v:Option Value} {l:Int} (hx:optR w ρ x v) (h:cutBound d x = some l):match v with
  | none => l = d
  | some v => ∃ k,v = .int k l:=by
 cases x with
 | none => cases v with
  | none => simp [cutBound] at h; exact h.symm
  | some _ => exact hx.elim
 | some a => cases v with
  | none => exact hx.elim
  | some v => exact intOfA_sound hx h
theorem aCut_sound {t:TypeId} {x:AV} {lo hi:Option AV} {e:Eff} {xv:Value} {lv hv:Option Value} (h:aCut P t x lo hi = some e) (hob:∀ p ∈ e.ob,p) (hx:R w ρ x xv) (hl:optR w ρ lo lv) (hh:optR w ρ hi hv) :
  ∃ v,(Instr.sliceAt t xv lv hv none).run P w = .ok v w∧R w ρ e.val v∧e.u = .none:=by
 unfold aCut at h
 split at h
 ·rename_i el hel
  split at h
  ·rename_i hinfo
   split at h
   ·rename_i n hn
    split at h
    ·rename_i l hb el' eh'
     have bl:=cutB hl el'
     have bh:=cutB hh eh'
     have key:∀ (a:Option Addr) (cap:Nat),xv = .slice a n cap→n≤cap→0≤l→l≤hb→hb≤(n:Int)→(Instr.sliceAt t xv lv hv none).run P w = .ok (.slice (if cap = l.toNat then a else a.map (·.add (l.toNat * sizeT P el))) (hb - l).toNat (cap - l.toNat)) w:=by
      intro a cap hxv hc h0 h1 h2
      subst hxv
      exact run_cut (sElem_run hel) hinfo (by cases lv <;> simpa using bl) (by cases hv <;> simpa using bh) h0 h1 h2 hc
     split at h
     ·rename_i _ sz get
      split at h
      ·rename_i hsz
       cases h
       have o1:0≤l:=hob _ (by simp)
       have o2:l≤hb:=hob _ (by simp)
       have o3:hb≤(n:Int):=by
        have:=hob (hb≤(n:Int)) (by simp)
        exact this
       simp only [lenA,Option.some.injEq] at hn
       subst hn
       cases hx with
       | @ro _ _ _ _ a cap b o hnc ha hi2 hlen hex hr =>
        refine ⟨_,key a cap rfl hnc o1 o2 o3,?_,rfl⟩
        by_cases hz:(hb - l).toNat = 0
        ·exact .ro b (o + l.toNat * sz) (by omega) (fun h => by omega) (fun h => by omega) (fun i h => by omega) (fun i k h => by omega) (fun i k c x h => by omega)
        ·have hne:¬ cap = l.toNat:=by omega
         rw [if_neg hne,ha (by omega)]
         refine .ro b (o + l.toNat * sz) (by omega) (fun _ => by rw [hsz]; simp [add_eq]) (fun _ => hi2 (by omega)) (fun i h => hlen _ (by omega)) (fun i k h1 h2 => ?_) (fun i k c x h1 h2 h3 => ?_)
         ·have:=hex (l.toNat + i) k (by omega) h2
          rw [Nat.add_mul] at this
          rw [show o + l.toNat * sz + i * sz + k = o + (l.toNat * sz + i * sz) + k by omega]
          exact this
         ·refine hr (l.toNat + i) k c x (by omega) h2 ?_
          rw [Nat.add_mul]
          rw [show o + l.toNat * sz + i * sz + k = o + (l.toNat * sz + i * sz) + k by omega] at h3
          exact h3
      ·cases h
     ·rename_i r f _ sz
      split at h
      ·rename_i hsz
       cases h
       have o1:0≤l:=hob _ (by simp)
       have o2:l≤hb:=hob _ (by simp)
       have o3:hb≤(n:Int):=by
        have:=hob (hb≤(n:Int)) (by simp)
        exact this
       simp only [lenA,Option.some.injEq] at hn
       subst hn
       cases hx with
       | @own _ _ _ _ _ a hd hnc ha =>
        refine ⟨_,key a _ rfl hnc o1 o2 o3,?_,rfl⟩
        refine .vw hd (by omega) (fun hp => ?_)
        have hne:¬ ρ.cap r f = l.toNat:=by omega
        rw [if_neg hne,ha (by omega),hsz]
        simp [add_eq]
      ·cases h
     ·rename_i r f q _ sz
      split at h
      ·rename_i hsz
       cases h
       have o1:0≤l:=hob _ (by simp)
       have o2:l≤hb:=hob _ (by simp)
       have o3:hb≤(n:Int):=by
        have:=hob (hb≤(n:Int)) (by simp)
        exact this
       simp only [lenA,Option.some.injEq] at hn
       subst hn
       cases hx with
       | @vw _ _ _ _ _ _ a cap hd hnc ha =>
        refine ⟨_,key a _ rfl hnc o1 o2 o3,?_,rfl⟩
        refine .vw hd (by omega) (fun hp => ?_)
        have hne:¬ cap = l.toNat:=by omega
        rw [if_neg hne,ha (by omega),hsz]
        simp [add_eq,Nat.add_mul]
      ·cases h
     ·cases h
    ·cases h
   ·cases h
  ·cases h
 ·cases h
theorem Rel.put (hR:Rel w0 ρ m D w) {r:Nat} {fam:Fam} (hl:look m r = some fam) (hg:(fam 0).g≠some false) {c c':Array Value} {ty:TypeId} (hcap:0 < ρ.cap r 0) (hc:w.heap[ρ.blk r 0]? = some (.cells c ty (0,0))) (hsz:c'.size = c.size) {x:Row} (hty:x.ty = ty) (hs:x.sz = (fam 0).sz) (hxg:x.g = (fam 0).g) (hn:x.n≤ρ.cap r 0)
  (hlen:∀ i,i < x.n→(x.get i).length = x.sz) (hrel:∀ (i k:Nat) (a:AV) (v:Value),i < x.n→(x.get i)[k]? = some a→c'[i * x.sz + k]? = some v→R w ρ a v) :
  Rel w0 ρ (setRow r (fun f => if f = 0 then x else fam f) m) D (w.setRow (ρ.blk r 0) c')∧Same ρ.imm w (w.setRow (ρ.blk r 0) c'):=by
 obtain ⟨hd,hr⟩:=hR.row r fam 0 hl hg
 obtain ⟨b1,b2,c2,b3,b4⟩:=hr.blk hcap
 rw [hc] at b3
 cases b3
 have hsame:Same ρ.imm w (w.setRow (ρ.blk r 0) c'):=fun b hb => setRow_other _ _ _ _ (fun e => b2 (e ▸ hb))
 have hnew:=setRow_heap w (ρ.blk r 0) c c' _ _ hc
 have hlook:∀ q y,look (setRow r (fun f => if f = 0 then x else fam f) m) q = some y→(q = r∧y = fun f => if f = 0 then x else fam f)∨(q≠r∧look m q = some y):=fun q y hy => by
  rw [look_set] at hy
  by_cases e:r = q
  ·subst e; simp [hl] at hy; exact .inl ⟨rfl,hy.symm⟩
  ·simp [e] at hy; exact .inr ⟨Ne.symm e,hy⟩
 have hother:∀ q y g',look m q = some y→(y g').g≠some false→0 < ρ.cap q g'→¬ (q = r∧g' = 0)→ρ.blk q g'≠ρ.blk r 0:=fun q y g' hy hgy hcq hne he => by
  have:=hR.sep q y g' r fam 0 hy hl hgy hg hcq hcap he
  exact hne this
 have hgg:∀ g',((fun f => if f = 0 then x else fam f:Fam) g').g = (fam g').g:=fun g' => by
  by_cases e:g' = 0
  ·subst e; simpa using hxg
  ·simp [e]
 refine ⟨⟨hR.below.trans ⟨rfl,rfl,rfl,by simp,fun k hk => setRow_other _ _ _ _ (by omega)⟩,fun b hb => by simpa using hR.imm2 b hb,hR.dom,fun q y hy => ?_,fun q y g' hy hgy => ?_,fun q y g' q' y' g'' hy hy' hgy hgy' hcq hcq' he => ?_,hR.fixed (fun p hp => setRow_other _ _ _ _ (hR.fix_ne hl hg hcap hp)) (fun b _ ho => ho.of fun q y g' hy hgy hcq => ?_) (fun _ _ h => h),hR.keeps hsame⟩,hsame⟩
 ·rcases hlook q y hy with ⟨e,_⟩ | ⟨_,h⟩
  ·subst e; exact hR.key _ _ hl
  ·exact hR.key _ _ h
 ·rcases hlook q y hy with ⟨e,e2⟩ | ⟨hne,h⟩
  ·subst e e2
   rw [hgg] at hgy
   by_cases hf:g' = 0
   ·subst hf
    refine ⟨hd,?_⟩
    show RowOK w0 ρ _ q 0 x
    refine ⟨hn,fun _ => ⟨b1,b2,_,by rw [hty]; exact hnew,by rw [hsz,b4,hs]⟩,hlen,fun j q' a v hj h1 h2 => ?_⟩
    have h2':c'[j * x.sz + q']? = some v:=by
     unfold Has World.cell? at h2
     rw [hnew] at h2
     simpa using h2
    exact (hrel j q' a v hj h1 h2').mono (.refl _) hsame
   ·obtain ⟨hd',hr'⟩:=hR.row q fam g' hl hgy
    simp only [hf,if_false]
    exact ⟨hd',hr'.mono hd' (.refl _) (fun _ _ h => h) hsame (fun hcq => setRow_other _ _ _ _ (hother q fam g' hl hgy hcq (fun e => hf e.2)))⟩
  ·obtain ⟨hd',hr'⟩:=hR.row q y g' h hgy
   exact ⟨hd',hr'.mono hd' (.refl _) (fun _ _ h => h) hsame (fun hcq => setRow_other _ _ _ _ (hother q y g' h hgy hcq (fun e => hne e.1)))⟩
 ·have key:∀ q y g',look (setRow r (fun f => if f = 0 then x else fam f) m) q = some y→(y g').g≠some false→∃ y',look m q = some y'∧(y' g').g≠some false:=fun q y g' hy hgy => by
   rcases hlook q y hy with ⟨e,e2⟩ | ⟨_,h⟩
   ·subst e e2; rw [hgg] at hgy; exact ⟨fam,hl,hgy⟩
   ·exact ⟨y,h,hgy⟩
  obtain ⟨z,hz,hgz⟩:=key q y g' hy hgy
  obtain ⟨z',hz',hgz'⟩:=key q' y' g'' hy' hgy'
  exact hR.sep q z g' q' z' g'' hz hz' hgz hgz' hcq hcq' he
 ·rcases hlook q y hy with ⟨e,e2⟩ | ⟨_,h⟩
  ·subst e e2; rw [hgg] at hgy; exact .inl ⟨_,fam,g',hl,hgy,hcq,rfl⟩
  ·exact .inl ⟨q,y,g',h,hgy,hcq,rfl⟩
def Env.also (ρ:Env) (key r:Nat):Env:=
 { dom:=fun q => ρ.dom q∨q = key,blk:=fun q f => if q = key then ρ.blk r 0 else ρ.blk q f,cap:=fun q f => if q = key then (if f = 0 then ρ.cap r 0 else 0) else ρ.cap q f,imm:=ρ.imm }
theorem Env.le_also {ρ:Env} {key r:Nat} (h:¬ ρ.dom key):ρ.le (ρ.also key r):=
 ⟨fun _ h => .inl h,fun q f hq => by have:q≠key:=fun e => h (e ▸ hq); simp [Env.also,this],fun q f hq => by have:q≠key:=fun e => h (e ▸ hq); simp [Env.also,this],fun _ h => h⟩
theorem Rel.rename (hR:Rel w0 ρ m D w) (hk:¬ D key) {r:Nat} {fam y:Fam} (hl:look m r = some fam) (hg:(fam 0).g≠some false) (hy0:RowOK w0 ρ w r 0 (y 0)) (hyf:∀ f,f≠0→(y f).n = 0) :
  Rel w0 (ρ.also key r) (insRow key y (dropRow r m)) (fun q => D q∨q = key) w:=by
 have hkd:¬ ρ.dom key:=fun hd => hk (hR.dom _ hd)
 have hkl:look m key = none:=by
  cases hl:look m key with
  | none => rfl
  | some y => exact absurd (hR.key _ _ hl) hk
 have hkr:key≠r:=fun e => by rw [e,hl] at hkl; cases hkl
 have hkl2:look (dropRow r m) key = none:=by rw [look_drop]; split <;> simp [hkl]
 have hle:ρ.le (ρ.also key r):=Env.le_also hkd
 have cap0:∀ q f,¬ key = q→(ρ.also key r).cap q f = ρ.cap q f∧(ρ.also key r).blk q f = ρ.blk q f:=fun q f hq => by simp [Env.also,Ne.symm hq]
 have capk:∀ f,0 < (ρ.also key r).cap key f→f = 0∧0 < ρ.cap r 0:=fun f hc => by
  simp only [Env.also,if_true] at hc
  split at hc
  ·exact ⟨by assumption,hc⟩
  ·omega
 have old:∀ q z,¬ key = q→look (insRow key y (dropRow r m)) q = some z→q≠r∧look m q = some z:=fun q z hq hz => by
  rw [look_ins hkl2,if_neg hq,look_drop] at hz
  split at hz
  ·cases hz
  ·rename_i e; exact ⟨Ne.symm e,hz⟩
 refine ⟨hR.below,hR.imm2,fun q hq => hq.imp (hR.dom q) id,fun q z hz => ?_,fun q z f hz hgz => ?_,fun q z f q' z' f' hz hz' hgz hgz' hc hc' he => ?_,hR.fixed (fun _ _ => rfl) (fun b _ ho => ho.of fun q z f hz hgz hc => ?_) (fun _ _ h => h),hR.kept⟩
 ·by_cases e:key = q
  ·exact .inr e.symm
  ·exact .inl (hR.key q z (old q z e hz).2)
 ·by_cases e:key = q
  ·subst e
   rw [look_ins hkl2] at hz
   simp only [if_true,Option.some.injEq] at hz
   subst hz
   refine ⟨.inr rfl,?_⟩
   by_cases hf0:f = 0
   ·subst hf0
    refine ⟨by simpa [Env.also] using hy0.n_le,fun hc => ?_,hy0.len,fun i k a v h1 h2 h3 => ?_⟩
    ·simp only [Env.also,if_true] at hc ⊢
     exact hy0.blk hc
    ·simp only [Env.also,if_true] at h3
     exact (hy0.rel i k a v h1 h2 h3).mono hle (.refl _ _)
   ·have hn0:=hyf f hf0
    refine ⟨by simp [Env.also,hf0,hn0],fun hc => ?_,fun i hi => by omega,fun i k a v hi => by omega⟩
    simp [Env.also,hf0] at hc
  ·obtain ⟨_,hz1⟩:=old q z e hz
   obtain ⟨hd,hr⟩:=hR.row q z f hz1 hgz
   exact ⟨.inl hd,hr.mono hd hle (fun b _ hb => hb) (.refl _ _) (fun hc => rfl)⟩
 ·by_cases e1:key = q <;> by_cases e2:key = q'
  ·subst e1 e2
   exact ⟨rfl,(capk f hc).1.trans (capk f' hc').1.symm⟩
  ·subst e1
   obtain ⟨n2,hz2⟩:=old q' z' e2 hz'
   rw [(cap0 q' f' e2).1] at hc'
   rw [(cap0 q' f' e2).2] at he
   have h3:=hR.sep r fam 0 q' z' f' hl hz2 hg hgz' (capk f hc).2 hc' (by simpa [Env.also] using he)
   exact absurd h3.1.symm n2
  ·subst e2
   obtain ⟨n2,hz2⟩:=old q z e1 hz
   rw [(cap0 q f e1).1] at hc
   rw [(cap0 q f e1).2] at he
   have h3:=hR.sep q z f r fam 0 hz2 hl hgz hg hc (capk f' hc').2 (by simpa [Env.also] using he)
   exact absurd h3.1 n2
  ·obtain ⟨n1,hz1⟩:=old q z e1 hz
   obtain ⟨n2,hz2⟩:=old q' z' e2 hz'
   rw [(cap0 q f e1).1] at hc
   rw [(cap0 q' f' e2).1] at hc'
   rw [(cap0 q f e1).2,(cap0 q' f' e2).2] at he
   exact hR.sep q z f q' z' f' hz1 hz2 hgz hgz' hc hc' he
 ·by_cases e:key = q
  ·subst e
   obtain ⟨rfl,k2⟩:=capk f hc
   exact .inl ⟨r,fam,0,hl,hg,k2,by simp [Env.also]⟩
  ·obtain ⟨_,hz1⟩:=old q z e hz
   rw [(cap0 q f e).1] at hc
   exact .inl ⟨q,z,f,hz1,hgz,hc,(cap0 q f e).2⟩
theorem Rel.drew1 (h:Rel w0 ρ m D w):Rel w0 ρ m D w.drew:=by
 refine ⟨h.below.drew,h.imm2,h.dom,h.key,fun r x f hx hg => ?_,h.sep,h.fix,h.kept⟩
 obtain ⟨hd,hr⟩:=h.row r x f hx hg
 exact ⟨hd,hr.mono hd (.refl _) (fun _ _ h => h) (fun _ _ => rfl) (fun _ => rfl)⟩
theorem Rel.empty (hR:Rel w0 ρ m D w) (hk:¬ D key) {y:Fam} (hy:∀ f,(y f).n = 0) :
  Rel w0 (ρ.add key 0 0) (insRow key y m) (fun q => D q∨q = key) w:=by
 have hkd:¬ ρ.dom key:=fun hd => hk (hR.dom _ hd)
 have hkl:look m key = none:=by
  cases hl:look m key with
  | none => rfl
  | some y => exact absurd (hR.key _ _ hl) hk
 have hle:ρ.le (ρ.add key 0 0):=Env.le_add hkd
 have cap0:∀ q f,¬ key = q→(ρ.add key 0 0).cap q f = ρ.cap q f∧(ρ.add key 0 0).blk q f = ρ.blk q f:=fun q f hq => by simp [Env.add,Ne.symm hq]
 have capk:∀ f,¬ 0 < (ρ.add key 0 0).cap key f:=fun f hc => by simp [Env.add] at hc
 refine ⟨hR.below,hR.imm2,fun q hq => hq.imp (hR.dom q) id,fun q z hz => ?_,fun q z f hz hgz => ?_,fun q z f q' z' f' hz hz' hgz hgz' hc hc' he => ?_,hR.fixed (fun _ _ => rfl) (fun b _ ho => ho.of fun q z f hz hgz hc => ?_) (fun _ _ h => h),hR.kept⟩
 ·by_cases e:key = q
  ·exact .inr e.symm
  ·rw [look_ins hkl,if_neg e] at hz
   exact .inl (hR.key q z hz)
 ·by_cases e:key = q
  ·subst e
   rw [look_ins hkl] at hz
   simp only [if_true,Option.some.injEq] at hz
   subst hz
   refine ⟨.inr rfl,⟨by rw [hy]; exact Nat.zero_le _,fun hc => absurd hc (capk f),fun i hi => ?_,fun i k a v hi => ?_⟩⟩
   ·rw [hy] at hi; omega
   ·rw [hy] at hi; omega
  ·rw [look_ins hkl,if_neg e] at hz
   obtain ⟨hd,hr⟩:=hR.row q z f hz hgz
   exact ⟨.inl hd,hr.mono hd hle (fun b _ hb => hb) (.refl _ _) (fun hc => rfl)⟩
 ·by_cases e1:key = q
  ·subst e1; exact absurd hc (capk f)
  ·by_cases e2:key = q'
   ·subst e2; exact absurd hc' (capk f')
   ·rw [look_ins hkl,if_neg e1] at hz
    rw [look_ins hkl,if_neg e2] at hz'
    rw [(cap0 q f e1).1] at hc
    rw [(cap0 q' f' e2).1] at hc'
    rw [(cap0 q f e1).2,(cap0 q' f' e2).2] at he
    exact hR.sep q z f q' z' f' hz hz' hgz hgz' hc hc' he
 ·by_cases e:key = q
  ·subst e; exact absurd hc (capk f)
  ·rw [look_ins hkl,if_neg e] at hz
   rw [(cap0 q f e).1] at hc
   exact .inl ⟨q,z,f,hz,hgz,hc,(cap0 q f e).2⟩
theorem srcOf_sound (hR:Rel w0 ρ m D w) {m':Mem} (hm:∀ r x,look m' r = some x→look m r = some x) {x:AV} {xv:Value} {ob:List Prop} {k sz:Nat} {get:Nat→List AV} (h:srcOf x m' = some (ob,k,sz,get)) (hob:∀ p ∈ ob,p) (hx:R w ρ x xv) :
  ∃ (a:Option Addr) (cap b o:Nat),xv = .slice a k cap∧(0 < k→a = some ⟨b,o,none⟩)∧(∀ i,i < k→(get i).length = sz)∧∀ i q,i < k→q < sz→∃ v,Has w b (o + i * sz + q) v∧∀ c,(get i)[q]? = some c→R w ρ c v:=by
 unfold srcOf at h
 split at h
 ·cases h
  cases hx with
  | @ro _ _ _ _ a cap b o hnc ha hi2 hlen hex hr =>
   refine ⟨a,cap,b,o,rfl,ha,hlen,fun i q h1 h2 => ?_⟩
   obtain ⟨v,hv⟩:=hex i q h1 h2
   exact ⟨v,hv,fun c hc => (hr i q c v h1 hc hv).of_ext⟩
 ·rename_i r f k' sz'
  split at h
  ·rename_i fam hl
   cases h
   have g1:k≤(fam f).n:=hob _ (by simp)
   have g2:sz = (fam f).sz:=hob _ (by simp)
   have g3:=gOb_true (g:=(fam f).g) (fun p hp => hob p (by simp [hp]))
   obtain ⟨hd,hr⟩:=hR.row r fam f (hm _ _ hl) g3
   cases hx with
   | @own _ _ _ _ _ a hd' hnc ha =>
    refine ⟨a,_,ρ.blk r f,0,rfl,fun h => ha (by have:=hr.n_le; omega),fun i hi => by rw [g2]; exact hr.len i (by omega),fun i q h1 h2 => ?_⟩
    obtain ⟨_,hc1,hc2⟩:=row_cells hR (hm _ _ hl) g3 (show i < (fam f).n by omega)
    obtain ⟨v,hv⟩:=hc1 q (by rw [hr.len i (by omega),← g2]; exact h2)
    refine ⟨v,by rw [Nat.zero_add,g2]; exact hv,fun c hc => hc2 q c v hc hv⟩
  ·cases h
 ·rename_i r f lo k' sz'
  split at h
  ·rename_i fam hl
   cases h
   have g1:lo + k≤(fam f).n:=hob _ (by simp)
   have g2:sz = (fam f).sz:=hob _ (by simp)
   have g3:=gOb_true (g:=(fam f).g) (fun p hp => hob p (by simp [hp]))
   obtain ⟨hd,hr⟩:=hR.row r fam f (hm _ _ hl) g3
   cases hx with
   | @vw _ _ _ _ _ _ a cap hd' hnc ha =>
    refine ⟨a,_,ρ.blk r f,lo * sz,rfl,ha,fun i hi => by rw [g2]; exact hr.len _ (by omega),fun i q h1 h2 => ?_⟩
    obtain ⟨_,hc1,hc2⟩:=row_cells hR (hm _ _ hl) g3 (show lo + i < (fam f).n by omega)
    obtain ⟨v,hv⟩:=hc1 q (by rw [hr.len _ (by omega),← g2]; exact h2)
    refine ⟨v,?_,fun c hc => hc2 q c v hc hv⟩
    rw [← Nat.add_mul,g2]; exact hv
  ·cases h
 ·cases h
theorem news_of {b o k sz:Nat} {get:Nat→List AV} (hsz:0 < sz) (hlen:∀ i,i < k→(get i).length = sz) (hall:∀ i,i < k→allCells (get i) = true)
  (h:∀ i q,i < k→q < sz→∃ v,Has w b (o + i * sz + q) v∧∀ c,(get i)[q]? = some c→R w ρ c v) :
  ∃ news:List Value,news.length = k * sz∧(∀ j v,news[j]? = some v→w.cell? ((⟨b,o,none⟩:Addr).add j) = some v)∧(∀ v ∈ news,v.oneCell' = true) ∧
   ∀ i q c v,i < k→(get i)[q]? = some c→news[i * sz + q]? = some v→R w ρ c v:=by
 have cell:∀ i q,i < k→q < sz→∃ v c,(get i)[q]? = some c∧w.cell? ⟨b,o + (i * sz + q),none⟩ = some v∧R w ρ c v∧v.oneCell' = true:=fun i q h1 h2 => by
  obtain ⟨v,hv,hr⟩:=h i q h1 h2
  have hq:q < (get i).length:=by rw [hlen i h1]; exact h2
  have hc:(get i)[q]? = some (get i)[q]:=List.getElem?_eq_getElem hq
  refine ⟨v,_,hc,by rw [← Nat.add_assoc]; exact hv,hr _ hc,(isCell_sound (hr _ hc) (allCells_mem (hall i h1) _ (List.getElem_mem _))).1⟩
 have split:∀ j,j < k * sz→j / sz < k∧j % sz < sz∧j / sz * sz + j % sz = j:=fun j hj => by
  refine ⟨Nat.div_lt_of_lt_mul (by rw [Nat.mul_comm]; exact hj),Nat.mod_lt _ hsz,?_⟩
  rw [Nat.mul_comm]; exact Nat.div_add_mod j sz
 have mem:∀ j v,((List.range (k * sz)).map fun j => (w.cell? ⟨b,o + j,none⟩).getD undef)[j]? = some v→j < k * sz∧(w.cell? ⟨b,o + j,none⟩).getD undef = v:=fun j v hv => by
  rw [List.getElem?_map] at hv
  by_cases hj:j < k * sz
  ·rw [List.getElem?_range hj] at hv
   exact ⟨hj,by simpa using hv⟩
  ·rw [List.getElem?_eq_none (by simpa using hj)] at hv
   simp at hv
 refine ⟨(List.range (k * sz)).map fun j => (w.cell? ⟨b,o + j,none⟩).getD undef,by simp,fun j v hv => ?_,fun v hv => ?_,fun i q c v h1 h2 hv => ?_⟩
 ·obtain ⟨hj,e⟩:=mem j v hv
  obtain ⟨s1,s2,s3⟩:=split j hj
  obtain ⟨u,c,_,hu,_,_⟩:=cell _ _ s1 s2
  rw [s3] at hu
  rw [hu] at e
  rw [add_eq,hu,← e]; rfl
 ·obtain ⟨j,hj,e⟩:=List.mem_iff_getElem.1 hv
  have hv':=(List.getElem?_eq_getElem hj).trans (congrArg some e)
  obtain ⟨hj,e⟩:=mem j v hv'
  obtain ⟨s1,s2,s3⟩:=split j hj
  obtain ⟨u,c,_,hu,_,h1⟩:=cell _ _ s1 s2
  rw [s3] at hu
  rw [hu] at e
  have:u = v:=e
  rw [← this]; exact h1
 ·have hq:q < sz:=by have:=(List.getElem?_eq_some_iff.1 h2).1; rw [hlen i h1] at this; exact this
  obtain ⟨_,e⟩:=mem _ v hv
  obtain ⟨u,c',hc',hu,hr,_⟩:=cell i q h1 hq
  rw [hu] at e
  have e:u = v:=e
  rw [h2] at hc'
  cases hc'
  rw [← e]; exact hr
theorem run_append_zero {t e ty:TypeId} {i:TypeInfo} {a b:Option Addr} {n c c':Nat} (ht:P.underlying t = some (.slice e)) (hi:P.info? e = some i) (hn:n≤c) :
  (Builtin.append_ #[t,t] ty #[.slice a n c,.slice b 0 c']).run P w = .ok (.slice a n c) w:=by
 cases a <;> cases b <;> simp [Builtin.append_,run_underlying ht,sizeOf,typeInfo,hi,Builtin.lenOf,Builtin.firstCells,loadCells,loadCellsFrom,hn,storeCells]
theorem zeroT_info {e:TypeId} {z:Value} (h:zeroT P e = some z):∃ i,P.info? e = some i∧i.zero = some z∧sizeT P e = i.size∧bytesT P e = i.bytes:=by
 unfold zeroT at h
 split at h
 ·rename_i i hi
  exact ⟨i,hi,h,by simp [sizeT,hi],by simp [bytesT,hi]⟩
 ·cases h
theorem Rel.kill {D':Nat→Prop} {r:Nat} {y:Fam} (h:Rel w0 ρ (insRow key y (dropRow r m)) D' w) (hk:look m key = none) (hD:(look m r).isSome = true→D' r):Rel w0 ρ (insRow key y (setRow r dead m)) D' w:=by
 have k1:look (dropRow r m) key = none:=by rw [look_drop]; split <;> simp [hk]
 have k2:look (setRow r dead m) key = none:=by
  rw [look_set]; split
  ·rename_i e; rw [e.1,hk] at e; simp at e
  ·exact hk
 have get:∀ q z,look (insRow key y (setRow r dead m)) q = some z→(q = r∧z = dead∧(look m r).isSome = true)∨look (insRow key y (dropRow r m)) q = some z:=fun q z hz => by
  rw [look_ins k2] at hz
  rw [look_ins k1]
  split at hz
  ·rename_i e; right; rw [if_pos e]; exact hz
  ·rename_i e
   rw [look_set] at hz
   split at hz
   ·rename_i e2; cases hz; exact .inl ⟨e2.1.symm,rfl,e2.2⟩
   ·rename_i e2
    right
    rw [if_neg e,look_drop]
    split
    ·rename_i e3; exact absurd ⟨e3,by rw [e3,hz]; rfl⟩ e2
    ·exact hz
 have get':∀ q z f,look (insRow key y (setRow r dead m)) q = some z→(z f).g≠some false→look (insRow key y (dropRow r m)) q = some z:=fun q z f hz hg => by
  rcases get q z hz with ⟨_,e,_⟩ | h
  ·subst e; exact absurd rfl hg
  ·exact h
 refine ⟨h.below,h.imm2,h.dom,fun q z hz => ?_,fun q z f hz hg => h.row q z f (get' q z f hz hg) hg,fun q z f q' z' f' hz hz' hg hg' => h.sep q z f q' z' f' (get' q z f hz hg) (get' q' z' f' hz' hg') hg hg',h.fixed (fun _ _ => rfl) (fun _ _ ho q z f hz hg => ho q z f (get' q z f hz hg) hg) (fun _ _ h => h),h.kept⟩
 rcases get q z hz with ⟨e,_,h2⟩ | h2
 ·rw [e]; exact hD h2
 ·exact h.key q z h2
theorem grown_post (hR:Rel w0 ρ m D w) (hk:¬ D key) {e:TypeId} {n sz cap:Nat} {get:Nat→List AV} {vs:List Value} (hn:n≤cap) (hsz:vs.length = cap * sz) (hlen:∀ i,i < n→(get i).length = sz)
  (hrel:∀ (i k:Nat) (a:AV) (v:Value),i < n→(get i)[k]? = some a→vs[i * sz + k]? = some v→R w ρ a v) {ob:List Prop} :
  Post w0 ρ m D key ⟨ob,.own key 0 n sz,.new (famN n sz e get none)⟩ w (.slice (some ⟨w.heap.size,0,none⟩) n cap) (w.drew.alloc (.cells vs.toArray e)):=by
 have h1:=newSlice_post (w:=w.drew) hR.drew1 hk (e:=e) (n:=n) (sz:=sz) (cap:=cap) (get:=get) (vs:=vs) hn hsz hlen (fun i k a v x1 x2 x3 => (hrel i k a v x1 x2 x3).mono (.refl _) (fun _ _ => rfl)) none (ob:=ob)
 obtain ⟨ρ',a1,a2,a3,a4⟩:=h1
 exact ⟨ρ',a1,a2,a3,fun b hb => a4 b hb⟩
theorem Post.drop {ob:List Prop} {x:AV} {y:Fam} {v:Value} {w':World} (h:Post w0 ρ m D key ⟨ob,x,.new y⟩ w v w') {r:Nat} (hk:look m key = none) (hD:(look m r).isSome = true→D r):Post w0 ρ m D key ⟨ob,x,.swap r y⟩ w v w':=by
 obtain ⟨ρ',a1,a2,a3,a4⟩:=h
 refine ⟨ρ',a1,(a2.sub (m':=insRow key y (dropRow r m)) (fun q z hz => ?_) (fun _ h => h)).kill hk (fun h => .inl (hD h)),a3,a4⟩
 have hk2:look (dropRow r m) key = none:=by rw [look_drop]; split <;> simp [hk]
 have hz:look (insRow key y (dropRow r m)) q = some z:=hz
 show look (insRow key y m) q = some z
 rw [look_ins hk2] at hz
 rw [look_ins hk]
 split
 ·rename_i e; rw [if_pos e] at hz; exact hz
 ·rename_i e
  rw [if_neg e,look_drop] at hz
  split at hz
  ·cases hz
  ·exact hz
theorem aAppend_sound (hR:Rel w0 ρ m D w) (hk:¬ D key) {m':Mem} (hm:∀ r x,look m' r = some x→look m r = some x) {t:TypeId} {s x:AV} {e:Eff} {sv xv:Value} {ty:TypeId} (h:aAppend P key t s x m' = some e) (hob:∀ p ∈ e.ob,p) (hs:R w ρ s sv) (hx:R w ρ x xv) :
  ∃ v w',(Builtin.append_ #[t,t] ty #[sv,xv]).run P w = .ok v w'∧Post w0 ρ m D key e w v w':=by
 have hkl:look m key = none:=by
  cases hl:look m key with
  | none => rfl
  | some y => exact absurd (hR.key _ _ hl) hk
 unfold aAppend at h
 split at h
 ·rename_i el hel
  split at h
  ·rename_i z hz
   split at h
   ·rename_i hzs
    obtain ⟨i,hi,hiz,hisz,hiby⟩:=zeroT_info hz
    have ht:=sElem_run hel
    split at h
    ·rename_i ob k sz getx hsrc
     split at h
     ·rename_i hsz
      split at h
      ·
       cases h
       have hob1:∀ p ∈ ob,p:=fun p hp => hob p (by simp [hp])
       have ha:∀ i,i < k→allCells (getx i) = true:=hob _ (by simp)
       have hb:k * bytesT P el≤140737488355328:=hob _ (by simp)
       have h63:k≤9223372036854775807:=hob _ (by simp)
       obtain ⟨a,cap,b,o,rfl,had,hlen,hcell⟩:=srcOf_sound hR hm hsrc hob1 hx
       cases hs
       by_cases hk0:k = 0
       ·subst hk0
        refine ⟨_,_,run_append_zero ht hi (Nat.le_refl _),ρ.add key 0 0,?_,hR.empty hk (y:=famN 0 sz el getx none) (fun f => by unfold famN; split <;> rfl),Env.le_add (fun hd => hk (hR.dom _ hd)),.refl _ _⟩
        have:=R.own (w:=w) (ρ:=ρ.add key 0 0) (r:=key) (f:=0) (n:=0) (sz:=sz) (a:=none) (.inr rfl) (Nat.zero_le _) (fun hc => by simp [Env.add] at hc)
        simpa [Env.add] using this
       ·obtain rfl:=had (by omega)
        obtain ⟨news,n1,n2,n3,n4⟩:=news_of (by rw [hsz]; exact hzs.2) hlen ha hcell
        have n1':news.length = k * i.size:=by rw [n1,hsz,hisz]
        have hr:=run_append_nil (P:=P) w t ty el i z ht hi hiz ⟨b,o,none⟩ k cap news n1' n2 (by omega) (by omega) (by rw [hiby] at hb; omega)
        refine ⟨_,_,hr,?_⟩
        have hge:=grownCap_ge w k 0 el
        have e1:(news.toArray ++ Builtin.zeroCells z.cells (grownCap w k 0 el - k)) = (news ++ (Builtin.zeroCells z.cells (grownCap w k 0 el - k)).toList).toArray:=by simp
        rw [e1]
        refine grown_post hR hk hge ?_ hlen (fun i q c v h1 h2 h3 => ?_)
        ·simp only [List.length_append,Array.length_toList,size_zeroCells,n1,hzs.1,hsz]
         rw [← Nat.add_mul]
         congr 1
         omega
        ·have hq:q < sz:=by have:=(List.getElem?_eq_some_iff.1 h2).1; rw [hlen i h1] at this; exact this
         have hlt:i * sz + q < news.length:=by
          rw [n1]
          have:(i + 1) * sz≤k * sz:=Nat.mul_le_mul_right _ h1
          rw [Nat.add_mul] at this; omega
         rw [List.getElem?_append_left hlt] at h3
         exact n4 i q c v h1 h2 h3
      ·
       rename_i r f n sz'
       split at h
       ·rename_i hf
        obtain ⟨rfl,rfl⟩:=hf
        split at h
        ·rename_i fam hl
         cases h
         have hob1:∀ p ∈ ob,p:=fun p hp => hob p (by simp [hp])
         have hn:n≤(fam 0).n:=hob _ (by simp)
         have hfs:sz' = (fam 0).sz:=hob _ (by simp)
         have hty:(fam 0).ty = el:=hob _ (by simp)
         have hg:(fam 0).g = none:=hob _ (by simp)
         have ha:∀ i,i < k→allCells (getx i) = true:=hob _ (by simp)
         have hb:(n + k) * bytesT P el≤140737488355328:=hob _ (by simp)
         have h63:n + k≤9223372036854775807:=hob _ (by simp)
         obtain ⟨a,cap,b,o,rfl,had,hlen,hcell⟩:=srcOf_sound hR hm hsrc hob1 hx
         have hl:=hm _ _ hl
         have hg':(fam 0).g≠some false:=by rw [hg]; simp
         obtain ⟨hd,hr0⟩:=hR.row r fam 0 hl hg'
         cases hs with
         | @own _ _ _ _ _ a0 hd' hnc ha0 =>
          have yf:∀ get' n',∀ f,f≠0→(famN n' sz' el get' none f).n = 0:=fun get' n' f hf => by unfold famN; rw [if_neg hf]
          have fin:∀ (w':World) (n':Nat) (get':Nat→List AV),n'≤ρ.cap r 0→∀ {m2:Mem} {fam2:Fam},(∀ q z,look (dropRow r m) q = some z→look (dropRow r m2) q = some z)→Rel w0 ρ m2 D w'→look m2 r = some fam2→(fam2 0).g≠some false→RowOK w0 ρ w' r 0 (famN n' sz' el get' none 0)→Same ρ.imm w w'→∀ ob',Post w0 ρ m D key ⟨ob',.own key 0 n' sz',.swap r (famN n' sz' el get' none)⟩ w (.slice a0 n' (ρ.cap r 0)) w':=fun w' n' get' hn' m2 fam2 hdr hR2 hl2 hg2 hok hsame ob' => by
           refine ⟨ρ.also key r,?_,((hR2.rename hk hl2 hg2 hok (yf get' n')).sub (m':=insRow key (famN n' sz' el get' none) (dropRow r m)) (fun q z hz => ?_) (fun _ h => h)).kill hkl (fun _ => .inl (hR.dom _ hd)),Env.le_also (fun hd => hk (hR.dom _ hd)),hsame⟩
           ·have:=R.own (w:=w') (ρ:=ρ.also key r) (r:=key) (f:=0) (n:=n') (sz:=sz') (a:=a0) (.inr rfl) (by simpa [Env.also] using hn') (fun hc => by simp [Env.also] at hc ⊢; exact ha0 hc)
            simpa [Env.also] using this
           ·have hz:look (insRow key (famN n' sz' el get' none) (dropRow r m)) q = some z:=hz
            have k1:look (dropRow r m) key = none:=by rw [look_drop]; split <;> simp [hkl]
            have hkl2:look m2 key = none:=by
             cases hl:look m2 key with
             | none => rfl
             | some y => exact absurd (hR2.key _ _ hl) hk
            have k2:look (dropRow r m2) key = none:=by rw [look_drop]; split <;> simp [hkl2]
            rw [look_ins k1] at hz
            rw [look_ins k2]
            split
            ·rename_i e; rw [if_pos e] at hz; exact hz
            ·rename_i e; rw [if_neg e] at hz; exact hdr q z hz
          by_cases hk0:k = 0
          ·subst hk0
           refine ⟨_,_,run_append_zero ht hi hnc,?_⟩
           refine fin w n _ hnc (fun _ _ h => h) hR hl hg' ?_ (.refl _ _) _
           refine ⟨hnc,fun hc => ?_,fun i hi => ?_,fun i q c v hi h1 h2 => ?_⟩
           ·have:=hr0.blk hc
            rw [hty,← hfs] at this
            exact this
           ·have hi:i < n:=hi
            show (if i < n then (fam 0).get i else getx (i - n)).length = sz'
            rw [if_pos hi,hfs]; exact hr0.len i (by omega)
           ·have hi:i < n:=hi
            have h1:(if i < n then (fam 0).get i else getx (i - n))[q]? = some c:=h1
            rw [if_pos hi] at h1
            have h2:Has w (ρ.blk r 0) (i * sz' + q) v:=h2
            rw [hfs] at h2
            exact hr0.rel i q c v (by omega) h1 h2
          ·obtain rfl:=had (by omega)
           obtain ⟨news,n1,n2,n3,n4⟩:=news_of (by rw [hsz]; exact hzs.2) hlen ha hcell
           have n1':news.length = k * i.size:=by rw [n1,hsz,hisz]
           have hsi:sz' = i.size:=by rw [hsz,hisz]
           -- the old cells
           have olds:∃ old:List Value,old.length = n * sz'∧(∀ j v,old[j]? = some v→w.cell? ⟨ρ.blk r 0,j,none⟩ = some v)∧∀ i q c v,i < n→((fam 0).get i)[q]? = some c→old[i * sz' + q]? = some v→R w ρ c v:=by
            by_cases hn0:n = 0
            ·subst hn0
             exact ⟨[],by simp,fun j v h => by simp at h,fun i q c v h => by omega⟩
            ·obtain ⟨_,_,c,hc,hcs⟩:=hr0.blk (by omega)
             have hle:n * sz'≤c.size:=by rw [hcs,hfs]; exact Nat.mul_le_mul_right _ (by omega)
             refine ⟨c.toList.take (n * sz'),by simp; omega,fun j v hj => ?_,fun i q c' v h1 h2 h3 => ?_⟩
             ·rw [List.getElem?_take] at hj
              split at hj
              ·simp [World.cell?,hc]; simpa using hj
              ·cases hj
             ·rw [List.getElem?_take] at h3
              split at h3
              ·refine hr0.rel i q c' v (by omega) h2 ?_
               unfold Has World.cell?
               rw [hc,← hfs]; simpa using h3
              ·cases h3
           obtain ⟨old,o1,o2,o3⟩:=olds
           have newget:∀ i q c v (tail:List Value),i < n + k→(if i < n then (fam 0).get i else getx (i - n))[q]? = some c→(old ++ news ++ tail)[i * sz' + q]? = some v→R w ρ c v:=fun i q c v tail hi h1 h2 => by
            split at h1
            ·rename_i hin
             have hq:q < sz':=by have:=(List.getElem?_eq_some_iff.1 h1).1; rw [hr0.len i (by omega),← hfs] at this; exact this
             have hlt:i * sz' + q < old.length:=by
              rw [o1]
              have:(i + 1) * sz'≤n * sz':=Nat.mul_le_mul_right _ hin
              rw [Nat.add_mul] at this; omega
             rw [List.append_assoc,List.getElem?_append_left hlt] at h2
             exact o3 i q c v hin h1 h2
            ·rename_i hin
             have hq:q < sz':=by have:=(List.getElem?_eq_some_iff.1 h1).1; rw [hlen _ (by omega)] at this; exact this
             have e1:i * sz' + q = old.length + ((i - n) * sz' + q):=by
              rw [o1,← Nat.add_assoc,← Nat.add_mul]; congr 2; omega
             have hlt:(i - n) * sz' + q < news.length:=by
              rw [n1]
              have:(i - n + 1) * sz'≤k * sz':=Nat.mul_le_mul_right _ (by omega)
              rw [Nat.add_mul] at this; omega
             rw [e1,List.append_assoc,List.getElem?_append_right (by omega),Nat.add_sub_cancel_left,List.getElem?_append_left hlt] at h2
             exact n4 _ q c v (by omega) h1 h2
           have newlen:∀ i,i < n + k→(if i < n then (fam 0).get i else getx (i - n)).length = sz':=fun i hi => by
            split
            ·rw [hfs]; exact hr0.len i (by omega)
            ·exact hlen _ (by omega)
           by_cases hroom:n + k≤ρ.cap r 0
           ·have hcap:0 < ρ.cap r 0:=by omega
            obtain ⟨b1,b2,c,hc,hcs⟩:=hr0.blk hcap
            rw [hty] at hc
            obtain rfl:=ha0 hcap
            have hfit:n * i.size + news.length≤c.size:=by
             rw [n1',← Nat.add_mul,hcs,← hfs,hsi]; exact Nat.mul_le_mul_right _ hroom
            have hrun:=run_append_room (P:=P) w t ty el i ht hi (ρ.blk r 0) n (ρ.cap r 0) c hc ⟨b,o,none⟩ k cap news n1' n2 n3 hroom hfit
            refine ⟨_,_,hrun,?_⟩
            have hold:old = c.toList.take (n * i.size):=by
             apply List.ext_getElem?
             intro j
             by_cases hj:j < n * sz'
             ·have h1:old[j]? = some old[j]:=List.getElem?_eq_getElem (by rw [o1]; exact hj)
              have h2:=o2 j _ h1
              simp [World.cell?,hc] at h2
              rw [h1,List.getElem?_take,if_pos (by rw [← hsi]; exact hj)]
              rw [← h2]; simp
             ·rw [List.getElem?_eq_none (by omega),List.getElem?_eq_none]
              simp; rw [← hsi]; omega
            rw [← hold]
            have hput:=hR.put hl hg' (c:=c) (c':=(old ++ news ++ c.toList.drop (n * i.size + news.length)).toArray) (ty:=el) hcap hc (by
              simp only [List.size_toArray,List.length_append,List.length_drop,Array.length_toList,o1]
              rw [hsi]; omega) (x:=⟨n + k,sz',el,fun i => if i < n then (fam 0).get i else getx (i - n),none⟩) rfl hfs hg.symm hroom newlen (fun i q c v h1 h2 h3 => newget i q c v _ h1 h2 (by simpa using h3))
            refine fin _ (n + k) _ hroom (m2:=setRow r (fun f => if f = 0 then ⟨n + k,sz',el,fun i => if i < n then (fam 0).get i else getx (i - n),none⟩ else fam f) m) (fam2:=fun f => if f = 0 then ⟨n + k,sz',el,fun i => if i < n then (fam 0).get i else getx (i - n),none⟩ else fam f) ?_ hput.1 (by rw [look_set]; simp [hl]) (by simp) ?_ hput.2 _
            ·intro q z hz
             rw [look_drop] at hz ⊢
             split
             ·rename_i e; rw [if_pos e] at hz; exact hz
             ·rename_i e
              rw [if_neg e] at hz
              rw [look_set,if_neg (fun h => e h.1)]
              exact hz
            ·exact (hput.1.row r (fun f => if f = 0 then ⟨n + k,sz',el,fun i => if i < n then (fam 0).get i else getx (i - n),none⟩ else fam f) 0 (by rw [look_set]; simp [hl]) (by simp)).2
           ·have post:∀ (tail:List Value) (cap':Nat),n + k≤cap'→tail.length = (cap' - (n + k)) * sz'→Post w0 ρ m D key ⟨ob ++ [n≤(fam 0).n,sz' = (fam 0).sz,(fam 0).ty = el,(fam 0).g = none,∀ i,i < k→allCells (getx i) = true,(n + k) * bytesT P el≤140737488355328,n + k≤9223372036854775807],.own key 0 (n + k) sz',.swap r (famN (n + k) sz' el (fun i => if i < n then (fam 0).get i else getx (i - n)) none)⟩ w (.slice (some ⟨w.heap.size,0,none⟩) (n + k) cap') (w.drew.alloc (.cells (old ++ news ++ tail).toArray el)):=fun tail cap' h1 h2 => by
             refine Post.drop (grown_post hR hk h1 ?_ newlen (fun i q c v x1 x2 x3 => newget i q c v tail x1 x2 x3)) hkl (fun _ => hR.dom _ hd)
             simp only [List.length_append,o1,n1,h2,← Nat.add_mul]
             congr 1
             omega
            cases a0 with
            | none =>
             have hc0:ρ.cap r 0 = 0:=by
              by_cases hc:0 < ρ.cap r 0
              ·cases ha0 hc
              ·omega
             have hn0:n = 0:=by omega
             subst hn0
             rw [hc0]
             have hr:=run_append_nil (P:=P) w t ty el i z ht hi hiz ⟨b,o,none⟩ k cap news n1' n2 (by omega) (by omega) (by rw [hiby] at hb; simp only [Nat.zero_add] at hb; omega)
             refine ⟨_,_,hr,?_⟩
             have hge:=grownCap_ge w k 0 el
             have old0:old = []:=List.eq_nil_of_length_eq_zero (by simpa using o1)
             have hp:=post (Builtin.zeroCells z.cells (grownCap w k 0 el - k)).toList (grownCap w k 0 el) (by omega) (by simp only [Array.length_toList,size_zeroCells,hzs.1,hsz,Nat.zero_add])
             rw [old0] at hp
             simp only [Nat.zero_add,List.nil_append] at hp ⊢
             have e1:(news.toArray ++ Builtin.zeroCells z.cells (grownCap w k 0 el - k)) = (news ++ (Builtin.zeroCells z.cells (grownCap w k 0 el - k)).toList).toArray:=by simp
             rw [e1]
             exact hp
            | some b0 =>
             have hr:=run_append_grow (P:=P) w t ty el i z ht hi hiz b0 n (ρ.cap r 0) old (by rw [o1,hsi]) (fun j v hj => by
               have hlt:j < n * sz':=by have:=(List.getElem?_eq_some_iff.1 hj).1; rw [o1] at this; exact this
               have hn0:0 < n:=by
                rcases Nat.eq_zero_or_pos n with h | h
                ·subst h; simp at hlt
                ·exact h
               have:=ha0 (by omega)
               cases this
               rw [add_eq,Nat.zero_add]
               exact o2 j v hj) ⟨b,o,none⟩ k cap news n1' n2 (by omega) (by omega) (growslice_fits (by omega) (by rw [hiby] at hb; exact hb))
             refine ⟨_,_,hr,?_⟩
             have hge:=grownCap_ge w (n + k) (ρ.cap r 0) el
             have hp:=post (Builtin.zeroCells z.cells (grownCap w (n + k) (ρ.cap r 0) el - (n + k))).toList (grownCap w (n + k) (ρ.cap r 0) el) hge (by simp only [Array.length_toList,size_zeroCells,hzs.1,hsz])
             have e1:(old.toArray ++ news.toArray ++ Builtin.zeroCells z.cells (grownCap w (n + k) (ρ.cap r 0) el - (n + k))) = (old ++ news ++ (Builtin.zeroCells z.cells (grownCap w (n + k) (ρ.cap r 0) el - (n + k))).toList).toArray:=by simp
             rw [e1]
             exact hp
        ·cases h
       ·cases h
      ·cases h
     ·cases h
    ·cases h
   ·cases h
  ·cases h
 ·cases h
theorem aExt_sound (hR:Rel w0 ρ m D w) (hk:¬ D key) {m':Mem} (hm:∀ r x,look m' r = some x→look m r = some x) {g:Option Bool} {e:Eff} (h:aExt P key g o ρ0 m' = some e) (hob:∀ q ∈ e.ob,q) (hv:∀ x ∈ o.op.operands,R w ρ (strip (ρ0 x)) (ev x)) :
  Gives P ev o w fun v w' => Post w0 ρ m D key e w v w':=by
 have val:∀ {s:Sem Value} {v:Value} {w':World},s.run P w = .ok v w'→(do pure (Next.value (← s)):Sem Next).run P w = .ok (.value v) w':=fun h => run_value h
 unfold aExt at h
 split at h
 ·rename_i t l c ho
  obtain ⟨x,w',h1,h2⟩:=aMake_sound hR hk h hob (hv l (by simp [ho,Op.operands])) (hv c (by simp [ho,Op.operands]))
  exact ⟨x,w',.inl (by simp only [execOp,ho]; exact val h1),h2⟩
 ·rename_i t x lo hi ho
  obtain ⟨v,h1,h2,h3⟩:=aCut_sound (lv:=lo.map ev) (hv:=hi.map ev) h hob (hv x (by simp [ho,Op.operands])) (by
    cases lo with
    | none => trivial
    | some y => exact hv y (by simp [ho,Op.operands])) (by
    cases hi with
    | none => trivial
    | some y => exact hv y (by simp [ho,Op.operands]))
  refine ⟨v,w,.inl (by simp only [execOp,ho]; exact val (by simpa using h1)),?_⟩
  obtain ⟨ob,a,u⟩:=e
  dsimp only at h3
  subst h3
  exact .still hR h2
 ·rename_i args ats ho
  split at h
  ·rename_i s x t u hargs hats
   split at h
   ·rename_i htu
    subst htu
    have m1:s ∈ args:=by have:s ∈ args.toList:=by rw [hargs]; simp
                         simpa using this
    have m2:x ∈ args:=by have:x ∈ args.toList:=by rw [hargs]; simp
                         simpa using this
    obtain ⟨v,w',h1,h2⟩:=aAppend_sound (ty:=o.type) hR hk hm h hob (hv s (by simp [ho,Op.operands,Call.operands,m1])) (hv x (by simp [ho,Op.operands,Call.operands,m2]))
    refine ⟨v,w',.inl ?_,h2⟩
    have ha:args = #[s,x]:=by apply Array.ext'; simpa using hargs
    have hb:ats = #[t,t]:=by apply Array.ext'; simpa using hats
    subst ha hb
    simp [execOp,ho,resolve,invoke,builtin,h1]
   ·cases h
  ·cases h
 ·cases h
end
section
variable {P:Program} {w0:Base} {w:World} {ρ:Env} {m:Mem} {D:Nat→Prop} {key:Nat} {G:Ctx}
theorem aCall_sound (hG:CtxOK P G) (hR:Rel w0 ρ m D w) {m':Mem} (hm:∀ r x,look m' r = some x→look m r = some x) {f:FuncId} {ars:List AV} {ob:List Prop} {r:AV} {vs:List Value} (h:aCall G f ars m' = some (ob,r)) (hob:∀ p ∈ ob,p) (hs:Rs w ρ ars vs) :
  Invokes P f vs w fun v w' => ∃ ρ',R w' ρ' r v∧Rel w0 ρ' m D w'∧ρ.le ρ'∧Same ρ.imm w w':=by
 unfold aCall at h
 split at h
 ·rename_i c hc
  split at h
  ·rename_i hcl
   have hcl':∀ a ∈ ars,clean 3 a = true:=by simpa using hcl
   have hs':Rs w (.ext ρ.imm) ars vs:=⟨hs.1,fun i a x h1 h2 => clean_sound 3 (hcl' a (List.mem_of_getElem? h1)) (hs.2 i a x h1 h2)⟩
   refine (hG.call hc ars ob r h hob ρ.imm w vs hR.imm hs').mono fun v w' ⟨h1,h2⟩ => ?_
   exact ⟨ρ.grow w w',h1.mono ⟨fun _ h => h.elim,fun _ _ h => h.elim,fun _ _ h => h.elim,fun _ h => h⟩ (.refl _ _),hR.grow h2,Env.le_grow _ _ _,Same.of_below h2 hR.imm⟩
  ·split at h
   ·rename_i ob' r' hcc
    split at h
    ·rename_i hpl
     cases h
     have hs':Rs w (.ext (All w)) (ars.map (purU 3 m')) vs:=purUs_sound (J:=All w) (hR.sub hm fun _ h => h) hR.imm (fun _ h _ => h) (fun p hp => hob p (List.mem_append_left _ hp)) hs
     refine (hG.call hc _ ob' r hcc (fun p hp => hob p (List.mem_append_right _ hp)) (All w) w vs (fun _ h => h) hs').mono fun v w' ⟨h1,h2⟩ => ?_
     exact ⟨ρ.grow w w',plain_sound 3 hpl h1,hR.grow h2,Env.le_grow _ _ _,Same.of_below h2 hR.imm⟩
    ·cases h
   ·cases h
 ·cases h
variable {ro:Option Nat} {n:Nat} {Q:Exit→Act→World→Prop} {o:Oper} {a:Act} {next:Act→World→Prop}
theorem wpIn_of_gives {R':Value→World→Prop} (hd:∀ c,o.op≠.defer c) (h:Gives P a.eval o w R') (hn:∀ v w',R' v w'→next (a.put o.dst v) w'):o.wpIn (Fw ro) n P a w next Q:=by
 obtain ⟨v,w',h1,h2⟩:=h
 refine ⟨fun _ _ => trivial,?_⟩
 rw [Oper.semAt_eq _ _ _ hd]
 rcases h1 with h1 | ⟨h1,rfl⟩
 ·rw [h1]; exact hn _ _ h2
 ·rw [h1]; exact hn _ _ h2
theorem calls_fw {f:FuncId} {args:Array Value} {R':Ending→World→Prop} (h:Calls P f args w R'):CallsIn (Fw ro) n P f args w R':=by
 have h1:CallsIn Fence.wide n P f args w R':=callsIn_wide.2 h
 exact h1
theorem wpIn_of_invokes {f:FuncId} {vs:List Value} {R':Value→World→Prop} (hd:∀ c,o.op≠.defer c) (he:(execOp a.eval o).run P w = (callFunc f vs.toArray).run P w) (h:Invokes P f vs w R')
  (hn:∀ v w',R' v w'→next (a.put o.dst v) w'):o.wpIn (Fw ro) n P a w next Q:=by
 refine ⟨fun _ _ => trivial,?_⟩
 rw [Oper.semAt_eq _ _ _ hd,he]
 rcases h with ⟨v,w',h1,h2⟩ | ⟨h1,h2⟩
 ·rw [h1]; exact hn _ _ h2
 ·rw [h1]
  refine ⟨fun h => by simp [Fw,Fence.wide] at h,calls_fw (h2.mono fun e w' ⟨v,he,hq⟩ => ?_)⟩
  subst he
  exact hn _ _ hq
theorem call_run {f:Operand} {args:Array Operand} {ats:Array TypeId} {h:FuncId} {cap:List Value} (ho:o.op = .call ⟨.value f,args,ats⟩) (hf:a.eval f = .func (.func h) #[] cap.toArray) :
  (execOp a.eval o).run P w = (callFunc h (args.toList.map a.eval ++ cap).toArray).run P w:=by
 have e:(args.map a.eval ++ cap.toArray) = (args.toList.map a.eval ++ cap).toArray:=by apply Array.ext'; simp
 unfold execOp
 simp only [ho]
 simp only [resolve,hf,Deferred.ofValue,Sem.run_bind,Sem.run_pure,Result.andThen_ok,invoke,Array.empty_append,e]
theorem invoke_run {r:Operand} {name:String} {args:Array Operand} {ats:Array TypeId} {h:FuncId} {t:TypeId} {x:Value} (ho:o.op = .call ⟨.invoke r name,args,ats⟩) (hr:a.eval r = .iface t x) (hm:methT P t name = some h) :
  (execOp a.eval o).run P w = (callFunc h (x :: args.toList.map a.eval).toArray).run P w:=by
 have e:(#[x] ++ args.map a.eval) = (x :: args.toList.map a.eval).toArray:=by apply Array.ext'; simp
 have hmeth:(method (P.types.size + Made.depth) t x name).run P w = .ok (h,x) w:=by
  unfold methT at hm
  split at hm
  ·rename_i i hi
   split at hm
   ·rename_i mt hmt
    split at hm
    ·rename_i f ptr hp hfn
     have hfuel:∃ k,P.types.size + Made.depth = k + 1:=⟨P.types.size + Made.depth - 1,by have:0 < Made.depth:=by decide
                                                                                         omega⟩
     obtain ⟨k,hk⟩:=hfuel
     rw [hk]
     have hti:(typeInfo t).run P w = .ok i w:=by simp [typeInfo,hi]
     split at hm
     ·rename_i el hu
      split at hm
      ·rename_i hpt
       cases hm
       simp [method,hti,hmt,hp,follow,hfn,hpt,receiverAt,run_underlying hu,Place.get]
      ·cases hm
     ·rename_i d hnp hu
      split at hm
      ·cases hm
      ·rename_i hpt
       cases hm
       simp only [method,Sem.run_bind,hti,Result.andThen_ok,hmt,hp,follow,Sem.run_pure,hfn]
       have hpt':ptr = false:=by simpa using hpt
       subst hpt'
       simp only [receiverAt,Sem.run_bind,run_underlying hu,Result.andThen_ok]
       cases d <;> first | exact absurd rfl (hnp _) | simp [Place.get]
     ·cases hm
    ·cases hm
   ·cases hm
  ·cases hm
 unfold execOp
 simp only [ho]
 simp only [resolve,hr,Sem.run_bind,Sem.run_pure,Result.andThen_ok,invoke]
 have e0:(#[Value.iface t x] ++ args.map a.eval)[0]? = some (Value.iface t x):=by
  rw [Array.getElem?_append]; rfl
 have e1:(#[Value.iface t x] ++ args.map a.eval).extract 1 (#[Value.iface t x] ++ args.map a.eval).size = args.map a.eval:=by
  apply Array.ext'
  simp [Array.toList_extract,List.extract_eq_take_drop]
  exact List.take_of_length_le (by simp)
 rw [e0,e1]
 simp only [callMethod,Sem.run_bind,run_program,Result.andThen_ok,hmeth,e]
theorem aMut_inv {g:Option Bool} {x:Option Eff} {e:Eff} (h:aMut g x = some e):g = none∧∃ e0,x = some e0∧e0.ob = e.ob∧e0.val = e.val∧(∃ s n,e0.u = .many s n)∧(∀ key m,e0.u.app key m = e.u.app key m)∧((∃ s n,e.u = .many s n)∨∃ y,e.u = .new y):=by
 unfold aMut at h
 split at h
 ·split at h
  ·split at h
   ·rename_i e1 y hu
    cases h
    exact ⟨rfl,_,rfl,rfl,rfl,⟨_,_,hu⟩,fun key m => by rw [hu]; rfl,.inr ⟨_,rfl⟩⟩
   ·rename_i hu
    cases h; exact ⟨rfl,_,rfl,rfl,rfl,⟨_,_,hu⟩,fun _ _ => rfl,.inl ⟨_,_,hu⟩⟩
   ·cases h
  ·cases h
 ·cases h
theorem aStep_sound (hG:CtxOK P G) (hR:Rel w0 ρ m D w) (hk:¬ D key) {m':Mem} (hm:∀ r x,look m' r = some x→look m r = some x) {g:Option Bool} {e:Eff} {ρ0:Operand→AV} (h:aStep P G key g o ρ0 m' = some e) (hob:∀ q ∈ owed o ρ0 ++ e.ob,q) (hv:∀ x,R w ρ (ρ0 x) (a.eval x))
  (hn:∀ v w',Post w0 ρ m D key e w v w'→next (a.put o.dst v) w'):o.wpIn (Fw ro) n P a w next Q:=by
 have hneeds:(∃ c x y,o.op = .pick c x y)∨∀ p ∈ needs (o.op.operands.toList.map ρ0),p:=by
  by_cases hp:isPick o.op = true
  ·left
   generalize o.op = op at hp
   cases op <;> simp [isPick] at hp
   exact ⟨_,_,_,rfl⟩
  ·right
   intro p hp'
   refine hob p (List.mem_append_left _ ?_)
   unfold owed
   rw [if_neg hp]
   exact hp'
 have hs:isPick o.op = false→∀ x ∈ o.op.operands,R w ρ (strip (ρ0 x)) (a.eval x):=fun hp x hx => by
  rcases hneeds with ⟨c,x,y,e⟩ | hne
  ·rw [e] at hp; simp [isPick] at hp
  ·exact strip_sound (hv x) (needs_mem hne (List.mem_map.2 ⟨x,by simpa using hx,rfl⟩))
 have hob':∀ q ∈ e.ob,q:=fun q hq => hob q (List.mem_append_right _ hq)
 have finish:∀ {ob:List Prop} {r:AV} {v:Value} {w':World},(∃ ρ',R w' ρ' r v∧Rel w0 ρ' m D w'∧ρ.le ρ'∧Same ρ.imm w w')→Post w0 ρ m D key ⟨ob,r,.none⟩ w v w':=fun ⟨ρ',h1,h2,h3,h4⟩ =>
  ⟨ρ',h1,h2.sub (fun _ _ h => h) (fun _ h => .inl h),h3,h4⟩
 unfold aStep at h
 split at h
 ·rename_i f args ats ho
  split at h
  ·rename_i hh cap hf
   split at h
   ·rename_i c hc
    obtain ⟨_,e0,hx,hob0,hval0,hmany,happ,_⟩:=aMut_inv h
    have hfr:=hs (by simp [ho,isPick]) f (by simp [ho,Op.operands,Call.operands])
    rw [hf] at hfr
    generalize hev:a.eval f = fv at hfr
    cases hfr with
    | fn hl hh' =>
     rename_i vs
     have hargs:Rs w ρ (args.toList.map (fun x => strip (ρ0 x)) ++ cap) (args.toList.map a.eval ++ vs):=
      (Rs_map (ev:=a.eval) (f:=fun x => strip (ρ0 x)) args.toList (fun x hx => hs (by simp [ho,isPick]) x (by simp [ho,Op.operands,Call.operands]; exact .inr (by simpa using hx)))).append ⟨hl,hh'⟩
     exact wpIn_of_invokes (by simp [ho]) (call_run ho hev) (hG.wr hc w0 ρ m m' D w key _ _ e0 hR hk hm hargs hx (by rw [hob0]; exact hob') hmany) fun v w' hp => hn v w' (by
      unfold Post at hp ⊢
      rw [← hval0,← happ]
      exact hp)
   unfold effOf2 at h
   split at h
   ·rename_i ob r hc
    cases h
    have hfr:=hs (by simp [ho,isPick]) f (by simp [ho,Op.operands,Call.operands])
    rw [hf] at hfr
    generalize hev:a.eval f = fv at hfr
    cases hfr with
    | fn hl hh' =>
     rename_i vs
     have hargs:Rs w ρ (args.toList.map (fun x => strip (ρ0 x)) ++ cap) (args.toList.map a.eval ++ vs):=
      (Rs_map (ev:=a.eval) (f:=fun x => strip (ρ0 x)) args.toList (fun x hx => hs (by simp [ho,isPick]) x (by simp [ho,Op.operands,Call.operands]; exact .inr (by simpa using hx)))).append ⟨hl,hh'⟩
     exact wpIn_of_invokes (by simp [ho]) (call_run ho hev) (aCall_sound hG hR hm hc hob' hargs) fun v w' hp => hn v w' (finish hp)
   ·cases h
  ·cases h
 ·rename_i r name args ats ho
  split at h
  ·rename_i t x hx
   split at h
   ·rename_i f hmt
    unfold effOf2 at h
    split at h
    ·rename_i ob r' hc
     cases h
     have hrr:=hs (by simp [ho,isPick]) r (by simp [ho,Op.operands,Call.operands])
     rw [hx] at hrr
     generalize hev:a.eval r = rv at hrr
     cases hrr with
     | iface hxv =>
      rename_i xv
      have hargs:Rs w ρ (x :: args.toList.map (fun x => strip (ρ0 x))) (xv :: args.toList.map a.eval):=
       .cons hxv (Rs_map (ev:=a.eval) (f:=fun x => strip (ρ0 x)) args.toList (fun x hx => hs (by simp [ho,isPick]) x (by simp [ho,Op.operands,Call.operands]; exact .inr (by simpa using hx))))
      exact wpIn_of_invokes (by simp [ho]) (invoke_run ho hev hmt) (aCall_sound hG hR hm hc hob' hargs) fun v w' hp => hn v w' (finish hp)
    ·cases h
   ·cases h
  ·cases h
   exact (hob' False (by simp)).elim
  ·cases h
 ·split at h
  ·rename_i hext
   refine wpIn_of_gives (fun c e => by rw [e] at hext; simp [isExt] at hext) (aExt_sound hR hk hm h hob' (hs (by cases hp:isPick o.op with | false => rfl | true => (exfalso; generalize o.op = op at hext hp; cases op <;> simp [isPick,isExt] at hext hp)))) hn
  ·by_cases hdef:∃ c,o.op = .defer c
   ·obtain ⟨c,hc⟩:=hdef
    exfalso
    unfold aop at h
    rw [hc] at h
    simp only [effOf] at h
    split at h
    ·rename_i x hx
     unfold aPure at hx
     split at hx
     ·split at hx
      ·rename_i v hp
       unfold execOp at hp
       rw [hc] at hp
       simp only at hp
       have:∀ (s:Sem Deferred),pureRun P (do pure (Next.defer (← s)))≠some (.value v):=by
        intro s
        induction s with
        | pure d => intro e; simp [pureRun,Bind.bind,Sem.bind,Pure.pure] at e
        | program k ih => intro e; exact ih P e
        | _ => intro e; simp [pureRun,Bind.bind,Sem.bind,Pure.pure] at e
       exact this _ hp
      ·cases hx
     ·cases hx
    ·cases h
   ·by_cases hsel:∃ cs b,o.op = .select cs b
    ·obtain ⟨cs,b,hc⟩:=hsel
     exfalso
     unfold aop at h
     rw [hc] at h
     simp only [effOf] at h
     split at h
     ·rename_i x hx
      unfold aPure at hx
      split at hx
      ·split at hx
       ·rename_i v hp
        unfold execOp at hp
        rw [hc] at hp
        simp only at hp
        have:∀ (s:Sem (Array CommCase)),pureRun P (do pure (Next.comm (← s) b .select))≠some (.value v):=by
         intro s
         induction s with
         | pure d => intro e; simp [pureRun,Bind.bind,Sem.bind,Pure.pure] at e
         | program k ih => intro e; exact ih P e
         | _ => intro e; simp [pureRun,Bind.bind,Sem.bind,Pure.pure] at e
        exact this _ hp
       ·cases hx
      ·cases hx
     ·cases h
    ·exact wpIn_of_gives (fun c e => hdef ⟨c,e⟩) (aop_sound (fun _ => rfl) (fun cs b e => hsel ⟨cs,b,e⟩) hR hk hm h hob' hneeds (fun x _ => hv x)) hn
end
structure Frm where
 ds:List Deferred
 W:Nat→Prop
 T:Array Value
structure SR (w0:Base) (ρ:Env) (t:Slots) (m:Mem) (D:Nat→Prop) (nt:Nat) (ds:Frm) (a:Act) (w:World):Prop where
 rel:Rel w0 ρ m D w
 slots:∀ j,R w ρ (slot t j) (a.tmps.getD j undef)
 size:a.tmps.size = nt
 defers:a.defers = ds.ds
 frame:∀ j,¬ ds.W j→a.tmps.getD j undef = ds.T.getD j undef
section
variable {P:Program} {w0:Base} {w:World} {ρ:Env} {m:Mem} {D:Nat→Prop} {key:Nat} {G:Ctx} {t:Slots} {nt:Nat} {ds:Frm} {a:Act}
theorem SR.opd (h:SR w0 ρ t m D nt ds a w) (x:Operand):R w ρ (opd t x) (a.eval x):=by
 cases x with
 | tmp j => exact h.slots j
 | const v => exact .v
 | global g => exact .v
 | func f => exact .fn (cs:=[]) (vs:=[]) rfl (fun i a x h => by simp at h)
theorem put_getD (d:Option Tmp) (v:Value) (j:Nat) (hd:∀ k,d = some k→k < a.tmps.size):(a.put d v).tmps.getD j undef = if d = some j then v else a.tmps.getD j undef:=by
 cases d with
 | none => simp [Act.put]
 | some k =>
  have hk:=hd k rfl
  simp only [Act.put,Option.some.injEq]
  by_cases e:k = j
  ·subst e; simp [Array.getD_eq_getD_getElem?,Array.getElem?_setIfInBounds,hk]
  ·simp [Array.getD_eq_getD_getElem?,Array.getElem?_setIfInBounds,e]
theorem put_size (d:Option Tmp) (v:Value):(a.put d v).tmps.size = a.tmps.size:=by cases d <;> simp [Act.put]
theorem put_defers (d:Option Tmp) (v:Value):(a.put d v).defers = a.defers:=by cases d <;> rfl
theorem slot_put (d:Option Tmp) (x:AV) (j:Nat):slot (putSlot d x t) j = if d = some j then x else slot t j:=by
 cases d with
 | none => simp [putSlot]
 | some k =>
  simp only [putSlot,slot,Option.some.injEq]
theorem SR.put (h:SR w0 ρ t m D nt ds a w) {w':World} {ρ':Env} {m':Mem} {D':Nat→Prop} {d:Option Tmp} {x:AV} {v:Value} (hd:∀ k,d = some k→k < nt∧ds.W k) (hr:Rel w0 ρ' m' D' w') (hx:R w' ρ' x v) (hle:ρ.le ρ') (hs:Same ρ.imm w w') :
  SR w0 ρ' (putSlot d x t) m' D' nt ds (a.put d v) w':=by
 refine ⟨hr,fun j => ?_,(put_size d v).trans h.size,(put_defers d v).trans h.defers,fun j hj => ?_⟩
 ·rw [put_getD d v j (fun k e => by rw [h.size]; exact (hd k e).1),slot_put]
  split
  ·exact hx
  ·exact (h.slots j).mono hle hs
 ·rw [put_getD d v j (fun k e => by rw [h.size]; exact (hd k e).1)]
  split
  ·rename_i e; exact absurd (hd j e).2 hj
  ·exact h.frame j hj
theorem guardOf_sound {ops:Array Oper} {g:Nat×Bool} {b:Bool} (h:SR w0 ρ t m D nt ds a w) (hg:guardOf ops (slot t) g = some b):(yielded ops a.tmps g.1 == some g.2) = b:=by
 unfold guardOf at hg
 split at hg
 ·rename_i d hd
  have hsl:=h.slots d
  have hy:∀ v,a.tmps.getD d undef = v→yielded ops a.tmps g.1 = match v with | .bool b => some b | _ => none:=by
   intro v hv
   unfold yielded
   rw [hd]
   simp only [Option.bind_some]
   rw [Array.getD_eq_getD_getElem?] at hv
   cases hq:a.tmps[d]? with
   | none => rw [hq] at hv; simp at hv; subst hv; simp [undef]
   | some u => rw [hq] at hv; simp at hv; subst hv; cases u <;> rfl
  split at hg
  ·rename_i c hc
   cases hg
   rw [hc] at hsl
   generalize hv:a.tmps.getD d undef = v at hsl
   cases hsl
   rw [hy _ hv]
   cases hgw:g.2 <;> cases c <;> simp
  ·rename_i q c hc
   cases hg
   rw [hc] at hsl
   generalize hv:a.tmps.getD d undef = v at hsl
   cases hsl with
   | yes hh =>
    cases hh
    rw [hy _ hv]
    cases hgw:g.2 <;> cases c <;> simp
   | no =>
    rw [hy _ hv]
    simp [undef]
  ·cases hg
 ·cases hg
variable {ro:Option Nat} {n:Nat} {Q:Exit→Act→World→Prop} {ops:Array Oper} {o:Oper} {next:Act→World→Prop}
theorem effOf_u {a:Option AV} {e:Eff} (h:effOf a = some e):e.u = .none:=by
 unfold effOf at h; split at h <;> cases h; rfl
theorem effOf2_u {a:Option (List Prop×AV)} {e:Eff} (h:effOf2 a = some e):e.u = .none:=by
 unfold effOf2 at h; split at h <;> cases h; rfl
theorem aStore_u {t:TypeId} {p x:AV} {e:Eff} (h:aStore P t p x m = some e):∃ r y,e.u = .set r y:=by
 unfold aStore at h
 (repeat' split at h) <;> first | (cases h; done) | (cases h; exact ⟨_,_,rfl⟩)
theorem aExt_guard {g:Bool} {ρ0:Operand→AV} {e:Eff} {key:Nat} (h:aExt P key (some g) o ρ0 m = some e) {x:Fam} (hu:e.u = .new x):∀ f,(x f).g = some g:=by
 unfold aExt at h
 split at h
 ·unfold aMake at h
  (repeat' split at h) <;> first | (cases h; done) | skip
  cases h; cases hu; intro f; unfold famN; split <;> rfl
 ·unfold aCut at h
  (repeat' split at h) <;> first | (cases h; done) | (cases h; cases hu; done)
 ·split at h
  ·rename_i hg; cases hg
  ·cases h
 ·cases h
theorem aStep_guard {g:Bool} {ρ0:Operand→AV} {e:Eff} (h:aStep P G key (some g) o ρ0 m = some e) {x:Fam} (hu:e.u = .new x):∀ f,(x f).g = some g:=by
 have n1:∀ {e:Eff},e.u = .none→e.u = .new x→False:=fun h1 h2 => by rw [h1] at h2; cases h2
 unfold aStep at h
 split at h
 ·split at h
  ·split at h
   ·cases (aMut_inv h).1
   ·exact (n1 (effOf2_u h) hu).elim
  ·cases h
 ·split at h
  ·split at h
   ·exact (n1 (effOf2_u h) hu).elim
   ·cases h
  ·cases h; cases hu
  ·cases h
 ·split at h
  ·exact aExt_guard h hu
  unfold aop at h
  dsimp only at h
  split at h
  case h_4 =>
   split at h
   ·cases h; simp only [aAlloc] at hu; cases hu; intro f; dsimp only; split <;> rfl
   ·cases h
  case h_5 =>
   split at h
   ·cases h; simp only [aAlloc] at hu; cases hu; intro f; dsimp only; split <;> rfl
   ·cases h
  case h_7 => obtain ⟨r,y,h2⟩:=aStore_u h; rw [h2] at hu; cases hu
  case h_9 =>
   unfold aBuildSlice at h
   (repeat' split at h) <;> first | (cases h; done) | skip
   all_goals first
    | (cases h; cases hu; done)
    | (cases h; cases hu; intro f; dsimp only; split <;> rfl)
  all_goals
   first
    | exact (n1 (effOf_u h) hu).elim
    | exact (n1 (effOf2_u h) hu).elim
    | ((repeat' split at h) <;> first | (cases h; done) | exact (n1 (effOf_u h) hu).elim | (cases h; cases hu; done))
theorem Rel.dead (h:Rel w0 ρ m D w) (hk:¬ D key) {x:Fam} (hx:∀ f,(x f).g = some false):Rel w0 ρ (insRow key x m) (fun r => D r∨r = key) w:=by
 have hkl:look m key = none:=by
  cases hl:look m key with
  | none => rfl
  | some y => exact absurd (h.key _ _ hl) hk
 have hlk:∀ r y f,look (insRow key x m) r = some y→(y f).g≠some false→look m r = some y:=fun r y f hy hg => by
  rw [look_ins hkl] at hy
  split at hy
  ·cases hy; exact absurd (hx f) hg
  ·exact hy
 refine ⟨h.below,h.imm2,fun r hr => .inl (h.dom r hr),fun r y hy => ?_,fun r y f hy hg => h.row r y f (hlk r y f hy hg) hg,
  fun r y f r' y' f' hy hy' hg hg' hc hc' he => h.sep r y f r' y' f' (hlk r y f hy hg) (hlk r' y' f' hy' hg') hg hg' hc hc' he,h.fixed (fun _ _ => rfl) (fun _ _ ho r y f hy hg => ho r y f (hlk r y f hy hg) hg) (fun _ _ h => h),h.kept⟩
 rw [look_ins hkl] at hy
 split at hy
 ·rename_i e; exact .inr e.symm
 ·exact .inl (h.key r y hy)
theorem stepE_sound (hG:CtxOK P G) (h:SR w0 ρ t m D nt ds a w) (hk:¬ D key) {m':Mem} (hm:∀ r x,look m' r = some x→look m r = some x) {e:Eff} (he:stepE P G ops key o t m' = some e) (hob:∀ q ∈ e.ob,q) (hd:∀ k,o.dst = some k→k < nt∧ds.W k)
  (hn:∀ ρ' v w',ρ.le ρ'→SR w0 ρ' (putSlot o.dst e.val t) (e.u.app key m) (fun r => D r∨r = key) nt ds (a.put o.dst v) w'→next (a.put o.dst v) w') :
  if Region.wanted o (yielded ops a.tmps) then o.wpIn (Fw ro) n P a w next Q else (∀ f,o.about P w a.eval = some f→(Fw ro).fn f)∧next (a.put o.dst undef) w:=by
 unfold stepE at he
 split at he
 ·rename_i hg
  split at he
  ·rename_i e0 hs
   cases he
   rw [if_pos (by simp [Region.wanted,hg])]
   exact aStep_sound hG h.rel hk hm hs hob h.opd fun v w' ⟨ρ',h1,h2,h3,h4⟩ => hn ρ' v w' h3 (h.put hd h2 h1 h3 h4)
  ·cases he
 ·rename_i g hg
  split at he
  ·rename_i b hb
   split at he
   ·rename_i e0 hs
    split at he
    ·rename_i hmild
     cases he
     have hw:Region.wanted o (yielded ops a.tmps) = b:=by
      simp only [Region.wanted,hg]
      exact guardOf_sound h hb
     rw [hw]
     cases b with
     | true =>
      simp only [if_true]
      exact aStep_sound hG h.rel hk hm hs (conj_map_imp hob rfl) h.opd fun v w' ⟨ρ',h1,h2,h3,h4⟩ => hn ρ' v w' h3 (h.put hd h2 (.yes h1) h3 h4)
     | false =>
      simp only [Bool.false_eq_true,if_false]
      refine ⟨fun _ _ => trivial,hn ρ undef w (.refl _) (h.put hd ?_ .no (.refl _) (.refl _ _))⟩
      cases hu:e0.u with
      | none => exact h.rel.sub (fun _ _ h => h) (fun _ h => .inl h)
      | new x => exact h.rel.dead hk (aStep_guard hs hu)
      | set r y => rw [hu] at hmild; simp [Upd.mild] at hmild
      | swap r y => rw [hu] at hmild; simp [Upd.mild] at hmild
      | many s y => rw [hu] at hmild; simp [Upd.mild] at hmild
    ·cases he
   ·cases he
  ·cases he
theorem conj_iff:∀ {l:List Prop} {k:Prop},conj l k ↔ (∀ p ∈ l,p)∧k
 | [],k => by simp [conj]
 | p :: ps,k => by simp only [conj,conj_iff (l:=ps),List.forall_mem_cons,and_assoc]
theorem SR.weaken (h:SR w0 ρ t m D nt ds a w) {D':Nat→Prop} (hD:∀ r,D r→D' r):SR w0 ρ t m D' nt ds a w:=
 ⟨h.rel.sub (fun _ _ h => h) hD,h.slots,h.size,h.defers,h.frame⟩
def fitsOps (nt:Nat) (l:List Oper):Bool:=l.all fun o => match o.dst with | some d => decide (d < nt) | none => true
theorem fitsOps_mem {l:List Oper} (h:fitsOps nt l = true) {o:Oper} (ho:o ∈ l):∀ k,o.dst = some k→k < nt:=fun k hk => by
 unfold fitsOps at h
 rw [List.all_eq_true] at h
 have:=h o ho
 rw [hk] at this
 simpa using this
theorem wpOpsIn_cons' {i:Nat} {rest:List Nat} {o:Oper} (ho:ops[i]? = some o):wpOpsIn (Fw ro) n P ops Q (i :: rest) a w =
  if Region.wanted o (yielded ops a.tmps) then o.wpIn (Fw ro) n P a w (wpOpsIn (Fw ro) n P ops Q rest) Q else (∀ f,o.about P w a.eval = some f→(Fw ro).fn f)∧wpOpsIn (Fw ro) n P ops Q rest (a.put o.dst undef) w:=by
 simp only [wpOpsIn,ho]
theorem regP_text (hG:CtxOK P G) {base:Nat} {K:St→Prop}:∀ (rest:List Oper) (i:Nat) (s:St) (ρ:Env) (a:Act) (w:World),
  regP P G none ops base rest i s K→(∀ j,rest[j]? = ops[i + j]?)→(∀ o ∈ rest,∀ k,o.dst = some k→k < nt∧ds.W k)→SR w0 ρ s.t s.m (· < base + i) nt ds a w →
  (∀ s' ρ' a' w',K s'→s'.nx = s.nx→ρ.le ρ'→SR w0 ρ' s'.t s'.m (· < base + i + rest.length) nt ds a' w'→Q .normal a' w')→wpOpsIn (Fw ro) n P ops Q (List.range' i rest.length) a w
 | [],i,s,ρ,a,w,h,_,_,hs,hK => by
  simp only [regP] at h
  exact hK s ρ a w h rfl (.refl _) hs
 | o :: rest,i,s,ρ,a,w,h,hops,hfit,hs,hK => by
  have ho:ops[i]? = some o:=by simpa using (hops 0).symm
  simp only [regP,memFor,rootOK,optK,boolK] at h
  split at h
  ·rename_i e he
   obtain ⟨hob,h⟩:=conj_iff.1 h
   simp only [List.length_cons,List.range'_succ]
   rw [wpOpsIn_cons' ho]
   refine stepE_sound hG hs (by omega) (fun _ _ h => h) he hob (hfit o (by simp)) fun ρ' v w' hle hs' => ?_
   have hs2:=hs'.weaken (D':=(· < base + (i + 1))) (fun r hr => by rcases hr with hr | hr <;> omega)
   refine regP_text hG rest (i + 1) _ ρ' _ w' h (fun j => by have:=hops (j + 1); simpa [Nat.add_assoc,Nat.add_comm 1 j] using this) (fun o ho => hfit o (by simp [ho])) hs2 fun s' ρ'' a' w'' k1 k2 kle k3 => hK s' ρ'' a' w'' k1 k2 (hle.trans kle) (k3.weaken fun r hr => by simp only [List.length_cons]; omega)
  ·exact h.elim
end
def opKind:Op→Nat
 | .load _ _ => 1
 | .alloc _ => 1
 | .box _ _ => 1
 | .buildSlice _ _ _ => 1
 | .makeSlice _ _ _ => 1
 | .call ⟨.builtin .append,_,_⟩ => 3
 | .store _ _ _ => 2
 | .call ⟨.value _,_,_⟩ => 1
 | .call ⟨.invoke _ _,_,_⟩ => 1
 | _ => 0
def kindAt (h:Hot) (i:Nat) (op:Op):Nat:=if callAt h i = true then 4 else opKind op
def rootIn (h:Hot) (i j:Nat):Bool:=match rootOf h.root i with
 | some r => (hideOf h.hide j).contains r
 | none => false
def Root.off (d:Option Tmp):Root→Bool
 | .slot q => d != some q
 | .made _ => true
 | .call => true
def rootsOff (h:Hot) (i:Nat) (d:Option Tmp):Bool:=(hideOf h.hide i).all (Root.off d) && match rootOf h.root i with
 | some r => r.off d
 | none => true
def comm (h:Hot) (ops:Array Oper) (i j:Nat) (x y:Oper):Bool:=
 x.apart ops y && (opKind x.op == 0 || opKind y.op == 0 || ((kindAt h i x.op == 1 || ((kindAt h i x.op == 2 || kindAt h i x.op == 3) && rootIn h i j)) && (kindAt h j y.op == 1 || ((kindAt h j y.op == 2 || kindAt h j y.op == 3) && rootIn h j i)))) && !(y.after.any fun e => e.on == i && Region.binds .any e) && !(x.after.any fun e => e.on == j && Region.binds .any e) && rootsOff h i y.dst && rootsOff h j x.dst
def maskOf (acc:List Nat) (o:Oper):Nat:=o.after.toList.foldl (fun s e => if Region.binds .any e then s ||| 2 ^ e.on ||| acc.getD e.on 0 else s) 0
def masks:List Oper→List Nat→List Nat
 | [],acc => acc
 | o :: rest,acc => masks rest (acc ++ [maskOf acc o])
def drawOK (h:Hot) (ops:Array Oper):Bool:=
 let ms:=masks ops.toList []
 (List.range ops.size).all fun i => match ops[i]? with
  | some y => (y.after.all fun e => !Region.binds .any e || decide (e.on < i)) && (List.range i).all fun j => (ms.getD i 0).testBit j || match ops[j]? with
   | some x => comm h ops j i x y
   | none => false
  | none => false
section
variable {P:Program} {G:Ctx} {ops:Array Oper} {base:Nat}
theorem masks_prefix:∀ (l:List Oper) (acc:List Nat) (k:Nat),k < acc.length→(masks l acc).getD k 0 = acc.getD k 0
 | [],acc,k,_ => rfl
 | o :: rest,acc,k,h => by
  simp only [masks]
  rw [masks_prefix rest _ k (by simp; omega)]
  simp [List.getD,List.getElem?_append_left h]
theorem masks_at:∀ (l:List Oper) (acc:List Nat) (k:Nat) (o:Oper),l[k]? = some o→∃ pre,(masks l acc).getD (acc.length + k) 0 = maskOf pre o∧∀ q,pre.getD q 0 = (masks l acc).getD q 0∨pre.getD q 0 = 0
 | [],acc,k,o,h => by simp at h
 | o' :: rest,acc,0,o,h => by
  simp at h; subst h
  refine ⟨acc,?_,fun q => ?_⟩
  ·simp only [masks,Nat.add_zero]
   rw [masks_prefix _ _ _ (by simp)]
   simp [List.getD]
  ·by_cases hq:q < acc.length
   ·left
    simp only [masks]
    rw [masks_prefix _ _ _ (by simp; omega)]
    simp [List.getD,List.getElem?_append_left hq]
   ·right
    simp [List.getD,List.getElem?_eq_none (Nat.le_of_not_lt hq)]
 | o' :: rest,acc,k + 1,o,h => by
  simp at h
  obtain ⟨pre,h1,h2⟩:=masks_at rest (acc ++ [maskOf acc o']) k o h
  refine ⟨pre,?_,fun q => h2 q⟩
  simp only [masks]
  rw [← h1]
  congr 1
  simp; omega
theorem maskOf_bit {acc:List Nat} {o:Oper} {b:Nat} (h:(maskOf acc o).testBit b = true):∃ e ∈ o.after,Region.binds .any e = true∧(e.on = b∨(acc.getD e.on 0).testBit b = true):=by
 unfold maskOf at h
 have key:∀ (l:List Edge) (s:Nat),(l.foldl (fun s e => if Region.binds .any e then s ||| 2 ^ e.on ||| acc.getD e.on 0 else s) s).testBit b = true →
   s.testBit b = true∨∃ e ∈ l,Region.binds .any e = true∧(e.on = b∨(acc.getD e.on 0).testBit b = true):=by
  intro l
  induction l with
  | nil => intro s h; exact .inl h
  | cons e l ih =>
   intro s h
   rw [List.foldl_cons] at h
   rcases ih _ h with h | ⟨e',he',h'⟩
   ·split at h
    ·rename_i hb
     rw [Nat.testBit_or,Nat.testBit_or,Bool.or_eq_true,Bool.or_eq_true] at h
     rcases h with (h | h) | h
     ·exact .inl h
     ·refine .inr ⟨e,by simp,hb,.inl ?_⟩
      simpa [Nat.testBit_two_pow] using h
     ·exact .inr ⟨e,by simp,hb,.inr h⟩
    ·exact .inl h
   ·exact .inr ⟨e',by simp [he'],h'⟩
 rcases key _ _ h with h | ⟨e,he,h⟩
 ·simp at h
 ·exact ⟨e,by simpa using he,h⟩
theorem mask_bit {i b:Nat} {o:Oper} (ho:ops[i]? = some o) (h:((masks ops.toList []).getD i 0).testBit b = true) :
  ∃ e ∈ o.after,Region.binds .any e = true∧(e.on = b∨((masks ops.toList []).getD e.on 0).testBit b = true):=by
 obtain ⟨pre,h1,h2⟩:=masks_at ops.toList [] i o (by simpa using ho)
 simp only [List.length_nil,Nat.zero_add] at h1
 rw [h1] at h
 obtain ⟨e,he,hb,h3⟩:=maskOf_bit h
 refine ⟨e,he,hb,h3.imp id fun h => ?_⟩
 rcases h2 e.on with e1 | e1
 ·rw [← e1]; exact h
 ·rw [e1] at h; simp at h
theorem aPure_congr {o:Oper} {ρ ρ':Operand→AV} (h:∀ x ∈ o.op.operands,ρ x = ρ' x) (hs:∀ cs b,o.op≠.select cs b):aPure P ρ o = aPure P ρ' o:=by
 unfold aPure
 rw [List.map_congr_left (fun x hx => h x (by simpa using hx))]
 rw [execOp_congr o hs fun x hx => by rw [h x hx]]
theorem aBuild_congr {ρ ρ':Operand→AV} {t:TypeId} {parts:List (Nat×Operand)} (h:∀ p ∈ parts,ρ p.2 = ρ' p.2):aBuild P ρ t parts = aBuild P ρ' t parts:=by
 have e:parts.map (fun (i,x) => (i,ρ x)) = parts.map fun (i,x) => (i,ρ' x):=List.map_congr_left fun p hp => by
  obtain ⟨i,x⟩:=p
  have:=h _ hp
  dsimp only at this ⊢
  rw [this]
 unfold aBuild
 rw [e]
theorem aBuildSlice_congr {ρ ρ':Operand→AV} {key:Nat} {t:TypeId} {len:Nat} {g:Option Bool} {parts:List (Nat×Operand)} (h:∀ p ∈ parts,ρ p.2 = ρ' p.2):aBuildSlice P ρ key t len parts g = aBuildSlice P ρ' key t len parts g:=by
 have e:parts.map (fun (i,x) => (i,ρ x)) = parts.map fun (i,x) => (i,ρ' x):=List.map_congr_left fun p hp => by
  obtain ⟨i,x⟩:=p
  have:=h _ hp
  dsimp only at this ⊢
  rw [this]
 unfold aBuildSlice
 rw [e]
theorem aPick_congr {ρ ρ':Operand→AV} {c a b:Operand} (h1:ρ c = ρ' c) (h2:ρ a = ρ' a) (h3:ρ b = ρ' b):aPick ρ c a b = aPick ρ' c a b:=by
 unfold aPick
 rw [h1]
 cases boolOf (strip (ρ' c)) with
 | none => rfl
 | some t =>
  simp only
  split
  ·rw [h3]
  ·rw [h2]
  ·rfl
theorem aop_congr {key:Nat} {g:Option Bool} {o:Oper} {ρ ρ':Operand→AV} {m:Mem} (hs:∀ cs b,o.op≠.select cs b) (h:∀ x ∈ o.op.operands,ρ x = ρ' x):aop P key g o ρ m = aop P key g o ρ' m:=by
 have hp:aPure P (fun x => strip (ρ x)) o = aPure P (fun x => strip (ρ' x)) o:=aPure_congr (fun x hx => by rw [h x hx]) hs
 unfold aop
 dsimp only
 rw [hp]
 obtain ⟨dst,op,type,pos,after,guard⟩:=o
 dsimp only at h ⊢
 cases op
 case pick c a b =>
  dsimp only
  rw [aPick_congr (h c (by simp [Op.operands])) (h a (by simp [Op.operands])) (h b (by simp [Op.operands]))]
 case build t parts =>
  dsimp only
  rw [aBuild_congr (ρ:=fun x => strip (ρ x)) (ρ':=fun x => strip (ρ' x)) fun p hp' => by rw [h p.2 (by simp [Op.operands]; exact ⟨p.1,by simpa using hp'⟩)]]
 case buildSlice t len parts =>
  dsimp only
  rw [aBuildSlice_congr (ρ:=fun x => strip (ρ x)) (ρ':=fun x => strip (ρ' x)) fun p hp' => by rw [h p.2 (by simp [Op.operands]; exact ⟨p.1,by simpa using hp'⟩)]]
 case makeFunc fn first cap =>
  have e:cap.toList.map (fun x => strip (ρ x)) = cap.toList.map fun x => strip (ρ' x):=List.map_congr_left fun x hx => by rw [h x (by simp [Op.operands]; exact .inr (by simpa using hx))]
  cases fn <;> first | rfl | (dsimp only; rw [e])
 case call c =>
  obtain ⟨callee,args,ats⟩:=c
  cases callee
  case value f => dsimp only
  case invoke r s => dsimp only
  case builtin b =>
   have e:args.toList.map (fun x => strip (ρ x)) = args.toList.map fun x => strip (ρ' x):=List.map_congr_left fun x hx => by rw [h x (by simp [Op.operands,Call.operands]; simpa using hx)]
   cases b <;> first | rfl | (dsimp only; rw [e])
 case move x => dsimp only; rw [h x (by simp [Op.operands])]
 case assign x => dsimp only; rw [h x (by simp [Op.operands])]
 case box t x => dsimp only; rw [h x (by simp [Op.operands])]
 case load t x => dsimp only; rw [h x (by simp [Op.operands])]
 case store t x y => dsimp only; rw [h x (by simp [Op.operands]),h y (by simp [Op.operands])]
 case fieldAddr t x f => dsimp only; rw [h x (by simp [Op.operands])]
 case field t x f => dsimp only; rw [h x (by simp [Op.operands])]
 case indexAddr t x y => dsimp only; rw [h x (by simp [Op.operands]),h y (by simp [Op.operands])]
 case makeInterface t x => dsimp only; rw [h x (by simp [Op.operands])]
 case extract x i => dsimp only; rw [h x (by simp [Op.operands])]
 case nilCheck x => dsimp only; rw [h x (by simp [Op.operands])]
 case typeAssert x t u ok => cases ok <;> (dsimp only; rw [h x (by simp [Op.operands])])
 case binOp op t x y u => cases op <;> first | rfl | (dsimp only; rw [h x (by simp [Op.operands]),h y (by simp [Op.operands])])
 all_goals rfl
theorem aExt_congr {key:Nat} {g:Option Bool} {o:Oper} {ρ ρ':Operand→AV} {m:Mem} (h:∀ x ∈ o.op.operands,ρ x = ρ' x):aExt P key g o ρ m = aExt P key g o ρ' m:=by
 unfold aExt
 split
 ·rename_i t l c ho
  rw [h l (by simp [ho,Op.operands]),h c (by simp [ho,Op.operands])]
 ·rename_i t x lo hi ho
  rw [h x (by simp [ho,Op.operands])]
  have e1:lo.map (fun y => strip (ρ y)) = lo.map (fun y => strip (ρ' y)):=by
   cases lo with
   | none => rfl
   | some y => simp only [Option.map_some]; rw [h y (by simp [ho,Op.operands])]
  have e2:hi.map (fun y => strip (ρ y)) = hi.map (fun y => strip (ρ' y)):=by
   cases hi with
   | none => rfl
   | some y => simp only [Option.map_some]; rw [h y (by simp [ho,Op.operands])]
  rw [e1,e2]
 ·rename_i args ats ho
  split
  ·rename_i s x t u hargs hats
   have m1:s ∈ args:=by have:s ∈ args.toList:=by rw [hargs]; simp
                        simpa using this
   have m2:x ∈ args:=by have:x ∈ args.toList:=by rw [hargs]; simp
                        simpa using this
   rw [h s (by simp [ho,Op.operands,Call.operands,m1]),h x (by simp [ho,Op.operands,Call.operands,m2])]
  ·rfl
 ·rfl
theorem aStep_congr {key:Nat} {g:Option Bool} {o:Oper} {ρ ρ':Operand→AV} {m:Mem} (hs:∀ cs b,o.op≠.select cs b) (h:∀ x ∈ o.op.operands,ρ x = ρ' x):aStep P G key g o ρ m = aStep P G key g o ρ' m:=by
 have ha:=aop_congr (P:=P) (key:=key) (g:=g) (m:=m) hs h
 unfold aStep
 split
 ·rename_i f args ats ho
  rw [h f (by simp [ho,Op.operands,Call.operands])]
  rw [List.map_congr_left fun x hx => by rw [h x (by simp [ho,Op.operands,Call.operands]; exact .inr (by simpa using hx))]]
 ·rename_i r name args ats ho
  rw [h r (by simp [ho,Op.operands,Call.operands])]
  rw [List.map_congr_left fun x hx => by rw [h x (by simp [ho,Op.operands,Call.operands]; exact .inr (by simpa using hx))]]
 ·split
  ·exact aExt_congr h
  ·exact ha
end
end Go.Ax
end