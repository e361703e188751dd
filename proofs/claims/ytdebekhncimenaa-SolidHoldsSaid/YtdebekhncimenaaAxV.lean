/-
  The evaluator's equations, of first order: each says what a function of evaluated operands is.
-/
import Derived.Test.YtdebekhncimenaaAxR
import Derived.Test.YtdebekhncimenaaAxU
set_option linter.unusedVariables false
set_option linter.unusedSimpArgs false
namespace Go.Ax

/-- The value of an operation on whole numbers: to be named. -/
def nm (k : IntKind) (e : Int) : AV := .v (.int k e)
/-- The result of a call: what is in it is to be named. -/
def bnd (a : AV) : AV := a
def bndE : Option Eff → Option Eff
  | some ⟨ob, v, u⟩ => some ⟨ob, bnd v, u⟩
  | none => none

section
variable {P : Program} {G : Ctx} {H : Hots} {K0 : AEx → St → Prop} {st : List Fr} {s : St} {hot : Option Hot} {ops : Array Oper} {rest : List Oper} {i j k n sz len key base : Nat} {t : Slots} {m : Mem} {nx : Nat} {d : Option Tmp} {ty : TypeId} {pos : String} {af : Array Edge} {gd : Option (Nat × Bool)} {g : Option Bool} {ρ0 : Operand → AV} {a b : AV} {l : List AV} {cs : List AV}

/-! ### Operands -/
theorem opd_tmp : opd t (.tmp j) = slot t j := (rfl)
theorem opd_const {x : Value} : opd t (.const x) = .v x := (rfl)
theorem opd_global {q : Nat} : opd t (.global q) = .v (.pointer (some ⟨q, 0, none⟩)) := (rfl)
theorem opd_func {f : FuncId} : opd t (.func f) = .fn f [] := (rfl)
theorem slot_cons : slot ((k, a) :: t) j = if k = j then a else slot t j := (rfl)
theorem slot_nil : slot [] j = .v undef := (rfl)

theorem strip_v {x : Value} : strip (.v x) = .v x := (rfl)
theorem strip_any : strip .any = .any := (rfl)
theorem strip_agg : strip (.agg l) = .agg l := (rfl)
theorem strip_tup : strip (.tup l) = .tup l := (rfl)
theorem strip_ro {f : Nat → List AV} : strip (.ro n sz f) = .ro n sz f := (rfl)
theorem strip_rop : strip (.rop l) = .rop l := (rfl)
theorem strip_bx : strip (.bx n k) = .bx n k := (rfl)
theorem strip_ptr {r f i sz k : Nat} : strip (.ptr r f i sz k) = .ptr r f i sz k := (rfl)
theorem strip_own {r f n sz : Nat} : strip (.own r f n sz) = .own r f n sz := (rfl)
theorem strip_vw {r f lo n sz : Nat} : strip (.vw r f lo n sz) = .vw r f lo n sz := (rfl)
theorem strip_fn {f : FuncId} : strip (.fn f l) = .fn f l := (rfl)
theorem strip_iface {q : TypeId} : strip (.iface q a) = .iface q a := (rfl)
theorem strip_cond {c : Bool} : strip (.cond c a) = a := (rfl)

theorem needs_nil : needs [] = [] := (rfl)
theorem needs_v {x : Value} : needs (.v x :: l) = needs l := (rfl)
theorem needs_any : needs (.any :: l) = needs l := (rfl)
theorem needs_agg : needs (.agg cs :: l) = needs l := (rfl)
theorem needs_tup : needs (.tup cs :: l) = needs l := (rfl)
theorem needs_ro {f : Nat → List AV} : needs (.ro n sz f :: l) = needs l := (rfl)
theorem needs_rop : needs (.rop cs :: l) = needs l := (rfl)
theorem needs_bx : needs (.bx n k :: l) = needs l := (rfl)
theorem needs_ptr {r f i sz k : Nat} : needs (.ptr r f i sz k :: l) = needs l := (rfl)
theorem needs_own {r f n sz : Nat} : needs (.own r f n sz :: l) = needs l := (rfl)
theorem needs_vw {r f lo n sz : Nat} : needs (.vw r f lo n sz :: l) = needs l := (rfl)
theorem needs_fn {f : FuncId} : needs (.fn f cs :: l) = needs l := (rfl)
theorem needs_iface {q : TypeId} : needs (.iface q a :: l) = needs l := (rfl)
theorem needs_cond {c : Bool} : needs (.cond c a :: l) = (c = true) :: needs l := (rfl)

theorem conj_nil {p : Prop} : conj [] p = p := (rfl)
theorem conj_cons {p q : Prop} {ps : List Prop} : conj (p :: ps) q = (p ∧ conj ps q) := (rfl)

/-! ### Cells -/
theorem isCell_bool {x : Bool} : isCell (.v (.bool x)) = true := (rfl)
theorem isCell_int {q : IntKind} {x : Int} : isCell (.v (.int q x)) = true := (rfl)
theorem isCell_string {x : ByteArray} : isCell (.v (.string x)) = true := (rfl)
theorem isCell_pointer {x : Option Addr} : isCell (.v (.pointer x)) = true := (rfl)
theorem isCell_slice {x : Option Addr} : isCell (.v (.slice x n k)) = true := (rfl)
theorem isCell_map {x : Option Nat} : isCell (.v (.map x)) = true := (rfl)
theorem isCell_nilFunc : isCell (.v .nilFunc) = true := (rfl)
theorem isCell_nilIface : isCell (.v .nilIface) = true := (rfl)
theorem isCell_ro {f : Nat → List AV} : isCell (.ro n sz f) = true := (rfl)
theorem isCell_rop : isCell (.rop l) = true := (rfl)
theorem isCell_bx : isCell (.bx n k) = true := (rfl)
theorem isCell_ptr {r f i sz k : Nat} : isCell (.ptr r f i sz k) = true := (rfl)
theorem isCell_own {r f n sz : Nat} : isCell (.own r f n sz) = true := (rfl)
theorem isCell_vw {r f lo n sz : Nat} : isCell (.vw r f lo n sz) = true := (rfl)
theorem isCell_fn {f : FuncId} : isCell (.fn f l) = true := (rfl)
theorem isCell_iface {q : TypeId} : isCell (.iface q a) = true := (rfl)
theorem allCells_nil : allCells [] = true := (rfl)
theorem allCells_cons : allCells (a :: l) = (isCell a && allCells l) := by
  rw [allCells]
  cases isCell a <;> rfl
def cellsAgg (c : Bool) (l : List AV) : Option (List AV) := match c with
  | true => some l
  | false => none
theorem cellsAgg_true : cellsAgg true l = some l := (rfl)
theorem cellsOf_agg : cellsOf (.agg l) = cellsAgg (allCells l) l := by
  kernel_rfl
theorem cellsOf_bool {x : Bool} : cellsOf (.v (.bool x)) = some [.v (.bool x)] := (rfl)
theorem cellsOf_int {q : IntKind} {x : Int} : cellsOf (.v (.int q x)) = some [.v (.int q x)] := (rfl)
theorem cellsOf_string {x : ByteArray} : cellsOf (.v (.string x)) = some [.v (.string x)] := (rfl)
theorem cellsOf_pointer {x : Option Addr} : cellsOf (.v (.pointer x)) = some [.v (.pointer x)] := (rfl)
theorem cellsOf_slice {x : Option Addr} : cellsOf (.v (.slice x n k)) = some [.v (.slice x n k)] := (rfl)
theorem cellsOf_map {x : Option Nat} : cellsOf (.v (.map x)) = some [.v (.map x)] := (rfl)
theorem cellsOf_nilFunc : cellsOf (.v .nilFunc) = some [.v .nilFunc] := (rfl)
theorem cellsOf_nilIface : cellsOf (.v .nilIface) = some [.v .nilIface] := (rfl)
theorem cellsOf_ro {f : Nat → List AV} : cellsOf (.ro n sz f) = some [.ro n sz f] := (rfl)
theorem cellsOf_rop : cellsOf (.rop l) = some [.rop l] := (rfl)
theorem cellsOf_bx : cellsOf (.bx n k) = some [.bx n k] := (rfl)
theorem cellsOf_ptr {r f i sz k : Nat} : cellsOf (.ptr r f i sz k) = some [.ptr r f i sz k] := (rfl)
theorem cellsOf_own {r f n sz : Nat} : cellsOf (.own r f n sz) = some [.own r f n sz] := (rfl)
theorem cellsOf_vw {r f lo n sz : Nat} : cellsOf (.vw r f lo n sz) = some [.vw r f lo n sz] := (rfl)
theorem cellsOf_fn {f : FuncId} : cellsOf (.fn f l) = some [.fn f l] := (rfl)
theorem cellsOf_iface {q : TypeId} : cellsOf (.iface q a) = some [.iface q a] := (rfl)

def ofC (x : Option (Bool × Nat)) (cs : List AV) : Option AV := match x with
  | some (true, n) => if n ≤ cs.length then some (.agg (cs.take n)) else none
  | some (false, _) => match cs with
    | c :: _ => some c
    | [] => none
  | none => none
theorem ofCells_eq : ofCells P ty cs = ofC (layT P ty) cs := by
  kernel_rfl
theorem ofC_agg : ofC (some (true, n)) cs = if n ≤ cs.length then some (.agg (cs.take n)) else none := (rfl)
theorem ofC_one : ofC (some (false, n)) (a :: cs) = some a := (rfl)

/-! ### A region -/
def withOb (l : List Prop) (x : Option Eff) : Option Eff := match x with
  | some ⟨ob, v, u⟩ => some ⟨l ++ ob, v, u⟩
  | none => none
theorem withOb_some {q ob : List Prop} {u : Upd} : withOb q (some ⟨ob, a, u⟩) = some ⟨q ++ ob, a, u⟩ := (rfl)
def owedL (p : Bool) (l : List AV) : List Prop := match p with
  | true => []
  | false => needs l
theorem owedL_true : owedL true l = [] := (rfl)
theorem owedL_false : owedL false l = needs l := (rfl)
theorem owed_L {op : Op} {ρ : Operand → AV} : owed ⟨d, op, ty, pos, af, gd⟩ ρ = owedL (isPick op) (op.operands.toList.map ρ) := by
  unfold owed owedL
  dsimp only
  cases isPick op <;> rfl
/-- What an operation's operands owe. -/
def owedV (t : Slots) (op : Op) : List Prop := owedL (isPick op) (op.operands.toList.map (opd t))
section
variable {x y z : Operand}
theorem owedV_move : owedV t (.move x) = needs [opd t x] := (rfl)
theorem owedV_assign : owedV t (.assign x) = needs [opd t x] := (rfl)
theorem owedV_pick : owedV t (.pick x y z) = [] := (rfl)
theorem owedV_alloc : owedV t (.alloc ty) = [] := (rfl)
theorem owedV_box : owedV t (.box ty x) = needs [opd t x] := (rfl)
def rawP (t : Slots) : List (Nat × Operand) → List AV
  | [] => []
  | (_, x) :: r => opd t x :: rawP t r
theorem rawP_eq : ∀ {l : List (Nat × Operand)}, (l.map (·.2)).map (opd t) = rawP t l
  | [] => rfl
  | (_, x) :: l => by rw [List.map_cons, List.map_cons, rawP_eq]; rfl
theorem rawP_nil : rawP t [] = [] := (rfl)
theorem rawP_cons {r : List (Nat × Operand)} : rawP t ((i, x) :: r) = opd t x :: rawP t r := (rfl)
def rawV (t : Slots) : List Operand → List AV
  | [] => []
  | x :: r => opd t x :: rawV t r
theorem rawV_eq : ∀ {l : List Operand}, l.map (opd t) = rawV t l
  | [] => rfl
  | x :: l => by rw [List.map_cons, rawV_eq]; rfl
theorem rawV_nil : rawV t [] = [] := (rfl)
theorem rawV_cons {r : List Operand} : rawV t (x :: r) = opd t x :: rawV t r := (rfl)
theorem owedV_build {l : List (Nat × Operand)} : owedV t (.build ty l.toArray) = needs (rawP t l) := by rw [← rawP_eq]; rfl
theorem owedV_buildSlice {l : List (Nat × Operand)} : owedV t (.buildSlice ty n l.toArray) = needs (rawP t l) := by rw [← rawP_eq]; rfl
theorem owedV_load : owedV t (.load ty x) = needs [opd t x] := (rfl)
theorem owedV_store : owedV t (.store ty x y) = needs [opd t x, opd t y] := (rfl)
theorem owedV_nilCheck : owedV t (.nilCheck x) = needs [opd t x] := (rfl)
theorem owedV_binOp {op : BinOp} {u : TypeId} : owedV t (.binOp op ty x y u) = needs [opd t x, opd t y] := (rfl)
theorem owedV_unOp {op : UnOp} : owedV t (.unOp op ty x) = needs [opd t x] := (rfl)
theorem owedV_convert {u : TypeId} : owedV t (.convert ty u x) = needs [opd t x] := (rfl)
theorem owedV_makeInterface : owedV t (.makeInterface ty x) = needs [opd t x] := (rfl)
theorem owedV_makeFunc {f : Fn} {l : List Operand} : owedV t (.makeFunc f #[] l.toArray) = needs (rawV t l) := by
  rw [← rawV_eq]; simp [owedV, owedL, isPick, Op.operands]
theorem owedV_makeSlice : owedV t (.makeSlice ty x y) = needs [opd t x, opd t y] := (rfl)
theorem owedV_slice {lo hi mx : Option Operand} : owedV t (.slice ty x lo hi mx) = needs (opd t x :: (rawV t lo.toList ++ rawV t hi.toList ++ rawV t mx.toList)) := by
  rw [← rawV_eq, ← rawV_eq, ← rawV_eq]; simp [owedV, owedL, isPick, Op.operands]
theorem owedV_fieldAddr {f : Nat} : owedV t (.fieldAddr ty x f) = needs [opd t x] := (rfl)
theorem owedV_field {f : Nat} : owedV t (.field ty x f) = needs [opd t x] := (rfl)
theorem owedV_indexAddr : owedV t (.indexAddr ty x y) = needs [opd t x, opd t y] := (rfl)
theorem owedV_index : owedV t (.index ty x y) = needs [opd t x, opd t y] := (rfl)
theorem owedV_typeAssert {u : TypeId} {c : Bool} : owedV t (.typeAssert x ty u c) = needs [opd t x] := (rfl)
theorem owedV_extract : owedV t (.extract x i) = needs [opd t x] := (rfl)
theorem owedV_callB {f : Builtin} {l : List Operand} {q : Array TypeId} : owedV t (.call ⟨.builtin f, l.toArray, q⟩) = needs (rawV t l) := by
  rw [← rawV_eq]; simp [owedV, owedL, isPick, Op.operands, Call.operands]
theorem owedV_callV {l : List Operand} {q : Array TypeId} : owedV t (.call ⟨.value x, l.toArray, q⟩) = needs (opd t x :: rawV t l) := by
  rw [← rawV_eq]; simp [owedV, owedL, isPick, Op.operands, Call.operands]
theorem owedV_callI {f : String} {l : List Operand} {q : Array TypeId} : owedV t (.call ⟨.invoke x f, l.toArray, q⟩) = needs (opd t x :: rawV t l) := by
  rw [← rawV_eq]; simp [owedV, owedL, isPick, Op.operands, Call.operands]
end
theorem regC_free {op : Op} : regC P G H K0 hot ops (⟨d, op, ty, pos, af, none⟩ :: rest) i st t m nx =
    stepC P G H K0 hot ops d rest i st t m nx (withOb (owedV t op) (aStep P G (nx + i) none ⟨d, op, ty, pos, af, none⟩ (opd t) (memFor hot nx i ⟨d, op, ty, pos, af, none⟩ t m))) := by
  rw [regC_cons, stepE_free1]
  congr 1
  unfold owedV
  rw [← owed_L]
  cases aStep P G (nx + i) none ⟨d, op, ty, pos, af, none⟩ (opd t) (memFor hot nx i ⟨d, op, ty, pos, af, none⟩ t m) <;> rfl
def condV (b : Bool) (v : AV) : AV := .cond b v
def guardM (b c : Bool) (ob : List Prop) (v : AV) (u : Upd) : Option Eff := match c with
  | true => some ⟨ob.map (b = true → ·), condV b v, u⟩
  | false => none
theorem guardM_true {b : Bool} {ob : List Prop} {u : Upd} : guardM b true ob a u = some ⟨ob.map (b = true → ·), condV b a, u⟩ := (rfl)
def guardE (b : Bool) (l : List Prop) (x : Option Eff) : Option Eff := match x with
  | some ⟨ob, v, u⟩ => guardM b u.mild (l ++ ob) v u
  | none => none
theorem guardE_some {b : Bool} {q ob : List Prop} {u : Upd} : guardE b q (some ⟨ob, a, u⟩) = guardM b u.mild (q ++ ob) a u := (rfl)
def guardS (P : Program) (G : Ctx) (key : Nat) (o : Oper) (t : Slots) (m : Mem) (x : Option Bool) : Option Eff := match x with
  | some b => guardE b (owed o (opd t)) (aStep P G key (some b) o (opd t) m)
  | none => none
theorem guardS_some {b : Bool} {op : Op} : guardS P G key ⟨d, op, ty, pos, af, gd⟩ t m (some b) = guardE b (owedV t op) (aStep P G key (some b) ⟨d, op, ty, pos, af, gd⟩ (opd t) m) := by
  unfold owedV
  rw [← owed_L]; rfl
theorem regC_guard {op : Op} {q : Nat × Bool} : regC P G H K0 hot ops (⟨d, op, ty, pos, af, some q⟩ :: rest) i st t m nx =
    stepC P G H K0 hot ops d rest i st t m nx (guardS P G (nx + i) ⟨d, op, ty, pos, af, some q⟩ t (memFor hot nx i ⟨d, op, ty, pos, af, some q⟩ t m) (guardOf ops (slot t) q)) := by
  rw [regC_cons, stepE_guard1]
  congr 1
  unfold guardS
  cases guardOf ops (slot t) q with
  | none => rfl
  | some b =>
    simp only [optB]
    cases aStep P G (nx + i) (some b) ⟨d, op, ty, pos, af, some q⟩ (opd t) (memFor hot nx i ⟨d, op, ty, pos, af, some q⟩ t m) with
    | none => rfl
    | some e =>
      obtain ⟨ob, v, u⟩ := e
      simp only [guardE, guardM, ifB, condV]
      cases u.mild <;> rfl
/-- A guard's value. -/
def gval (w : Bool) (x : AV) : Option Bool := match x with
  | .v (.bool b) => some (match w with | true => b | false => !b)
  | .cond c (.v (.bool b)) => some (c && (match w with | true => b | false => !b))
  | _ => none
def gslot (w : Bool) (sl : Nat → AV) (x : Option Oper) : Option Bool := match x with
  | some ⟨some d, _, _, _, _, _⟩ => gval w (sl d)
  | _ => none
theorem gslot_some {w : Bool} {sl : Nat → AV} {q : Tmp} {op : Op} : gslot w sl (some ⟨some q, op, ty, pos, af, gd⟩) = gval w (sl q) := (rfl)
theorem guardOf_eq {sl : Nat → AV} {q : Nat} {w : Bool} : guardOf ops sl (q, w) = gslot w sl ops[q]? := by
  unfold guardOf gslot gval
  dsimp only
  cases ops[q]? with
  | none => rfl
  | some o =>
    obtain ⟨d, op, ty, pos, af, gd⟩ := o
    cases d <;> rfl
theorem gval_t {x : Bool} : gval true (.v (.bool x)) = some x := (rfl)
theorem gval_f {x : Bool} : gval false (.v (.bool x)) = some (!x) := (rfl)
theorem gval_ct {c x : Bool} : gval true (.cond c (.v (.bool x))) = some (c && x) := (rfl)
theorem gval_cf {c x : Bool} : gval false (.cond c (.v (.bool x))) = some (c && !x) := (rfl)

theorem memFor_none {o : Oper} : memFor none base i o t m = m := (rfl)
theorem rootOK_none {u : Upd} : rootOK none base i t u = true := (rfl)
theorem hotOf_false {id : Nat} : hotOf H id false = none := (rfl)
theorem hotOf_true {id : Nat} : hotOf H id true = some (hotAt H id) := (rfl)

/-- What came of an operation goes into its slot; what is to be named is named. -/
def bindC (P : Program) (G : Ctx) (H : Hots) (K0 : AEx → St → Prop) (hot : Option Hot) (ops : Array Oper) (d : Option Tmp) (rest : List Oper) (i : Nat) (st : List Fr) (t : Slots) (m : Mem) (nx : Nat) (ob : List Prop) (u : Upd) (a : AV) : Prop :=
  rootC P G H K0 hot ops rest i st nx ob (putSlot d a t) (u.app (nx + i) m) (rootOK hot nx i t u)
theorem stepC_eff {ob : List Prop} {u : Upd} : stepC P G H K0 hot ops d rest i st t m nx (some ⟨ob, a, u⟩) = bindC P G H K0 hot ops d rest i st t m nx ob u a := (rfl)
theorem bindC_nm {ob : List Prop} {u : Upd} {q : IntKind} {e : Int} : bindC P G H K0 hot ops d rest i st t m nx ob u (nm q e) = ∀ z, z = e → bindC P G H K0 hot ops d rest i st t m nx ob u (.v (.int q z)) := by
  simp only [forall_eq]; rfl
theorem bindC_cnm {ob : List Prop} {u : Upd} {q : IntKind} {e : Int} {c : Bool} : bindC P G H K0 hot ops d rest i st t m nx ob u (condV c (nm q e)) = ∀ z, z = e → bindC P G H K0 hot ops d rest i st t m nx ob u (condV c (.v (.int q z))) := by
  simp only [forall_eq]; rfl
theorem bindC_put {ob : List Prop} {u : Upd} : bindC P G H K0 hot ops d rest i st t m nx ob u a = rootC P G H K0 hot ops rest i st nx ob (putSlot d a t) (u.app (nx + i) m) (rootOK hot nx i t u) := (rfl)
theorem bindC_v {ob : List Prop} {u : Upd} {x : Value} : bindC P G H K0 hot ops d rest i st t m nx ob u (.v x) = rootC P G H K0 hot ops rest i st nx ob (putSlot d (.v x) t) (u.app (nx + i) m) (rootOK hot nx i t u) := (rfl)
theorem bindC_any {ob : List Prop} {u : Upd} : bindC P G H K0 hot ops d rest i st t m nx ob u .any = rootC P G H K0 hot ops rest i st nx ob (putSlot d .any t) (u.app (nx + i) m) (rootOK hot nx i t u) := (rfl)
theorem bindC_agg {ob : List Prop} {u : Upd} : bindC P G H K0 hot ops d rest i st t m nx ob u (.agg l) = rootC P G H K0 hot ops rest i st nx ob (putSlot d (.agg l) t) (u.app (nx + i) m) (rootOK hot nx i t u) := (rfl)
theorem bindC_tup {ob : List Prop} {u : Upd} : bindC P G H K0 hot ops d rest i st t m nx ob u (.tup l) = rootC P G H K0 hot ops rest i st nx ob (putSlot d (.tup l) t) (u.app (nx + i) m) (rootOK hot nx i t u) := (rfl)
theorem bindC_ro {ob : List Prop} {u : Upd} {f : Nat → List AV} : bindC P G H K0 hot ops d rest i st t m nx ob u (.ro n sz f) = rootC P G H K0 hot ops rest i st nx ob (putSlot d (.ro n sz f) t) (u.app (nx + i) m) (rootOK hot nx i t u) := (rfl)
theorem bindC_rop {ob : List Prop} {u : Upd} : bindC P G H K0 hot ops d rest i st t m nx ob u (.rop l) = rootC P G H K0 hot ops rest i st nx ob (putSlot d (.rop l) t) (u.app (nx + i) m) (rootOK hot nx i t u) := (rfl)
theorem bindC_bx {ob : List Prop} {u : Upd} : bindC P G H K0 hot ops d rest i st t m nx ob u (.bx n k) = rootC P G H K0 hot ops rest i st nx ob (putSlot d (.bx n k) t) (u.app (nx + i) m) (rootOK hot nx i t u) := (rfl)
theorem bindC_ptr {ob : List Prop} {u : Upd} {r f j sz k : Nat} : bindC P G H K0 hot ops d rest i st t m nx ob u (.ptr r f j sz k) = rootC P G H K0 hot ops rest i st nx ob (putSlot d (.ptr r f j sz k) t) (u.app (nx + i) m) (rootOK hot nx i t u) := (rfl)
theorem bindC_own {ob : List Prop} {u : Upd} {r f n sz : Nat} : bindC P G H K0 hot ops d rest i st t m nx ob u (.own r f n sz) = rootC P G H K0 hot ops rest i st nx ob (putSlot d (.own r f n sz) t) (u.app (nx + i) m) (rootOK hot nx i t u) := (rfl)
theorem bindC_vw {ob : List Prop} {u : Upd} {r f lo n sz : Nat} : bindC P G H K0 hot ops d rest i st t m nx ob u (.vw r f lo n sz) = rootC P G H K0 hot ops rest i st nx ob (putSlot d (.vw r f lo n sz) t) (u.app (nx + i) m) (rootOK hot nx i t u) := (rfl)
theorem bindC_fn {ob : List Prop} {u : Upd} {f : FuncId} : bindC P G H K0 hot ops d rest i st t m nx ob u (.fn f l) = rootC P G H K0 hot ops rest i st nx ob (putSlot d (.fn f l) t) (u.app (nx + i) m) (rootOK hot nx i t u) := (rfl)
theorem bindC_iface {ob : List Prop} {u : Upd} {q : TypeId} : bindC P G H K0 hot ops d rest i st t m nx ob u (.iface q a) = rootC P G H K0 hot ops rest i st nx ob (putSlot d (.iface q a) t) (u.app (nx + i) m) (rootOK hot nx i t u) := (rfl)
def putC (c : Bool) (a : AV) : AV := .cond c a
theorem putSlot_some {q : Tmp} : putSlot (some q) a t = (q, a) :: t := (rfl)
theorem putSlot_none : putSlot none a t = t := (rfl)
/-- Under a guard. -/
theorem bindC_cond {ob : List Prop} {u : Upd} {c : Bool} : bindC P G H K0 hot ops d rest i st t m nx ob u (condV c a) = rootC P G H K0 hot ops rest i st nx ob (putSlot d (.cond c a) t) (u.app (nx + i) m) (rootOK hot nx i t u) := (rfl)
theorem bindC_ite {ob : List Prop} {u : Upd} {p : Prop} [Decidable p] : bindC P G H K0 hot ops d rest i st t m nx ob u (bnd (if p then a else b)) =
    ((p → bindC P G H K0 hot ops d rest i st t m nx ob u (bnd a)) ∧ (¬ p → bindC P G H K0 hot ops d rest i st t m nx ob u (bnd b))) := by
  by_cases h : p <;> simp [h]

/-- The parts of an aggregate or a tuple are named one after the other. -/
def bindL (P : Program) (G : Ctx) (H : Hots) (K0 : AEx → St → Prop) (hot : Option Hot) (ops : Array Oper) (d : Option Tmp) (rest : List Oper) (i : Nat) (st : List Fr) (t : Slots) (m : Mem) (nx : Nat) (ob : List Prop) (u : Upd) (tag : Bool) (done todo : List AV) : Prop :=
  bindC P G H K0 hot ops d rest i st t m nx ob u (match tag with | true => .tup (done ++ todo) | false => .agg (done ++ todo))
theorem bindC_bint {ob : List Prop} {u : Upd} {q : IntKind} {e : Int} : bindC P G H K0 hot ops d rest i st t m nx ob u (bnd (.v (.int q e))) = ∀ z, z = e → bindC P G H K0 hot ops d rest i st t m nx ob u (.v (.int q z)) := by
  simp only [forall_eq]; rfl
theorem bindC_bbool {ob : List Prop} {u : Upd} {e : Bool} : bindC P G H K0 hot ops d rest i st t m nx ob u (bnd (.v (.bool e))) = ∀ z, z = e → bindC P G H K0 hot ops d rest i st t m nx ob u (.v (.bool z)) := by
  simp only [forall_eq]; rfl
theorem bindC_bnilI {ob : List Prop} {u : Upd} : bindC P G H K0 hot ops d rest i st t m nx ob u (bnd (.v .nilIface)) = bindC P G H K0 hot ops d rest i st t m nx ob u (.v .nilIface) := (rfl)
theorem bindC_bnilS {ob : List Prop} {u : Upd} {x : Option Addr} : bindC P G H K0 hot ops d rest i st t m nx ob u (bnd (.v (.slice x n k))) = bindC P G H K0 hot ops d rest i st t m nx ob u (.v (.slice x n k)) := (rfl)
theorem bindC_bro {ob : List Prop} {u : Upd} {f : Nat → List AV} : bindC P G H K0 hot ops d rest i st t m nx ob u (bnd (.ro n sz f)) = bindC P G H K0 hot ops d rest i st t m nx ob u (.ro n sz f) := (rfl)
theorem bindC_brop {ob : List Prop} {u : Upd} : bindC P G H K0 hot ops d rest i st t m nx ob u (bnd (.rop l)) = bindC P G H K0 hot ops d rest i st t m nx ob u (.rop l) := (rfl)
theorem bindC_bfn {ob : List Prop} {u : Upd} {f : FuncId} : bindC P G H K0 hot ops d rest i st t m nx ob u (bnd (.fn f l)) = bindC P G H K0 hot ops d rest i st t m nx ob u (.fn f l) := (rfl)
theorem bindC_biface {ob : List Prop} {u : Upd} {q : TypeId} : bindC P G H K0 hot ops d rest i st t m nx ob u (bnd (.iface q a)) = bindC P G H K0 hot ops d rest i st t m nx ob u (.iface q a) := (rfl)
theorem bindC_bagg {ob : List Prop} {u : Upd} : bindC P G H K0 hot ops d rest i st t m nx ob u (bnd (.agg l)) = bindL P G H K0 hot ops d rest i st t m nx ob u false [] l := (rfl)
theorem bindC_btup {ob : List Prop} {u : Upd} : bindC P G H K0 hot ops d rest i st t m nx ob u (bnd (.tup l)) = bindL P G H K0 hot ops d rest i st t m nx ob u true [] l := (rfl)
theorem bindL_int {ob : List Prop} {u : Upd} {tag : Bool} {q : IntKind} {e : Int} : bindL P G H K0 hot ops d rest i st t m nx ob u tag l (.v (.int q e) :: cs) = ∀ z, z = e → bindL P G H K0 hot ops d rest i st t m nx ob u tag (l ++ [.v (.int q z)]) cs := by
  simp only [forall_eq]
  unfold bindL
  simp only [List.append_assoc, List.singleton_append]
theorem bindL_bool {ob : List Prop} {u : Upd} {tag : Bool} {e : Bool} : bindL P G H K0 hot ops d rest i st t m nx ob u tag l (.v (.bool e) :: cs) = ∀ z, z = e → bindL P G H K0 hot ops d rest i st t m nx ob u tag (l ++ [.v (.bool z)]) cs := by
  simp only [forall_eq]
  unfold bindL
  simp only [List.append_assoc, List.singleton_append]
theorem bindL_skip {ob : List Prop} {u : Upd} {tag : Bool} : bindL P G H K0 hot ops d rest i st t m nx ob u tag l (a :: cs) = bindL P G H K0 hot ops d rest i st t m nx ob u tag (l ++ [a]) cs := by
  unfold bindL
  simp only [List.append_assoc, List.singleton_append]
theorem bindL_ro {ob : List Prop} {u : Upd} {tag : Bool} {f : Nat → List AV} : bindL P G H K0 hot ops d rest i st t m nx ob u tag l (.ro n sz f :: cs) = bindL P G H K0 hot ops d rest i st t m nx ob u tag (l ++ [.ro n sz f]) cs := bindL_skip
theorem bindL_nilS {ob : List Prop} {u : Upd} {tag : Bool} {x : Option Addr} : bindL P G H K0 hot ops d rest i st t m nx ob u tag l (.v (.slice x n k) :: cs) = bindL P G H K0 hot ops d rest i st t m nx ob u tag (l ++ [.v (.slice x n k)]) cs := bindL_skip
theorem bindL_nilI {ob : List Prop} {u : Upd} {tag : Bool} : bindL P G H K0 hot ops d rest i st t m nx ob u tag l (.v .nilIface :: cs) = bindL P G H K0 hot ops d rest i st t m nx ob u tag (l ++ [.v .nilIface]) cs := bindL_skip
theorem bindL_iface {ob : List Prop} {u : Upd} {tag : Bool} {q : TypeId} : bindL P G H K0 hot ops d rest i st t m nx ob u tag l (.iface q a :: cs) = bindL P G H K0 hot ops d rest i st t m nx ob u tag (l ++ [.iface q a]) cs := bindL_skip
theorem bindL_agg {ob : List Prop} {u : Upd} {tag : Bool} {q : List AV} : bindL P G H K0 hot ops d rest i st t m nx ob u tag l (.agg q :: cs) = bindL P G H K0 hot ops d rest i st t m nx ob u tag (l ++ [.agg q]) cs := bindL_skip
theorem bindL_nilT {ob : List Prop} {u : Upd} : bindL P G H K0 hot ops d rest i st t m nx ob u true l [] = bindC P G H K0 hot ops d rest i st t m nx ob u (.tup l) := by
  unfold bindL; simp
theorem bindL_nilA {ob : List Prop} {u : Upd} : bindL P G H K0 hot ops d rest i st t m nx ob u false l [] = bindC P G H K0 hot ops d rest i st t m nx ob u (.agg l) := by
  unfold bindL; simp
theorem bindC_cbint {ob : List Prop} {u : Upd} {c : Bool} {q : IntKind} {e : Int} : bindC P G H K0 hot ops d rest i st t m nx ob u (condV c (bnd (.v (.int q e)))) = ∀ z, z = e → bindC P G H K0 hot ops d rest i st t m nx ob u (condV c (.v (.int q z))) := by
  simp only [forall_eq]; rfl
theorem bindC_cbbool {ob : List Prop} {u : Upd} {c : Bool} {e : Bool} : bindC P G H K0 hot ops d rest i st t m nx ob u (condV c (bnd (.v (.bool e)))) = ∀ z, z = e → bindC P G H K0 hot ops d rest i st t m nx ob u (condV c (.v (.bool z))) := by
  simp only [forall_eq]; rfl
theorem bindC_cbagg {ob : List Prop} {u : Upd} {c : Bool} : bindC P G H K0 hot ops d rest i st t m nx ob u (condV c (bnd (.agg l))) = bindC P G H K0 hot ops d rest i st t m nx ob u (condV c (.agg l)) := (rfl)
theorem bindC_cbtup {ob : List Prop} {u : Upd} {c : Bool} : bindC P G H K0 hot ops d rest i st t m nx ob u (condV c (bnd (.tup l))) = bindC P G H K0 hot ops d rest i st t m nx ob u (condV c (.tup l)) := (rfl)
theorem bindC_kv {ob : List Prop} {u : Upd} {c : Bool} {x : Value} : bindC P G H K0 hot ops d rest i st t m nx ob u (condV c (.v x)) = rootC P G H K0 hot ops rest i st nx ob (putSlot d (.cond c (.v x)) t) (u.app (nx + i) m) (rootOK hot nx i t u) := (rfl)
theorem bindC_kany {ob : List Prop} {u : Upd} {c : Bool}  : bindC P G H K0 hot ops d rest i st t m nx ob u (condV c (.any)) = rootC P G H K0 hot ops rest i st nx ob (putSlot d (.cond c (.any)) t) (u.app (nx + i) m) (rootOK hot nx i t u) := (rfl)
theorem bindC_kagg {ob : List Prop} {u : Upd} {c : Bool}  : bindC P G H K0 hot ops d rest i st t m nx ob u (condV c (.agg l)) = rootC P G H K0 hot ops rest i st nx ob (putSlot d (.cond c (.agg l)) t) (u.app (nx + i) m) (rootOK hot nx i t u) := (rfl)
theorem bindC_ktup {ob : List Prop} {u : Upd} {c : Bool}  : bindC P G H K0 hot ops d rest i st t m nx ob u (condV c (.tup l)) = rootC P G H K0 hot ops rest i st nx ob (putSlot d (.cond c (.tup l)) t) (u.app (nx + i) m) (rootOK hot nx i t u) := (rfl)
theorem bindC_kro {ob : List Prop} {u : Upd} {c : Bool} {f : Nat → List AV} : bindC P G H K0 hot ops d rest i st t m nx ob u (condV c (.ro n sz f)) = rootC P G H K0 hot ops rest i st nx ob (putSlot d (.cond c (.ro n sz f)) t) (u.app (nx + i) m) (rootOK hot nx i t u) := (rfl)
theorem bindC_krop {ob : List Prop} {u : Upd} {c : Bool}  : bindC P G H K0 hot ops d rest i st t m nx ob u (condV c (.rop l)) = rootC P G H K0 hot ops rest i st nx ob (putSlot d (.cond c (.rop l)) t) (u.app (nx + i) m) (rootOK hot nx i t u) := (rfl)
theorem bindC_kbx {ob : List Prop} {u : Upd} {c : Bool} {r k : Nat} : bindC P G H K0 hot ops d rest i st t m nx ob u (condV c (.bx r k)) = rootC P G H K0 hot ops rest i st nx ob (putSlot d (.cond c (.bx r k)) t) (u.app (nx + i) m) (rootOK hot nx i t u) := (rfl)
theorem bindC_kptr {ob : List Prop} {u : Upd} {c : Bool} {r f j z k : Nat} : bindC P G H K0 hot ops d rest i st t m nx ob u (condV c (.ptr r f j z k)) = rootC P G H K0 hot ops rest i st nx ob (putSlot d (.cond c (.ptr r f j z k)) t) (u.app (nx + i) m) (rootOK hot nx i t u) := (rfl)
theorem bindC_kown {ob : List Prop} {u : Upd} {c : Bool} {r f : Nat} : bindC P G H K0 hot ops d rest i st t m nx ob u (condV c (.own r f n sz)) = rootC P G H K0 hot ops rest i st nx ob (putSlot d (.cond c (.own r f n sz)) t) (u.app (nx + i) m) (rootOK hot nx i t u) := (rfl)
theorem bindC_kvw {ob : List Prop} {u : Upd} {c : Bool} {r f lo : Nat} : bindC P G H K0 hot ops d rest i st t m nx ob u (condV c (.vw r f lo n sz)) = rootC P G H K0 hot ops rest i st nx ob (putSlot d (.cond c (.vw r f lo n sz)) t) (u.app (nx + i) m) (rootOK hot nx i t u) := (rfl)
theorem bindC_kfn {ob : List Prop} {u : Upd} {c : Bool} {f : FuncId} : bindC P G H K0 hot ops d rest i st t m nx ob u (condV c (.fn f l)) = rootC P G H K0 hot ops rest i st nx ob (putSlot d (.cond c (.fn f l)) t) (u.app (nx + i) m) (rootOK hot nx i t u) := (rfl)
theorem bindC_kiface {ob : List Prop} {u : Upd} {c : Bool} {q : TypeId} : bindC P G H K0 hot ops d rest i st t m nx ob u (condV c (.iface q a)) = rootC P G H K0 hot ops rest i st nx ob (putSlot d (.cond c (.iface q a)) t) (u.app (nx + i) m) (rootOK hot nx i t u) := (rfl)

theorem rootC_conj {ob : List Prop} : rootC P G H K0 hot ops rest i st nx ob t m true = conj ob (regC P G H K0 hot ops rest (i + 1) st t m nx) := (rfl)

/-! ### Rows -/
theorem look_nil {r : Nat} : look [] r = none := (rfl)
theorem look_cons {r : Nat} {x : Fam} : look ((k, x) :: m) r = if k = r then some x else look m r := (rfl)
theorem setRow_nil {r : Nat} {x : Fam} : setRow r x [] = [] := (rfl)
theorem setRow_cons {r : Nat} {x y : Fam} : setRow r x ((k, y) :: m) = if k = r then (k, x) :: m else (k, y) :: setRow r x m := (rfl)
theorem insRow_nil {x : Fam} : insRow k x [] = [(k, x)] := (rfl)
theorem insRow_cons {x y : Fam} : insRow k x ((j, y) :: m) = if j < k then (k, x) :: (j, y) :: m else (j, y) :: insRow k x m := (rfl)
theorem dropRow_nil {r : Nat} : dropRow r [] = [] := (rfl)
theorem dropRow_cons {r : Nat} {y : Fam} : dropRow r ((k, y) :: m) = if k = r then dropRow r m else (k, y) :: dropRow r m := (rfl)
theorem app_none : Upd.app key m .none = m := (rfl)
theorem app_new {x : Fam} : Upd.app key m (.new x) = insRow key x m := (rfl)
theorem app_set {r : Nat} {x : Fam} : Upd.app key m (.set r x) = setRow r x m := (rfl)
theorem app_swap {r : Nat} {x : Fam} : Upd.app key m (.swap r x) = insRow key x (dropRow r m) := (rfl)
theorem mild_none : Upd.mild .none = true := (rfl)
theorem mild_new {x : Fam} : Upd.mild (.new x) = true := (rfl)

/-- A row of one element. -/
def fam1 (ty : TypeId) (sz : Nat) (cs : List AV) (g : Option Bool) : Fam := fun f => if f = 0 then ⟨1, sz, ty, fun _ => cs, g⟩ else ⟨0, sz, ty, fun _ => [], g⟩
theorem aAlloc_eq : aAlloc key ty cs g = ⟨[], .bx key 0, .new (fam1 ty cs.length cs g)⟩ := (rfl)
def allocZ (key : Nat) (t : TypeId) (g : Option Bool) (z : Option Value) : Option Eff := match z with
  | some z => some (aAlloc key t (z.cells.toList.map .v) g)
  | none => none
theorem allocZ_agg {z : Array Value} : allocZ key ty g (some (.agg z)) = some ⟨[], .bx key 0, .new (fam1 ty (z.toList.map AV.v).length (z.toList.map .v) g)⟩ := (rfl)
theorem allocZ_int {q : IntKind} {x : Int} : allocZ key ty g (some (.int q x)) = some ⟨[], .bx key 0, .new (fam1 ty 1 [.v (.int q x)] g)⟩ := (rfl)
theorem allocZ_bool {x : Bool} : allocZ key ty g (some (.bool x)) = some ⟨[], .bx key 0, .new (fam1 ty 1 [.v (.bool x)] g)⟩ := (rfl)
theorem allocZ_string {x : ByteArray} : allocZ key ty g (some (.string x)) = some ⟨[], .bx key 0, .new (fam1 ty 1 [.v (.string x)] g)⟩ := (rfl)
theorem allocZ_slice {x : Option Addr} : allocZ key ty g (some (.slice x n k)) = some ⟨[], .bx key 0, .new (fam1 ty 1 [.v (.slice x n k)] g)⟩ := (rfl)
theorem allocZ_pointer {x : Option Addr} : allocZ key ty g (some (.pointer x)) = some ⟨[], .bx key 0, .new (fam1 ty 1 [.v (.pointer x)] g)⟩ := (rfl)
theorem allocZ_nilIface : allocZ key ty g (some .nilIface) = some ⟨[], .bx key 0, .new (fam1 ty 1 [.v .nilIface] g)⟩ := (rfl)
theorem allocZ_nilFunc : allocZ key ty g (some .nilFunc) = some ⟨[], .bx key 0, .new (fam1 ty 1 [.v .nilFunc] g)⟩ := (rfl)
theorem aStep_allocV {q : TypeId} : aStep P G key g ⟨d, .alloc q, ty, pos, af, gd⟩ ρ0 m = allocZ key q g (zeroT P q) := by
  kernel_rfl
def boxZ (key : Nat) (t : TypeId) (g : Option Bool) (z : Option (List AV)) : Option Eff := match z with
  | some cs => some (aAlloc key t cs g)
  | none => none
theorem boxZ_some : boxZ key ty g (some cs) = some ⟨[], .bx key 0, .new (fam1 ty cs.length cs g)⟩ := (rfl)
theorem aStep_boxV {q : TypeId} {x : Operand} : aStep P G key g ⟨d, .box q x, ty, pos, af, gd⟩ ρ0 m = boxZ key q g (cellsOf (strip (ρ0 x))) := by
  kernel_rfl

def effL (ob : List Prop) (x : Option AV) : Option Eff := match x with
  | some a => some ⟨ob, a, .none⟩
  | none => none
theorem effL_some {ob : List Prop} : effL ob (some a) = some ⟨ob, a, .none⟩ := (rfl)
/-- To read a row. -/
def loadF (P : Program) (t : TypeId) (k : Nat) (x : Option Fam) : Option Eff := match x with
  | some fam => match (fam 0).n with
    | 1 => match ofCells P t (((fam 0).get 0).drop k) with
      | some a => some ⟨gOb (fam 0).g [], a, .none⟩
      | none => none
    | _ => none
  | none => none
theorem loadF_1 {q : TypeId} : loadF P q k (some (fam1 ty sz cs g)) = effL (gOb g []) (ofC (layT P q) (cs.drop k)) := by
  rw [← ofCells_eq]
  show (match ofCells P q (cs.drop k) with
      | some a => some (⟨gOb g [], a, .none⟩ : Eff)
      | none => none) = _
  cases ofCells P q (cs.drop k) <;> rfl
def loadA (P : Program) (t : TypeId) (p : AV) (m : Mem) : Option Eff := effOf2 (aLoad P t p m)
theorem aStep_loadV {q : TypeId} {p : Operand} : aStep P G key g ⟨d, .load q p, ty, pos, af, gd⟩ ρ0 m = loadA P q (strip (ρ0 p)) m := (rfl)
theorem loadA_bx {q : TypeId} {r : Nat} : loadA P q (.bx r k) m = loadF P q k (look m r) := by
  unfold loadA loadF
  rw [aLoad_bx]
  unfold optB ifB
  cases look m r with
  | none => rfl
  | some fam =>
    generalize hq : (fam 0).n = c
    rcases c with _ | _ | c
    · simp [effOf2, hq]
    · simp only [hq]
      cases ofCells P q (((fam 0).get 0).drop k) <;> simp [effOf2]
    · simp [effOf2, hq]
theorem loadA_rop {q : TypeId} : loadA P q (.rop cs) m = effL [] (ofC (layT P q) cs) := by
  rw [← ofCells_eq]
  show effOf2 (match ofCells P q cs with
    | some a => some ([], a)
    | none => none) = _
  cases ofCells P q cs <;> rfl
def loadP (P : Program) (t : TypeId) (f i sz k : Nat) (x : Option Fam) : Option Eff := match x with
  | some fam => match ofCells P t (((fam f).get i).drop k) with
    | some a => some ⟨(i < (fam f).n) :: (sz = (fam f).sz) :: gOb (fam f).g [], a, .none⟩
    | none => none
  | none => none
theorem loadA_ptr {q : TypeId} {r f : Nat} : loadA P q (.ptr r f i sz k) m = loadP P q f i sz k (look m r) := by
  unfold loadA loadP aLoad
  dsimp only
  cases look m r with
  | none => rfl
  | some fam =>
    dsimp only
    cases ofCells P _ (((fam f).get i).drop k) <;> rfl
theorem loadP_N {q : TypeId} {get : Nat → List AV} {sz' : Nat} : loadP P q 0 i sz k (some (famN n sz' ty get g)) = effL ((i < n) :: (sz = sz') :: gOb g []) (ofC (layT P q) ((get i).drop k)) := by
  rw [← ofCells_eq]
  show (match ofCells P q ((get i).drop k) with
      | some a => some (⟨(i < n) :: (sz = sz') :: gOb g [], a, .none⟩ : Eff)
      | none => none) = _
  cases ofCells P q ((get i).drop k) <;> rfl
theorem gOb_none {l : List Prop} : gOb none l = l := (rfl)
theorem gOb_some {c : Bool} {l : List Prop} : gOb (some c) l = (c = true) :: l := (rfl)

/-- To write a row. -/
def storeF (k : Nat) (r : Nat) (cs : List AV) (x : Option Fam) : Option Eff := match x with
  | some fam => match (fam 0).n with
    | 1 => if k + cs.length ≤ (fam 0).sz then some ⟨gOb (fam 0).g [], .v undef, .set r (set1 fam k cs)⟩ else none
    | _ => none
  | none => none
def storeP (r f i sz k : Nat) (cs : List AV) (x : Option Fam) : Option Eff := match x with
  | some fam => if k + cs.length ≤ sz then some ⟨(i < (fam f).n) :: (sz = (fam f).sz) :: gOb (fam f).g [], .v undef, .set r (updAt fam f i k cs)⟩ else none
  | none => none
def storeC (p : AV) (m : Mem) (cs : List AV) (ok : Prop) [Decidable ok] : Option Eff := if ok then (match p with
  | .bx r k => storeF k r cs (look m r)
  | .ptr r f i sz k => storeP r f i sz k cs (look m r)
  | _ => none) else none
def storeX (P : Program) (t : TypeId) (p : AV) (m : Mem) (x : Option (List AV)) : Option Eff := match x with
  | some cs => storeC p m cs ((layT P t).map (·.2) = some cs.length)
  | none => none
theorem aStep_storeV {q : TypeId} {p x : Operand} : aStep P G key g ⟨d, .store q p x, ty, pos, af, gd⟩ ρ0 m = storeX P q (strip (ρ0 p)) m (cellsOf (strip (ρ0 x))) := by
  rw [aStep_store]
  unfold aStore storeX storeC
  generalize strip (ρ0 p) = a
  cases cellsOf (strip (ρ0 x)) with
  | none => rfl
  | some cs =>
    dsimp only
    split
    · cases a with
      | bx r k =>
        dsimp only
        unfold storeF
        cases look m r with
        | none => rfl
        | some fam =>
          dsimp only
          generalize (fam 0).n = q
          rcases q with _ | _ | q <;> rfl
      | _ => rfl
    · rfl
theorem storeX_some {q : TypeId} : storeX P q a m (some cs) = storeC a m cs ((layT P q).map (·.2) = some cs.length) := (rfl)
def laySz : Option (Bool × Nat) → Option Nat
  | some (_, n) => some n
  | none => none
theorem storeX_lay {q : TypeId} : storeX P q a m (some cs) = storeC a m cs (laySz (layT P q) = some cs.length) := by
  rw [storeX_some]
  have : (layT P q).map (·.2) = laySz (layT P q) := by cases layT P q <;> rfl
  simp only [this]
theorem laySz_some {c : Bool} : laySz (some (c, n)) = some n := (rfl)
theorem storeC_bx {r : Nat} {p : Prop} [Decidable p] (h : p) : storeC (.bx r k) m cs p = storeF k r cs (look m r) := if_pos h
theorem storeC_ptr {r f : Nat} {p : Prop} [Decidable p] (h : p) : storeC (.ptr r f i sz k) m cs p = storeP r f i sz k cs (look m r) := if_pos h
theorem storeF_1 {r : Nat} : storeF k r l (some (fam1 ty sz cs g)) = if k + l.length ≤ sz then some ⟨gOb g [], .v undef, .set r (fam1 ty sz (putCells cs k l) g)⟩ else none := by
  have e : set1 (fam1 ty sz cs g) k l = fam1 ty sz (putCells cs k l) g := by
    funext f
    unfold set1 fam1
    by_cases h : f = 0
    · subst h; rfl
    · rw [if_neg h, if_neg h, if_neg h]
  rw [← e]; rfl
theorem storeP_N {r : Nat} {get : Nat → List AV} {sz' : Nat} : storeP r 0 i sz k l (some (famN n sz' ty get g)) = if k + l.length ≤ sz then some ⟨(i < n) :: (sz = sz') :: gOb g [], .v undef, .set r (famN n sz' ty (fun j => if j = i then putCells (get i) k l else get j) g)⟩ else none := by
  have e : updAt (famN n sz' ty get g) 0 i k l = famN n sz' ty (fun j => if j = i then putCells (get i) k l else get j) g := by
    funext f
    unfold updAt famN
    by_cases h : f = 0
    · subst h; rfl
    · rw [if_neg h, if_neg h, if_neg h]
  rw [← e]; rfl
theorem putCells_eq : putCells cs k l = cs.take k ++ l ++ cs.drop (k + l.length) := (rfl)

/-! ### Aggregates -/
def fillP (pl : List (Nat × Nat)) (cells : List AV) (l : List (Nat × AV)) : Option (List AV) := fillA (fun i => pl[i]?) cells l
def fillQ (pl : List (Nat × Nat)) (cells : List AV) (l : List (Nat × AV)) (x : Option (Nat × Nat)) (y : Option (List AV)) : Option (List AV) := match x with
  | some (off, size) => match y with
    | some cs => if cs.length = size ∧ off + cs.length ≤ cells.length then fillP pl (putCells cells off cs) l else none
    | none => none
  | none => none
theorem fillP_nil {pl : List (Nat × Nat)} : fillP pl cs [] = some cs := (rfl)
theorem fillP_cons {pl : List (Nat × Nat)} {q : List (Nat × AV)} : fillP pl cs ((i, a) :: q) = fillQ pl cs q pl[i]? (cellsOf a) := by
  unfold fillP fillQ
  rw [fillA]
  cases pl[i]? with
  | none => rfl
  | some p => cases cellsOf a <;> rfl
theorem fillQ_some {pl : List (Nat × Nat)} {q : List (Nat × AV)} {off size : Nat} : fillQ pl cs q (some (off, size)) (some l) = if l.length = size ∧ off + l.length ≤ cs.length then fillP pl (putCells cs off l) q else none := (rfl)
def buildZ (pl : Option (List (Nat × Nat))) (z : Option Value) (l : List (Nat × AV)) : Option (List AV) := match z with
  | some z => match pl with
    | some pl => fillP pl (z.cells.toList.map .v) l
    | none => none
  | none => none
theorem buildZ_agg {pl : List (Nat × Nat)} {z : Array Value} {q : List (Nat × AV)} : buildZ (some pl) (some (.agg z)) q = fillP pl (z.toList.map .v) q := (rfl)
def aggE : Option (List AV) → Option Eff
  | some cs => some ⟨[], .agg cs, .none⟩
  | none => none
theorem aggE_some : aggE (some cs) = some ⟨[], .agg cs, .none⟩ := (rfl)
/-- The operands of a literal's parts. -/
def partsV (t : Slots) : List (Nat × Operand) → List (Nat × AV)
  | [] => []
  | (i, x) :: r => (i, strip (opd t x)) :: partsV t r
theorem partsV_eq : ∀ (l : List (Nat × Operand)), l.map (fun q => (q.1, strip (opd t q.2))) = partsV t l
  | [] => rfl
  | (i, x) :: r => by rw [List.map_cons, partsV_eq r]; rfl
theorem aStep_buildV {q : TypeId} {parts : Array (Nat × Operand)} : aStep P G key g ⟨d, .build q parts, ty, pos, af, gd⟩ (opd t) m = aggE (buildZ (bPlaces P q) (zeroT P q) (partsV t parts.toList)) := by
  rw [aStep_build, ← partsV_eq]
  unfold optB aggE buildZ fillP
  cases zeroT P q with
  | none => rfl
  | some z =>
    dsimp only
    cases bPlaces P q with
    | none => rfl
    | some pl =>
      dsimp only
      cases fillA (fun i => pl[i]?) (z.cells.toList.map .v) (parts.toList.map fun q => (q.1, strip (opd t q.2))) <;> rfl
def fillS (sz : Nat) (cells : List AV) (l : List (Nat × AV)) : Option (List AV) := fillA (fun i => some (i * sz, sz)) cells l
def fillT (sz i : Nat) (cells : List AV) (l : List (Nat × AV)) (y : Option (List AV)) : Option (List AV) := match y with
  | some cs => if cs.length = sz ∧ i * sz + cs.length ≤ cells.length then fillS sz (putCells cells (i * sz) cs) l else none
  | none => none
theorem fillS_nil : fillS sz cs [] = some cs := (rfl)
theorem fillS_cons {q : List (Nat × AV)} : fillS sz cs ((i, a) :: q) = fillT sz i cs q (cellsOf a) := by
  unfold fillS fillT
  rw [fillA]
  cases cellsOf a <;> rfl
theorem fillT_some {q : List (Nat × AV)} : fillT sz i cs q (some l) = if l.length = sz ∧ i * sz + l.length ≤ cs.length then fillS sz (putCells cs (i * sz) l) q else none := (rfl)
def sliceE (P : Program) (key len : Nat) (e : TypeId) (g : Option Bool) (x : Option (List AV)) : Option Eff := match x with
  | some cs => some ⟨[], .own key 0 len (sizeT P e), .new (famN len (sizeT P e) e (rowsOf (sizeT P e) cs) g)⟩
  | none => none
theorem sliceE_some {e : TypeId} : sliceE P key len e g (some cs) = some ⟨[], .own key 0 len (sizeT P e), .new (famN len (sizeT P e) e (rowsOf (sizeT P e) cs) g)⟩ := (rfl)
def sliceZ (P : Program) (key len : Nat) (e : TypeId) (g : Option Bool) (l : List (Nat × AV)) (z : Option Value) : Option Eff := match z with
  | some z => if len * sizeT P e ≤ 16777216 ∧ z.cells.size = sizeT P e then sliceE P key len e g (fillS (sizeT P e) (zeros z len) l) else none
  | none => none
theorem sliceZ_some {e : TypeId} {q : List (Nat × AV)} {z : Value} : sliceZ P key len e g q (some z) = if len * sizeT P e ≤ 16777216 ∧ z.cells.size = sizeT P e then sliceE P key len e g (fillS (sizeT P e) (zeros z len) q) else none := (rfl)
def sliceB (P : Program) (key len : Nat) (g : Option Bool) (l : List (Nat × AV)) (e : Option TypeId) : Option Eff := match e with
  | some e => sliceZ P key len e g l (zeroT P e)
  | none => none
theorem sliceB_some {e : TypeId} {q : List (Nat × AV)} : sliceB P key len g q (some e) = sliceZ P key len e g q (zeroT P e) := (rfl)
theorem aStep_buildSliceV {q : TypeId} {parts : Array (Nat × Operand)} : aStep P G key g ⟨d, .buildSlice q n parts, ty, pos, af, gd⟩ (opd t) m = sliceB P key n g (partsV t parts.toList) (sElem P q) := by
  rw [aStep_buildSlice, ← partsV_eq]
  unfold optB ifP sliceB sliceZ sliceE fillS
  cases sElem P q with
  | none => rfl
  | some e =>
    dsimp only
    cases zeroT P e with
    | none => rfl
    | some z =>
      dsimp only
      split
      · cases fillA (fun i => some (i * sizeT P e, sizeT P e)) (zeros z n) (parts.toList.map fun q => (q.1, strip (opd t q.2))) <;> rfl
      · rfl
theorem rowsOf_eq : rowsOf sz cs i = (cs.drop (i * sz)).take sz := (rfl)

/-! ### Addresses -/
def offE (off : Option Nat) (p : AV) : Option Eff := match off with
  | some off => effOf (addrOff off p)
  | none => none
theorem offE_bx {r o : Nat} : offE (some o) (.bx r k) = some ⟨[], .bx r (k + o), .none⟩ := (rfl)
theorem offE_ptr {r f o : Nat} : offE (some o) (.ptr r f i sz k) = some ⟨[], .ptr r f i sz (k + o), .none⟩ := (rfl)
theorem offE_rop {o : Nat} : offE (some o) (.rop cs) = some ⟨[], .rop (cs.drop o), .none⟩ := (rfl)
theorem aStep_fieldAddrV {q : TypeId} {x : Operand} {f : Nat} : aStep P G key g ⟨d, .fieldAddr q x f, ty, pos, af, gd⟩ ρ0 m = offE (fOff P q f) (strip (ρ0 x)) := by
  rw [aStep_fieldAddr]
  unfold optB offE
  cases fOff P q f <;> rfl
def fieldE (P : Program) (off : Option Nat) (t : Option TypeId) (x : AV) : Option Eff := match x with
  | .agg cs => match off with
    | some off => match t with
      | some t => effOf (ofCells P t (cs.drop off))
      | none => none
    | none => none
  | _ => none
theorem fieldE_agg {o : Nat} {q : TypeId} : fieldE P (some o) (some q) (.agg cs) = effL [] (ofC (layT P q) (cs.drop o)) := by
  rw [← ofCells_eq]
  show effOf (ofCells P q (cs.drop o)) = _
  cases ofCells P q (cs.drop o) <;> rfl
theorem aStep_fieldV {q : TypeId} {x : Operand} {f : Nat} : aStep P G key g ⟨d, .field q x f, ty, pos, af, gd⟩ ρ0 m = fieldE P (fOff P q f) (fTy P q f) (strip (ρ0 x)) := by
  rw [aStep_field]
  unfold fieldE aField
  cases strip (ρ0 x) with
  | agg cs =>
    dsimp only
    cases fOff P q f with
    | none => rfl
    | some o =>
      dsimp only
      cases fTy P q f <;> rfl
  | _ => rfl
/-- The place of an element. -/
def idxS (P : Program) (ob : List Prop) (sz : Nat) (a : AV) (e : Option TypeId) : Option Eff := match e with
  | some e => if (P.info? e).isSome = true ∧ sizeT P e = sz then some ⟨ob, a, .none⟩ else none
  | none => none
theorem idxS_some {ob : List Prop} {e : TypeId} : idxS P ob sz a (some e) = if (P.info? e).isSome = true ∧ sizeT P e = sz then some ⟨ob, a, .none⟩ else none := (rfl)
def idxA (P : Program) (x : AV) (n : Int) (e : Option (Nat × TypeId)) : Option Eff := match e with
  | some (len, e) => if (P.info? e).isSome = true then (match x with
    | .bx r k => some ⟨[0 ≤ n, n < (len : Int)], .bx r (k + n.toNat * sizeT P e), .none⟩
    | .ptr r f j sz k => some ⟨[0 ≤ n, n < (len : Int)], .ptr r f j sz (k + n.toNat * sizeT P e), .none⟩
    | .rop cs => some ⟨[0 ≤ n, n < (len : Int)], .rop (cs.drop (n.toNat * sizeT P e)), .none⟩
    | _ => none) else none
  | none => none
theorem idxA_bx {r : Nat} {z : Int} {e : TypeId} (h : (P.info? e).isSome = true) : idxA P (.bx r k) z (some (len, e)) = some ⟨[0 ≤ z, z < (len : Int)], .bx r (k + z.toNat * sizeT P e), .none⟩ := if_pos h
theorem idxA_ptr {r f : Nat} {z : Int} {e : TypeId} (h : (P.info? e).isSome = true) : idxA P (.ptr r f i sz k) z (some (len, e)) = some ⟨[0 ≤ z, z < (len : Int)], .ptr r f i sz (k + z.toNat * sizeT P e), .none⟩ := if_pos h
theorem idxA_rop {z : Int} {e : TypeId} (h : (P.info? e).isSome = true) : idxA P (.rop cs) z (some (len, e)) = some ⟨[0 ≤ z, z < (len : Int)], .rop (cs.drop (z.toNat * sizeT P e)), .none⟩ := if_pos h
def idxE (P : Program) (t : TypeId) (x i : AV) : Option Eff := effOf2 (aIndexAddr P t x i)
theorem aStep_indexAddrV {q : TypeId} {x y : Operand} : aStep P G key g ⟨d, .indexAddr q x y, ty, pos, af, gd⟩ ρ0 m = idxE P q (strip (ρ0 x)) (strip (ρ0 y)) := (rfl)
theorem idxE_ro {q : TypeId} {f : Nat → List AV} {c : IntKind} {z : Int} : idxE P q (.ro len sz f) (.v (.int c z)) = idxS P [0 ≤ z, z < (len : Int)] sz (.rop (f z.toNat)) (sElem P q) := by
  unfold idxE idxS
  rw [aIndexAddr_ro]
  unfold optB ifP
  cases sElem P q with
  | none => rfl
  | some e => dsimp only; split <;> rfl
theorem idxE_own {q : TypeId} {r f : Nat} {c : IntKind} {z : Int} : idxE P q (.own r f len sz) (.v (.int c z)) = idxS P [0 ≤ z, z < (len : Int)] sz (.ptr r f z.toNat sz 0) (sElem P q) := by
  unfold idxE idxS
  rw [aIndexAddr_own]
  unfold optB ifP
  cases sElem P q with
  | none => rfl
  | some e => dsimp only; split <;> rfl
theorem idxE_vw {q : TypeId} {r f lo : Nat} {c : IntKind} {z : Int} : idxE P q (.vw r f lo len sz) (.v (.int c z)) = idxS P [0 ≤ z, z < (len : Int)] sz (.ptr r f (lo + z.toNat) sz 0) (sElem P q) := by
  unfold idxE idxS
  rw [aIndexAddr_vw]
  unfold optB ifP
  cases sElem P q with
  | none => rfl
  | some e => dsimp only; split <;> rfl
theorem idxE_bx {q : TypeId} {r : Nat} {c : IntKind} {z : Int} : idxE P q (.bx r k) (.v (.int c z)) = idxA P (.bx r k) z (aElem P q) := by
  unfold idxE idxA
  rw [aIndexAddr_bx]
  unfold optB ifP
  cases aElem P q with
  | none => rfl
  | some e => dsimp only; split <;> rfl
theorem idxE_rop {q : TypeId} {c : IntKind} {z : Int} : idxE P q (.rop cs) (.v (.int c z)) = idxA P (.rop cs) z (aElem P q) := by
  unfold idxE idxA
  rw [aIndexAddr_rop]
  unfold optB ifP
  cases aElem P q with
  | none => rfl
  | some e => dsimp only; split <;> rfl
theorem idxE_ptr {q : TypeId} {r f : Nat} {c : IntKind} {z : Int} : idxE P q (.ptr r f i sz k) (.v (.int c z)) = idxA P (.ptr r f i sz k) z (aElem P q) := by
  unfold idxE idxA aIndexAddr
  dsimp only [intOfA]
  cases aElem P q with
  | none => rfl
  | some e => obtain ⟨len, e⟩ := e; dsimp only; split <;> rfl

/-! ### Functions, interfaces, tuples -/
/-- The operands of a call. -/
def argsV (t : Slots) : List Operand → List AV
  | [] => []
  | x :: r => strip (opd t x) :: argsV t r
theorem argsV_eq : ∀ (l : List Operand), l.map (fun x => strip (opd t x)) = argsV t l
  | [] => rfl
  | x :: r => by rw [List.map_cons, argsV_eq r]; rfl
theorem argsV_nil : argsV t [] = [] := (rfl)
theorem argsV_cons {x : Operand} {r : List Operand} : argsV t (x :: r) = strip (opd t x) :: argsV t r := (rfl)
theorem partsV_nil : partsV t [] = [] := (rfl)
theorem partsV_cons {x : Operand} {r : List (Nat × Operand)} : partsV t ((i, x) :: r) = (i, strip (opd t x)) :: partsV t r := (rfl)
theorem aStep_makeFuncV {f : FuncId} {cap : Array Operand} : aStep P G key g ⟨d, .makeFunc (.func f) #[] cap, ty, pos, af, gd⟩ (opd t) m = some ⟨[], .fn f (argsV t cap.toList), .none⟩ := by
  rw [aStep_makeFunc, argsV_eq]
def ifaceE (q : TypeId) (a : AV) (c : Bool) : Option Eff := match c with
  | true => some ⟨[], .iface q a, .none⟩
  | false => none
theorem ifaceE_true {q : TypeId} : ifaceE q a true = some ⟨[], .iface q a, .none⟩ := (rfl)
theorem aStep_makeInterfaceV {q : TypeId} {x : Operand} : aStep P G key g ⟨d, .makeInterface q x, ty, pos, af, gd⟩ ρ0 m = ifaceE q (strip (ρ0 x)) (concreteT P q) := by
  rw [aStep_makeInterface]
  unfold ifB ifaceE
  cases concreteT P q <;> rfl
def extractE (P : Program) (o : Oper) (i : Nat) (x : AV) (ρ : Operand → AV) : Option Eff := match x with
  | .tup cs => effOf cs[i]?
  | _ => effOf (aPure P ρ o)
theorem aStep_extractV {x : Operand} : aStep P G key g ⟨d, .extract x i, ty, pos, af, gd⟩ ρ0 m = extractE P ⟨d, .extract x i, ty, pos, af, gd⟩ i (strip (ρ0 x)) (fun x => strip (ρ0 x)) := by
  rw [aStep_extract]
  unfold tupK extractE
  cases strip (ρ0 x) <;> rfl
theorem effOf_some : effOf (some a) = some ⟨[], a, .none⟩ := (rfl)
theorem effOf2_some {ob : List Prop} : effOf2 (some (ob, a)) = some ⟨ob, a, .none⟩ := (rfl)
theorem extractE_tup {o : Oper} {ρ : Operand → AV} : extractE P o i (.tup cs) ρ = effOf cs[i]? := (rfl)
def nilE (P : Program) (o : Oper) (x : AV) (ρ : Operand → AV) : Option Eff := match nonNil x with
  | true => some ⟨[], x, .none⟩
  | false => effOf (aPure P ρ o)
theorem aStep_nilCheckV {x : Operand} : aStep P G key g ⟨d, .nilCheck x, ty, pos, af, gd⟩ ρ0 m = nilE P ⟨d, .nilCheck x, ty, pos, af, gd⟩ (strip (ρ0 x)) (fun x => strip (ρ0 x)) := by
  rw [aStep_nilCheck]
  unfold ifB nilE
  cases nonNil (strip (ρ0 x)) <;> rfl
theorem nilE_bx {o : Oper} {ρ : Operand → AV} : nilE P o (.bx n k) ρ = some ⟨[], .bx n k, .none⟩ := (rfl)
theorem nilE_ptr {o : Oper} {ρ : Operand → AV} {r f : Nat} : nilE P o (.ptr r f i sz k) ρ = some ⟨[], .ptr r f i sz k, .none⟩ := (rfl)
theorem nilE_rop {o : Oper} {ρ : Operand → AV} : nilE P o (.rop cs) ρ = some ⟨[], .rop cs, .none⟩ := (rfl)
theorem nilE_iface {o : Oper} {ρ : Operand → AV} {q : TypeId} : nilE P o (.iface q a) ρ = some ⟨[], .iface q a, .none⟩ := (rfl)
def zeroE (x : Option Value) : Option Eff := match x with
  | some z => some ⟨[], .tup [ofVal1 z, .v (.bool false)], .none⟩
  | none => none
theorem zeroE_agg {x : Array Value} : zeroE (some (.agg x)) = some ⟨[], .tup [.agg (x.toList.map .v), .v (.bool false)], .none⟩ := (rfl)
theorem zeroE_int {q : IntKind} {x : Int} : zeroE (some (.int q x)) = some ⟨[], .tup [.v (.int q x), .v (.bool false)], .none⟩ := (rfl)
theorem zeroE_nilIface : zeroE (some .nilIface) = some ⟨[], .tup [.v .nilIface, .v (.bool false)], .none⟩ := (rfl)
theorem zeroE_pointer {x : Option Addr} : zeroE (some (.pointer x)) = some ⟨[], .tup [.v (.pointer x), .v (.bool false)], .none⟩ := (rfl)
def assertOkE (P : Program) (o : Oper) (q : TypeId) (c : Bool) (x : AV) (ρ : Operand → AV) : Option Eff := match x with
  | .iface u y => match c with
    | true => if u = q then some ⟨[], .tup [y, .v (.bool true)], .none⟩ else zeroE (zeroT P q)
    | false => none
  | _ => effOf (aPure P ρ o)
theorem aStep_assertOkV {x : Operand} {it q : TypeId} : aStep P G key g ⟨d, .typeAssert x it q true, ty, pos, af, gd⟩ ρ0 m = assertOkE P ⟨d, .typeAssert x it q true, ty, pos, af, gd⟩ q (concreteT P q) (strip (ρ0 x)) (fun x => strip (ρ0 x)) := by
  rw [aStep_assertOk]
  unfold ifcK ifB ifP optB assertOkE zeroE
  cases strip (ρ0 x) with
  | iface u y =>
    dsimp only
    cases concreteT P q with
    | false => rfl
    | true =>
      dsimp only
      by_cases h : u = q
      · rw [if_pos h, if_pos h]
      · rw [if_neg h, if_neg h]
        cases zeroT P q <;> rfl
  | _ => rfl
theorem assertOkE_iface {o : Oper} {ρ : Operand → AV} {u q : TypeId} : assertOkE P o q true (.iface u a) ρ = if u = q then some ⟨[], .tup [a, .v (.bool true)], .none⟩ else zeroE (zeroT P q) := (rfl)
def assertE (P : Program) (o : Oper) (q : TypeId) (c : Bool) (x : AV) (ρ : Operand → AV) : Option Eff := match x with
  | .iface u y => match c with
    | true => if u = q then some ⟨[], y, .none⟩ else none
    | false => none
  | _ => effOf (aPure P ρ o)
theorem aStep_assertV {x : Operand} {it q : TypeId} : aStep P G key g ⟨d, .typeAssert x it q false, ty, pos, af, gd⟩ ρ0 m = assertE P ⟨d, .typeAssert x it q false, ty, pos, af, gd⟩ q (concreteT P q) (strip (ρ0 x)) (fun x => strip (ρ0 x)) := by
  rw [aStep_assert]
  unfold ifcK ifB ifP assertE
  cases strip (ρ0 x) with
  | iface u y =>
    dsimp only
    cases concreteT P q with
    | false => rfl
    | true => rfl
  | _ => rfl
theorem assertE_iface {o : Oper} {ρ : Operand → AV} {u q : TypeId} : assertE P o q true (.iface u a) ρ = if u = q then some ⟨[], a, .none⟩ else none := (rfl)

/-! ### Whole numbers and truth values -/
def binE (P : Program) (op : BinOp) (q : TypeId) (a b : AV) : Option Eff := match flat a with
  | some x => match flat b with
    | some y => match pureRun P (Go.binOp op q x y) with
      | some v => some ⟨[], ofVal v, .none⟩
      | none => none
    | none => none
  | none => none
end
end Go.Ax
