/-
  Equations of first order: whole numbers, truth values, calls, results.
-/
import Derived.Test.YtafigekkhpepkaaGreatCM2
import Derived.OpenShut
import Derived.ProofKit
import Derived.Handy
import Derived.Laws.Externs
import Derived.Lib.Mul64
import Derived.Test.YtafigekkhpepkaaGreatRows
import Derived.WalkKit
import Derived.WalkSpells
import Derived.WalkLawsBesides
import Derived.Lib.BitFns
import Derived.Lib.Strings
import Derived.Lib.Small
set_option linter.unusedVariables false
set_option linter.unusedSimpArgs false
section
namespace Go.Ax
section
variable {P:Program} {G:Ctx} {H:Hots} {K0:AEx→St→Prop} {st:List Fr} {s:St} {hot:Option Hot} {ops:Array Oper} {rest:List Oper} {i j k n sz len key base:Nat} {t:Slots} {m:Mem} {nx:Nat} {d:Option Tmp} {ty:TypeId} {pos:String} {af:Array Edge} {gd:Option (Nat×Bool)} {g:Option Bool} {ρ0:Operand→AV} {a b:AV} {l:List AV} {cs:List AV} {c c':IntKind} {x y:Int} {q u:TypeId}
theorem pureRun_under {d:TypeDesc} (h:P.underlying q = some d):pureRun P (underlying q) = some d:=by
 show pureRun P (match P.underlying q with
  | some d => Sem.pure d
  | none => stuck _) = _
 rw [h]; rfl
theorem pureRun_bind {α β:Type} (x:Sem α) (f:α→Sem β):pureRun P (x.bind f) = match pureRun P x with
  | some a => pureRun P (f a)
  | none => none:=by
 induction x with
 | pure a => rfl
 | program k ih => exact ih P
 | _ => rfl
def notEq:BinOp→Bool
 | .eql => false
 | .neq => false
 | _ => true
theorem aStep_binG {op:BinOp} (h:notEq op = true) {x y:Operand}:aStep P G key g ⟨d,.binOp op q x y u,ty,pos,af,gd⟩ ρ0 m = binE P op q (strip (ρ0 x)) (strip (ρ0 y)):=by
 have h0:aStep P G key g ⟨d,.binOp op q x y u,ty,pos,af,gd⟩ ρ0 m = effOf (aPure P (fun x => strip (ρ0 x)) ⟨d,.binOp op q x y u,ty,pos,af,gd⟩):=by
  cases op <;> first | rfl | simp [notEq] at h
 rw [h0]
 unfold aPure binE
 dsimp only [Op.operands,List.map,flatAll]
 cases hx:flat (strip (ρ0 x)) with
 | none => rfl
 | some vx =>
  cases hy:flat (strip (ρ0 y)) with
  | none => rfl
  | some vy =>
   dsimp only
   have:execOp (fun x => (flat (strip (ρ0 x))).getD undef) ⟨d,.binOp op q x y u,ty,pos,af,gd⟩ = Sem.bind (Go.binOp op q vx vy) fun v => Sem.pure (Next.value v):=by
    show Sem.bind (Sem.bind (eqGuard op q x y ((flat (strip (ρ0 x))).getD undef) ((flat (strip (ρ0 y))).getD undef)) fun _ => Go.binOp op q ((flat (strip (ρ0 x))).getD undef) ((flat (strip (ρ0 y))).getD undef)) (fun v => Sem.pure (Next.value v)) = _
    rw [hx,hy]
    cases op <;> first | rfl | simp [notEq] at h
   rw [this,pureRun_bind]
   cases pureRun P (Go.binOp op q vx vy) <;> rfl
theorem aStep_add2 {x y:Operand}:aStep P G key g ⟨d,.binOp .add q x y u,ty,pos,af,gd⟩ ρ0 m = binE P .add q (strip (ρ0 x)) (strip (ρ0 y)):=aStep_binG rfl
theorem aStep_sub2 {x y:Operand}:aStep P G key g ⟨d,.binOp .sub q x y u,ty,pos,af,gd⟩ ρ0 m = binE P .sub q (strip (ρ0 x)) (strip (ρ0 y)):=aStep_binG rfl
theorem aStep_mul2 {x y:Operand}:aStep P G key g ⟨d,.binOp .mul q x y u,ty,pos,af,gd⟩ ρ0 m = binE P .mul q (strip (ρ0 x)) (strip (ρ0 y)):=aStep_binG rfl
theorem aStep_quo2 {x y:Operand}:aStep P G key g ⟨d,.binOp .quo q x y u,ty,pos,af,gd⟩ ρ0 m = binE P .quo q (strip (ρ0 x)) (strip (ρ0 y)):=aStep_binG rfl
theorem aStep_rem2 {x y:Operand}:aStep P G key g ⟨d,.binOp .rem q x y u,ty,pos,af,gd⟩ ρ0 m = binE P .rem q (strip (ρ0 x)) (strip (ρ0 y)):=aStep_binG rfl
theorem aStep_and2 {x y:Operand}:aStep P G key g ⟨d,.binOp .and q x y u,ty,pos,af,gd⟩ ρ0 m = binE P .and q (strip (ρ0 x)) (strip (ρ0 y)):=aStep_binG rfl
theorem aStep_or2 {x y:Operand}:aStep P G key g ⟨d,.binOp .or q x y u,ty,pos,af,gd⟩ ρ0 m = binE P .or q (strip (ρ0 x)) (strip (ρ0 y)):=aStep_binG rfl
theorem aStep_xor2 {x y:Operand}:aStep P G key g ⟨d,.binOp .xor q x y u,ty,pos,af,gd⟩ ρ0 m = binE P .xor q (strip (ρ0 x)) (strip (ρ0 y)):=aStep_binG rfl
theorem aStep_andNot2 {x y:Operand}:aStep P G key g ⟨d,.binOp .andNot q x y u,ty,pos,af,gd⟩ ρ0 m = binE P .andNot q (strip (ρ0 x)) (strip (ρ0 y)):=aStep_binG rfl
theorem aStep_shl2 {x y:Operand}:aStep P G key g ⟨d,.binOp .shl q x y u,ty,pos,af,gd⟩ ρ0 m = binE P .shl q (strip (ρ0 x)) (strip (ρ0 y)):=aStep_binG rfl
theorem aStep_shr2 {x y:Operand}:aStep P G key g ⟨d,.binOp .shr q x y u,ty,pos,af,gd⟩ ρ0 m = binE P .shr q (strip (ρ0 x)) (strip (ρ0 y)):=aStep_binG rfl
theorem aStep_lss2 {x y:Operand}:aStep P G key g ⟨d,.binOp .lss q x y u,ty,pos,af,gd⟩ ρ0 m = binE P .lss q (strip (ρ0 x)) (strip (ρ0 y)):=aStep_binG rfl
theorem aStep_leq2 {x y:Operand}:aStep P G key g ⟨d,.binOp .leq q x y u,ty,pos,af,gd⟩ ρ0 m = binE P .leq q (strip (ρ0 x)) (strip (ρ0 y)):=aStep_binG rfl
theorem aStep_gtr2 {x y:Operand}:aStep P G key g ⟨d,.binOp .gtr q x y u,ty,pos,af,gd⟩ ρ0 m = binE P .gtr q (strip (ρ0 x)) (strip (ρ0 y)):=aStep_binG rfl
theorem aStep_geq2 {x y:Operand}:aStep P G key g ⟨d,.binOp .geq q x y u,ty,pos,af,gd⟩ ρ0 m = binE P .geq q (strip (ρ0 x)) (strip (ρ0 y)):=aStep_binG rfl
theorem binE_of (op:BinOp) (v:Value) (h:Go.binOp op q (.int c x) (.int c' y) = Sem.pure v):binE P op q (.v (.int c x)) (.v (.int c' y)) = some ⟨[],ofVal v,.none⟩:=by
 unfold binE
 dsimp only [flat]
 rw [h]
 rfl
theorem binOp_same (op:BinOp) (hs:op≠.shl∧op≠.shr):Go.binOp op q (.int c x) (.int c y) = match op with
  | .add | .sub | .mul => Op.intArith op c x y
  | .quo | .rem => Op.intDiv op c x y
  | .and | .or | .xor | .andNot => Op.intBits op c x y
  | _ => Op.intCmp op x y:=by
 cases op <;> simp [Go.binOp] at hs ⊢
theorem binE_add:binE P .add q (.v (.int c x)) (.v (.int c y)) = some ⟨[],nm c (c.wrap (x + y)),.none⟩:=binE_of .add (.int c (c.wrap (x + y))) (binOp_same .add (by simp))
theorem binE_sub:binE P .sub q (.v (.int c x)) (.v (.int c y)) = some ⟨[],nm c (c.wrap (x - y)),.none⟩:=binE_of .sub (.int c (c.wrap (x - y))) (binOp_same .sub (by simp))
theorem binE_mul:binE P .mul q (.v (.int c x)) (.v (.int c y)) = some ⟨[],nm c (c.wrap (x * y)),.none⟩:=binE_of .mul (.int c (c.wrap (x * y))) (binOp_same .mul (by simp))
theorem binE_none (op:BinOp) (hh:pureRun P (Go.binOp op q (.int c x) (.int c' y)) = none):binE P op q (.v (.int c x)) (.v (.int c' y)) = none:=by
 unfold binE
 dsimp only [flat]
 rw [hh]
theorem binE_quo:binE P .quo q (.v (.int c x)) (.v (.int c y)) = if y = 0 then none else some ⟨[],nm c (c.wrap (x.tdiv y)),.none⟩:=by
 by_cases h:y = 0
 ·rw [if_pos h]
  exact binE_none .quo (by rw [binOp_same .quo (by simp)]; simp only [Op.intDiv,if_pos h]; rfl)
 ·rw [if_neg h]
  exact binE_of .quo (.int c (c.wrap (x.tdiv y))) (by rw [binOp_same .quo (by simp)]; simp only [Op.intDiv,if_neg h]; rfl)
theorem binE_rem:binE P .rem q (.v (.int c x)) (.v (.int c y)) = if y = 0 then none else some ⟨[],nm c (x.tmod y),.none⟩:=by
 by_cases h:y = 0
 ·rw [if_pos h]
  exact binE_none .rem (by rw [binOp_same .rem (by simp)]; simp only [Op.intDiv,if_pos h]; rfl)
 ·rw [if_neg h]
  exact binE_of .rem (.int c (x.tmod y)) (by rw [binOp_same .rem (by simp)]; simp only [Op.intDiv,if_neg h]; rfl)
def andI (c:IntKind) (x y:Int):Int:=c.wrap (BitVec.ofInt c.bits x &&& BitVec.ofInt c.bits y).toNat
def orI (c:IntKind) (x y:Int):Int:=c.wrap (BitVec.ofInt c.bits x ||| BitVec.ofInt c.bits y).toNat
def xorI (c:IntKind) (x y:Int):Int:=c.wrap (BitVec.ofInt c.bits x ^^^ BitVec.ofInt c.bits y).toNat
def andNotI (c:IntKind) (x y:Int):Int:=c.wrap (BitVec.ofInt c.bits x &&& ~~~BitVec.ofInt c.bits y).toNat
theorem binE_and:binE P .and q (.v (.int c x)) (.v (.int c y)) = some ⟨[],nm c (andI c x y),.none⟩:=binE_of .and (.int c (andI c x y)) (binOp_same .and (by simp))
theorem binE_or:binE P .or q (.v (.int c x)) (.v (.int c y)) = some ⟨[],nm c (orI c x y),.none⟩:=binE_of .or (.int c (orI c x y)) (binOp_same .or (by simp))
theorem binE_xor:binE P .xor q (.v (.int c x)) (.v (.int c y)) = some ⟨[],nm c (xorI c x y),.none⟩:=binE_of .xor (.int c (xorI c x y)) (binOp_same .xor (by simp))
theorem binE_andNot:binE P .andNot q (.v (.int c x)) (.v (.int c y)) = some ⟨[],nm c (andNotI c x y),.none⟩:=binE_of .andNot (.int c (andNotI c x y)) (binOp_same .andNot (by simp))
theorem binE_shl:binE P .shl q (.v (.int c x)) (.v (.int c' y)) = if y < 0 then none else some ⟨[],nm c (c.wrap (x * 2 ^ min y.toNat c.bits)),.none⟩:=by
 have e:Go.binOp .shl q (.int c x) (.int c' y) = Op.shift .shl c x c' y:=by simp [Go.binOp]
 by_cases h:y < 0
 ·rw [if_pos h]
  exact binE_none .shl (by rw [e]; simp only [Op.shift,if_pos h]; rfl)
 ·rw [if_neg h]
  exact binE_of .shl (.int c (c.wrap (x * 2 ^ min y.toNat c.bits))) (by rw [e]; simp only [Op.shift,if_neg h]; rfl)
theorem binE_shr:binE P .shr q (.v (.int c x)) (.v (.int c' y)) = if y < 0 then none else some ⟨[],nm c (x.fdiv (2 ^ min y.toNat c.bits)),.none⟩:=by
 have e:Go.binOp .shr q (.int c x) (.int c' y) = Op.shift .shr c x c' y:=by simp [Go.binOp]
 by_cases h:y < 0
 ·rw [if_pos h]
  exact binE_none .shr (by rw [e]; simp only [Op.shift,if_pos h]; rfl)
 ·rw [if_neg h]
  exact binE_of .shr (.int c (x.fdiv (2 ^ min y.toNat c.bits))) (by rw [e]; simp only [Op.shift,if_neg h]; rfl)
theorem binE_lss:binE P .lss q (.v (.int c x)) (.v (.int c y)) = some ⟨[],.v (.bool (decide (x < y))),.none⟩:=binE_of .lss (.bool (decide (x < y))) (binOp_same .lss (by simp))
theorem binE_leq:binE P .leq q (.v (.int c x)) (.v (.int c y)) = some ⟨[],.v (.bool (decide (x≤y))),.none⟩:=binE_of .leq (.bool (decide (x≤y))) (binOp_same .leq (by simp))
theorem binE_gtr:binE P .gtr q (.v (.int c x)) (.v (.int c y)) = some ⟨[],.v (.bool (decide (y < x))),.none⟩:=binE_of .gtr (.bool (decide (y < x))) (binOp_same .gtr (by simp))
theorem binE_geq:binE P .geq q (.v (.int c x)) (.v (.int c y)) = some ⟨[],.v (.bool (decide (y≤x))),.none⟩:=binE_of .geq (.bool (decide (y≤x))) (binOp_same .geq (by simp))
theorem bits_i64:IntKind.bits .i64 = 64:=(rfl)
theorem bits_u64:IntKind.bits .u64 = 64:=(rfl)
theorem bits_u8:IntKind.bits .u8 = 8:=(rfl)
theorem bits_u32:IntKind.bits .u32 = 32:=(rfl)
def negV (c:Bool) (b:Bool):Bool:=match c with
 | true => !b
 | false => b
def eqE (P:Program) (neg:Bool) (q:TypeId) (xo yo:Operand) (a b:AV):Option Eff:=match aEq P q a b with
 | some r => some ⟨[],.v (.bool (negV neg r)),.none⟩
 | none => match flat a with
  | some x => match flat b with
   | some y => match pureRun P (Sem.bind (eqGuard (match neg with | true => .neq | false => .eql) q xo yo x y) fun _ => Go.binOp (match neg with | true => .neq | false => .eql) q x y) with
    | some v => some ⟨[],ofVal v,.none⟩
    | none => none
   | none => none
  | none => none
theorem aStep_eqG {x y:Operand} {op:BinOp} {neg:Bool} (hn:op = match neg with | true => .neq | false => .eql):effOf (aPure P (fun x => strip (ρ0 x)) ⟨d,.binOp op q x y u,ty,pos,af,gd⟩) = match flat (strip (ρ0 x)) with
  | some vx => match flat (strip (ρ0 y)) with
   | some vy => match pureRun P (Sem.bind (eqGuard op q x y vx vy) fun _ => Go.binOp op q vx vy) with
    | some v => some ⟨[],ofVal v,.none⟩
    | none => none
   | none => none
  | none => none:=by
 unfold aPure
 dsimp only [Op.operands,List.map,flatAll]
 cases hx:flat (strip (ρ0 x)) with
 | none => rfl
 | some vx =>
  cases hy:flat (strip (ρ0 y)) with
  | none => rfl
  | some vy =>
   dsimp only
   have:execOp (fun x => (flat (strip (ρ0 x))).getD undef) ⟨d,.binOp op q x y u,ty,pos,af,gd⟩ = Sem.bind (Sem.bind (eqGuard op q x y vx vy) fun _ => Go.binOp op q vx vy) fun v => Sem.pure (Next.value v):=by
    show Sem.bind (Sem.bind (eqGuard op q x y ((flat (strip (ρ0 x))).getD undef) ((flat (strip (ρ0 y))).getD undef)) fun _ => Go.binOp op q ((flat (strip (ρ0 x))).getD undef) ((flat (strip (ρ0 y))).getD undef)) (fun v => Sem.pure (Next.value v)) = _
    rw [hx,hy]
    rfl
   rw [this,pureRun_bind]
   cases pureRun P (Sem.bind (eqGuard op q x y vx vy) fun _ => Go.binOp op q vx vy) <;> rfl
theorem aStep_eql2 {x y:Operand}:aStep P G key g ⟨d,.binOp .eql q x y u,ty,pos,af,gd⟩ ρ0 m = eqE P false q x y (strip (ρ0 x)) (strip (ρ0 y)):=by
 rw [aStep_eql]
 unfold optB eqE
 cases aEq P q (strip (ρ0 x)) (strip (ρ0 y)) with
 | some r => rfl
 | none => exact aStep_eqG (neg:=false) rfl
theorem aStep_neq2 {x y:Operand}:aStep P G key g ⟨d,.binOp .neq q x y u,ty,pos,af,gd⟩ ρ0 m = eqE P true q x y (strip (ρ0 x)) (strip (ρ0 y)):=by
 rw [aStep_neq]
 unfold optB eqE
 cases aEq P q (strip (ρ0 x)) (strip (ρ0 y)) with
 | some r => rfl
 | none => exact aStep_eqG (neg:=true) rfl
theorem aEq_int:aEq P q (.v (.int c x)) b = none:=by
 unfold aEq
 show (match eqOkT P q with | true => _ | false => _) = _
 cases eqOkT P q
 ·rfl
 ·rfl
theorem aEq_bool {r:Bool}:aEq P q (.v (.bool r)) b = none:=by
 unfold aEq
 show (match eqOkT P q with | true => _ | false => _) = _
 cases eqOkT P q
 ·rfl
 ·rfl
theorem eqE_int {xo yo:Operand}:eqE P false q xo yo (.v (.int c x)) (.v (.int c y)) = some ⟨[],.v (.bool (x == y)),.none⟩:=by
 unfold eqE
 rw [aEq_int]
 dsimp only [flat]
 have h:Go.binOp .eql q (.int c x) (.int c y) = Sem.pure (.bool (x == y)):=by rw [binOp_same .eql (by simp)]; rfl
 have:Sem.bind (eqGuard .eql q xo yo (.int c x) (.int c y)) (fun _ => Go.binOp .eql q (.int c x) (.int c y)) = Sem.pure (.bool (x == y)):=by rw [← h]; rfl
 rw [this]
 rfl
theorem neE_int {xo yo:Operand}:eqE P true q xo yo (.v (.int c x)) (.v (.int c y)) = some ⟨[],.v (.bool (x != y)),.none⟩:=by
 unfold eqE
 rw [aEq_int]
 dsimp only [flat]
 have h:Go.binOp .neq q (.int c x) (.int c y) = Sem.pure (.bool (x != y)):=by rw [binOp_same .neq (by simp)]; rfl
 have:Sem.bind (eqGuard .neq q xo yo (.int c x) (.int c y)) (fun _ => Go.binOp .neq q (.int c x) (.int c y)) = Sem.pure (.bool (x != y)):=by rw [← h]; rfl
 rw [this]
 rfl
theorem eqE_agg {xo yo:Operand} {neg r:Bool} (h:aEq P q (.agg l) (.agg cs) = some r):eqE P neg q xo yo (.agg l) (.agg cs) = some ⟨[],.v (.bool (negV neg r)),.none⟩:=by
 unfold eqE
 rw [h]
theorem eqE_iface {xo yo:Operand} {neg:Bool} {ms:Array (String×TypeId)} (h:P.underlying q = some (.interface ms)):eqE P neg q xo yo (.iface u a) (.v .nilIface) = some ⟨[],.v (.bool (negV neg false)),.none⟩:=by
 unfold eqE aEq aNil
 dsimp only
 rw [h]
theorem eqE_nilnil {xo:Operand} {v:Value} {neg:Bool} {ms:Array (String×TypeId)} (h:P.underlying q = some (.interface ms)):eqE P neg q xo (.const v) (.v .nilIface) (.v .nilIface) = some ⟨[],.v (.bool (negV neg true)),.none⟩:=by
 have he:pureRun P (Op.equal q .nilIface .nilIface) = some true:=by
  show pureRun P (Op.equalIn (9999 + 1) q .nilIface .nilIface) = _
  unfold Op.equalIn
  show pureRun P (Sem.bind _ _) = _
  rw [pureRun_bind,pureRun_under h]
  rfl
 unfold eqE
 have h0:aEq P q (.v .nilIface) (.v .nilIface) = none:=by
  unfold aEq
  show (match eqOkT P q with | true => _ | false => _) = _
  cases eqOkT P q <;> rfl
 rw [h0]
 dsimp only [flat]
 have hg:∀ op,eqGuard op q xo (.const v) .nilIface .nilIface = Sem.pure ():=fun op => by
  cases op <;> cases xo <;> rfl
 rw [hg]
 cases neg
 ·show (match pureRun P (Sem.bind (Op.equal q .nilIface .nilIface) fun b => Sem.pure (Value.bool b)) with | some v => _ | none => _) = _
  rw [pureRun_bind,he]; rfl
 ·show (match pureRun P (Sem.bind (Op.equal q .nilIface .nilIface) fun b => Sem.pure (Value.bool (!b))) with | some v => _ | none => _) = _
  rw [pureRun_bind,he]; rfl
theorem negV_true {r:Bool}:negV true r = !r:=(rfl)
theorem negV_false {r:Bool}:negV false r = r:=(rfl)
theorem eqE_bool (hu:P.underlying q = some .bool) {xo yo:Operand} {r s:Bool}:eqE P false q xo yo (.v (.bool r)) (.v (.bool s)) = some ⟨[],.v (.bool (r == s)),.none⟩:=by
 unfold eqE
 rw [aEq_bool]
 dsimp only [flat]
 have:pureRun P (Sem.bind (eqGuard .eql q xo yo (.bool r) (.bool s)) (fun _ => Go.binOp .eql q (.bool r) (.bool s))) = some (.bool (r == s)):=by
  show pureRun P (Sem.bind (Op.equal q (.bool r) (.bool s)) fun b => Sem.pure (Value.bool b)) = _
  rw [pureRun_bind]
  have:pureRun P (Op.equal q (.bool r) (.bool s)) = some (r == s):=by
   show pureRun P (Op.equalIn (9999 + 1) q (.bool r) (.bool s)) = _
   unfold Op.equalIn
   show pureRun P (Sem.bind _ _) = _
   rw [pureRun_bind,pureRun_under hu]
   rfl
  rw [this]; rfl
 rw [this]
 rfl
theorem neE_bool (hu:P.underlying q = some .bool) {xo yo:Operand} {r s:Bool}:eqE P true q xo yo (.v (.bool r)) (.v (.bool s)) = some ⟨[],.v (.bool (!(r == s))),.none⟩:=by
 unfold eqE
 rw [aEq_bool]
 dsimp only [flat]
 have:pureRun P (Sem.bind (eqGuard .neq q xo yo (.bool r) (.bool s)) (fun _ => Go.binOp .neq q (.bool r) (.bool s))) = some (.bool (!(r == s))):=by
  show pureRun P (Sem.bind (Op.equal q (.bool r) (.bool s)) fun b => Sem.pure (Value.bool (!b))) = _
  rw [pureRun_bind]
  have:pureRun P (Op.equal q (.bool r) (.bool s)) = some (r == s):=by
   show pureRun P (Op.equalIn (9999 + 1) q (.bool r) (.bool s)) = _
   unfold Op.equalIn
   show pureRun P (Sem.bind _ _) = _
   rw [pureRun_bind,pureRun_under hu]
   rfl
  rw [this]; rfl
 rw [this]
 rfl
def unE (P:Program) (op:UnOp) (a:AV):Option Eff:=match flat a with
 | some x => match pureRun P (Op.unary op x) with
  | some v => some ⟨[],ofVal v,.none⟩
  | none => none
 | none => none
theorem aStep_un2 {op:UnOp} {x:Operand}:aStep P G key g ⟨d,.unOp op q x,ty,pos,af,gd⟩ ρ0 m = unE P op (strip (ρ0 x)):=by
 rw [aStep_unOp]
 unfold aPure unE
 dsimp only [Op.operands,List.map,flatAll]
 cases hx:flat (strip (ρ0 x)) with
 | none => rfl
 | some vx =>
  dsimp only
  have:execOp (fun x => (flat (strip (ρ0 x))).getD undef) ⟨d,.unOp op q x,ty,pos,af,gd⟩ = Sem.bind (Op.unary op vx) fun v => Sem.pure (Next.value v):=by
   show Sem.bind (Op.unary op ((flat (strip (ρ0 x))).getD undef)) (fun v => Sem.pure (Next.value v)) = _
   rw [hx]; rfl
  rw [this,pureRun_bind]
  cases pureRun P (Op.unary op vx) <;> rfl
theorem unE_neg:unE P .neg (.v (.int c x)) = some ⟨[],nm c (c.wrap (0 - x)),.none⟩:=(rfl)
theorem unE_not {r:Bool}:unE P .not (.v (.bool r)) = some ⟨[],.v (.bool (!r)),.none⟩:=(rfl)
theorem unE_xor:unE P .xor (.v (.int c x)) = some ⟨[],nm c (xorI c (if c.signed then -1 else c.max) x),.none⟩:=(rfl)
def convE (P:Program) (q u:TypeId) (a:AV):Option Eff:=match flat a with
 | some x => match pureRun P (Go.convert q u x) with
  | some v => some ⟨[],ofVal v,.none⟩
  | none => none
 | none => none
theorem aStep_conv2 {x:Operand}:aStep P G key g ⟨d,.convert q u x,ty,pos,af,gd⟩ ρ0 m = convE P q u (strip (ρ0 x)):=by
 rw [aStep_convert]
 unfold aPure convE
 dsimp only [Op.operands,List.map,flatAll]
 cases hx:flat (strip (ρ0 x)) with
 | none => rfl
 | some vx =>
  dsimp only
  have:execOp (fun x => (flat (strip (ρ0 x))).getD undef) ⟨d,.convert q u x,ty,pos,af,gd⟩ = Sem.bind (Go.convert q u vx) fun v => Sem.pure (Next.value v):=by
   show Sem.bind (Go.convert q u ((flat (strip (ρ0 x))).getD undef)) (fun v => Sem.pure (Next.value v)) = _
   rw [hx]; rfl
  rw [this,pureRun_bind]
  cases pureRun P (Go.convert q u vx) <;> rfl
theorem convE_int (h1:(P.underlying q).isSome = true) (h2:P.underlying u = some (.int c')):convE P q u (.v (.int c x)) = some ⟨[],nm c' (c'.wrap x),.none⟩:=by
 obtain ⟨dq,hq⟩:=Option.isSome_iff_exists.1 h1
 have:pureRun P (Go.convert q u (.int c x)) = some (.int c' (c'.wrap x)):=by
  unfold Go.convert
  show pureRun P (Sem.bind _ fun _ => Sem.bind _ _) = _
  rw [pureRun_bind]
  have e1:pureRun P (underlying q) = some dq:=pureRun_under hq
  have e2:pureRun P (underlying u) = some (.int c'):=pureRun_under h2
  rw [e1]
  dsimp only
  rw [pureRun_bind,e2]
  rfl
 unfold convE
 dsimp only [flat]
 rw [this]
 rfl
theorem gmax_eq {x y:Int}:gmax x y = max x y:=by unfold gmax; omega
theorem gmin_eq {x y:Int}:gmin x y = min x y:=by unfold gmin; omega
def mmS (P:Program) (mx:Bool) (o:Oper) (l:List AV) (ρ:Operand→AV):Option Eff:=match intsOf l with
 | some (x :: l) => some ⟨[],.v (.int .i64 (l.foldl (match mx with | true => gmax | false => gmin) x)),.none⟩
 | _ => effOf (aPure P ρ o)
theorem aStep_max2 {args:Array Operand} {ats:Array TypeId}:aStep P G key g ⟨d,.call ⟨.builtin .max,args,ats⟩,ty,pos,af,gd⟩ (opd t) m = mmS P true ⟨d,.call ⟨.builtin .max,args,ats⟩,ty,pos,af,gd⟩ (argsV t args.toList) (fun x => strip (opd t x)):=by
 rw [aStep_max',argsV_eq]
 unfold optB mmS
 cases intsOf (argsV t args.toList) with
 | none => rfl
 | some l => cases l <;> rfl
theorem aStep_min2 {args:Array Operand} {ats:Array TypeId}:aStep P G key g ⟨d,.call ⟨.builtin .min,args,ats⟩,ty,pos,af,gd⟩ (opd t) m = mmS P false ⟨d,.call ⟨.builtin .min,args,ats⟩,ty,pos,af,gd⟩ (argsV t args.toList) (fun x => strip (opd t x)):=by
 rw [aStep_min',argsV_eq]
 unfold optB mmS
 cases intsOf (argsV t args.toList) with
 | none => rfl
 | some l => cases l <;> rfl
theorem mmS_max2 {o:Oper} {ρ:Operand→AV}:mmS P true o [.v (.int .i64 x),.v (.int .i64 y)] ρ = some ⟨[],nm .i64 (max x y),.none⟩:=by
 rw [← gmax_eq]; rfl
theorem mmS_min2 {o:Oper} {ρ:Operand→AV}:mmS P false o [.v (.int .i64 x),.v (.int .i64 y)] ρ = some ⟨[],nm .i64 (min x y),.none⟩:=by
 rw [← gmin_eq]; rfl
theorem mmS_max3 {o:Oper} {ρ:Operand→AV} {z:Int}:mmS P true o [.v (.int .i64 x),.v (.int .i64 y),.v (.int .i64 z)] ρ = some ⟨[],nm .i64 (max (max x y) z),.none⟩:=by
 rw [← gmax_eq,← gmax_eq]; rfl
theorem mmS_max4 {o:Oper} {ρ:Operand→AV} {z w:Int}:mmS P true o [.v (.int .i64 x),.v (.int .i64 y),.v (.int .i64 z),.v (.int .i64 w)] ρ = some ⟨[],nm .i64 (max (max (max x y) z) w),.none⟩:=by
 rw [← gmax_eq,← gmax_eq,← gmax_eq]; rfl
def lenR (n:Nat) (e:Option TypeId):Option Eff:=match e with
 | some _ => some ⟨[],.v (.int .i64 n),.none⟩
 | none => none
theorem lenR_some:lenR n (some q) = some ⟨[],.v (.int .i64 n),.none⟩:=(rfl)
def lenE (P:Program) (o:Oper) (q:TypeId) (a:AV) (ρ:Operand→AV):Option Eff:=match lenA a with
 | some n => lenR n (sElem P q)
 | none => effOf (aPure P ρ o)
theorem aStep_len2 {x:Operand}:aStep P G key g ⟨d,.call ⟨.builtin .len,#[x],#[q]⟩,ty,pos,af,gd⟩ ρ0 m = lenE P ⟨d,.call ⟨.builtin .len,#[x],#[q]⟩,ty,pos,af,gd⟩ q (strip (ρ0 x)) (fun x => strip (ρ0 x)):=by
 rw [aStep_len]
 unfold optB lenE lenR
 cases lenA (strip (ρ0 x)) with
 | none => rfl
 | some n => dsimp only; cases sElem P q <;> rfl
theorem lenE_ro {o:Oper} {ρ:Operand→AV} {f:Nat→List AV}:lenE P o q (.ro n sz f) ρ = lenR n (sElem P q):=(rfl)
theorem lenE_own {o:Oper} {ρ:Operand→AV} {r f:Nat}:lenE P o q (.own r f n sz) ρ = lenR n (sElem P q):=(rfl)
theorem lenE_vw {o:Oper} {ρ:Operand→AV} {r f lo:Nat}:lenE P o q (.vw r f lo n sz) ρ = lenR n (sElem P q):=(rfl)
def orE (na:List Prop) (x y:Option Bool) (nb:List Prop):Option Eff:=match x with
 | some t => match y with
  | some q => some ⟨na ++ nb.map (t = false→·),.v (.bool (t || q)),.none⟩
  | none => none
 | none => none
def andE (na:List Prop) (x y:Option Bool) (nb:List Prop):Option Eff:=match x with
 | some t => match y with
  | some q => some ⟨na ++ nb.map (t = true→·),.v (.bool (t && q)),.none⟩
  | none => none
 | none => none
theorem orE_some {na nb:List Prop} {r s:Bool}:orE na (some r) (some s) nb = some ⟨na ++ nb.map (r = false→·),.v (.bool (r || s)),.none⟩:=(rfl)
theorem andE_some {na nb:List Prop} {r s:Bool}:andE na (some r) (some s) nb = some ⟨na ++ nb.map (r = true→·),.v (.bool (r && s)),.none⟩:=(rfl)
theorem aStep_or3 {xo yo:Operand}:aStep P G key g ⟨d,.pick xo (.const (.bool true)) yo,ty,pos,af,gd⟩ ρ0 m = orE (needs [ρ0 xo]) (boolOf (strip (ρ0 xo))) (boolOf (strip (ρ0 yo))) (needs [ρ0 yo]):=by
 rw [aStep_pick,aPick_or]
 unfold optB orE
 cases boolOf (strip (ρ0 xo)) with
 | none => rfl
 | some r => dsimp only; cases boolOf (strip (ρ0 yo)) <;> rfl
theorem aStep_and3 {xo:Operand}:aStep P G key g ⟨d,.pick xo (.tmp j) (.const (.bool false)),ty,pos,af,gd⟩ ρ0 m = andE (needs [ρ0 xo]) (boolOf (strip (ρ0 xo))) (boolOf (strip (ρ0 (.tmp j)))) (needs [ρ0 (.tmp j)]):=by
 rw [aStep_pick,aPick_and]
 unfold optB andE
 cases boolOf (strip (ρ0 xo)) with
 | none => rfl
 | some r => dsimp only; cases boolOf (strip (ρ0 (.tmp j))) <;> rfl
theorem boolOf_bool {r:Bool}:boolOf (.v (.bool r)) = some r:=(rfl)
theorem isPick_pick {xo yo zo:Operand}:isPick (.pick xo yo zo) = true:=(rfl)
def callY (gs:List Prop) (x:Option (List Prop×AV)):Option (List Prop×AV):=match x with
 | some (ob,r) => match plain 3 r with
  | true => some (gs ++ ob,r)
  | false => none
 | none => none
def callZ (c:Bool) (ob:List Prop) (r:AV):Option (List Prop×AV):=match c with
 | true => some (ob,r)
 | false => none
theorem callY_some {gs ob:List Prop}:callY gs (some (ob,a)) = callZ (plain 3 a) (gs ++ ob) a:=by
 show (match plain 3 a with
  | true => some (gs ++ ob,a)
  | false => none) = _
 cases plain 3 a <;> rfl
theorem callZ_true {ob:List Prop}:callZ true ob a = some (ob,a):=(rfl)
def callX (c:Bool) (f:Con) (l:List AV) (m:Mem):Option (List Prop×AV):=match c with
 | true => f l
 | false => callY (l.flatMap (pgs 3 m)) (f (l.map (purU 3 m)))
theorem callX_true {f:Con}:callX true f l m = f l:=(rfl)
def callD (x:Option Con) (l:List AV) (m:Mem):Option (List Prop×AV):=match x with
 | some f => callX (l.all (clean 3)) f l m
 | none => none
def callF (g:Option Bool) (key:Nat) (m:Mem) (l:List AV) (f:FuncId):Option CE→Option Eff
 | some (.wr c) => bndE (aMut g (c key m l))
 | some (.pure c) => bndE (effOf2 (callD (if f < 1000000 then some c else none) l m))
 | none => none
theorem callF_pure {f:FuncId} {c:Con}:callF g key m l f (some (.pure c)) = bndE (effOf2 (callD (if f < 1000000 then some c else none) l m)):=(rfl)
theorem callF_mut {f:FuncId} {c:MCon}:callF g key m l f (some (.wr c)) = bndE (aMut g (c key m l)):=(rfl)
theorem aMut_many {ob:List Prop} {p:Nat×Fam} {sets:List (Nat×Fam)} {nw:Option Fam}:aMut none (some ⟨ob,a,.many (p :: sets) nw⟩) = some ⟨ob,a,.many (p :: sets) nw⟩:=(rfl)
theorem aMut_one {ob:List Prop} {x:Fam}:aMut none (some ⟨ob,a,.many [] (some x)⟩) = some ⟨ob,a,.new x⟩:=(rfl)
theorem aMut_nil {ob:List Prop}:aMut none (some ⟨ob,a,.many [] none⟩) = some ⟨ob,a,.many [] none⟩:=(rfl)
def callE (G:Ctx) (g:Option Bool) (key:Nat) (m:Mem) (l:List AV) (f:AV):Option Eff:=match f with
 | .fn f cap => callF g key m (l ++ cap) f (ctxGet G f)
 | _ => none
theorem callE_fn {f:FuncId}:callE G g key m l (.fn f cs) = callF g key m (l ++ cs) f (ctxGet G f):=(rfl)
theorem bndE_some {ob:List Prop} {u:Upd}:bndE (some ⟨ob,a,u⟩) = some ⟨ob,bnd a,u⟩:=(rfl)
theorem bndE_eq (x:Option Eff):bndE x = x:=by
 rcases x with _ | ⟨_,_,_⟩ <;> rfl
theorem aCall_D {f:FuncId}:aCall G f l m = callD (ctxCall G f) l m:=by
 unfold aCall callD
 cases ctxCall G f with
 | none => rfl
 | some c =>
  dsimp only
  unfold callX
  cases l.all (clean 3) with
  | true => rfl
  | false =>
   dsimp only
   unfold callY
   cases c (l.map (purU 3 m)) with
   | none => rfl
   | some p => rfl
theorem aStep_call2 {f:Operand} {args:Array Operand} {ats:Array TypeId}:aStep P G key g ⟨d,.call ⟨.value f,args,ats⟩,ty,pos,af,gd⟩ (opd t) m = callE G g key m (argsV t args.toList) (strip (opd t f)):=by
 rw [aStep_call,argsV_eq]
 unfold fnK callE
 cases strip (opd t f) with
 | fn h cap =>
  dsimp only
  unfold optB callF
  cases hc:ctxGet G h with
  | none =>
   simp only [mutOf]
   rw [aCall_D]
   unfold ctxCall
   rw [hc]
   by_cases hl:h < 1000000 <;> simp [hl,pureOf,callD,effOf2]
  | some c =>
   cases c with
   | wr c => simp only [mutOf,bndE_eq]
   | pure c =>
    simp only [mutOf]
    rw [aCall_D,bndE_eq]
    unfold ctxCall
    rw [hc]
    rfl
 | _ => rfl
def invF (G:Ctx) (m:Mem) (l:List AV) (f:Option FuncId):Option Eff:=match f with
 | some f => bndE (effOf2 (callD (ctxCall G f) l m))
 | none => none
theorem invF_some {f:FuncId}:invF G m l (some f) = bndE (effOf2 (callD (ctxCall G f) l m)):=(rfl)
def invE (P:Program) (G:Ctx) (m:Mem) (name:String) (l:List AV) (r:AV):Option Eff:=match r with
 | .iface t x => invF G m (x :: l) (methT P t name)
 | .v .nilIface => some ⟨[False],.v (.bool false),.none⟩
 | _ => none
theorem invE_iface {name:String}:invE P G m name l (.iface q a) = invF G m (a :: l) (methT P q name):=(rfl)
theorem invE_nil {name:String}:invE P G m name l (.v .nilIface) = some ⟨[False],.v (.bool false),.none⟩:=(rfl)
theorem aStep_invoke2 {r:Operand} {name:String} {args:Array Operand} {ats:Array TypeId}:aStep P G key g ⟨d,.call ⟨.invoke r name,args,ats⟩,ty,pos,af,gd⟩ (opd t) m = invE P G m name (argsV t args.toList) (strip (opd t r)):=by
 show (match strip (opd t r) with
  | .iface t' x => match methT P t' name with
   | some h => effOf2 (aCall G h (x :: args.toList.map (fun x => strip (opd t x))) m)
   | none => none
  | .v .nilIface => some ⟨[False],.v (.bool false),.none⟩
  | _ => none) = _
 rw [argsV_eq]
 unfold invE invF
 cases strip (opd t r) with
 | iface q x =>
  dsimp only
  cases methT P q name with
  | none => rfl
  | some h => dsimp only; rw [aCall_D,bndE_eq]
 | v x => cases x <;> rfl
 | _ => rfl
theorem ctxCall_eq {f:FuncId}:ctxCall G f = if f < 1000000 then pureOf (ctxGet G f) else none:=(rfl)
theorem pureOf_pure {c:Con}:pureOf (some (.pure c)) = some c:=(rfl)
theorem ctxGet_cons {f h:FuncId} {c:CE}:ctxGet ((f,c) :: G) h = if f = h then some c else ctxGet G h:=(rfl)
theorem stepC_ite {p:Prop} [Decidable p] {x:Option Eff}:stepC P G H K0 hot ops d rest i st t m nx (if p then none else x) = (¬ p∧stepC P G H K0 hot ops d rest i st t m nx x):=by
 by_cases h:p
 ·simp [h,stepC,optK]
 ·simp [h]
theorem withOb_ite {p:Prop} [Decidable p] {x:Option Eff} {ob:List Prop}:withOb ob (if p then none else x) = if p then none else withOb ob x:=by
 by_cases h:p <;> simp [h,withOb]
end
section
variable {P:Program} {G:Ctx} {H:Hots} {K0:AEx→St→Prop} {st:List Fr} {s s':St} {n sz i j k key d nx:Nat} {t:Slots} {m:Mem} {a b:AV} {l cs:List AV} {ty q:TypeId} {Q:AV→Prop} {rs:List ResultVar} {g:Option Bool}
def tmpE (a:AV):Option Eff:=match a with
 | .cond _ _ => none
 | a => some ⟨[],a,.none⟩
theorem tmpE_v {x:Value}:tmpE (.v x) = some ⟨[],.v x,.none⟩:=(rfl)
theorem tmpE_agg:tmpE (.agg l) = some ⟨[],.agg l,.none⟩:=(rfl)
theorem tmpE_ro {f:Nat→List AV}:tmpE (.ro n sz f) = some ⟨[],.ro n sz f,.none⟩:=(rfl)
theorem tmpE_own {r f:Nat}:tmpE (.own r f n sz) = some ⟨[],.own r f n sz,.none⟩:=(rfl)
theorem tmpE_vw {r f lo:Nat}:tmpE (.vw r f lo n sz) = some ⟨[],.vw r f lo n sz,.none⟩:=(rfl)
theorem tmpE_fn {f:FuncId}:tmpE (.fn f l) = some ⟨[],.fn f l,.none⟩:=(rfl)
theorem tmpE_iface:tmpE (.iface q a) = some ⟨[],.iface q a,.none⟩:=(rfl)
theorem tmpE_rop:tmpE (.rop l) = some ⟨[],.rop l,.none⟩:=(rfl)
theorem tmpE_bx:tmpE (.bx n k) = some ⟨[],.bx n k,.none⟩:=(rfl)
def resE (P:Program) (t:Slots) (m:Mem) (r:ResultVar):Option Eff:=match r with
 | .tmp k => tmpE (slot t k)
 | .cell a ty => loadA P ty (slot t a) m
theorem resE_tmp:resE P t m (.tmp k) = tmpE (slot t k):=(rfl)
theorem resE_cell:resE P t m (.cell k ty) = loadA P ty (slot t k) m:=(rfl)
def retQ (m:Mem) (Q:AV→Prop) (l:List AV):Prop:=match l with
 | [a] => Q (pur 3 m a)
 | es => Q (pur 3 m (.tup es))
theorem retQ_one:retQ m Q [a] = Q (pur 3 m a):=(rfl)
theorem retQ_none:retQ m Q [] = Q (pur 3 m (.tup [])):=(rfl)
theorem retQ_more:retQ m Q (a :: b :: l) = Q (pur 3 m (.tup (a :: b :: l))):=(rfl)
def retL (P:Program) (t:Slots) (m:Mem) (Q:AV→Prop):List ResultVar→List AV→Prop
 | [],l => retQ m Q l
 | r :: rs,l => match resE P t m r with
  | some e => conj e.ob (retL P t m Q rs (l ++ [e.val]))
  | none => False
def retS (P:Program) (t:Slots) (m:Mem) (Q:AV→Prop) (rs:List ResultVar) (l:List AV) (x:Option Eff):Prop:=match x with
 | some e => conj e.ob (retL P t m Q rs (l ++ [e.val]))
 | none => False
theorem retL_nil:retL P t m Q [] l = retQ m Q l:=(rfl)
theorem retL_cons {r:ResultVar}:retL P t m Q (r :: rs) l = retS P t m Q rs l (resE P t m r):=(rfl)
theorem retS_some {ob:List Prop} {u:Upd}:retS P t m Q rs l (some ⟨ob,a,u⟩) = conj ob (retL P t m Q rs (l ++ [a])):=(rfl)
def endR (P:Program) (rs:List ResultVar) (Q:AV→Prop) (e:AEx) (s:St):Prop:=match e with
 | .exit _ => False
 | _ => retL P s.t s.m Q rs []
theorem endR_ret:endR P rs Q .ret ⟨t,m,nx⟩ = retL P t m Q rs []:=(rfl)
theorem endR_normal:endR P rs Q .normal ⟨t,m,nx⟩ = retL P t m Q rs []:=(rfl)
theorem conj_mono:∀ {p:List Prop} {k k':Prop},(k→k')→conj p k→conj p k'
 | [],_,_,h,x => h x
 | _ :: _,_,_,h,x => ⟨x.1,conj_mono h x.2⟩
theorem resOf_E {r:ResultVar} {e:Eff} (h:resE P s.t s.m r = some e):resOf P r s = some (e.ob,e.val):=by
 cases r with
 | tmp k =>
  simp only [resE,tmpE] at h
  simp only [resOf]
  split at h
  ·cases h
  ·rename_i a hne
   cases h
   split
   ·rename_i c x hc; exact (hne c x hc).elim
   ·rfl
 | cell k ty =>
  simp only [resE,loadA,effOf2] at h
  simp only [resOf]
  split at h
  ·rename_i ob x hx; cases h; exact hx
  ·cases h
theorem retL_sound:∀ {rs:List ResultVar} {l:List AV},retL P s.t s.m Q rs l→∃ ob es,resList P s rs = some (ob,es)∧(∀ p ∈ ob,p)∧retQ s.m Q (l ++ es)
 | [],l,h => ⟨[],[],rfl,by simp,by simpa [retL] using h⟩
 | r :: rs,l,h => by
  simp only [retL] at h
  split at h
  ·rename_i e he
   obtain ⟨ob,es,h1,h2,h3⟩:=retL_sound (rs:=rs) (conj_iff.1 h).2
   refine ⟨e.ob ++ ob,e.val :: es,?_,fun p hp => ?_,by simpa using h3⟩
   ·simp only [resList,resOf_E he,h1]
   ·rcases List.mem_append.1 hp with hp | hp
    ·exact (conj_iff.1 h).1 p hp
    ·exact h2 p hp
  ·exact h.elim
theorem endR_sound {fn:Func} (hr:fn.results.toList = rs) {e:AEx} (h:endR P rs Q e s):endK P fn Q e s:=by
 have key:retL P s.t s.m Q rs []→match resAll P s fn.results.toList with
   | some (ob,a) => conj ob (Q (pur 3 s.m a))
   | none => False:=fun h => by
  obtain ⟨ob,es,h1,h2,h3⟩:=retL_sound h
  rw [hr]
  simp only [resAll,h1]
  rw [List.nil_append] at h3
  cases es with
  | nil => exact conj_iff.2 ⟨h2,h3⟩
  | cons a es => cases es with
   | nil => exact conj_iff.2 ⟨h2,h3⟩
   | cons b es => exact conj_iff.2 ⟨h2,h3⟩
 cases e with
 | exit j => exact h.elim
 | normal => exact key h
 | ret => exact key h
theorem awp_mono {K K':AEx→St→Prop} (hK:∀ e s,K e s→K' e s):∀ {c:Code} {s:St},awp P G H c s K→awp P G H c s K'
 | .skip,s,h => hK _ _ h
 | .region id ops draw,s,h => regP_mono (fun s h => hK _ _ h) h
 | .seq a b,s,h => awp_mono (c:=a) (fun e s => by cases e <;> first | exact fun h => awp_mono hK h | exact hK _ _) h
 | .cond c x y,s,h => by
  simp only [awp,optK] at h ⊢
  split at h
  ·exact ⟨fun e => awp_mono hK (h.1 e),fun e => awp_mono hK (h.2 e)⟩
  ·exact h
 | .block id c,s,h => awp_mono (c:=c) (fun e s => by
   cases e with
   | normal => exact hK _ _
   | ret => exact hK _ _
   | exit j => intro h; simp only [blockK] at h ⊢; split at h <;> simp_all) h
 | .ret,s,h => hK _ _ h
 | .exit id,s,h => hK _ _ h
 | .loop c,s,h => by
  obtain ⟨X,I,h0,h1⟩:=h
  exact ⟨X,I,h0,fun x hx => awp_mono (c:=c) (fun e s => by cases e <;> first | exact fun h => h | exact hK _ _) (h1 x hx)⟩
 | .rangeFunc g ps x c,s,h => by
  simp only [awp,optK] at h ⊢
  split at h
  ·obtain ⟨hob,h1,X,I,cnt,h2,h3,h4,h5⟩:=conj_iff.1 h
   refine conj_iff.2 ⟨hob,h1,X,I,cnt,h2,h3,fun y hy hc => awp_mono (c:=x) (fun e s => ?_) (h4 y hy hc),fun y hy hc => hK _ _ (h5 y hy hc)⟩
   cases e with
   | normal => exact fun h => awp_mono (c:=c) (fun e s => by cases e <;> first | exact fun h => h | exact hK _ _) h
   | exit j => exact fun h => h
   | ret => exact fun h => h
  ·exact h
 | .scope c,s,h => awp_mono (c:=c) hK h
 | .label ..,s,h => hK _ _ h
 | .goto ..,s,h => h.elim
 | .refuse ..,s,h => h.elim
theorem fnVC_go {fn:Func} {c:Code} {es:List AV} (hb:fn.body = some c) (hr:fn.results.toList = rs) (h:goC P G H (endR P rs Q) c [] ⟨argSlots 0 es,[],0⟩):fnVC P G H fn es Q:=by
 unfold fnVC
 rw [hb]
 exact awp_mono (fun e s h => endR_sound hr h) h
theorem argSlots_nil:argSlots i [] = []:=(rfl)
theorem argSlots_cons:argSlots i (a :: l) = (i,a) :: argSlots (i + 1) l:=(rfl)
theorem pur_v {x:Value}:pur d m (.v x) = .v x:=by cases d <;> rfl
theorem pur_any:pur d m .any = .any:=by cases d <;> rfl
theorem pur_ro {f:Nat→List AV}:pur d m (.ro n sz f) = .ro n sz f:=by cases d <;> rfl
theorem pur_rop:pur d m (.rop l) = .rop l:=by cases d <;> rfl
def purL (d:Nat) (m:Mem):List AV→List AV
 | [] => []
 | a :: l => pur d m a :: purL d m l
theorem purL_eq:∀ {l:List AV},l.map (pur d m) = purL d m l
 | [] => rfl
 | a :: l => by rw [List.map_cons,purL_eq]; rfl
theorem purL_nil:purL d m [] = []:=(rfl)
theorem purL_cons:purL d m (a :: l) = pur d m a :: purL d m l:=(rfl)
theorem pur_agg:pur (d + 1) m (.agg l) = .agg (purL d m l):=by rw [← purL_eq]; rfl
theorem pur_tup:pur (d + 1) m (.tup l) = .tup (purL d m l):=by rw [← purL_eq]; rfl
theorem pur_iface:pur (d + 1) m (.iface q a) = .iface q (pur d m a):=(rfl)
theorem pur_fn {f:FuncId}:pur (d + 1) m (.fn f l) = .fn f (purL d m l):=by rw [← purL_eq]; rfl
def purB (d k:Nat) (m:Mem) (x:Option Fam):AV:=match x with
 | some fam => match (fam 0).n,(fam 0).g with
  | 1,none => .rop ((((fam 0).get 0).drop k).map (pur d m))
  | _,_ => .any
 | none => .any
theorem pur_bx {r:Nat}:pur (d + 1) m (.bx r k) = purB d k m (look m r):=(rfl)
theorem purB_1:purB d k m (some (fam1 ty sz cs none)) = .rop (purL d m (cs.drop k)):=by rw [← purL_eq]; rfl
def rowG (d:Nat) (m:Mem) (get:Nat→List AV):Nat→List AV:=fun i => purL d m (get i)
theorem rowG_eq {get:Nat→List AV}:rowG d m get = fun i => purL d m (get i):=(rfl)
def purO (d f n sz:Nat) (m:Mem) (x:Option Fam):AV:=match x with
 | some fam => match (fam f).g with
  | none => if n≤(fam f).n∧sz = (fam f).sz then .ro n sz (fun i => ((fam f).get i).map (pur d m)) else .any
  | some _ => .any
 | none => .any
theorem pur_own {r f:Nat}:pur (d + 1) m (.own r f n sz) = purO d f n sz m (look m r):=(rfl)
theorem purO_N {n' sz':Nat} {get:Nat→List AV} (h:n≤n'∧sz = sz'):purO d 0 n sz m (some (famN n' sz' ty get none)) = .ro n sz (rowG d m get):=by
 show (if n≤n'∧sz = sz' then AV.ro n sz (fun i => (get i).map (pur d m)) else .any) = _
 rw [if_pos h]
 congr 1
 funext i
 exact purL_eq
def purW (d f lo n sz:Nat) (m:Mem) (x:Option Fam):AV:=match x with
 | some fam => match (fam f).g with
  | none => if lo + n≤(fam f).n∧sz = (fam f).sz then .ro n sz (fun i => ((fam f).get (lo + i)).map (pur d m)) else .any
  | some _ => .any
 | none => .any
theorem pur_vw {r f lo:Nat}:pur (d + 1) m (.vw r f lo n sz) = purW d f lo n sz m (look m r):=(rfl)
theorem purW_N {n' sz' lo:Nat} {get:Nat→List AV} (h:lo + n≤n'∧sz = sz'):purW d 0 lo n sz m (some (famN n' sz' ty get none)) = .ro n sz (fun i => purL d m (get (lo + i))):=by
 show (if lo + n≤n'∧sz = sz' then AV.ro n sz (fun i => (get (lo + i)).map (pur d m)) else .any) = _
 rw [if_pos h]
 congr 1
 funext i
 exact purL_eq
def purUL (d:Nat) (m:Mem):List AV→List AV
 | [] => []
 | a :: l => purU d m a :: purUL d m l
theorem purUL_eq:∀ {l:List AV},l.map (purU d m) = purUL d m l
 | [] => rfl
 | a :: l => by rw [List.map_cons,purUL_eq]; rfl
theorem purUL_nil:purUL d m [] = []:=(rfl)
theorem purUL_cons:purUL d m (a :: l) = purU d m a :: purUL d m l:=(rfl)
theorem purU_v {x:Value}:purU d m (.v x) = .v x:=by cases d <;> rfl
theorem purU_any:purU d m .any = .any:=by cases d <;> rfl
theorem purU_ro {f:Nat→List AV}:purU d m (.ro n sz f) = .ro n sz f:=by cases d <;> rfl
theorem purU_rop:purU d m (.rop l) = .rop l:=by cases d <;> rfl
theorem purU_agg:purU (d + 1) m (.agg l) = .agg (purUL d m l):=by rw [← purUL_eq]; rfl
theorem purU_tup:purU (d + 1) m (.tup l) = .tup (purUL d m l):=by rw [← purUL_eq]; rfl
theorem purU_iface:purU (d + 1) m (.iface q a) = .iface q (purU d m a):=(rfl)
theorem purU_fn {f:FuncId}:purU (d + 1) m (.fn f l) = .fn f (purUL d m l):=by rw [← purUL_eq]; rfl
def purUB (d k:Nat) (m:Mem) (x:Option Fam):AV:=match x with
 | some fam => match (fam 0).n with
  | 1 => .rop ((((fam 0).get 0).drop k).map (purU d m))
  | _ => .any
 | none => .any
theorem purU_bx {r:Nat}:purU (d + 1) m (.bx r k) = purUB d k m (look m r):=(rfl)
theorem purUB_1:purUB d k m (some (fam1 ty sz cs g)) = .rop (purUL d m (cs.drop k)):=by rw [← purUL_eq]; rfl
def purUO (d f n sz:Nat) (m:Mem) (x:Option Fam):AV:=match x with
 | some fam => if n≤(fam f).n∧sz = (fam f).sz then .ro n sz (fun i => ((fam f).get i).map (pur d m)) else .any
 | none => .any
theorem purU_own {r f:Nat}:purU (d + 1) m (.own r f n sz) = purUO d f n sz m (look m r):=(rfl)
theorem purUO_N {n' sz':Nat} {get:Nat→List AV} (h:n≤n'∧sz = sz'):purUO d 0 n sz m (some (famN n' sz' ty get g)) = .ro n sz (rowG d m get):=by
 show (if n≤n'∧sz = sz' then AV.ro n sz (fun i => (get i).map (pur d m)) else .any) = _
 rw [if_pos h]
 congr 1
 funext i
 exact purL_eq
theorem purL_take:∀ {l:List AV} {n:Nat},purL d m (l.take n) = (purL d m l).take n:=by
 intro l n; rw [← purL_eq,← purL_eq,List.map_take]
theorem purL_drop:∀ {l:List AV} {n:Nat},purL d m (l.drop n) = (purL d m l).drop n:=by
 intro l n; rw [← purL_eq,← purL_eq,List.map_drop]
theorem rowG_rows {l:List AV}:rowG d m (rowsOf sz l) = rowsOf sz (purL d m l):=by
 funext i; unfold rowG rowsOf; rw [purL_take,purL_drop]
def purUW (d f lo n sz:Nat) (m:Mem) (x:Option Fam):AV:=match x with
 | some fam => if lo + n≤(fam f).n∧sz = (fam f).sz then .ro n sz (fun i => ((fam f).get (lo + i)).map (pur d m)) else .any
 | none => .any
theorem purU_vw {r f lo:Nat}:purU (d + 1) m (.vw r f lo n sz) = purUW d f lo n sz m (look m r):=(rfl)
theorem purUW_N {n' sz' lo:Nat} {get:Nat→List AV} (h:lo + n≤n'∧sz = sz'):purUW d 0 lo n sz m (some (famN n' sz' ty get g)) = .ro n sz (fun i => purL d m (get (lo + i))):=by
 show (if lo + n≤n'∧sz = sz' then AV.ro n sz (fun i => (get (lo + i)).map (pur d m)) else .any) = _
 rw [if_pos h]
 congr 1
 funext i
 exact purL_eq
def pgsL (d:Nat) (m:Mem):List AV→List Prop
 | [] => []
 | a :: l => pgs d m a ++ pgsL d m l
theorem pgsL_eq:∀ {l:List AV},l.flatMap (pgs d m) = pgsL d m l
 | [] => rfl
 | a :: l => by rw [List.flatMap_cons,pgsL_eq]; rfl
theorem pgsL_nil:pgsL d m [] = []:=(rfl)
theorem pgsL_cons:pgsL d m (a :: l) = pgs d m a ++ pgsL d m l:=(rfl)
theorem pgs_v {x:Value}:pgs d m (.v x) = []:=by cases d <;> rfl
theorem pgs_any:pgs d m .any = []:=by cases d <;> rfl
theorem pgs_ro {f:Nat→List AV}:pgs d m (.ro n sz f) = []:=by cases d <;> rfl
theorem pgs_rop:pgs d m (.rop l) = []:=by cases d <;> rfl
theorem pgs_agg:pgs (d + 1) m (.agg l) = pgsL d m l:=by rw [← pgsL_eq]; rfl
theorem pgs_tup:pgs (d + 1) m (.tup l) = pgsL d m l:=by rw [← pgsL_eq]; rfl
theorem pgs_iface:pgs (d + 1) m (.iface q a) = pgs d m a:=(rfl)
theorem pgs_fn {f:FuncId}:pgs (d + 1) m (.fn f l) = pgsL d m l:=by rw [← pgsL_eq]; rfl
def pgsB (d k:Nat) (m:Mem) (x:Option Fam):List Prop:=match x with
 | some fam => gOb (fam 0).g ((((fam 0).get 0).drop k).flatMap (pgs d m))
 | none => []
theorem pgs_bx {r:Nat}:pgs (d + 1) m (.bx r k) = pgsB d k m (look m r):=(rfl)
theorem pgsB_1:pgsB d k m (some (fam1 ty sz cs g)) = gOb g (pgsL d m (cs.drop k)):=by rw [← pgsL_eq]; rfl
def pgsO (f:Nat) (x:Option Fam):List Prop:=match x with
 | some fam => gOb (fam f).g []
 | none => []
theorem pgs_own {r f:Nat}:pgs (d + 1) m (.own r f n sz) = pgsO f (look m r):=(rfl)
theorem pgs_vw {r f lo:Nat}:pgs (d + 1) m (.vw r f lo n sz) = pgsO f (look m r):=(rfl)
theorem pgsO_N {n' sz':Nat} {get:Nat→List AV}:pgsO 0 (some (famN n' sz' ty get g)) = gOb g []:=(rfl)
def cleanL (d:Nat):List AV→Bool
 | [] => true
 | a :: l => clean d a && cleanL d l
theorem cleanL_eq:∀ {l:List AV},l.all (clean d) = cleanL d l
 | [] => rfl
 | a :: l => by rw [List.all_cons,cleanL_eq]; rfl
theorem all_clean2:l.all (clean 2) = cleanL 2 l:=cleanL_eq
theorem cleanL_nil:cleanL d [] = true:=(rfl)
theorem cleanL_cons:cleanL d (a :: l) = (clean d a && cleanL d l):=(rfl)
theorem clean_v {x:Value}:clean d (.v x) = true:=by cases d <;> rfl
theorem clean_any:clean d .any = true:=by cases d <;> rfl
theorem clean_ro {f:Nat→List AV}:clean d (.ro n sz f) = true:=by cases d <;> rfl
theorem clean_rop:clean d (.rop l) = true:=by cases d <;> rfl
theorem clean_bx:clean d (.bx n k) = false:=by cases d <;> rfl
theorem clean_ptr {r f:Nat}:clean d (.ptr r f i sz k) = false:=by cases d <;> rfl
theorem clean_own {r f:Nat}:clean d (.own r f n sz) = false:=by cases d <;> rfl
theorem clean_vw {r f lo:Nat}:clean d (.vw r f lo n sz) = false:=by cases d <;> rfl
theorem clean_agg:clean (d + 1) (.agg l) = cleanL d l:=by rw [← cleanL_eq]; rfl
theorem clean_tup:clean (d + 1) (.tup l) = cleanL d l:=by rw [← cleanL_eq]; rfl
theorem clean_fn {f:FuncId}:clean (d + 1) (.fn f l) = cleanL d l:=by rw [← cleanL_eq]; rfl
theorem clean_iface:clean (d + 1) (.iface q a) = clean d a:=(rfl)
def plainL (d:Nat):List AV→Bool
 | [] => true
 | a :: l => plain d a && plainL d l
theorem plainL_eq:∀ {l:List AV},l.all (plain d) = plainL d l
 | [] => rfl
 | a :: l => by rw [List.all_cons,plainL_eq]; rfl
theorem plainL_nil:plainL d [] = true:=(rfl)
theorem plainL_cons:plainL d (a :: l) = (plain d a && plainL d l):=(rfl)
theorem plain_v {x:Value}:plain d (.v x) = true:=by cases d <;> rfl
theorem plain_agg:plain (d + 1) (.agg l) = plainL d l:=by rw [← plainL_eq]; rfl
theorem plain_tup:plain (d + 1) (.tup l) = plainL d l:=by rw [← plainL_eq]; rfl
theorem plain_iface:plain (d + 1) (.iface q a) = plain d a:=(rfl)
def elemB (j:Nat):List Nat→Bool
 | [] => false
 | k :: r => if j = k then true else elemB j r
theorem elemB_iff {j:Nat}:∀ {l:List Nat},elemB j l = true ↔ j ∈ l
 | [] => by simp [elemB]
 | k :: r => by
  simp only [elemB,List.mem_cons]
  by_cases h:j = k
  ·simp [h]
  ·simp [h,elemB_iff]
def dropB (W:List Nat):Slots→Slots
 | [] => []
 | (j,a) :: r => bif elemB j W then dropB W r else (j,a) :: dropB W r
theorem dropB_eq {W:List Nat}:∀ {t:Slots},dropW W t = dropB W t
 | [] => rfl
 | (j,a) :: r => by
  simp only [dropW,dropB]
  by_cases h:j ∈ W
  ·rw [if_pos h,elemB_iff.2 h,dropB_eq]; rfl
  ·rw [if_neg h]
   have:elemB j W = false:=by cases hb:elemB j W; rfl; exact (h (elemB_iff.1 hb)).elim
   rw [this,dropB_eq]; rfl
def anyS:List Nat→Slots
 | [] => []
 | j :: r => (j,.any) :: anyS r
theorem anyS_eq:∀ {W:List Nat},(W.map fun j => (j,AV.any)) = anyS W
 | [] => rfl
 | j :: r => by rw [List.map_cons,anyS_eq]; rfl
theorem anyS_nil:anyS [] = []:=(rfl)
theorem anyS_cons {r:List Nat}:anyS (j :: r) = (j,.any) :: anyS r:=(rfl)
theorem dropB_nil {W:List Nat}:dropB W [] = []:=(rfl)
theorem dropB_cons {W:List Nat}:dropB W ((j,a) :: t) = bif elemB j W then dropB W t else (j,a) :: dropB W t:=(rfl)
theorem elemB_nil:elemB j [] = false:=(rfl)
theorem elemB_cons {r:List Nat}:elemB j (k :: r) = if j = k then true else elemB j r:=(rfl)
theorem keptRows_nil {m:Mem}:keptRows [] m = []:=by simp [keptRows]
theorem keptRows_cons {W:List Nat} {x:Fam}:keptRows W ((k,x) :: m) = bif elemB k W then (k,x) :: keptRows W m else keptRows W m:=by
 unfold keptRows
 rw [List.filter_cons]
 by_cases h:k ∈ W
 ·rw [elemB_iff.2 h]; simp [h]
 ·have:elemB k W = false:=by cases hb:elemB k W; rfl; exact (h (elemB_iff.1 hb)).elim
  rw [this]; simp [h]
theorem keptRows_end {W:List Nat}:keptRows W [] = []:=(rfl)
def roundK {X:Type} (P:Program) (G:Ctx) (H:Hots) (K0:AEx→St→Prop) (st:List Fr) (ok:X→Prop) (μ:X→Nat) (live:X→Slots) (rows:X→Mem) (keep W:List Nat) (nx:Nat) (m:Mem) (x:X) (e:AEx) (s':St):Prop:=match e with
 | .normal => ∃ y,ok y∧μ y < μ x∧fitSlots nx nx [] W s'.t (live y)∧fitRows nx nx [] s'.m (rows y)∧fitKeep m s'.m keep
 | e => retC P G H K0 e st s'
section
variable {X:Type} {ok:X→Prop} {μ:X→Nat} {live:X→Slots} {rows:X→Mem} {keep W:List Nat} {x:X} {m0:Mem}
theorem roundK_normal:roundK P G H K0 st ok μ live rows keep W nx m0 x .normal ⟨t,m,k⟩ = ∃ y,ok y∧μ y < μ x∧fitSlots nx nx [] W t (live y)∧fitRows nx nx [] m (rows y)∧fitKeep m0 m keep:=(rfl)
theorem roundK_ret:roundK P G H K0 st ok μ live rows keep W nx m0 x .ret s' = retC P G H K0 .ret st s':=(rfl)
theorem roundK_exit:roundK P G H K0 st ok μ live rows keep W nx m0 x (.exit j) s' = retC P G H K0 (.exit j) st s':=(rfl)
end
theorem loopC_go {X:Type} (ok:X→Prop) (μ:X→Nat) (live:X→Slots) (rows:X→Mem) (keep W:List Nat) (x0:X) {c:Code} (hW:writes c = W) (hg:∀ x,ok x→goodNames nx 0 [] (rows x) keep) (h0:ok x0)
  (hf:fitSlots nx nx [] W t (live x0)∧fitRows nx nx [] m (rows x0)∧fitKeep m m keep)
  (hr:∀ x,ok x→goC P G H (roundK P G H K0 st ok μ live rows keep W nx m x) c [] ⟨live x ++ (dropB W t ++ anyS W),rows x ++ keptRows keep m,nx⟩):goC P G H K0 (.loop c) st ⟨t,m,nx⟩:=by
 subst hW
 refine ⟨X,⟨live,rows,keep,0,ok,μ⟩,⟨x0,h0,.inl ⟨[],hf.1,hf.2.1,hf.2.2,hg x0 h0⟩⟩,fun x hx => ?_⟩
 have h1:=hr x hx
 unfold goC at h1
 rw [← dropB_eq,← anyS_eq] at h1
 refine awp_mono (fun e s' h => ?_) h1
 cases e with
 | normal =>
  obtain ⟨y,h1,h2,h3,h4,h5⟩:=h
  exact ⟨y,h1,h2,.inl ⟨[],h3,h4,h5,hg y h1⟩⟩
 | ret => exact h
 | exit j => exact h
theorem fitSlots_nil {N M:Nat} {σ:Names} {W:List Nat}:fitSlots N M σ W t [] = True:=(rfl)
theorem fitSlots_cons {N M:Nat} {σ:Names} {W:List Nat} {r:Slots}:fitSlots N M σ W t ((j,a) :: r) = (elemB j W = true∧fit1 N M σ a (slot t j)∧fitSlots N M σ W t r):=by
 rw [elemB_iff]; rfl
theorem fit1_v {N M:Nat} {σ:Names} {x:Value}:fit1 N M σ (.v x) a = (a = .v x):=by
 simp [fit1,kb]
theorem fit1_any {N M:Nat} {σ:Names}:fit1 N M σ .any a = True:=(rfl)
theorem fit1_ro {N M:Nat} {σ:Names} {f:Nat→List AV}:fit1 N M σ (.ro n sz f) a = (a = .ro n sz f):=by
 simp [fit1,kb]
theorem fit1_agg {N M:Nat} {σ:Names}:fit1 N M σ (.agg l) a = (a = .agg l∧kb 3 N (.agg l)):=(rfl)
theorem fit1_rop {N M:Nat} {σ:Names}:fit1 N M σ (.rop l) a = (a = .rop l):=by
 simp [fit1,kb]
theorem fit1_bx {N M:Nat} {σ:Names}:fit1 N M σ (.bx i k) a = (a = .bx i k∧i < N):=(rfl)
theorem fit1_own {N M:Nat} {r f:Nat}:fit1 N M [] (.own r f n sz) a = (r < M∧a = .own r f n sz):=(rfl)
theorem fitRows_nil {N M:Nat} {σ:Names}:fitRows N M σ m [] = True:=(rfl)
theorem fitKeep_nil {m':Mem}:fitKeep m m' [] = True:=(rfl)
theorem fitKeep_cons {m':Mem} {r:List Nat}:fitKeep m m' (k :: r) = (look m' k = look m k∧fitKeep m m' r):=(rfl)
theorem av_int {c c':IntKind} {x y:Int}:(AV.v (.int c x) = .v (.int c' y)) = (c = c'∧x = y):=by simp
theorem av_bool {x y:Bool}:(AV.v (.bool x) = .v (.bool y)) = (x = y):=by simp
end
section
variable {P:Program} {G:Ctx} {H:Hots} {K0:AEx→St→Prop} {st:List Fr} {n sz i j k key nx:Nat} {t:Slots} {m:Mem} {d:Option Tmp} {ty:TypeId} {pos:String} {af:Array Edge} {gd:Option (Nat×Bool)} {g:Option Bool} {ρ0:Operand→AV} {a b:AV} {l cs:List AV} {c c':IntKind} {x y:Int} {q u e:TypeId}
def makeZ (P:Program) (key:Nat) (g:Option Bool) (e:TypeId) (n q:Int) (z:Option Value):Option Eff:=match z with
 | some z => if z.cells.size = sizeT P e then some ⟨[0≤n,n≤q,q≤9223372036854775807,(bytesT P e:Int) * q≤281474976710656],.own key 0 n.toNat (sizeT P e),.new (famN n.toNat (sizeT P e) e (fun _ => z.cells.toList.map .v) g)⟩ else none
 | none => none
theorem makeZ_some {z:Value}:makeZ P key g e x y (some z) = if z.cells.size = sizeT P e then some ⟨[0≤x,x≤y,y≤9223372036854775807,(bytesT P e:Int) * y≤281474976710656],.own key 0 x.toNat (sizeT P e),.new (famN x.toNat (sizeT P e) e (fun _ => z.cells.toList.map .v) g)⟩ else none:=(rfl)
def makeE (P:Program) (key:Nat) (g:Option Bool) (a b:AV) (e:Option TypeId):Option Eff:=match e with
 | some e => match zeroT P e with
  | some z => match intOfA a with
   | some n => match intOfA b with
    | some q => makeZ P key g e n q (some z)
    | none => none
   | none => none
  | none => none
 | none => none
theorem makeE_int:makeE P key g (.v (.int c x)) (.v (.int c' y)) (some e) = makeZ P key g e x y (zeroT P e):=by
 unfold makeE
 dsimp only [intOfA]
 cases zeroT P e <;> rfl
theorem aStep_make2 {xo yo:Operand}:aStep P G key g ⟨d,.makeSlice q xo yo,ty,pos,af,gd⟩ ρ0 m = makeE P key g (strip (ρ0 xo)) (strip (ρ0 yo)) (sElem P q):=by
 show aMake P key g q (strip (ρ0 xo)) (strip (ρ0 yo)) = _
 unfold aMake makeE makeZ
 cases sElem P q with
 | none => rfl
 | some e =>
  dsimp only
  cases zeroT P e with
  | none => rfl
  | some z =>
   dsimp only
   cases intOfA (strip (ρ0 xo)) with
   | none => rfl
   | some n =>
    dsimp only
    cases intOfA (strip (ρ0 yo)) <;> rfl
theorem cells_agg {z:Array Value}:Value.cells (.agg z) = z:=(rfl)
theorem cells_int:Value.cells (.int c x) = #[.int c x]:=(rfl)
theorem cells_bool {r:Bool}:Value.cells (.bool r) = #[.bool r]:=(rfl)
theorem cells_pointer {r:Option Addr}:Value.cells (.pointer r) = #[.pointer r]:=(rfl)
theorem cells_slice {r:Option Addr}:Value.cells (.slice r n k) = #[.slice r n k]:=(rfl)
theorem cells_nilIface:Value.cells .nilIface = #[.nilIface]:=(rfl)
def optV (t:Slots):Option Operand→Option AV
 | none => none
 | some x => some (strip (opd t x))
theorem optV_none:optV t none = none:=(rfl)
theorem optV_some {x:Operand}:optV t (some x) = some (strip (opd t x)):=(rfl)
theorem cutBound_none:cutBound k none = some (k:Int):=(rfl)
theorem cutBound_int:cutBound k (some (.v (.int c x))) = some x:=(rfl)
def cutI (P:Program) (e:TypeId) (x:AV) (n:Nat) (lo hi:Option Int):Option Eff:=match lo with
 | some l => match hi with
  | some h => match x with
    | .ro _ sz get => if sizeT P e = sz then some ⟨[0≤l,l≤h,h≤(n:Int)],.ro (h - l).toNat sz (fun i => get (l.toNat + i)),.none⟩ else none
    | .own r f _ sz => if sizeT P e = sz then some ⟨[0≤l,l≤h,h≤(n:Int)],.vw r f l.toNat (h - l).toNat sz,.none⟩ else none
    | .vw r f q _ sz => if sizeT P e = sz then some ⟨[0≤l,l≤h,h≤(n:Int)],.vw r f (q + l.toNat) (h - l).toNat sz,.none⟩ else none
    | _ => none
  | none => none
 | none => none
theorem cutI_ro {f:Nat→List AV}:cutI P e (.ro k sz f) n (some x) (some y) = if sizeT P e = sz then some ⟨[0≤x,x≤y,y≤(n:Int)],.ro (y - x).toNat sz (fun i => f (x.toNat + i)),.none⟩ else none:=(rfl)
theorem cutI_own {r f:Nat}:cutI P e (.own r f k sz) n (some x) (some y) = if sizeT P e = sz then some ⟨[0≤x,x≤y,y≤(n:Int)],.vw r f x.toNat (y - x).toNat sz,.none⟩ else none:=(rfl)
theorem cutI_vw {r f lo:Nat}:cutI P e (.vw r f lo k sz) n (some x) (some y) = if sizeT P e = sz then some ⟨[0≤x,x≤y,y≤(n:Int)],.vw r f (lo + x.toNat) (y - x).toNat sz,.none⟩ else none:=(rfl)
def cutE (P:Program) (x:AV) (lo hi:Option AV) (e:Option TypeId):Option Eff:=match e with
 | some e => if (P.info? e).isSome = true then (match lenA x with
  | some n => cutI P e x n (cutBound 0 lo) (cutBound n hi)
  | none => none) else none
 | none => none
theorem cutE_ro {f:Nat→List AV} {lo hi:Option AV} (h:(P.info? e).isSome = true):cutE P (.ro n sz f) lo hi (some e) = cutI P e (.ro n sz f) n (cutBound 0 lo) (cutBound n hi):=if_pos h
theorem cutE_own {r f:Nat} {lo hi:Option AV} (h:(P.info? e).isSome = true):cutE P (.own r f n sz) lo hi (some e) = cutI P e (.own r f n sz) n (cutBound 0 lo) (cutBound n hi):=if_pos h
theorem cutE_vw {r f lo':Nat} {lo hi:Option AV} (h:(P.info? e).isSome = true):cutE P (.vw r f lo' n sz) lo hi (some e) = cutI P e (.vw r f lo' n sz) n (cutBound 0 lo) (cutBound n hi):=if_pos h
theorem aStep_cut2 {xo:Operand} {lo hi:Option Operand}:aStep P G key g ⟨d,.slice q xo lo hi none,ty,pos,af,gd⟩ (opd t) m = cutE P (strip (opd t xo)) (optV t lo) (optV t hi) (sElem P q):=by
 show aCut P q (strip (opd t xo)) (lo.map fun y => strip (opd t y)) (hi.map fun y => strip (opd t y)) = _
 have e1:(lo.map fun y => strip (opd t y)) = optV t lo:=by cases lo <;> rfl
 have e2:(hi.map fun y => strip (opd t y)) = optV t hi:=by cases hi <;> rfl
 rw [e1,e2]
 unfold aCut cutE cutI
 cases sElem P q with
 | none => rfl
 | some e =>
  dsimp only
  split
  ·cases lenA (strip (opd t xo)) with
   | none => rfl
   | some n =>
    dsimp only
    cases cutBound 0 (optV t lo) with
    | none => rfl
    | some l =>
     dsimp only
     cases cutBound n (optV t hi) <;> rfl
  ·rfl
theorem srcOf_ro {f:Nat→List AV}:srcOf (.ro n sz f) m = some ([],n,sz,f):=(rfl)
def srcF (f k sz lo:Nat) (x:Option Fam):Option (List Prop×Nat×Nat×(Nat→List AV)):=match x with
 | some fam => some ((lo + k≤(fam f).n) :: (sz = (fam f).sz) :: gOb (fam f).g [],k,sz,fun i => (fam f).get (lo + i))
 | none => none
def srcO (f k sz:Nat) (x:Option Fam):Option (List Prop×Nat×Nat×(Nat→List AV)):=match x with
 | some fam => some ((k≤(fam f).n) :: (sz = (fam f).sz) :: gOb (fam f).g [],k,sz,(fam f).get)
 | none => none
theorem srcOf_own {r f:Nat}:srcOf (.own r f n sz) m = srcO f n sz (look m r):=by
 unfold srcOf srcO
 dsimp only
 cases look m r <;> rfl
theorem srcOf_vw {r f lo:Nat}:srcOf (.vw r f lo n sz) m = srcF f n sz lo (look m r):=by
 unfold srcOf srcF
 dsimp only
 cases look m r <;> rfl
theorem srcO_N {n' sz':Nat} {f:Nat→List AV}:srcO 0 k sz (some (famN n' sz' e f g)) = some ((k≤n') :: (sz = sz') :: gOb g [],k,sz,f):=(rfl)
theorem srcF_N {n' sz' lo:Nat} {f:Nat→List AV}:srcF 0 k sz lo (some (famN n' sz' e f g)) = some ((lo + k≤n') :: (sz = sz') :: gOb g [],k,sz,fun i => f (lo + i)):=(rfl)
def okCells (k:Nat) (f:Nat→List AV):Prop:=∀ i,i < k→allCells (f i) = true
def appF (P:Program) (key:Nat) (e:TypeId) (r n:Nat) (ob:List Prop) (k sz:Nat) (get:Nat→List AV) (x:Option Fam):Option Eff:=match x with
 | some fam => some ⟨ob ++ [n≤(fam 0).n,sz = (fam 0).sz,(fam 0).ty = e,(fam 0).g = none,okCells k get,(n + k) * bytesT P e≤140737488355328,n + k≤9223372036854775807],.own key 0 (n + k) sz,.swap r (famN (n + k) sz e (fun i => if i < n then (fam 0).get i else get (i - n)) none)⟩
 | none => none
theorem appF_N {r n' sz':Nat} {f f':Nat→List AV} {ob:List Prop} {e':TypeId}:appF P key e r n ob k sz f (some (famN n' sz' e' f' g)) = some ⟨ob ++ [n≤n',sz = sz',e' = e,g = none,okCells k f,(n + k) * bytesT P e≤140737488355328,n + k≤9223372036854775807],.own key 0 (n + k) sz,.swap r (famN (n + k) sz e (fun i => if i < n then f' i else f (i - n)) none)⟩:=(rfl)
def appS (P:Program) (key:Nat) (e:TypeId) (s:AV) (m:Mem) (x:Option (List Prop×Nat×Nat×(Nat→List AV))):Option Eff:=match x with
 | some (ob,k,sz,getx) => if sz = sizeT P e then (match s with
    | .v (.slice none 0 0) => some ⟨ob ++ [okCells k getx,k * bytesT P e≤140737488355328,k≤9223372036854775807],.own key 0 k sz,.new (famN k sz e getx none)⟩
    | .own r f n sz' => if f = 0∧sz' = sz then appF P key e r n ob k sz getx (look m r) else none
    | _ => none) else none
 | none => none
theorem appS_nil {ob:List Prop} {f:Nat→List AV} (h:sz = sizeT P e):appS P key e (.v (.slice none 0 0)) m (some (ob,k,sz,f)) = some ⟨ob ++ [okCells k f,k * bytesT P e≤140737488355328,k≤9223372036854775807],.own key 0 k sz,.new (famN k sz e f none)⟩:=if_pos h
theorem appS_own {ob:List Prop} {f:Nat→List AV} {r:Nat} (h:sz = sizeT P e):appS P key e (.own r 0 n sz) m (some (ob,k,sz,f)) = appF P key e r n ob k sz f (look m r):=by
 unfold appS
 dsimp only
 rw [if_pos h]
 simp
def appE (P:Program) (key:Nat) (s x:AV) (m:Mem) (e:Option TypeId):Option Eff:=match e with
 | some e => match zeroT P e with
  | some z => if z.cells.size = sizeT P e∧0 < sizeT P e then appS P key e s m (srcOf x m) else none
  | none => none
 | none => none
def appZ (P:Program) (key:Nat) (e:TypeId) (s x:AV) (m:Mem) (z:Option Value):Option Eff:=match z with
 | some z => if z.cells.size = sizeT P e∧0 < sizeT P e then appS P key e s m (srcOf x m) else none
 | none => none
theorem appE_some:appE P key a b m (some e) = appZ P key e a b m (zeroT P e):=(rfl)
theorem appZ_some {z:Value}:appZ P key e a b m (some z) = if z.cells.size = sizeT P e∧0 < sizeT P e then appS P key e a m (srcOf b m) else none:=(rfl)
theorem aStep_append2 {xo yo:Operand}:aStep P G key none ⟨d,.call ⟨.builtin .append,#[xo,yo],#[q,q]⟩,ty,pos,af,gd⟩ ρ0 m = appE P key (strip (ρ0 xo)) (strip (ρ0 yo)) m (sElem P q):=by
 show (if q = q then aAppend P key q (strip (ρ0 xo)) (strip (ρ0 yo)) m else none) = _
 rw [if_pos rfl]
 unfold aAppend appE appS appF okCells
 cases sElem P q with
 | none => rfl
 | some e =>
  dsimp only
  cases zeroT P e with
  | none => rfl
  | some z =>
   dsimp only
   split
   ·cases srcOf (strip (ρ0 yo)) m with
    | none => rfl
    | some s => rfl
   ·rfl
theorem okCells_1 {f:Nat→List AV}:okCells 1 f = (allCells (f 0) = true):=by
 unfold okCells
 apply propext
 exact ⟨fun h => h 0 (by omega),fun h i hi => by
  have:i = 0:=by omega
  subst this; exact h⟩
def roundN {X:Type} (P:Program) (G:Ctx) (H:Hots) (K0:AEx→St→Prop) (st:List Fr) (ok:X→Prop) (μ:X→Nat) (live:X→Slots) (rows:X→Mem) (keep W:List Nat) (names nx:Nat) (m:Mem) (x:X) (e:AEx) (s':St):Prop:=match e with
 | .normal => ∃ y,ok y∧μ y < μ x∧∃ σ:Names,fitSlots nx (nx + names) σ W s'.t (live y)∧fitRows nx (nx + names) σ s'.m (rows y)∧fitKeep m s'.m keep∧goodNames nx names σ (rows y) keep
 | e => retC P G H K0 e st s'
section
variable {X:Type} {ok:X→Prop} {μ:X→Nat} {live:X→Slots} {rows:X→Mem} {keep W:List Nat} {x:X} {m0:Mem} {names:Nat} {s':St}
theorem roundN_normal:roundN P G H K0 st ok μ live rows keep W names nx m0 x .normal ⟨t,m,k⟩ = ∃ y,ok y∧μ y < μ x∧∃ σ:Names,fitSlots nx (nx + names) σ W t (live y)∧fitRows nx (nx + names) σ m (rows y)∧fitKeep m0 m keep∧goodNames nx names σ (rows y) keep:=(rfl)
theorem roundN_ret:roundN P G H K0 st ok μ live rows keep W names nx m0 x .ret s' = retC P G H K0 .ret st s':=(rfl)
theorem roundN_exit:roundN P G H K0 st ok μ live rows keep W names nx m0 x (.exit j) s' = retC P G H K0 (.exit j) st s':=(rfl)
end
theorem loopN_go {X:Type} (ok:X→Prop) (μ:X→Nat) (live:X→Slots) (rows:X→Mem) (keep W:List Nat) (names:Nat) (x0:X) {c:Code} (hW:writes c = W) (h0:ok x0)
  (hf:∃ σ:Names,fitSlots nx (nx + names) σ W t (live x0)∧fitRows nx (nx + names) σ m (rows x0)∧fitKeep m m keep∧goodNames nx names σ (rows x0) keep)
  (hr:∀ x,ok x→goC P G H (roundN P G H K0 st ok μ live rows keep W names nx m x) c [] ⟨live x ++ (dropB W t ++ anyS W),rows x ++ keptRows keep m,nx + names⟩):goC P G H K0 (.loop c) st ⟨t,m,nx⟩:=by
 subst hW
 refine ⟨X,⟨live,rows,keep,names,ok,μ⟩,⟨x0,h0,.inl hf⟩,fun x hx => ?_⟩
 have h1:=hr x hx
 unfold goC at h1
 rw [← dropB_eq,← anyS_eq] at h1
 refine awp_mono (fun e s' h => ?_) h1
 cases e with
 | normal =>
  obtain ⟨y,h1,h2,σ,h3,h4,h5,h6⟩:=h
  exact ⟨y,h1,h2,.inl ⟨σ,h3,h4,h5,h6⟩⟩
 | ret => exact h
 | exit j => exact h
def roundA (P:Program) (G:Ctx) (H:Hots) (K0:AEx→St→Prop) (st:List Fr) {X:Type} (ok:X→Prop) (μ:X→Nat) (live:X→Slots) (rows:X→Mem) (keep W:List Nat) (names nx:Nat) (m:Mem) (x:X) (e:AEx) (s':St):Prop:=match e with
 | .normal => ∃ y,ok y∧μ y < μ x∧∃ θ:Alias,fitSlotsA nx (nx + names) θ W s'.t (live y)∧fitRowsA nx (nx + names) θ s'.m (rows y)∧fitKeep m s'.m keep∧goodA nx names θ (rows y) keep
 | .ret => kOf P G H K0 st .ret s'
 | .exit j => kOf P G H K0 st (.exit j) s'
theorem roundA_normal {X:Type} {ok:X→Prop} {μ:X→Nat} {live:X→Slots} {rows:X→Mem} {keep W:List Nat} {names:Nat} {m0:Mem} {x:X} {k:Nat}:roundA P G H K0 st ok μ live rows keep W names nx m0 x .normal ⟨t,m,k⟩ = ∃ y,ok y∧μ y < μ x∧∃ θ:Alias,fitSlotsA nx (nx + names) θ W t (live y)∧fitRowsA nx (nx + names) θ m (rows y)∧fitKeep m0 m keep∧goodA nx names θ (rows y) keep:=(rfl)
theorem roundA_ret {X:Type} {ok:X→Prop} {μ:X→Nat} {live:X→Slots} {rows:X→Mem} {keep W:List Nat} {names:Nat} {m0:Mem} {x:X} {s':St}:roundA P G H K0 st ok μ live rows keep W names nx m0 x .ret s' = retC P G H K0 .ret st s':=(rfl)
theorem roundA_exit {X:Type} {ok:X→Prop} {μ:X→Nat} {live:X→Slots} {rows:X→Mem} {keep W:List Nat} {names:Nat} {m0:Mem} {x:X} {s':St} {j:Nat}:roundA P G H K0 st ok μ live rows keep W names nx m0 x (.exit j) s' = retC P G H K0 (.exit j) st s':=(rfl)
theorem loopA_go {X:Type} (ok:X→Prop) (μ:X→Nat) (live:X→Slots) (rows:X→Mem) (keep W:List Nat) (names:Nat) (x0:X) {c:Code} (hW:writes c = W) (h0:ok x0)
  (hf:∃ θ:Alias,fitSlotsA nx (nx + names) θ W t (live x0)∧fitRowsA nx (nx + names) θ m (rows x0)∧fitKeep m m keep∧goodA nx names θ (rows x0) keep)
  (hr:∀ x,ok x→goC P G H (roundA P G H K0 st ok μ live rows keep W names nx m x) c [] ⟨live x ++ (dropB W t ++ anyS W),rows x ++ keptRows keep m,nx + names⟩):goC P G H K0 (.loop c) st ⟨t,m,nx⟩:=by
 subst hW
 refine ⟨X,⟨live,rows,keep,names,ok,μ⟩,⟨x0,h0,.inr hf⟩,fun x hx => ?_⟩
 have h1:=hr x hx
 unfold goC at h1
 rw [← dropB_eq,← anyS_eq] at h1
 refine awp_mono (fun e s' h => ?_) h1
 cases e with
 | normal =>
  obtain ⟨y,h1,h2,h3⟩:=h
  exact ⟨y,h1,h2,.inr h3⟩
 | ret => exact h
 | exit j => exact h
def asgK (P:Program) (G:Ctx) (H:Hots) (c:Code) (K1:AEx→St→Prop) (e:AEx) (s:St):Prop:=match e with
 | .normal => goC P G H K1 c [] s
 | _ => False
section
variable {K1:AEx→St→Prop} {c:Code}
theorem asgK_normal {s:St}:asgK P G H c K1 .normal s = goC P G H K1 c [] s:=(rfl)
end
def roundR {X:Type} (P:Program) (G:Ctx) (H:Hots) (K0:AEx→St→Prop) (st:List Fr) (ok:X→Prop) (cnt:X→Nat) (rows:X→Mem) (keep:List Nat) (names nx:Nat) (tb:Slots) (m:Mem) (x:X) (e:AEx) (s':St):Prop:=match e with
 | .normal => ∃ y,ok y∧cnt y = cnt x + 1∧∃ σ:Names,fitRows nx (nx + names) σ s'.m (rows y)∧fitKeep m s'.m keep∧goodNames nx names σ (rows y) keep
 | e => retC P G H K0 e st { s' with t:=tb }
section
variable {X:Type} {ok:X→Prop} {cnt:X→Nat} {rows:X→Mem} {keep W:List Nat} {x:X} {m0:Mem} {names:Nat} {tb:Slots}
theorem roundR_normal:roundR P G H K0 st ok cnt rows keep names nx tb m0 x .normal ⟨t,m,k⟩ = ∃ y,ok y∧cnt y = cnt x + 1∧∃ σ:Names,fitRows nx (nx + names) σ m (rows y)∧fitKeep m0 m keep∧goodNames nx names σ (rows y) keep:=(rfl)
theorem roundR_ret:roundR P G H K0 st ok cnt rows keep names nx tb m0 x .ret ⟨t,m,k⟩ = retC P G H K0 .ret st ⟨tb,m,k⟩:=(rfl)
theorem roundR_exit:roundR P G H K0 st ok cnt rows keep names nx tb m0 x (.exit j) ⟨t,m,k⟩ = retC P G H K0 (.exit j) st ⟨tb,m,k⟩:=(rfl)
end
theorem slotsOf_nil {l:List AV}:slotsOf [] l t = t:=by cases l <;> rfl
theorem slotsOf_cons {ps:List Nat}:slotsOf (k :: ps) (a :: l) t = slotsOf ps l ((k,a) :: t):=(rfl)
end
section
variable {t:Slots} {m:Mem} {base i j k q:Nat} {h:Hot} {o:Oper} {d:Option Tmp} {op:Op} {ty:TypeId} {pos:String} {gd:Option (Nat×Bool)} {l:List Edge} {root:List (Nat×Root)} {hide:List (Nat×List Root)} {r:Root} {rs:List Root} {x:Fam}
def bindsG:Ground→Bool
 | .textOnly _ => false
 | .gcOnly _ => false
 | _ => true
theorem bindsG_data:bindsG .data = true:=(rfl)
theorem bindsG_chain:bindsG .chain = true:=(rfl)
theorem bindsG_guard:bindsG .guard = true:=(rfl)
theorem bindsG_phase:bindsG .phase = true:=(rfl)
theorem bindsG_textOnly {y:Departure}:bindsG (.textOnly y) = false:=(rfl)
theorem bindsG_gcOnly {y:Departure}:bindsG (.gcOnly y) = false:=(rfl)
def afterB (base k:Nat):List Edge→Bool
 | [] => false
 | e :: r => if base + e.on = k then (if bindsG e.ground = true then true else afterB base k r) else afterB base k r
theorem afterB_nil:afterB base k [] = false:=(rfl)
theorem afterB_cons {on:Nat} {g:Ground}:afterB base k (⟨on,g⟩ :: l) = if base + on = k then (if bindsG g = true then true else afterB base k l) else afterB base k l:=(rfl)
theorem afterB_eq:∀ {l:List Edge},(l.any fun x => decide (base + x.on = k) && Region.binds .any x) = afterB base k l
 | [] => rfl
 | e :: l => by
  have hb:Region.binds .any e = bindsG e.ground:=by
   obtain ⟨on,g⟩:=e
   cases g <;> rfl
  rw [List.any_cons,afterB_eq,hb]
  simp only [afterB]
  by_cases h1:base + e.on = k
  ·by_cases h2:bindsG e.ground = true <;> simp [h1,h2]
  ·simp [h1]
def keyA:AV→Option Nat
 | .bx r _ => some r
 | .ptr r _ _ _ _ => some r
 | .own r _ _ _ => some r
 | _ => none
theorem keyA_bx {n k:Nat}:keyA (.bx n k) = some n:=(rfl)
theorem keyA_ptr {r f i sz k:Nat}:keyA (.ptr r f i sz k) = some r:=(rfl)
theorem keyA_own {r f n sz:Nat}:keyA (.own r f n sz) = some r:=(rfl)
theorem keyOf_made {a:Nat}:keyOf base t (.made a) = some (base + a):=(rfl)
theorem keyOf_slot:keyOf base t (.slot q) = keyA (slot t q):=by
 unfold keyOf keyA
 dsimp only
 cases slot t q <;> rfl
def eqK (k:Nat):Option Nat→Bool
 | some q => if q = k then true else false
 | none => false
theorem eqK_some:eqK k (some q) = if q = k then true else false:=(rfl)
theorem hidden_nil:hidden base t k [] = false:=(rfl)
theorem hidden_cons:hidden base t k (r :: rs) = if eqK k (keyOf base t r) = true then true else hidden base t k rs:=by
 show ((match keyOf base t r with
  | some q => decide (q = k)
  | none => false) || hidden base t k rs) = _
 cases keyOf base t r with
 | none => rfl
 | some q => by_cases e:q = k <;> simp [eqK,e]
theorem hideOf_nil:hideOf [] i = []:=(rfl)
theorem hideOf_cons:hideOf ((k,rs) :: hide) i = if k = i then rs else hideOf hide i:=(rfl)
theorem rootOf_nil:rootOf [] i = none:=(rfl)
theorem rootOf_cons:rootOf ((k,r) :: root) i = if k = i then some r else rootOf root i:=(rfl)
def restrB (hid:List Root) (base:Nat) (af:List Edge) (t:Slots):Mem→Mem
 | [] => []
 | (k,x) :: m => if k < base then (if hidden base t k hid = true then restrB hid base af t m else (k,x) :: restrB hid base af t m) else
   if afterB base k af = true then (if hidden base t k hid = true then restrB hid base af t m else (k,x) :: restrB hid base af t m) else restrB hid base af t m
theorem restrB_nil {af:List Edge}:restrB rs base af t [] = []:=(rfl)
theorem restrB_cons {af:List Edge}:restrB rs base af t ((k,x) :: m) = if k < base then (if hidden base t k rs = true then restrB rs base af t m else (k,x) :: restrB rs base af t m) else
   if afterB base k af = true then (if hidden base t k rs = true then restrB rs base af t m else (k,x) :: restrB rs base af t m) else restrB rs base af t m:=(rfl)
theorem restrB_eq {af:List Edge}:∀ {m:Mem},(m.filter fun e => (decide (e.1 < base) || af.any fun x => decide (base + x.on = e.1) && Region.binds .any x) && !hidden base t e.1 rs) = restrB rs base af t m
 | [] => rfl
 | (k,x) :: m => by
  rw [List.filter_cons,restrB_eq]
  simp only [restrB,afterB_eq]
  by_cases h1:k < base
  ·cases h2:hidden base t k rs <;> simp [h1,h2]
  ·cases h3:afterB base k af <;> cases h2:hidden base t k rs <;> simp [h1,h2,h3]
theorem memFor_some {af:List Edge}:memFor (some ⟨root,hide⟩) base i ⟨d,op,ty,pos,af.toArray,gd⟩ t m = restrB (hideOf hide i) base af t m:=by
 rw [← restrB_eq]
 simp [memFor,restr]
def callR:Option Root→Bool
 | some .call => true
 | _ => false
theorem rootOK_snone:rootOK (some h) base i t .none = true:=(rfl)
theorem rootOK_smany {l:List (Nat×Fam)} {nw:Option Fam}:rootOK (some h) base i t (.many l nw) = callAt h i:=(rfl)
theorem callAt_eq {root:List (Nat×Root)} {hide:List (Nat×List Root)}:callAt ⟨root,hide⟩ i = callR (rootOf root i):=(rfl)
theorem callR_call:callR (some .call) = true:=(rfl)
theorem rootOK_snew:rootOK (some h) base i t (.new x) = true:=(rfl)
def rootX (base:Nat) (t:Slots) (k:Nat):Option Root→Bool
 | some r => eqK k (keyOf base t r)
 | none => true
theorem rootX_some:rootX base t k (some r) = eqK k (keyOf base t r):=(rfl)
theorem rootX_none:rootX base t k none = true:=(rfl)
theorem rootOK_sset:rootOK (some ⟨root,hide⟩) base i t (.set k x) = rootX base t k (rootOf root i):=by
 unfold rootOK rootX
 dsimp only
 cases rootOf root i with
 | none => rfl
 | some r =>
  dsimp only
  cases keyOf base t r with
  | none => rfl
  | some q => by_cases e:q = k <;> simp [eqK,e]
theorem rootOK_sswap:rootOK (some ⟨root,hide⟩) base i t (.swap k x) = rootX base t k (rootOf root i):=by
 unfold rootOK rootX
 dsimp only
 cases rootOf root i with
 | none => rfl
 | some r =>
  dsimp only
  cases keyOf base t r with
  | none => rfl
  | some q => by_cases e:q = k <;> simp [eqK,e]
theorem hotAt_nil:hotAt [] i = ⟨[],[]⟩:=(rfl)
theorem hotAt_cons {H:Hots}:hotAt ((k,h) :: H) i = if k = i then h else hotAt H i:=(rfl)
theorem zeros_zero {z:Value}:zeros z 0 = []:=(rfl)
theorem zeros_succ {z:Value} {n:Nat}:zeros z (n + 1) = z.cells.toList.map AV.v ++ zeros z n:=by
 simp [zeros,List.replicate_succ]
theorem callD_V {f:Con} {l:List AV}:callD (some f) l m = callX (cleanL 3 l) f l m:=by
 rw [← cleanL_eq]; rfl
theorem callX_V {f:Con} {l:List AV}:callX false f l m = callY (pgsL 3 m l) (f (purUL 3 m l)):=by
 rw [← purUL_eq,← pgsL_eq]; rfl
variable {N M:Nat} {σ:Names} {rows:Mem} {cs cs':List AV} {ty':TypeId} {sz sz' n n':Nat} {g:Option Bool} {a b:AV} {get get':Nat→List AV}
def fitF (N M:Nat) (σ:Names) (x:Fam):Option Fam→Prop
 | some y => ∀ f,fitRow N M σ (x f) (y f)
 | none => False
theorem fitRows_none:fitRows N M [] m ((q,x) :: rows) = (fitF N M [] x (look m q)∧fitRows N M [] m rows):=by
 show ((∃ y,look m q = some y∧∀ f,fitRow N M [] (x f) (y f))∧_) = _
 unfold fitF
 cases look m q <;> simp
theorem fitRows_some {k:Nat}:fitRows N M [(q,some k)] m [(q,x)] = fitF N M [(q,some k)] x (look m k):=by
 simp only [fitRows,asg,if_true,and_true]
 unfold fitF
 cases look m k <;> simp
theorem fitRows_nilS:fitRows N M [(q,none)] m [(q,famN n sz ty get none)] = (n = 0):=by
 simp only [fitRows,asg,if_true,and_true]
 apply propext
 constructor
 ·intro h; have:=(h 0).1; simpa [famN] using this
 ·intro h f
  subst h
  unfold famN
  split <;> exact ⟨rfl,rfl⟩
theorem fitF_1:fitF N M σ (fam1 ty sz cs none) (some (fam1 ty' sz' cs' g)) = (sz = sz'∧ty = ty'∧g = none∧fitL N M σ cs cs'):=by
 apply propext
 constructor
 ·intro h
  have h0:=h 0
  exact ⟨h0.2.1,h0.2.2.1,h0.2.2.2.1,h0.2.2.2.2.2 0 (by show 0 < 1; omega)⟩
 ·rintro ⟨rfl,rfl,rfl,h⟩ f
  unfold fam1
  by_cases e:f = 0
  ·rw [if_pos e,if_pos e]; exact ⟨rfl,rfl,rfl,rfl,rfl,fun _ _ => h⟩
  ·rw [if_neg e,if_neg e]; exact ⟨rfl,rfl,rfl,rfl,rfl,fun i hi => by
    have hi:i < 0:=hi
    omega⟩
theorem fitF_N:fitF N M σ (famN n sz ty get none) (some (famN n' sz' ty' get' g)) = (n = n'∧sz = sz'∧ty = ty'∧g = none∧∀ i,i < n→fitL N M σ (get i) (get' i)):=by
 apply propext
 constructor
 ·intro h
  have h0:=h 0
  exact ⟨h0.1,h0.2.1,h0.2.2.1,h0.2.2.2.1,h0.2.2.2.2.2⟩
 ·rintro ⟨rfl,rfl,rfl,rfl,h⟩ f
  unfold famN
  by_cases e:f = 0
  ·rw [if_pos e,if_pos e]; exact ⟨rfl,rfl,rfl,rfl,rfl,h⟩
  ·rw [if_neg e,if_neg e]; exact ⟨rfl,rfl,rfl,rfl,rfl,fun i hi => by
    have hi:i < 0:=hi
    omega⟩
theorem fitL_nil:fitL N M σ [] [] = True:=(rfl)
theorem fitL_cons:fitL N M σ (a :: cs) (b :: cs') = (fit1 N M σ a b∧fitL N M σ cs cs'):=(rfl)
theorem fit1_named {k r f:Nat}:fit1 N M [(q,some k)] (.own q f n sz) a = (q < M∧a = .own k f n sz):=by
 simp only [fit1,asg,if_true]
theorem fit1_nilS {f:Nat}:fit1 N M [(q,none)] (.own q f n sz) a = (q < M∧n = 0∧a = .v (.slice none 0 0)):=by
 simp only [fit1,asg,if_true]
end
end Go.Ax
end
section
namespace Go.Ax
open Go.RowKit
def renA (θ:Nat→Nat→Nat×Nat):Nat→AV→AV
 | _,.v x => .v x
 | _,.any => .any
 | _,.ro n sz get => .ro n sz get
 | _,.rop cs => .rop cs
 | _,.bx r k => .bx (θ r 0).1 k
 | _,.ptr r f i sz k => .ptr (θ r f).1 (θ r f).2 i sz k
 | _,.own r f n sz => .own (θ r f).1 (θ r f).2 n sz
 | _,.vw r f lo n sz => .vw (θ r f).1 (θ r f).2 lo n sz
 | d + 1,.agg cs => .agg (cs.map (renA θ d))
 | d + 1,.tup cs => .tup (cs.map (renA θ d))
 | d + 1,.fn f cs => .fn f (cs.map (renA θ d))
 | d + 1,.iface t x => .iface t (renA θ d x)
 | d + 1,.cond b x => .cond b (renA θ d x)
 | 0,_ => .any
def kg (G:Nat→Nat→Prop) (B:Nat→Prop):Nat→AV→Prop
 | _,.v _ => True
 | _,.any => True
 | _,.ro _ _ _ => True
 | _,.rop _ => True
 | _,.bx r _ => B r
 | _,.ptr r f _ _ _ => G r f
 | _,.own r f _ _ => G r f
 | _,.vw r f _ _ _ => G r f
 | d + 1,.agg cs => ∀ c ∈ cs,kg G B d c
 | d + 1,.tup cs => ∀ c ∈ cs,kg G B d c
 | d + 1,.fn _ cs => ∀ c ∈ cs,kg G B d c
 | d + 1,.iface _ x => kg G B d x
 | d + 1,.cond _ x => kg G B d x
 | _,_ => False
def rowRen (θ:Nat→Nat→Nat×Nat) (G:Nat→Nat→Prop) (B:Nat→Prop) (x0 x:Row):Prop:=
 x.n = x0.n∧x.sz = x0.sz∧x.ty = x0.ty∧x.g = x0.g∧∀ j,j < x0.n→x.get j = (x0.get j).map (renA θ 3)∧∀ c ∈ x0.get j,kg G B 3 c
def thE (ks:List Nat) (r f:Nat):Nat×Nat:=(ks.getD r 0,f)
def thL (ks:List Nat) (key:Nat) (th:Nat→Nat→Nat) (r f:Nat):Nat×Nat:=if r < ks.length then (ks.getD r 0,f) else (key,th r f)
def lowG (N:Nat) (r _:Nat):Prop:=r < N
def lowB (N:Nat) (r:Nat):Prop:=r < N
def newG (N:Nat) (σ:Nat→Option (Nat×Nat)) (th:Nat→Nat→Nat) (r f:Nat):Prop:=r < N∨σ (th r f) = some (r,f)
def newB (N:Nat) (σ:Nat→Option (Nat×Nat)) (r:Nat):Prop:=r < N∨σ 0 = some (r,0)
structure Entry (ks:List Nat) (m m0:Mem) (ars as0:List AV):Prop where
 nodup:ks.Nodup
 args:ars = as0.map (renA (thE ks) 3)
 argk:∀ a ∈ as0,kg (lowG ks.length) (lowB ks.length) 3 a
 rows:∀ i,i < ks.length→∃ x0 x,look m0 i = some x0∧look m (ks.getD i 0) = some x∧∀ f,(x f).g = none∧rowRen (thE ks) (lowG ks.length) (lowB ks.length) (x0 f) (x f)
 only:∀ r x,look m0 r = some x→r < ks.length
structure Leave (key:Nat) (ks:List Nat) (σ:Nat→Option (Nat×Nat)) (th:Nat→Nat→Nat) (m1:Mem) (a:AV) (ys:List Fam) (nw:Option Fam) (val:AV):Prop where
 new1:∀ f r g,σ f = some (r,g)→ks.length≤r∧th r g = f
 val:val = renA (thL ks key th) 3 a
 valk:kg (newG ks.length σ th) (newB ks.length σ) 3 a
 len:ys.length = ks.length
 rows:∀ i,i < ks.length→∃ y0 y,look m1 i = some y0∧ys[i]? = some y∧∀ f,rowRen (thL ks key th) (newG ks.length σ th) (newB ks.length σ) (y0 f) (y f)∧(y0 f).g≠some false
 new:match nw with
  | none => ∀ f,σ f = none
  | some y => ∀ f,match σ f with
   | some (r,g) => ∃ y0,look m1 r = some y0∧rowRen (thL ks key th) (newG ks.length σ th) (newB ks.length σ) (y0 g) (y f)∧(y0 g).g≠some false
   | none => (y f).n = 0
def endM (P:Program) (fn:Func) (K:AV→Mem→Prop):AEx→St→Prop
 | .exit _,_ => False
 | _,s => match resAll P s fn.results.toList with
  | some (ob,a) => conj ob (K a s.m)
  | none => False
section
variable {P:Program} {G:Ctx} {w0:Base} {w:World} {ρ:Env} {m:Mem} {D:Nat→Prop}
theorem R.ren {ρ':Env} {θ:Nat→Nat→Nat×Nat} {g:Nat→Nat→Prop} {B:Nat→Prop} (hB:∀ r,B r→g r 0∧(θ r 0).2 = 0) {a:AV} {x:Value} (h:R w ρ a x) :
  (∀ b,ρ.imm b→ρ'.imm b)→(∀ r f,g r f→ρ.dom r→ρ'.dom (θ r f).1∧ρ'.blk (θ r f).1 (θ r f).2 = ρ.blk r f∧ρ'.cap (θ r f).1 (θ r f).2 = ρ.cap r f)→∀ d,kg g B d a→R w ρ' (renA θ d a) x:=by
 induction h with
 | v => intro _ _ d _; cases d <;> exact .v
 | any => intro _ _ d _; cases d <;> exact .any
 | agg hl h ih =>
  intro hi hG d hk
  cases d with
  | zero => simp [kg] at hk
  | succ d =>
   simp only [kg] at hk
   simp only [renA]
   refine .agg (by simpa using hl) fun i b x h1 h2 => ?_
   simp only [List.getElem?_map,Option.map_eq_some_iff] at h1
   obtain ⟨c,hc,rfl⟩:=h1
   exact ih i c x hc h2 hi hG d (hk c (List.mem_of_getElem? hc))
 | tup hl h ih =>
  intro hi hG d hk
  cases d with
  | zero => simp [kg] at hk
  | succ d =>
   simp only [kg] at hk
   simp only [renA]
   refine .tup (by simpa using hl) fun i b x h1 h2 => ?_
   simp only [List.getElem?_map,Option.map_eq_some_iff] at h1
   obtain ⟨c,hc,rfl⟩:=h1
   exact ih i c x hc h2 hi hG d (hk c (List.mem_of_getElem? hc))
 | fn hl h ih =>
  intro hi hG d hk
  cases d with
  | zero => simp [kg] at hk
  | succ d =>
   simp only [kg] at hk
   simp only [renA]
   refine .fn (by simpa using hl) fun i b x h1 h2 => ?_
   simp only [List.getElem?_map,Option.map_eq_some_iff] at h1
   obtain ⟨c,hc,rfl⟩:=h1
   exact ih i c x hc h2 hi hG d (hk c (List.mem_of_getElem? hc))
 | iface h ih =>
  intro hi hG d hk
  cases d with
  | zero => simp [kg] at hk
  | succ d => simp only [kg] at hk; simp only [renA]; exact .iface (ih hi hG d hk)
 | yes h ih =>
  intro hi hG d hk
  cases d with
  | zero => simp [kg] at hk
  | succ d => simp only [kg] at hk; simp only [renA]; exact .yes (ih hi hG d hk)
 | no =>
  intro hi hG d hk
  cases d with
  | zero => simp [kg] at hk
  | succ d => simp only [renA]; exact .no
 | ro b o hn ha hi hlen hex hr ih =>
  intro hi' _ d _
  have:R w ρ' (.ro _ _ _) (.slice _ _ _):=.ro b o hn ha (fun h => hi' _ (hi h)) hlen hex fun i k c x h1 h2 h3 => (hr i k c x h1 h2 h3).mono (Env.le.ext hi') (.refl _ _)
  cases d <;> exact this
 | rop b o hi hex hr ih =>
  intro hi' _ d _
  have:R w ρ' (.rop _) (.pointer _):=.rop b o (hi' _ hi) hex fun k c x h1 h2 => (hr k c x h1 h2).mono (Env.le.ext hi') (.refl _ _)
  cases d <;> exact this
 | @bx ρ r k hd =>
  intro _ hG d hk
  have hk:B r:=by cases d <;> simpa [kg] using hk
  obtain ⟨h1,h2⟩:=hB r hk
  obtain ⟨g1,g2,_⟩:=hG r 0 h1 hd
  rw [h2] at g2
  rw [← g2]
  have:R w ρ' (.bx (θ r 0).1 k) (.pointer (some ⟨ρ'.blk (θ r 0).1 0,k,none⟩)):=.bx g1
  cases d <;> exact this
 | @ptr ρ r f i sz k hd =>
  intro _ hG d hk
  have hk:g r f:=by cases d <;> simpa [kg] using hk
  obtain ⟨g1,g2,_⟩:=hG r f hk hd
  rw [← g2]
  have:R w ρ' (.ptr (θ r f).1 (θ r f).2 i sz k) (.pointer (some ⟨ρ'.blk (θ r f).1 (θ r f).2,i * sz + k,none⟩)):=.ptr g1
  cases d <;> exact this
 | @own ρ r f nn sz aa hd hn ha =>
  intro _ hG d hk
  have hk:g r f:=by cases d <;> simpa [kg] using hk
  obtain ⟨g1,g2,g3⟩:=hG r f hk hd
  have:R w ρ' (.own (θ r f).1 (θ r f).2 nn sz) (.slice aa nn (ρ'.cap (θ r f).1 (θ r f).2)):=.own g1 (by rw [g3]; exact hn) (by rw [g3,g2]; exact ha)
  rw [g3] at this
  cases d <;> exact this
 | @vw ρ r f l nn sz aa cap hd hn ha =>
  intro _ hG d hk
  have hk:g r f:=by cases d <;> simpa [kg] using hk
  obtain ⟨g1,g2,g3⟩:=hG r f hk hd
  have:R w ρ' (.vw (θ r f).1 (θ r f).2 l nn sz) (.slice aa nn cap):=.vw g1 hn (by rw [g2]; exact ha)
  cases d <;> exact this
def Env.canon (ρ:Env) (ks:List Nat):Env where
 dom r:=r < ks.length∧ρ.dom (ks.getD r 0)
 blk r f:=ρ.blk (ks.getD r 0) f
 cap r f:=ρ.cap (ks.getD r 0) f
 imm:=ρ.imm
theorem R.unren {ks:List Nat}:∀ (d:Nat) (a:AV) (x:Value),kg (lowG ks.length) (lowB ks.length) d a→R w ρ (renA (thE ks) d a) x→R w (ρ.canon ks) a x
 | d,.v y,x,hk,h => by
  have h:R w ρ (.v y) x:=by cases d <;> exact h
  cases h; exact .v
 | d,.any,x,hk,h => .any
 | d,.ro n sz get,x,hk,h => by
  have h:R w ρ (.ro n sz get) x:=by cases d <;> exact h
  cases h with | ro b o hn ha hi hlen hex hr => exact .ro b o hn ha hi hlen hex hr
 | d,.rop cs,x,hk,h => by
  have h:R w ρ (.rop cs) x:=by cases d <;> exact h
  cases h with | rop b o hi hex hr => exact .rop b o hi hex hr
 | d,.bx r k,x,hk,h => by
  have h:R w ρ (.bx (ks.getD r 0) k) x:=by cases d <;> exact h
  have hk:r < ks.length:=by cases d <;> exact hk
  cases h with | bx hd => exact .bx (ρ:=ρ.canon ks) ⟨hk,hd⟩
 | d,.ptr r f i sz k,x,hk,h => by
  have h:R w ρ (.ptr (ks.getD r 0) f i sz k) x:=by cases d <;> exact h
  have hk:r < ks.length:=by cases d <;> exact hk
  cases h with | ptr hd => exact .ptr (ρ:=ρ.canon ks) ⟨hk,hd⟩
 | d,.own r f n sz,x,hk,h => by
  have h:R w ρ (.own (ks.getD r 0) f n sz) x:=by cases d <;> exact h
  have hk:r < ks.length:=by cases d <;> exact hk
  cases h with | own hd hn ha => exact .own (ρ:=ρ.canon ks) ⟨hk,hd⟩ hn ha
 | d,.vw r f lo n sz,x,hk,h => by
  have h:R w ρ (.vw (ks.getD r 0) f lo n sz) x:=by cases d <;> exact h
  have hk:r < ks.length:=by cases d <;> exact hk
  cases h with | vw hd hn ha => exact .vw (ρ:=ρ.canon ks) ⟨hk,hd⟩ hn ha
 | d + 1,.agg cs,x,hk,h => by
  simp only [renA] at h
  simp only [kg] at hk
  cases h with
  | agg hl h => exact .agg (by simpa using hl) fun i a x h1 h2 => R.unren d a x (hk a (List.mem_of_getElem? h1)) (h i _ x (by simp [h1]) h2)
 | d + 1,.tup cs,x,hk,h => by
  simp only [renA] at h
  simp only [kg] at hk
  cases h with
  | tup hl h => exact .tup (by simpa using hl) fun i a x h1 h2 => R.unren d a x (hk a (List.mem_of_getElem? h1)) (h i _ x (by simp [h1]) h2)
 | d + 1,.fn f cs,x,hk,h => by
  simp only [renA] at h
  simp only [kg] at hk
  cases h with
  | fn hl h => exact .fn (by simpa using hl) fun i a x h1 h2 => R.unren d a x (hk a (List.mem_of_getElem? h1)) (h i _ x (by simp [h1]) h2)
 | d + 1,.iface t a,x,hk,h => by
  simp only [renA] at h
  simp only [kg] at hk
  cases h with | iface h => exact .iface (R.unren d a _ hk h)
 | d + 1,.cond b a,x,hk,h => by
  simp only [renA] at h
  simp only [kg] at hk
  cases h with
  | yes h => exact .yes (R.unren d a _ hk h)
  | no => exact .no
 | 0,.agg _,_,hk,_ => by simp [kg] at hk
 | 0,.tup _,_,hk,_ => by simp [kg] at hk
 | 0,.fn _ _,_,hk,_ => by simp [kg] at hk
 | 0,.iface _ _,_,hk,_ => by simp [kg] at hk
 | 0,.cond _ _,_,hk,_ => by simp [kg] at hk
theorem look_setRows_off:∀ {sets:List (Nat×Fam)} {m:Mem} {q:Nat},q ∉ sets.map (·.1)→look (setRows sets m) q = look m q
 | [],m,q,_ => rfl
 | (r,x) :: rest,m,q,h => by
  simp only [List.map_cons,List.mem_cons,not_or] at h
  simp only [setRows]
  rw [look_setRows_off h.2,look_set,if_neg]
  intro e; exact h.1 e.1.symm
theorem look_setRows_at:∀ {ks:List Nat} {ys:List Fam} {m:Mem},ks.Nodup→(∀ k ∈ ks,(look m k).isSome = true)→∀ (i:Nat) (k:Nat) (y:Fam),ks[i]? = some k→ys[i]? = some y→look (setRows (ks.zip ys) m) k = some y
 | [],ys,m,_,_,i,k,y,h,_ => by simp at h
 | k0 :: ks,[],m,_,_,i,k,y,_,h => by simp at h
 | k0 :: ks,y0 :: ys,m,hn,hs,i,k,y,h1,h2 => by
  simp only [List.zip_cons_cons,setRows]
  obtain ⟨n1,n2⟩:=List.nodup_cons.1 hn
  cases i with
  | zero =>
   simp at h1 h2
   subst h1 h2
   rw [look_setRows_off,look_set,if_pos ⟨rfl,hs k0 (by simp)⟩]
   intro hm
   obtain ⟨p,hp,e⟩:=List.mem_map.1 hm
   exact n1 (e ▸ (List.of_mem_zip hp).1)
  | succ i =>
   simp at h1 h2
   refine look_setRows_at n2 (fun q hq => ?_) i k y h1 h2
   rw [look_set]
   split
   ·rfl
   ·exact hs q (by simp [hq])
def Mine (ρ:Env) (m:Mem) (ks:List Nat) (b:Nat):Prop:=∃ i x f,i < ks.length∧look m (ks.getD i 0) = some x∧0 < ρ.cap (ks.getD i 0) f∧ρ.blk (ks.getD i 0) f = b
def Frozen (w0:Base) (ρ:Env) (m:Mem) (ks:List Nat) (w:World) (b:Nat):Prop:=b < w.heap.size∧w0.heap.size≤b∧¬ ρ.imm b∧¬ Mine ρ m ks b
theorem nodup_inj {ks:List Nat} (h:ks.Nodup) {i j:Nat} (hi:i < ks.length) (hj:j < ks.length) (e:ks[i] = ks[j]):i = j:=by
 have hp:=List.pairwise_iff_getElem.1 h
 rcases Nat.lt_trichotomy i j with hlt | he | hlt
 ·exact absurd e (hp i j hi hj hlt)
 ·exact he
 ·exact absurd e.symm (hp j i hj hi hlt)
theorem getD_inj {ks:List Nat} (h:ks.Nodup) {i j:Nat} (hi:i < ks.length) (hj:j < ks.length) (e:ks.getD i 0 = ks.getD j 0):i = j:=by
 rw [List.getD_eq_getElem?_getD,List.getD_eq_getElem?_getD,List.getElem?_eq_getElem hi,List.getElem?_eq_getElem hj] at e
 simp only [Option.getD_some] at e
 exact nodup_inj h hi hj e
theorem RowOK.unren {wb:Base} (hwb:wb.toWorld = w0.toWorld) {ks:List Nat} {i f:Nat} {x0 x:Row} (h:RowOK w0 ρ w (ks.getD i 0) f x) (hr:rowRen (thE ks) (lowG ks.length) (lowB ks.length) x0 x):RowOK wb (ρ.canon ks) w i f x0:=by
 obtain ⟨e1,e2,e3,e4,e5⟩:=hr
 refine ⟨by rw [← e1]; exact h.n_le,fun hc => ?_,fun j hj => ?_,fun j k c v hj hc hv => ?_⟩
 ·rw [hwb,← e2,← e3]; exact h.blk hc
 ·have:=h.len j (by omega)
  rw [(e5 j hj).1,e2] at this
  simpa using this
 ·obtain ⟨g1,g2⟩:=e5 j hj
  refine R.unren 3 c v (g2 c (List.mem_of_getElem? hc)) (h.rel j k _ v (by omega) (by rw [g1]; simp [hc]) ?_)
  rw [e2]; exact hv
theorem Rel.canon (h:Rel w0 ρ m D w) {m':Mem} (hm:∀ r x,look m' r = some x→look m r = some x) {ks:List Nat} {m0:Mem} {ars as0:List AV} (he:Entry ks m' m0 ars as0) :
  Rel { w0 with fix:=keepAll (Frozen w0 ρ m ks w) w,kept:=keepAll ρ.imm w } (ρ.canon ks) m0 (· < ks.length) w:=by
 have back:∀ r x0,look m0 r = some x0→r < ks.length∧∃ x,look m (ks.getD r 0) = some x∧∀ f,(x f).g = none∧rowRen (thE ks) (lowG ks.length) (lowB ks.length) (x0 f) (x f):=fun r x0 hr => by
  have hlt:=he.only r x0 hr
  obtain ⟨x0',x,h1,h2,h3⟩:=he.rows r hlt
  rw [hr] at h1; cases h1
  exact ⟨hlt,x,hm _ _ h2,h3⟩
 refine ⟨h.below,h.imm2,fun r hr => hr.1,fun r x hx => he.only r x hx,fun r x0 f hx hg => ?_,fun r x f r' x' f' hx hx' hg hg' hc hc' e => ?_,fun p hp => ?_,fun p hp => keepAll_mem hp⟩
 ·obtain ⟨hlt,x,h1,h2⟩:=back r x0 hx
  obtain ⟨d1,d2⟩:=h.row _ x f h1 (by rw [(h2 f).1]; simp)
  exact ⟨⟨hlt,d1⟩,RowOK.unren (w0:=w0) (wb:={ w0 with fix:=keepAll (Frozen w0 ρ m ks w) w,kept:=keepAll ρ.imm w }) rfl d2 (h2 f).2⟩
 ·obtain ⟨l1,y,h1,h2⟩:=back r x hx
  obtain ⟨l2,y',h3,h4⟩:=back r' x' hx'
  obtain ⟨e1,e2⟩:=h.sep _ y f _ y' f' h1 h3 (by rw [(h2 f).1]; simp) (by rw [(h4 f').1]; simp) hc hc' e
  exact ⟨getD_inj he.nodup l1 l2 e1,e2⟩
 ·obtain ⟨⟨k1,k2,k3,k4⟩,k5⟩:=keepAll_mem hp
  refine ⟨k2,fun r x0 f hx hg hc e => ?_,k3,k5⟩
  obtain ⟨hlt,x,h1,_⟩:=back r x0 hx
  exact k4 ⟨r,x,f,hlt,h1,hc,e⟩
theorem RowOK.ren {wb:Base} (hwb:wb.toWorld = w0.toWorld) {ρ' ρc:Env} {w':World} {θ:Nat→Nat→Nat×Nat} {g:Nat→Nat→Prop} {B:Nat→Prop} (hB:∀ r,B r→g r 0∧(θ r 0).2 = 0) (hi:∀ b,ρ'.imm b ↔ ρc.imm b)
  (hG:∀ r f,g r f→ρ'.dom r→ρc.dom (θ r f).1∧ρc.blk (θ r f).1 (θ r f).2 = ρ'.blk r f∧ρc.cap (θ r f).1 (θ r f).2 = ρ'.cap r f) {q fq k f:Nat} (hb:ρc.blk k f = ρ'.blk q fq) (hc:ρc.cap k f = ρ'.cap q fq) {y0 y:Row}
  (h:RowOK wb ρ' w' q fq y0) (hr:rowRen θ g B y0 y):RowOK w0 ρc w' k f y:=by
 obtain ⟨e1,e2,e3,e4,e5⟩:=hr
 refine ⟨by rw [e1,hc]; exact h.n_le,fun hcp => ?_,fun j hj => ?_,fun j k' c v hj hck hv => ?_⟩
 ·rw [hc] at hcp
  obtain ⟨b1,b2,c,b3,b4⟩:=h.blk hcp
  rw [hb,hc,e2,e3,← hwb]
  exact ⟨b1,fun hh => b2 ((hi _).2 hh),c,b3,b4⟩
 ·rw [(e5 j (by omega)).1,e2,List.length_map]
  exact h.len j (by omega)
 ·obtain ⟨g1,g2⟩:=e5 j (by omega)
  rw [g1,List.getElem?_map,Option.map_eq_some_iff] at hck
  obtain ⟨c0,hc0,rfl⟩:=hck
  rw [hb,e2] at hv
  exact R.ren hB (h.rel j k' c0 v (by omega) hc0 hv) (fun b => (hi b).1) hG 3 (g2 c0 (List.mem_of_getElem? hc0))
theorem leave_post (h:Rel w0 ρ m D w) {key:Nat} (hk:¬ D key) {m':Mem} (hm:∀ r x,look m' r = some x→look m r = some x) {ks:List Nat} {m0:Mem} {ars as0:List AV} (he:Entry ks m' m0 ars as0)
  {w1:Base} {ρ':Env} {m1:Mem} {D1:Nat→Prop} {w':World} (hw1:w1.toWorld = w0.toWorld) (hold:w1.old = w0.old) (hfix:∀ p ∈ keepAll (Frozen w0 ρ m ks w) w,p ∈ w1.fix) (hkept:w1.kept = keepAll ρ.imm w)
  (h1:Rel w1 ρ' m1 D1 w') (hkp:Keeps ks.length (ρ.canon ks) ρ') {σ:Nat→Option (Nat×Nat)} {th:Nat→Nat→Nat} {a:AV} {ys:List Fam} {nw:Option Fam} {val:AV} (hl:Leave key ks σ th m1 a ys nw val) {v:Value} (hv:R w' ρ' a v) {ob:List Prop} :
  Post w0 ρ m D key ⟨ob,val,.many (ks.zip ys) nw⟩ w v w':=by
 have hkd:¬ ρ.dom key:=fun hd => hk (h.dom _ hd)
 have inks:∀ i,i < ks.length→∃ x,look m (ks.getD i 0) = some x∧(∀ f,(x f).g = none)∧ρ.dom (ks.getD i 0):=fun i hi => by
  obtain ⟨x0,x,k1,k2,k3⟩:=he.rows i hi
  have h2:=hm _ _ k2
  exact ⟨x,h2,fun f => (k3 f).1,(h.row _ x 0 h2 (by rw [(k3 0).1]; simp)).1⟩
 have keyks:∀ i,i < ks.length→ks.getD i 0≠key:=fun i hi e => by
  obtain ⟨x,k1,_,_⟩:=inks i hi
  exact hk (e ▸ h.key _ _ k1)
 have himm:∀ b,ρ.imm b→b < w.heap.size:=h.imm
 have hsame:Same ρ.imm w w':=keepAll_same himm fun p hp => (h1.kept p (by rw [hkept]; exact hp)).2
 have himm':∀ b,ρ.imm b→ρ'.imm b:=fun b hb => by
  have hlt:=himm b hb
  have hmem:(b,w.heap[b]) ∈ keepAll ρ.imm w:=by
   unfold keepAll
   exact List.mem_filterMap.2 ⟨b,List.mem_range.2 hlt,by rw [if_pos hb]; simp [hlt]⟩
  exact (h1.kept _ (by rw [hkept]; exact hmem)).1
 have hfroz:∀ b,Frozen w0 ρ m ks w b→Off ρ' m1 b∧¬ ρ'.imm b∧w'.heap[b]? = w.heap[b]?:=fun b hb => by
  have hlt:=hb.1
  have hmem:(b,w.heap[b]) ∈ keepAll (Frozen w0 ρ m ks w) w:=by
   unfold keepAll
   exact List.mem_filterMap.2 ⟨b,List.mem_range.2 hlt,by rw [if_pos hb]; simp [hlt]⟩
  obtain ⟨_,k2,k3,k4⟩:=h1.fix _ (hfix _ hmem)
  exact ⟨k2,k3,by rw [k4]; simp [hlt]⟩
 -- the caller's environment
 obtain ⟨ρc,hρc⟩:∃ ρc:Env,ρc = { dom:=fun q => ρ.dom q∨q = key,blk:=fun q f => if q = key then (match σ f with | some (r,g) => ρ'.blk r g | none => 0) else ρ.blk q f,cap:=fun q f => if q = key then (match σ f with | some (r,g) => ρ'.cap r g | none => 0) else ρ.cap q f,imm:=ρ'.imm }:=⟨_,rfl⟩
 have cd:∀ q,ρc.dom q ↔ ρ.dom q∨q = key:=fun q => by rw [hρc]
 have cb:∀ q f,q≠key→ρc.blk q f = ρ.blk q f:=fun q f hq => by rw [hρc]; simp [hq]
 have cc:∀ q f,q≠key→ρc.cap q f = ρ.cap q f:=fun q f hq => by rw [hρc]; simp [hq]
 have cbk:∀ f r g,σ f = some (r,g)→ρc.blk key f = ρ'.blk r g:=fun f r g h => by rw [hρc]; simp [h]
 have cck:∀ f r g,σ f = some (r,g)→ρc.cap key f = ρ'.cap r g:=fun f r g h => by rw [hρc]; simp [h]
 have cc0:∀ f,σ f = none→ρc.cap key f = 0:=fun f h => by rw [hρc]; simp [h]
 have ci:∀ b,ρ'.imm b ↔ ρc.imm b:=fun b => by rw [hρc]
 have hle:ρ.le ρc:=⟨fun r hr => (cd r).2 (.inl hr),fun r f hr => cb r f (fun e => hkd (e ▸ hr)),fun r f hr => cc r f (fun e => hkd (e ▸ hr)),fun b hb => (ci b).1 (himm' b hb)⟩
 have kb':∀ i f,i < ks.length→ρ'.blk i f = ρ.blk (ks.getD i 0) f∧ρ'.cap i f = ρ.cap (ks.getD i 0) f:=fun i f hi => by
  obtain ⟨_,_,_,hd⟩:=inks i hi
  exact (hkp i hi ⟨hi,hd⟩).2 f
 -- the renaming
 have hB:∀ r,newB ks.length σ r→newG ks.length σ th r 0∧(thL ks key th r 0).2 = 0:=fun r hr => by
  unfold newB at hr
  unfold newG thL
  by_cases hlt:r < ks.length
  ·simp [hlt]
  ·rcases hr with hr | hr
   ·exact absurd hr hlt
   ·rw [if_neg hlt]
    obtain ⟨_,h2⟩:=hl.new1 0 r 0 hr
    exact ⟨.inr (by rw [h2]; exact hr),h2⟩
 have hG:∀ r f,newG ks.length σ th r f→ρ'.dom r→ρc.dom (thL ks key th r f).1∧ρc.blk (thL ks key th r f).1 (thL ks key th r f).2 = ρ'.blk r f∧ρc.cap (thL ks key th r f).1 (thL ks key th r f).2 = ρ'.cap r f:=fun r f hg hd => by
  unfold thL
  by_cases hlt:r < ks.length
  ·rw [if_pos hlt]
   obtain ⟨_,_,_,hdd⟩:=inks r hlt
   obtain ⟨b1,b2⟩:=kb' r f hlt
   refine ⟨(cd _).2 (.inl hdd),?_,?_⟩
   ·rw [cb _ _ (keyks r hlt),b1]
   ·rw [cc _ _ (keyks r hlt),b2]
  ·rw [if_neg hlt]
   rcases hg with hg | hg
   ·exact absurd hg hlt
   ·exact ⟨(cd _).2 (.inr rfl),cbk _ _ _ hg,cck _ _ _ hg⟩
 -- the rows
 have hzk:∀ q,q ∉ ks→look (setRows (ks.zip ys) m) q = look m q:=fun q hq => look_setRows_off fun hm => by
  obtain ⟨p,hp,rfl⟩:=List.mem_map.1 hm
  exact hq (List.of_mem_zip hp).1
 have ksome:∀ k ∈ ks,(look m k).isSome = true:=fun k hk' => by
  obtain ⟨i,hi,rfl⟩:=List.getElem_of_mem hk'
  obtain ⟨x,k1,_⟩:=inks i hi
  rw [List.getD_eq_getElem?_getD,List.getElem?_eq_getElem hi] at k1
  simp only [Option.getD_some] at k1
  rw [k1]; rfl
 have hza:∀ i,i < ks.length→∃ y0 y,look m1 i = some y0∧look (setRows (ks.zip ys) m) (ks.getD i 0) = some y∧∀ f,rowRen (thL ks key th) (newG ks.length σ th) (newB ks.length σ) (y0 f) (y f)∧(y0 f).g≠some false:=fun i hi => by
  obtain ⟨y0,y,k1,k2,k3⟩:=hl.rows i hi
  refine ⟨y0,y,k1,look_setRows_at he.nodup ksome i _ y ?_ k2,k3⟩
  rw [List.getD_eq_getElem?_getD,List.getElem?_eq_getElem hi]; simp
 have hkl:look (setRows (ks.zip ys) m) key = none:=by
  have:key ∉ ks:=fun hm => by
   obtain ⟨i,hi,e⟩:=List.getElem_of_mem hm
   exact keyks i hi (by rw [List.getD_eq_getElem?_getD,List.getElem?_eq_getElem hi]; simpa using e)
  rw [hzk key this]
  cases hl:look m key with
  | none => rfl
  | some y => exact absurd (h.key _ _ hl) hk
 obtain ⟨m2,hm2⟩:∃ m2,m2 = Upd.app key m (.many (ks.zip ys) nw):=⟨_,rfl⟩
 -- where a row of the new memory comes from
 have look2:∀ r x,look m2 r = some x→(r = key∧nw = some x)∨(r≠key∧((∃ i,i < ks.length∧r = ks.getD i 0)∨(r ∉ ks∧look m r = some x))):=fun r x hx => by
  have step:∀ r,r≠key→look (setRows (ks.zip ys) m) r = some x→(∃ i,i < ks.length∧r = ks.getD i 0)∨(r ∉ ks∧look m r = some x):=fun r hr hx => by
   by_cases hmem:r ∈ ks
   ·obtain ⟨i,hi,e⟩:=List.getElem_of_mem hmem
    exact .inl ⟨i,hi,by rw [List.getD_eq_getElem?_getD,List.getElem?_eq_getElem hi]; simpa using e.symm⟩
   ·exact .inr ⟨hmem,by rw [hzk r hmem] at hx; exact hx⟩
  rw [hm2] at hx
  unfold Upd.app at hx
  cases hn:nw with
  | none =>
   rw [hn] at hx
   dsimp only at hx
   have hne:r≠key:=fun e => by rw [e,hkl] at hx; cases hx
   exact .inr ⟨hne,step r hne hx⟩
  | some y =>
   rw [hn] at hx
   dsimp only at hx
   rw [look_ins hkl] at hx
   split at hx
   ·rename_i e; cases hx; exact .inl ⟨e.symm,rfl⟩
   ·rename_i e; exact .inr ⟨Ne.symm e,step r (Ne.symm e) hx⟩
 have look2k:∀ i,i < ks.length→∀ x,look m2 (ks.getD i 0) = some x→∃ y0,look m1 i = some y0∧∀ f,rowRen (thL ks key th) (newG ks.length σ th) (newB ks.length σ) (y0 f) (x f)∧(y0 f).g≠some false:=fun i hi x hx => by
  obtain ⟨y0,y,k1,k2,k3⟩:=hza i hi
  have:look m2 (ks.getD i 0) = some y:=by
   rw [hm2]
   unfold Upd.app
   cases nw with
   | none => exact k2
   | some z => dsimp only; rw [look_ins hkl,if_neg (Ne.symm (keyks i hi))]; exact k2
  rw [hx] at this; cases this
  exact ⟨y0,k1,k3⟩
 -- what stands behind a row: a row of the callee's,or one of the caller's that was left alone
 have src:∀ r x f,look m2 r = some x→(x f).g≠some false→0 < ρc.cap r f →
   (∃ q y0 fq,look m1 q = some y0∧(y0 fq).g≠some false∧0 < ρ'.cap q fq∧ρc.blk r f = ρ'.blk q fq∧((q < ks.length∧r = ks.getD q 0∧fq = f)∨(r = key∧σ f = some (q,fq)))) ∨
   (r≠key∧r ∉ ks∧look m r = some x∧0 < ρ.cap r f∧ρc.blk r f = ρ.blk r f∧Frozen w0 ρ m ks w (ρ.blk r f)):=fun r x f hx hg hc => by
  rcases look2 r x hx with ⟨e1,e2⟩ | ⟨hne,⟨i,hi,e⟩ | ⟨hmem,hlr⟩⟩
  ·left
   subst e1
   have hnew:=hl.new
   rw [e2] at hnew
   have hnf:=hnew f
   cases hs:σ f with
   | none => rw [cc0 f hs] at hc; omega
   | some p =>
    obtain ⟨q,g⟩:=p
    rw [hs] at hnf
    obtain ⟨y0,k1,k2,k3⟩:=hnf
    exact ⟨q,y0,g,k1,k3,by rw [← cck f q g hs]; exact hc,cbk f q g hs,.inr ⟨rfl,rfl⟩⟩
  ·left
   subst e
   obtain ⟨y0,k1,k2⟩:=look2k i hi x hx
   obtain ⟨b1,b2⟩:=kb' i f hi
   exact ⟨i,y0,f,k1,(k2 f).2,by rw [b2,← cc _ _ hne]; exact hc,by rw [cb _ _ hne,b1],.inl ⟨hi,rfl,rfl⟩⟩
  ·right
   rw [cc _ _ hne] at hc
   have hrow:=(h.row r x f hlr hg).2
   obtain ⟨b1,b2,_⟩:=hrow.blk hc
   refine ⟨hne,hmem,hlr,hc,cb _ _ hne,h.lt hlr hg hc,b1,b2,?_⟩
   rintro ⟨i,z,g,hi,hz,hcz,e⟩
   obtain ⟨x',k1,k2,_⟩:=inks i hi
   rw [hz] at k1; cases k1
   have:=h.sep r x f _ z g hlr hz hg (by rw [k2 g]; simp) hc hcz e.symm
   refine hmem (this.1 ▸ ?_)
   rw [List.getD_eq_getElem?_getD,List.getElem?_eq_getElem hi]
   simp
 have hRel:Rel w0 ρc m2 (fun r => D r∨r = key) w':=by
  refine ⟨by have:=h1.below; rw [hw1] at this; exact this,fun b hb => ?_,fun r hr => ((cd r).1 hr).imp (h.dom r) id,fun r x hx => ?_,fun r x f hx hg => ?_,fun r x f r' x' f' hx hx' hg hg' hc hc' e => ?_,fun p hp => ?_,fun p hp => ?_⟩
  ·have:=h1.imm2 b ((ci b).2 hb)
   rw [hold,hw1] at this
   exact this
  ·rcases look2 r x hx with ⟨e1,_⟩ | ⟨_,⟨i,hi,e⟩ | ⟨_,hlr⟩⟩
   ·exact .inr e1
   ·obtain ⟨z,k1,_⟩:=inks i hi
    exact .inl (e ▸ h.key _ _ k1)
   ·exact .inl (h.key _ _ hlr)
  ·rcases look2 r x hx with ⟨e1,e2⟩ | ⟨hne,⟨i,hi,e⟩ | ⟨hmem,hlr⟩⟩
   ·refine ⟨(cd r).2 (.inr e1),?_⟩
    subst e1
    have hnew:=hl.new
    rw [e2] at hnew
    have hnf:=hnew f
    cases hs:σ f with
    | some p =>
     obtain ⟨q,g⟩:=p
     rw [hs] at hnf
     obtain ⟨y0,k1,k2,k3⟩:=hnf
     exact RowOK.ren hw1 hB ci hG (cbk f q g hs) (cck f q g hs) (h1.row _ y0 g k1 k3).2 k2
    | none =>
     rw [hs] at hnf
     have hn0:(x f).n = 0:=hnf
     have hc0:ρc.cap r f = 0:=cc0 f hs
     exact ⟨by omega,fun hc => by omega,fun i hi => by omega,fun i k c v hi => by omega⟩
   ·subst e
    obtain ⟨y0,k1,k2⟩:=look2k i hi x hx
    obtain ⟨_,_,_,hdd⟩:=inks i hi
    obtain ⟨b1,b2⟩:=kb' i f hi
    exact ⟨(cd _).2 (.inl hdd),RowOK.ren hw1 hB ci hG (by rw [cb _ _ hne,b1]) (by rw [cc _ _ hne,b2]) (h1.row i y0 f k1 (k2 f).2).2 (k2 f).1⟩
   ·obtain ⟨d1,d2⟩:=h.row r x f hlr hg
    refine ⟨(cd r).2 (.inl d1),⟨by rw [cc _ _ hne]; exact d2.n_le,fun hc => ?_,d2.len,fun i k c v hi hck hv => ?_⟩⟩
    ·rcases src r x f hx hg hc with ⟨q,y0,fq,_,_,_,_,hh⟩ | ⟨_,_,_,hc2,e2,hf⟩
     ·exfalso
      rcases hh with ⟨hq,e,_⟩ | ⟨e,_⟩
      ·refine hmem (e ▸ ?_)
       rw [List.getD_eq_getElem?_getD,List.getElem?_eq_getElem hq]; simp
      ·exact hne e
     ·obtain ⟨b1,b2,c,b3,b4⟩:=d2.blk hc2
      obtain ⟨f1,f2,f3⟩:=hfroz _ hf
      rw [e2,cc _ _ hne,f3]
      exact ⟨b1,fun hh => f2 ((ci _).2 hh),c,b3,b4⟩
    ·have hcap:0 < ρc.cap r f:=by rw [cc _ _ hne]; have:=d2.n_le; omega
     rcases src r x f hx hg hcap with ⟨q,y0,fq,_,_,_,_,hh⟩ | ⟨_,_,_,hc2,e2,hf⟩
     ·exfalso
      rcases hh with ⟨hq,e,_⟩ | ⟨e,_⟩
      ·refine hmem (e ▸ ?_)
       rw [List.getD_eq_getElem?_getD,List.getElem?_eq_getElem hq]; simp
      ·exact hne e
     ·obtain ⟨f1,f2,f3⟩:=hfroz _ hf
      rw [e2] at hv
      exact (d2.rel i k c v hi hck ((Has_block f3).1 hv)).mono hle hsame
  ·rcases src r x f hx hg hc with ⟨q,y0,fq,k1,k2,k3,k4,k5⟩ | ⟨l1,l2,l3,l4,l5,l6⟩ <;> rcases src r' x' f' hx' hg' hc' with ⟨q',y0',fq',k1',k2',k3',k4',k5'⟩ | ⟨l1',l2',l3',l4',l5',l6'⟩
   ·obtain ⟨e1,e2⟩:=h1.sep q y0 fq q' y0' fq' k1 k1' k2 k2' k3 k3' (by rw [← k4,← k4']; exact e)
    subst e1 e2
    rcases k5 with ⟨a1,a2,a3⟩ | ⟨a1,a2⟩ <;> rcases k5' with ⟨b1,b2,b3⟩ | ⟨b1,b2⟩
    ·exact ⟨a2.trans b2.symm,a3.symm.trans b3⟩
    ·have:=(hl.new1 _ _ _ b2).1; omega
    ·have:=(hl.new1 _ _ _ a2).1; omega
    ·exact ⟨a1.trans b1.symm,(hl.new1 _ _ _ a2).2.symm.trans (hl.new1 _ _ _ b2).2⟩
   ·exfalso
    have:=(hfroz _ l6').1 q y0 fq k1 k2 k3
    exact this (by rw [← k4,← l5']; exact e)
   ·exfalso
    have:=(hfroz _ l6).1 q' y0' fq' k1' k2' k3'
    exact this (by rw [← k4',← l5]; exact e.symm)
   ·exact h.sep r x f r' x' f' l3 l3' hg hg' l4 l4' (by rw [← l5,← l5']; exact e)
  ·obtain ⟨p1,p2,p3,p4⟩:=h.fix p hp
   have hlt:=h.fixlt hp
   have hf:Frozen w0 ρ m ks w p.1:=⟨hlt,p1,p3,fun ⟨i,z,g,hi,hz,hcz,e⟩ => by
    obtain ⟨x',k1,k2,_⟩:=inks i hi
    rw [hz] at k1; cases k1
    exact p2 _ z g hz (by rw [k2 g]; simp) hcz e⟩
   obtain ⟨f1,f2,f3⟩:=hfroz _ hf
   refine ⟨p1,fun r x f hx hg hc e => ?_,fun hh => f2 ((ci _).2 hh),f3.trans p4⟩
   rcases src r x f hx hg hc with ⟨q,y0,fq,k1,k2,k3,k4,_⟩ | ⟨_,_,l3,l4,l5,_⟩
   ·exact f1 q y0 fq k1 k2 k3 (by rw [← k4]; exact e)
   ·exact p2 r x f l3 hg l4 (by rw [← l5]; exact e)
  ·obtain ⟨p1,p2⟩:=h.keeps hsame p hp
   exact ⟨(ci _).1 (himm' _ p1),p2⟩
 refine ⟨ρc,?_,by rw [← hm2]; exact hRel,hle,hsame⟩
 show R w' ρc val v
 rw [hl.val]
 exact R.ren hB hv (fun b => (ci b).1) hG 3 hl.valk
theorem MConOK.of {H:Hots} (hG:CtxOK P G) {f:FuncId} {fn:Func} (hf:P.funcs[f]? = some fn) {c:MCon}
  (h:∀ key m ars e,c key m ars = some e→(∀ p ∈ e.ob,p)→∃ ks m0 as0,Entry ks m m0 ars as0∧funcOK P H fn as0.length = true∧∃ cd,fn.body = some cd ∧
   awp P G H cd ⟨argSlots 0 as0,m0,ks.length⟩ (endM P fn fun a m1 => ∃ σ th ys nw,e.u = .many (ks.zip ys) nw∧Leave key ks σ th m1 a ys nw e.val)):MConOK P f c:=by
 intro w0 ρ m m' D w key ars vs e hR hk hm hRs hc hob _
 obtain ⟨ks,m0,as0,he,hok,cd,hb,h⟩:=h key m' ars e hc hob
 unfold funcOK at hok
 simp only [Bool.and_eq_true,Bool.not_eq_true',decide_eq_true_eq] at hok
 obtain ⟨⟨⟨hmx,hname⟩,hsz⟩,hbody⟩:=hok
 rw [hb] at hbody
 dsimp only at hbody
 have hlen:vs.length = as0.length:=by have:=hRs.1; rw [he.args] at this; simpa using this
 have hrel:=hR.canon hm he
 refine .inr ⟨?_,callsIn_wide.1 (callsIn_of_wp_marks (n:=0) (F:=Fence.wide) hf hb trivial ?_)⟩
 ·unfold callFunc
  simp only [Sem.run_bind]
  show Sem.run P (match P.funcs[f]? with | none => _ | some fn => _) w = _
  rw [hf]
  dsimp only
  rw [if_neg (by rw [hname]; simp),if_neg (by rw [hb]; simp)]
  rfl
 ·have hnt:(vs.toArray ++ Array.replicate (fn.ntmps - vs.toArray.size) undef).size = fn.ntmps:=by simp; omega
  refine awp_sound hG hmx cd none 0 _ _ _ ⟨[],fun _ => True,#[]⟩ (ρ.canon ks) _ w _ hbody (fun l hl => by cases hl) (fun _ _ => trivial) h ⟨hrel,fun j => ?_,hnt,rfl,fun j hj => absurd trivial hj⟩ fun e' s' w1 ds1 ρ' a' w' k0 k1 k2 k3 k4 k5 => ?_
  ·rw [argSlots_get]
   split
   ·rename_i hj
    have hj':j < as0.length:=by omega
    have hj2:j < vs.length:=by omega
    have hget:as0[j]? = some as0[j]:=List.getElem?_eq_getElem hj'
    have hR1:=hRs.2 j (renA (thE ks) 3 as0[j]) vs[j] (by rw [he.args]; simp [hget]) (by simp)
    have:=R.unren 3 as0[j] vs[j] (he.argk _ (List.getElem_mem hj')) hR1
    have e1:as0.getD (j - 0) (AV.v undef) = as0[j]:=by simp [List.getD,hget]
    have e2:(vs.toArray ++ Array.replicate (fn.ntmps - vs.toArray.size) undef).getD j undef = vs[j]:=by
     simp [Array.getD_eq_getD_getElem?,Array.getElem?_append,hj2]
    rw [e1,e2]
    exact this
   ·rename_i hj
    have hj2:vs.length≤j:=by omega
    have:(vs.toArray ++ Array.replicate (fn.ntmps - vs.toArray.size) undef).getD j undef = undef:=by
     rw [Array.getD_eq_getD_getElem?,Array.getElem?_append_right (by simpa using hj2),Array.getElem?_replicate]
     split <;> rfl
    rw [this]
    exact .v
  ·obtain ⟨fx,ms,e1,e2,hms,hnd,hoff,_⟩:=k0
   have fin:∀ e',e' = AEx.normal∨e' = AEx.ret→endM P fn (fun a m1 => ∃ σ th ys nw,e.u = .many (ks.zip ys) nw∧Leave key ks σ th m1 a ys nw e.val) e' s' →
     LeavesInM Fence.wide 0 P fn a'.tmps (fun e' w' => ∃ v,e' = .returned v∧Post w0 ρ m D key e w v w') a'.defers .returning w':=by
    intro e' he' h
    have h:match resAll P s' fn.results.toList with
      | some (ob,a) => conj ob (∃ σ th ys nw,e.u = .many (ks.zip ys) nw∧Leave key ks σ th s'.m a ys nw e.val)
      | none => False:=by
     rcases he' with rfl | rfl <;> exact h
    rw [k4.defers,e2]
    simp only [List.append_nil]
    refine leaves_marks ms w1 w' hnd (fun b hb => by rw [e1]; exact List.mem_append.2 (.inl (hms b hb))) k4 fun w2 w'' g1 g2 g3 g4 k6 => ?_
    split at h
    ·rename_i ob x hx
     obtain ⟨hob2,σ,th,ys,nw,hu,hlv⟩:=conj_iff.1 h
     obtain ⟨v,h1,h2⟩:=resAll_sound k6 hx hob2
     refine ⟨v,h1,v,rfl,?_⟩
     have hp:=leave_post hR hk hm he (w1:=w2) (by rw [g1,e1]) (by rw [g2,e1]) (fun p hp => g3 p (by rw [e1]; exact List.mem_append.2 (.inr hp)) (fun hms' => hoff _ hms' p hp rfl)) (by rw [g4,e1]) k6.rel k5 hlv h2 (ob:=e.ob)
     obtain ⟨eob,eval,eu⟩:=e
     dsimp only at hu
     subst hu
     exact hp
    ·exact h.elim
   cases e' with
   | normal => exact fin .normal (.inl rfl) k1
   | ret => exact fin .ret (.inr rfl) k1
   | exit j => exact k1.elim
end
end Go.Ax
end
section
namespace Go.Ax
section
variable {P:Program} {m:Mem} {d k n sz:Nat} {ty:TypeId} {g:Option Bool} {cs cs' l:List AV} {f i r:Nat} {fam:Fam} {get:Nat→List AV}
def famE (fam:Fam) (f i:Nat) (cs:List AV):Fam:=fun f' => if f' = f then { fam f with get:=fun j => if j = i then cs else (fam f).get j } else fam f'
theorem famE_n {f':Nat}:(famE fam f i cs f').n = (fam f').n:=by
 unfold famE; split
 ·rename_i e; subst e; rfl
 ·rfl
theorem famE_sz {f':Nat}:(famE fam f i cs f').sz = (fam f').sz:=by
 unfold famE; split
 ·rename_i e; subst e; rfl
 ·rfl
theorem famE_g {f':Nat}:(famE fam f i cs f').g = (fam f').g:=by
 unfold famE; split
 ·rename_i e; subst e; rfl
 ·rfl
theorem famE_get:(famE fam f i cs f).get i = cs:=by simp [famE]
theorem famE_off {f':Nat} (h:f'≠f):famE fam f i cs f' = fam f':=by simp [famE,h]
theorem famE_self:famE fam f i ((fam f).get i) = fam:=by
 funext f'
 unfold famE
 split
 ·rename_i e; subst e
  have:(fun j => if j = i then (fam f').get i else (fam f').get j) = (fam f').get:=by
   funext j; split
   ·rename_i e; subst e; rfl
   ·rfl
  rw [this]
 ·rfl
theorem famE_twice {l:List AV}:famE (famE fam f i cs) f i l = famE fam f i l:=by
 funext f'
 unfold famE
 by_cases h:f' = f
 ·subst h
  simp only [if_true]
  congr 1
  funext j
  by_cases e:j = i <;> simp [e]
 ·simp [h]
theorem updAt_E:updAt (famE fam f i cs) f i k l = famE fam f i (putCells cs k l):=by
 funext f'
 unfold updAt famE
 by_cases h:f' = f
 ·subst h
  simp only [if_true]
  congr 1
  funext j
  by_cases e:j = i <;> simp [e]
 ·simp [h]
theorem updAt_E2 {f' j:Nat} (h:f'≠f):updAt (famE fam f i cs) f' j k l = famE (updAt fam f' j k l) f i cs:=by
 funext q
 unfold updAt famE
 by_cases h1:q = f'
 ·subst h1; simp [h]
 ·by_cases h2:q = f
  ·subst h2; simp [h1]
  ·simp [h1,h2]
theorem loadP_E {q:TypeId} {sz:Nat}:loadP P q f i sz k (some (famE fam f i cs)) = effL ((i < (fam f).n) :: (sz = (fam f).sz) :: gOb (fam f).g []) (ofC (layT P q) (cs.drop k)):=by
 rw [← ofCells_eq]
 unfold loadP
 dsimp only
 rw [famE_get,famE_n,famE_sz,famE_g]
 cases ofCells P q (cs.drop k) <;> rfl
theorem loadP_E2 {q:TypeId} {f' j sz:Nat} (h:f'≠f):loadP P q f' j sz k (some (famE fam f i cs)) = loadP P q f' j sz k (some fam):=by
 unfold loadP
 dsimp only
 rw [famE_off h]
theorem storeP_E {sz:Nat}:storeP r f i sz k l (some (famE fam f i cs)) = if k + l.length≤sz then some ⟨(i < (fam f).n) :: (sz = (fam f).sz) :: gOb (fam f).g [],.v undef,.set r (famE fam f i (putCells cs k l))⟩ else none:=by
 unfold storeP
 dsimp only
 rw [famE_n,famE_sz,famE_g,updAt_E]
theorem storeP_E2 {f' j sz:Nat} (h:f'≠f):storeP r f' j sz k l (some (famE (famE fam f' j cs) f i cs')) = if k + l.length≤sz then some ⟨(j < (fam f').n) :: (sz = (fam f').sz) :: gOb (fam f').g [],.v undef,.set r (famE (famE fam f' j (putCells cs k l)) f i cs')⟩ else none:=by
 unfold storeP
 dsimp only
 rw [famE_n,famE_sz,famE_g,famE_n,famE_sz,famE_g,updAt_E2 h,updAt_E]
def famT (K N sz:Nat) (tp ty:TypeId) (get:Nat→List AV):Fam:=fun f => match f with
 | 0 => ⟨N,1,tp,fun i => [.ptr K (i + 1) 0 sz 0],none⟩
 | f + 1 => ⟨if f < N then 1 else 0,sz,ty,fun j => if j = 0 then get f else [],none⟩
section
variable {K N:Nat} {tp ty:TypeId}
theorem lt_ite {f N:Nat}:(0 < if f < N then 1 else 0) = (f < N):=by
 apply propext
 split <;> simp_all
theorem loadP_T0 {q:TypeId} {sz':Nat}:loadP P q 0 i sz' k (some (famT K N sz tp ty get)) = effL [i < N,sz' = 1] (ofC (layT P q) ([AV.ptr K (i + 1) 0 sz 0].drop k)):=by
 rw [← ofCells_eq]
 unfold loadP
 dsimp only [famT]
 cases ofCells P q ([AV.ptr K (i + 1) 0 sz 0].drop k) <;> rfl
theorem loadP_TS {q:TypeId} {sz':Nat}:loadP P q (f + 1) 0 sz' k (some (famT K N sz tp ty get)) = effL [f < N,sz' = sz] (ofC (layT P q) ((get f).drop k)):=by
 rw [← ofCells_eq]
 unfold loadP
 dsimp only [famT]
 rw [lt_ite]
 simp only [if_true]
 cases ofCells P q ((get f).drop k) <;> rfl
theorem updAt_T:updAt (famT K N sz tp ty get) (f + 1) 0 k l = famT K N sz tp ty (fun f' => if f' = f then putCells (get f) k l else get f'):=by
 funext q
 unfold updAt
 cases q with
 | zero => simp [famT]
 | succ q =>
  simp only [Nat.add_right_cancel_iff]
  by_cases h:q = f
  ·subst h
   simp only [famT,if_true]
   congr 1
   funext j
   by_cases e:j = 0 <;> simp [e]
  ·simp [famT,h]
theorem storeP_TS {sz':Nat}:storeP r (f + 1) 0 sz' k l (some (famT K N sz tp ty get)) = if k + l.length≤sz' then some ⟨[f < N,sz' = sz],.v undef,.set r (famT K N sz tp ty (fun f' => if f' = f then putCells (get f) k l else get f'))⟩ else none:=by
 unfold storeP
 dsimp only
 rw [updAt_T]
 simp only [famT,lt_ite,gOb]
theorem famE_T:famE (famT K N sz tp ty get) (f + 1) 0 cs = famT K N sz tp ty (fun f' => if f' = f then cs else get f'):=by
 funext q
 unfold famE
 cases q with
 | zero => simp [famT]
 | succ q =>
  simp only [Nat.add_right_cancel_iff]
  by_cases h:q = f
  ·subst h
   simp only [famT,if_true]
   congr 1
   funext j
   by_cases e:j = 0 <;> simp [e]
  ·simp [famT,h]
theorem famE_N {N:Nat}:famE (famN N sz ty get none) 0 i cs = famN N sz ty (fun j => if j = i then cs else get j) none:=by
 funext q
 unfold famE famN
 by_cases h:q = 0 <;> simp [h]
def purUP (d f i k:Nat) (m:Mem) (x:Option Fam):AV:=match x with
 | some fam => .rop ((((fam f).get i).drop k).map (purU d m))
 | none => .any
theorem purU_ptr {sz:Nat}:purU (d + 1) m (.ptr r f i sz k) = purUP d f i k m (look m r):=(rfl)
theorem purUP_E:purUP d f i k m (some (famE fam f i cs)) = .rop (purUL d m (cs.drop k)):=by
 rw [← purUL_eq]; unfold purUP; dsimp only; rw [famE_get]
theorem purUP_E2 {f' j:Nat} (h:f'≠f):purUP d f' j k m (some (famE fam f i cs)) = purUP d f' j k m (some fam):=by
 unfold purUP; dsimp only; rw [famE_off h]
theorem purUP_TS:purUP d (f + 1) 0 k m (some (famT K N sz tp ty get)) = .rop (purUL d m ((get f).drop k)):=by rw [← purUL_eq]; rfl
theorem purUP_N {N:Nat}:purUP d 0 i k m (some (famN N sz ty get g)) = .rop (purUL d m ((get i).drop k)):=by rw [← purUL_eq]; rfl
def pgsP (d f i sz k:Nat) (m:Mem) (x:Option Fam):List Prop:=match x with
 | some fam => gOb (fam f).g ((i < (fam f).n) :: (sz = (fam f).sz) :: (((fam f).get i).drop k).flatMap (pgs d m))
 | none => []
theorem pgs_ptr {sz:Nat}:pgs (d + 1) m (.ptr r f i sz k) = pgsP d f i sz k m (look m r):=(rfl)
theorem pgsP_E {sz:Nat}:pgsP d f i sz k m (some (famE fam f i cs)) = gOb (fam f).g ((i < (fam f).n) :: (sz = (fam f).sz) :: pgsL d m (cs.drop k)):=by
 rw [← pgsL_eq]; unfold pgsP; dsimp only; rw [famE_get,famE_n,famE_sz,famE_g]
theorem pgsP_E2 {f' j sz:Nat} (h:f'≠f):pgsP d f' j sz k m (some (famE fam f i cs)) = pgsP d f' j sz k m (some fam):=by
 unfold pgsP; dsimp only; rw [famE_off h]
theorem pgsP_TS {sz':Nat}:pgsP d (f + 1) 0 sz' k m (some (famT K N sz tp ty get)) = (f < N) :: (sz' = sz) :: pgsL d m ((get f).drop k):=by
 rw [← pgsL_eq]; unfold pgsP; dsimp only [famT]; rw [lt_ite]; rfl
theorem pgsP_N {N sz':Nat}:pgsP d 0 i sz' k m (some (famN N sz ty get g)) = gOb g ((i < N) :: (sz' = sz) :: pgsL d m ((get i).drop k)):=by rw [← pgsL_eq]; rfl
end
end
attribute [go_sem] opd_tmp opd_const opd_global opd_func slot_cons slot_nil strip_v strip_any strip_agg strip_tup strip_ro strip_rop strip_bx strip_ptr strip_own strip_vw strip_fn strip_iface strip_cond needs_nil needs_v needs_any needs_agg needs_tup needs_ro needs_rop needs_bx needs_ptr needs_own needs_vw needs_fn needs_iface needs_cond conj_nil conj_cons isCell_bool isCell_int isCell_string isCell_pointer isCell_slice isCell_map isCell_nilFunc isCell_nilIface isCell_ro isCell_rop isCell_bx isCell_ptr isCell_own isCell_vw isCell_fn isCell_iface allCells_nil allCells_cons cellsAgg_true cellsOf_agg cellsOf_bool cellsOf_int cellsOf_string cellsOf_pointer cellsOf_slice cellsOf_map cellsOf_nilFunc cellsOf_nilIface cellsOf_ro cellsOf_rop cellsOf_bx cellsOf_ptr cellsOf_own cellsOf_vw cellsOf_fn cellsOf_iface ofC_agg ofC_one withOb_some owedL_true owedL_false owedV_move owedV_assign owedV_pick owedV_alloc owedV_box rawP_nil rawP_cons rawV_nil rawV_cons owedV_build owedV_buildSlice owedV_load owedV_store owedV_nilCheck owedV_binOp owedV_unOp owedV_convert owedV_makeInterface owedV_makeFunc owedV_makeSlice owedV_slice owedV_fieldAddr owedV_field owedV_indexAddr owedV_index owedV_typeAssert owedV_extract owedV_callB owedV_callV owedV_callI regC_free guardM_true guardE_some guardS_some regC_guard gslot_some guardOf_eq gval_t gval_f gval_ct gval_cf memFor_none rootOK_none hotOf_false hotOf_true stepC_eff bindC_nm bindC_cnm bindC_v bindC_any bindC_agg bindC_tup bindC_ro bindC_rop bindC_bx bindC_ptr bindC_own bindC_vw bindC_fn bindC_iface putSlot_some putSlot_none bindC_ite bindC_bint bindC_bbool bindC_bnilI bindC_bnilS bindC_bro bindC_brop bindC_bfn bindC_biface bindC_bagg bindC_btup bindL_int bindL_bool bindL_ro bindL_nilS bindL_nilI bindL_iface bindL_agg bindL_nilT bindL_nilA bindC_cbint bindC_cbbool bindC_cbagg bindC_cbtup bindC_kv bindC_kany bindC_kagg bindC_ktup bindC_kro bindC_krop bindC_kbx bindC_kptr bindC_kown bindC_kvw bindC_kfn bindC_kiface rootC_conj look_nil look_cons setRow_nil setRow_cons insRow_nil insRow_cons dropRow_nil dropRow_cons app_none app_new app_set app_swap app_manyN app_manyS setRows_nil setRows_cons mild_none mild_new aAlloc_eq allocZ_agg allocZ_int allocZ_bool allocZ_string allocZ_slice allocZ_pointer allocZ_nilIface allocZ_nilFunc aStep_allocV boxZ_some aStep_boxV effL_some loadF_1 aStep_loadV loadA_bx loadA_rop loadA_ptr loadP_N gOb_none gOb_some aStep_storeV storeX_lay laySz_some storeC_bx storeC_ptr storeF_1 storeP_N putCells_eq fillP_nil fillP_cons fillQ_some buildZ_agg aggE_some aStep_buildV fillS_nil fillS_cons fillT_some sliceE_some sliceR_true sliceR_false all_clean2 sliceZ_some sliceB_some aStep_buildSliceV rowsOf_eq offE_bx offE_ptr offE_rop aStep_fieldAddrV fieldE_agg aStep_fieldV idxS_some idxA_bx idxA_ptr idxA_rop aStep_indexAddrV idxE_ro idxE_own idxE_vw idxE_bx idxE_rop idxE_ptr argsV_nil argsV_cons partsV_nil partsV_cons aStep_makeFuncV ifaceE_true aStep_makeInterfaceV aStep_extractV effOf_some effOf2_some extractE_tup aStep_nilCheckV nilE_bx nilE_ptr nilE_rop nilE_iface zeroE_agg zeroE_int zeroE_nilIface zeroE_pointer aStep_assertOkV assertOkE_iface aStep_assertV assertE_iface aStep_add2 aStep_sub2 aStep_mul2 aStep_quo2 aStep_rem2 aStep_and2 aStep_or2 aStep_xor2 aStep_andNot2 aStep_shl2 aStep_shr2 aStep_lss2 aStep_leq2 aStep_gtr2 aStep_geq2 binE_add binE_sub binE_mul binE_quo binE_rem binE_and binE_or binE_xor binE_andNot binE_shl binE_shr binE_lss binE_leq binE_gtr binE_geq bits_i64 bits_u64 bits_u8 bits_u32 aStep_eql2 aStep_neq2 eqE_int neE_int negV_true negV_false eqE_bool neE_bool aStep_un2 unE_neg unE_not unE_xor aStep_conv2 convE_int aStep_max2 aStep_min2 mmS_max2 mmS_min2 mmS_max3 mmS_max4 lenR_some aStep_len2 lenE_ro lenE_own lenE_vw orE_some andE_some aStep_or3 aStep_and3 boolOf_bool isPick_pick callY_some callZ_true callX_true callF_pure callF_mut aMut_many aMut_one aMut_nil callE_fn bndE_some aStep_call2 invF_some invE_iface invE_nil aStep_invoke2 ctxCall_eq pureOf_pure ctxGet_cons stepC_ite withOb_ite tmpE_v tmpE_agg tmpE_ro tmpE_own tmpE_vw tmpE_fn tmpE_iface tmpE_rop tmpE_bx resE_tmp resE_cell retQ_one retQ_none retQ_more retL_nil retL_cons retS_some endR_ret endR_normal argSlots_nil argSlots_cons pur_v pur_any pur_ro pur_rop purL_nil purL_cons pur_agg pur_tup pur_iface pur_fn pur_bx purB_1 rowG_eq pur_own purO_N pur_vw purW_N purUL_nil purUL_cons purU_v purU_any purU_ro purU_rop purU_agg purU_tup purU_iface purU_fn purU_bx purUB_1 purU_own purUO_N purU_vw purUW_N pgsL_nil pgsL_cons pgs_v pgs_any pgs_ro pgs_rop pgs_agg pgs_tup pgs_iface pgs_fn pgs_bx pgsB_1 pgs_own pgs_vw pgsO_N cleanL_nil cleanL_cons clean_v clean_any clean_ro clean_rop clean_bx clean_ptr clean_own clean_vw clean_agg clean_tup clean_fn clean_iface plainL_nil plainL_cons plain_v plain_agg plain_tup plain_iface anyS_nil anyS_cons dropB_nil dropB_cons elemB_nil elemB_cons keptRows_nil keptRows_cons keptRows_end roundK_normal roundK_ret roundK_exit fitSlots_nil fitSlots_cons fit1_v fit1_any fit1_ro fit1_agg fit1_rop fit1_bx fit1_own fitRows_nil fitKeep_nil fitKeep_cons av_int av_bool makeZ_some makeE_int aStep_make2 cells_agg cells_int cells_bool cells_pointer cells_slice cells_nilIface optV_none optV_some cutBound_none cutBound_int cutI_ro cutI_own cutI_vw cutE_ro cutE_own cutE_vw aStep_cut2 srcOf_ro srcOf_own srcOf_vw srcO_N srcF_N appF_N appS_nil appS_own appE_some appZ_some aStep_append2 okCells_1 roundN_normal roundN_ret roundN_exit roundA_normal roundA_ret roundA_exit asgK_normal roundR_normal roundR_ret roundR_exit slotsOf_nil slotsOf_cons bindsG_data bindsG_chain bindsG_guard bindsG_phase bindsG_textOnly bindsG_gcOnly afterB_nil afterB_cons keyA_bx keyA_ptr keyA_own keyOf_made keyOf_slot eqK_some hidden_nil hidden_cons hideOf_nil hideOf_cons rootOf_nil rootOf_cons restrB_nil restrB_cons memFor_some rootOK_snone rootOK_smany callAt_eq callR_call rootOK_snew rootX_some rootX_none rootOK_sset rootOK_sswap hotAt_nil hotAt_cons zeros_zero zeros_succ callD_V callX_V fitRows_none fitRows_some fitRows_nilS fitF_1 fitF_N fitL_nil fitL_cons fit1_named fit1_nilS loadP_E loadP_E2 loadP_T0 loadP_TS storeP_E storeP_E2 storeP_TS purU_ptr purUP_E purUP_E2 purUP_TS purUP_N pgs_ptr pgsP_E pgsP_E2 pgsP_TS pgsP_N famE_N goC_seq goC_block goC_skip goC_ret goC_exit goC_scope goC_label goC_cond retC_nseq retC_rseq retC_eseq retC_nblock retC_rblock retC_eblock exitC_true exitC_false retC_nil condC_some regC_nil goC_region aStep_move aStep_assign
attribute [go_sem] List.cons_append List.nil_append List.append_nil List.take_succ_cons List.take_zero List.take_nil List.drop_succ_cons List.drop_zero List.drop_nil List.length_cons List.length_nil List.getElem?_cons_zero List.getElem?_cons_succ List.map_cons List.map_nil List.toList_toArray Bool.and_true Bool.true_and Bool.and_false Bool.false_and cond_true cond_false List.size_toArray List.getElem?_toArray Nat.reduceEqDiff Nat.reduceAdd Nat.reduceMul Nat.reduceSub Nat.reduceLeDiff Nat.reduceLT Nat.reducePow Int.reduceToNat Int.reduceEq Int.reduceLT Int.reduceNeg decide_true decide_false Int.le_refl Int.reduceLE Int.reduceAdd Int.cast_ofNat_Int Int.natCast_zero Int.natCast_one Nat.le_refl Bool.false_eq_true and_self and_true true_and Nat.reduceBEq
attribute [go_sem ↓] reduceIte rowG_rows
inductive Sh where
 | int (k:IntKind)
 | bool
 | slice (sz:Nat) (es:List Sh)
mutual
def fitA:Sh→AV→Prop
 | .int k,a => ∃ n,a = .v (.int k n)∧(Lit.int k n).wf = true
 | .bool,a => ∃ b,a = .v (.bool b)
 | .slice sz es,a => ∃ (n:Nat) (get:Nat→List AV),a = .ro n sz get∧n≤maxLen∧∀ i,fitS es (get i)
def fitS:List Sh→List AV→Prop
 | [],l => l = []
 | s :: ss,l => ∃ a r,l = a :: r∧fitA s a∧fitS ss r
end
mutual
def dfl:Sh→AV
 | .int k => .v (.int k 0)
 | .bool => .v (.bool false)
 | .slice sz es => .ro 0 sz (fun _ => dfls es)
def dfls:List Sh→List AV
 | [] => []
 | s :: ss => dfl s :: dfls ss
end
theorem wf_zero (k:IntKind):(Lit.int k 0).wf = true:=by cases k <;> decide
mutual
theorem fit_dfl:∀ s,fitA s (dfl s)
 | .int k => by rw [fitA,dfl]; exact ⟨0,rfl,wf_zero k⟩
 | .bool => by rw [fitA,dfl]; exact ⟨false,rfl⟩
 | .slice sz es => by rw [fitA,dfl]; exact ⟨0,_,rfl,Nat.zero_le _,fun _ => fit_dfls es⟩
theorem fit_dfls:∀ ss,fitS ss (dfls ss)
 | [] => by rw [fitS,dfls]
 | s :: ss => by rw [fitS,dfls]; exact ⟨_,_,rfl,fit_dfl s,fit_dfls ss⟩
end
theorem fitS_length:∀ {ss:List Sh} {l:List AV},fitS ss l→l.length = ss.length
 | [],l,h => by rw [fitS] at h; rw [h]; rfl
 | s :: ss,l,h => by
  rw [fitS] at h
  obtain ⟨a,r,rfl,_,h⟩:=h
  simp [fitS_length h]
theorem fitS_append:∀ {ss ts:List Sh} {l m:List AV},fitS ss l→fitS ts m→fitS (ss ++ ts) (l ++ m)
 | [],ts,l,m,h,k => by rw [fitS] at h; subst h; exact k
 | s :: ss,ts,l,m,h,k => by
  rw [fitS] at h
  obtain ⟨a,r,rfl,h1,h2⟩:=h
  show fitS (s :: (ss ++ ts)) (a :: (r ++ m))
  rw [fitS]
  exact ⟨a,r ++ m,rfl,h1,fitS_append h2 k⟩
def shFs (P:Program) (sh:TypeId→Option (List Sh)):List Field→Nat→Option (List Sh)
 | [],_ => some []
 | f :: fs,off => if f.offset = off then match sh f.type with
   | some es => if es.length = P.cellsOf f.type then match shFs P sh fs (off + es.length) with
     | some r => some (es ++ r)
     | none => none
    else none
   | none => none
  else none
def shT (P:Program):Nat→TypeId→Option (List Sh)
 | 0,_ => none
 | d + 1,t => match P.underlying t with
  | some .bool => some [.bool]
  | some (.int k) => some [.int k]
  | some (.slice e) => match shT P d e with
   | some es => if es.length = P.cellsOf e∧0 < es.length then some [.slice (P.cellsOf e) es] else none
   | none => none
  | some (.struct fs) => match shFs P (shT P d) fs.toList 0 with
   | some r => if r.length = P.cellsOf t then some r else none
   | none => none
  | some (.array n e) => match shT P d e with
   | some es => if es.length = P.cellsOf e∧n * es.length = P.cellsOf t then some (List.replicate n es).flatten else none
   | none => none
  | _ => none
section
variable {H:Type} {enc:TypeId×Value→H} {P:Program} {w:World} {spare:Nat→Bool} {held:Bool}
theorem take_drop_add {α:Type} (l:List α) (o a b:Nat):(l.drop o).take (a + b) = (l.drop o).take a ++ (l.drop (o + a)).take b:=by
 rw [List.take_add,List.drop_drop]
theorem fields_read {sh:TypeId→Option (List Sh)} {n:Nat} {cs:List Value} (ih:∀ t ss cs x,sh t = some ss→DataW.trod enc P w 0 spare held n t cs = some x→∃ l,fitS ss l∧Rs w (.ext (All w)) l cs) :
  ∀ (fs:List Field) (off:Nat) (ss:List Sh),shFs P sh fs off = some ss→(∀ f ∈ fs,∃ x,DataW.trod enc P w 0 spare held n f.type ((cs.drop f.offset).take (P.cellsOf f.type)) = some x) →
   ∃ l,fitS ss l∧Rs w (.ext (All w)) l ((cs.drop off).take ss.length)
 | [],off,ss,h,_ => by
  simp only [shFs,Option.some.injEq] at h
  subst h
  exact ⟨[],by rw [fitS],by simpa using Rs.nil⟩
 | f :: fs,off,ss,h,hf => by
  simp only [shFs] at h
  split at h
  ·rename_i ho
   split at h
   ·rename_i es hes
    split at h
    ·rename_i hl
     split at h
     ·rename_i r hr
      cases h
      obtain ⟨x,hx⟩:=hf f (by simp)
      obtain ⟨l1,a1,a2⟩:=ih _ _ _ _ hes hx
      obtain ⟨l2,b1,b2⟩:=fields_read ih fs _ r hr (fun g hg => hf g (by simp [hg]))
      refine ⟨l1 ++ l2,fitS_append a1 b1,?_⟩
      rw [List.length_append,take_drop_add]
      rw [ho,← hl] at a2
      exact a2.append b2
     ·cases h
    ·cases h
   ·cases h
  ·cases h
theorem array_read {n:Nat} {cs:List Value} {es:List Sh} {k:Nat} (hk:es.length = k):∀ (len off:Nat),(∀ i,i < len→∃ l,fitS es l∧Rs w (.ext (All w)) l ((cs.drop (off + i * k)).take k)) →
   ∃ l,fitS (List.replicate len es).flatten l∧Rs w (.ext (All w)) l ((cs.drop off).take (len * k))
 | 0,off,_ => ⟨[],by simp [fitS],by simpa using Rs.nil⟩
 | len + 1,off,h => by
  obtain ⟨l1,a1,a2⟩:=h 0 (by omega)
  obtain ⟨l2,b1,b2⟩:=array_read (n:=n) hk len (off + k) (fun i hi => by
   obtain ⟨l,c1,c2⟩:=h (i + 1) (by omega)
   refine ⟨l,c1,?_⟩
   rw [show off + k + i * k = off + (i + 1) * k by rw [Nat.add_mul]; omega]
   exact c2)
  refine ⟨l1 ++ l2,?_,?_⟩
  ·rw [List.replicate_succ,List.flatten_cons]
   exact fitS_append a1 b1
  ·rw [show (len + 1) * k = k + len * k by rw [Nat.add_mul]; omega,take_drop_add]
   simp only [Nat.zero_mul,Nat.add_zero] at a2
   exact a2.append b2
theorem cells_read:∀ (d:Nat) (t:TypeId) (ss:List Sh) (fuel:Nat) (cs:List Value) (x:DataW H×List MemPlace),shT P d t = some ss→DataW.trod enc P w 0 spare held fuel t cs = some x→∃ l,fitS ss l∧Rs w (.ext (All w)) l cs
 | 0,t,ss,fuel,cs,x,h,_ => by simp [shT] at h
 | d + 1,t,ss,fuel,cs,x,h,hx => by
  simp only [shT] at h
  split at h
  ·rename_i hu
   cases h
   obtain ⟨b,rfl,_⟩:=DataW.trod_bool hu hx
   exact ⟨[.v (.bool b)],by simp [fitS,fitA],Rs.cons .v .nil⟩
  ·rename_i k hu
   cases h
   obtain ⟨n,rfl,_,hw⟩:=DataW.trod_int hu hx
   exact ⟨[.v (.int k n)],by simp [fitS,fitA,hw],Rs.cons .v .nil⟩
  ·rename_i e hu
   split at h
   ·rename_i es hes
    split at h
    ·rename_i hl
     cases h
     rcases DataW.trod_slice hu hx with ⟨rfl,_⟩ | ⟨a,len,cap,elems,rest,n,rfl,rfl,_,hb,hlc,hm,hel,hread,_⟩
     ·refine ⟨[.ro 0 (P.cellsOf e) (fun _ => dfls es)],by simp only [fitS,fitA]; exact ⟨_,[],rfl,⟨0,_,rfl,Nat.zero_le _,fun _ => fit_dfls es⟩,rfl⟩,Rs.cons ?_ .nil⟩
      exact .ro 0 0 (Nat.zero_le _) (fun h => by omega) (fun h => by omega) (fun i h => by omega) (fun i k h => by omega) (fun i k c x h => by omega)
     ·have elem:∀ i,i < len→∃ c l,w.cells? 0 (a.add (i * P.cellsOf e)) (P.cellsOf e) = some c∧fitS es l∧Rs w (.ext (All w)) l c:=fun i hi => by
       have h1:=hread i hi
       have h2:i < elems.length:=by omega
       rw [List.getElem?_eq_getElem h2] at h1
       obtain ⟨c,h3,h4⟩:=Option.bind_eq_some_iff.1 h1
       obtain ⟨l,h5,h6⟩:=cells_read d e es n c _ hes h4
       exact ⟨c,l,h3,h5,h6⟩
      obtain ⟨b,o,spot⟩:=a
      have spot0:0 < len→spot = none:=fun h0 => by
       obtain ⟨c,l,h1,h2,h3⟩:=elem 0 h0
       obtain ⟨_,h5,h6⟩:=World.cells?_some h1
       have h7:=h6 0 (by omega)
       have h8:∃ v,c[0]? = some v:=⟨_,List.getElem?_eq_getElem (by rw [h5]; omega)⟩
       obtain ⟨v,h8⟩:=h8
       rw [h8] at h7
       simpa [Addr.add] using World.cell?_spot h7
      have pick:∀ i,∃ l,fitS es l∧(i < len→∃ c,w.cells? 0 ((⟨b,o,spot⟩:Addr).add (i * P.cellsOf e)) (P.cellsOf e) = some c∧Rs w (.ext (All w)) l c):=fun i => by
       by_cases hi:i < len
       ·obtain ⟨c,l,h1,h2,h3⟩:=elem i hi
        exact ⟨l,h2,fun _ => ⟨c,h1,h3⟩⟩
       ·exact ⟨dfls es,fit_dfls es,fun h => absurd h hi⟩
      obtain ⟨get,hget⟩:=Classical.axiomOfChoice pick
      refine ⟨[.ro len (P.cellsOf e) get],?_,Rs.cons ?_ .nil⟩
      ·simp only [fitS,fitA]
       exact ⟨_,[],rfl,⟨len,get,rfl,by omega,fun i => (hget i).1⟩,rfl⟩
      ·have cell:∀ i k,i < len→k < P.cellsOf e→∃ c v,w.cell? ⟨b,o + i * P.cellsOf e + k,none⟩ = some v∧c[k]? = some v∧Rs w (.ext (All w)) (get i) c:=fun i k hi hk => by
        obtain ⟨c,h1,h2⟩:=(hget i).2 hi
        obtain ⟨_,h5,h6⟩:=World.cells?_some h1
        have h8:c[k]? = some c[k]:=List.getElem?_eq_getElem (by rw [h5]; exact hk)
        have h7:=h6 k hk
        rw [h8] at h7
        refine ⟨c,_,?_,h8,h2⟩
        rw [spot0 (by omega),add_eq,add_eq] at h7
        exact h7
       refine .ro b o hlc (fun h => by rw [spot0 h]) (fun h => ?_) (fun i hi => ?_) (fun i k hi hk => ?_) (fun i k c v hi hc hv => ?_)
       ·obtain ⟨c,v,h1,_⟩:=cell 0 0 h (by omega)
        exact World.block_lt_of_cell? w _ h1
       ·rw [fitS_length (hget i).1]; exact hl.1
       ·obtain ⟨c,v,h1,_⟩:=cell i k hi hk
        exact ⟨v,h1⟩
       ·have hk:k < P.cellsOf e:=by
         have:=(List.getElem?_eq_some_iff.1 hc).1
         rw [fitS_length (hget i).1,hl.1] at this
         exact this
        obtain ⟨c',v',h1,h2,h3⟩:=cell i k hi hk
        have hv:w.cell? ⟨b,o + i * P.cellsOf e + k,none⟩ = some v:=hv
        rw [h1] at hv
        cases hv
        exact h3.2 k c _ hc h2
    ·cases h
   ·cases h
  ·rename_i fs hu
   split at h
   ·rename_i r hr
    split at h
    ·rename_i hl
     cases h
     obtain ⟨xs,n,rfl,_,hlen,hxl,hread⟩:=DataW.trod_struct hu hx
     obtain ⟨l,h1,h2⟩:=fields_read (enc:=enc) (spare:=spare) (held:=held) (n:=n) (cs:=cs) (fun t ss cs x h1 h2 => cells_read d t ss n cs x h1 h2) fs.toList 0 _ hr (fun f hf => by
      obtain ⟨i,hi,he⟩:=List.mem_iff_getElem.1 hf
      have h1:=hread i f (by rw [← he]; simp)
      have hi':i < xs.length:=by rw [hxl]; simpa using hi
      rw [List.getElem?_eq_getElem hi'] at h1
      exact ⟨_,h1⟩)
     refine ⟨l,h1,?_⟩
     rw [List.drop_zero,hl,← hlen,List.take_length] at h2
     exact h2
    ·cases h
   ·cases h
  ·rename_i n e hu
   split at h
   ·rename_i es hes
    split at h
    ·rename_i hl
     cases h
     obtain ⟨xs,q,rfl,_,hlen,hxl,hread⟩:=DataW.trod_array hu hx
     obtain ⟨l,h1,h2⟩:=array_read (w:=w) (n:=0) (cs:=cs) hl.1 n 0 (fun i hi => by
      have h1:=hread i hi
      rw [List.getElem?_eq_getElem (by omega)] at h1
      rw [Nat.zero_add]
      exact cells_read d e es q _ _ hes h1)
     refine ⟨l,h1,?_⟩
     rw [List.drop_zero,← hl.1,hl.2,← hlen,List.take_length] at h2
     exact h2
    ·cases h
   ·cases h
  ·cases h
theorem agg_read {d:Nat} {t:TypeId} {ss:List Sh} {x:DataW H} {ps:List MemPlace} {cs:Array Value} (hs:shT P d t = some ss) (h:DataW.Trod enc P w 0 spare held t (.agg cs) x ps):∃ l,fitS ss l∧R w (.ext (All w)) (.agg l) (.agg cs):=by
 obtain ⟨fuel,h⟩:=h
 obtain ⟨l,h1,h2⟩:=cells_read d t ss fuel _ _ hs h
 exact ⟨l,h1,.agg (vs:=cs.toList) h2.1 h2.2⟩
theorem slice_read {d:Nat} {t:TypeId} {sz:Nat} {es:List Sh} {x:DataW H} {ps:List MemPlace} {a:Option Addr} {len cap:Nat} (hs:shT P d t = some [.slice sz es]) (h:DataW.Trod enc P w 0 spare held t (.slice a len cap) x ps) :
  ∃ n get,n≤maxLen∧(∀ i,fitS es (get i))∧R w (.ext (All w)) (.ro n sz get) (.slice a len cap):=by
 obtain ⟨fuel,h⟩:=h
 obtain ⟨l,h1,h2⟩:=cells_read d t _ fuel _ _ hs h
 simp only [fitS,fitA] at h1
 obtain ⟨_,_,rfl,⟨n,get,rfl,h3,h4⟩,rfl⟩:=h1
 exact ⟨n,get,h3,h4,h2.2 0 _ _ rfl rfl⟩
theorem wf_i64 {n:Int} (h:(Lit.int .i64 n).wf = true):-9223372036854775808≤n∧n≤9223372036854775807:=by
 have e1:IntKind.min .i64 = -9223372036854775808:=by decide
 have e2:IntKind.max .i64 = 9223372036854775807:=by decide
 simp [Lit.wf] at h
 rw [e1] at h
 first | exact h | (rw [e2] at h; exact h)
end
end Go.Ax
end
section
namespace Go.Ax
open Go.Proofs Go.Proofs.Tryz
abbrev i64 (x:Int):AV:=.v (.int .i64 x)
abbrev bo (x:Bool):AV:=.v (.bool x)
def inR (x:Int):Prop:=-9223372036854775808≤x∧x≤9223372036854775807
theorem inRo {x:Int} (h:-9223372036854775808 ≤ x ∧ x ≤ 9223372036854775807):inR x:=h
def gi (cs:List AV) (k:Nat):Int:=match cs[k]? with
 | some (.v (.int _ n)) => n
 | _ => 0
theorem gi_0 {c:IntKind} {x:Int} {l:List AV}:gi (.v (.int c x) :: l) 0 = x:=(rfl)
theorem gi_1 {a:AV} {c:IntKind} {x:Int} {l:List AV}:gi (a :: .v (.int c x) :: l) 1 = x:=(rfl)
theorem gi_2 {a b:AV} {c:IntKind} {x:Int} {l:List AV}:gi (a :: b :: .v (.int c x) :: l) 2 = x:=(rfl)
theorem gi_3 {a b d:AV} {c:IntKind} {x:Int} {l:List AV}:gi (a :: b :: d :: .v (.int c x) :: l) 3 = x:=(rfl)
theorem wrap_i64 (x:Int):IntKind.i64.wrap x = (x + 9223372036854775808) % 18446744073709551616 - 9223372036854775808:=by
 have e1:((2:Int) ^ IntKind.i64.bits) = 18446744073709551616:=by decide
 have e2:((2:Int) ^ (IntKind.i64.bits - 1)) = 9223372036854775808:=by decide
 have e3:IntKind.i64.signed = true:=rfl
 unfold IntKind.wrap
 simp only [e1,e2,e3,Bool.true_and,decide_eq_true_eq]
 split <;> omega
theorem wrap_in {x:Int} (h:inR x):IntKind.i64.wrap x = x:=by
 rw [wrap_i64]; unfold inR at h; omega
section
variable {P:Program} {G:Ctx} {H:Hots}
theorem ConOK.go (hG:CtxOK P G) {f:FuncId} {fn:Func} (hf:P.funcs[f]? = some fn) {c:Con}
  (h:∀ es1 ob r,c es1 = some (ob,r)→(∀ p ∈ ob,p)→∃ es,(∀ w I vs,Rs w (.ext I) es1 vs→Rs w (.ext I) es vs)∧funcOK P H fn es.length = true∧fnVC P G H fn es (· = r)):ConOK P f c:=by
 intro es0 ob r hc hob I w vs hI hRs
 obtain ⟨es,h0,h1,h2⟩:=h es0 ob r hc hob
 obtain ⟨k1,k2⟩:=fn_sound hG hf h1 h2 I w vs hI (h0 w I vs hRs)
 refine .inr ⟨k1,k2.mono fun e w' ⟨v,he,⟨r',hr,hR⟩,hb⟩ => ⟨v,he,?_,hb⟩⟩
 subst hr
 exact hR
theorem ro_alike {w:World} {ρ:Env} {n sz:Nat} {get get':Nat→List AV} {v:Value} (h:∀ i,i < n→get i = get' i) (hR:R w ρ (.ro n sz get) v):R w ρ (.ro n sz get') v:=by
 cases hR with
 | ro b o hn ha hi hlen hex hr =>
  refine .ro b o hn ha hi (fun i hi' => by rw [← h i hi']; exact hlen i hi') hex (fun i k c x h1 h2 h3 => hr i k c x h1 (by rw [h i h1]; exact h2) h3)
theorem Rs_one {w:World} {ρ:Env} {a a':AV} {vs:List Value} (h:∀ v,R w ρ a v→R w ρ a' v) (hR:Rs w ρ [a] vs):Rs w ρ [a'] vs:=by
 obtain ⟨x,xs,rfl,h1,h2⟩:=hR.inv
 exact .cons (h x h1) h2
end
theorem aEq108 {a b c d x y z t:Int}:aEq prog 108 (.agg [i64 a,i64 b,i64 c,i64 d]) (.agg [i64 x,i64 y,i64 z,i64 t]) = some ((a == x) && ((b == y) && ((c == z) && ((d == t) && true)))):=by kernel_rfl
theorem aEq101 {a b x y:Int}:aEq prog 101 (.agg [i64 a,i64 b]) (.agg [i64 x,i64 y]) = some ((a == x) && ((b == y) && true)):=by kernel_rfl
theorem eq108 {xo yo:Operand} {neg:Bool} {a b c d x y z t:Int}:eqE prog neg 108 xo yo (.agg [i64 a,i64 b,i64 c,i64 d]) (.agg [i64 x,i64 y,i64 z,i64 t]) = some ⟨[],.v (.bool (negV neg ((a == x) && ((b == y) && ((c == z) && ((d == t) && true)))))),.none⟩:=eqE_agg aEq108
theorem eq101 {xo yo:Operand} {neg:Bool} {a b x y:Int}:eqE prog neg 101 xo yo (.agg [i64 a,i64 b]) (.agg [i64 x,i64 y]) = some ⟨[],.v (.bool (negV neg ((a == x) && ((b == y) && true)))),.none⟩:=eqE_agg aEq101
theorem eq220 {xo yo:Operand} {neg:Bool} {u:TypeId} {a:AV}:eqE prog neg 220 xo yo (.iface u a) (.v .nilIface) = some ⟨[],.v (.bool (negV neg false)),.none⟩:=eqE_iface underlying220
theorem eq220n {xo:Operand} {v:Value} {neg:Bool}:eqE prog neg 220 xo (.const v) (.v .nilIface) (.v .nilIface) = some ⟨[],.v (.bool (negV neg true)),.none⟩:=eqE_nilnil underlying220
theorem mth247_has : methT prog 247 "bagatelle/solid.has" = some 325 := by kernel_rfl
theorem mth249_has : methT prog 249 "bagatelle/solid.has" = some 328 := by kernel_rfl
theorem mth247_box : methT prog 247 "bagatelle/solid.box" = some 324 := by kernel_rfl
theorem mth249_box : methT prog 249 "bagatelle/solid.box" = some 327 := by kernel_rfl
def okX (x:Int):Bool:=decide (-2097152≤x∧x≤2097152)
def validS (x y:Int):Bool:=okX x && okX y
def gx (g:Nat→List AV) (k i:Nat):Int:=gi (g i) k
theorem gx_eq {g:Nat→List AV} {k i:Nat}:gx g k i = gi (g i) k:=(rfl)
def spots (n:Nat) (g:Nat→List AV):Prop:=∀ i,i < n→g i = [i64 (gx g 0 i),i64 (gx g 1 i)]∧inR (gx g 0 i)∧inR (gx g 1 i)
attribute [go_sem] ty1 ty2 ty3 ty4 ty5 ty6 ty7 ty8 ty9 ty20 ty22 ty24 ty26 ty27 ty29 ty30 ty32 ty44 ty46 ty47 ty49 ty51 ty53 ty55 ty57 ty65 ty69 ty83 ty85 ty89 ty101 ty103 ty108 ty114 ty125 ty138 ty140 ty151 ty155 ty171 ty178 ty180 ty193 ty194 ty196 ty198 ty210 ty211 ty232 ty236 ty242 ty244 ty287
attribute [go_sem] underlying2 underlying3 underlying4 underlying85 eq108 eq101 eq220 eq220n mth247_has mth249_has mth247_box mth249_box
attribute [go_sem] decide_eq_true_eq decide_eq_false_iff_not Bool.not_eq_true' Bool.not_eq_false' Bool.or_eq_true Bool.and_eq_true Bool.or_eq_false_iff Int.toNat_natCast imp_self gx_eq gi_0 gi_1 gi_2 gi_3
attribute [go_sem] Bool.not_false Bool.not_true Option.isSome_some Bool.false_eq_true
theorem cv2 {q:TypeId} {c:IntKind} {x:Int} (h:(prog.underlying q).isSome = true):convE prog q 2 (.v (.int c x)) = some ⟨[],nm .i64 (IntKind.i64.wrap x),.none⟩:=convE_int h underlying2
theorem cv3 {q:TypeId} {c:IntKind} {x:Int} (h:(prog.underlying q).isSome = true):convE prog q 3 (.v (.int c x)) = some ⟨[],nm .i64 (IntKind.i64.wrap x),.none⟩:=convE_int h underlying3
theorem cv5 {q:TypeId} {c:IntKind} {x:Int} (h:(prog.underlying q).isSome = true):convE prog q 5 (.v (.int c x)) = some ⟨[],nm .u8 (IntKind.u8.wrap x),.none⟩:=convE_int h underlying5
theorem cv6 {q:TypeId} {c:IntKind} {x:Int} (h:(prog.underlying q).isSome = true):convE prog q 6 (.v (.int c x)) = some ⟨[],nm .u8 (IntKind.u8.wrap x),.none⟩:=convE_int h underlying6
theorem cv85 {q:TypeId} {c:IntKind} {x:Int} (h:(prog.underlying q).isSome = true):convE prog q 85 (.v (.int c x)) = some ⟨[],nm .i64 (IntKind.i64.wrap x),.none⟩:=convE_int h underlying85
theorem cv138 {q:TypeId} {c:IntKind} {x:Int} (h:(prog.underlying q).isSome = true):convE prog q 138 (.v (.int c x)) = some ⟨[],nm .u64 (IntKind.u64.wrap x),.none⟩:=convE_int h underlying138
theorem cv171 {q:TypeId} {c:IntKind} {x:Int} (h:(prog.underlying q).isSome = true):convE prog q 171 (.v (.int c x)) = some ⟨[],nm .u64 (IntKind.u64.wrap x),.none⟩:=convE_int h underlying171
theorem cv275 {q:TypeId} {c:IntKind} {x:Int} (h:(prog.underlying q).isSome = true):convE prog q 275 (.v (.int c x)) = some ⟨[],nm .u32 (IntKind.u32.wrap x),.none⟩:=convE_int h underlying275
attribute [go_sem] cv2 underlying2 cv3 underlying3 cv5 underlying5 cv6 underlying6 cv85 underlying85 cv138 underlying138 cv171 underlying171 cv275 underlying275
end Go.Ax
end
section
set_option maxHeartbeats 4000000
set_option maxRecDepth 100000
namespace Go.Ax
open Go.Proofs Go.Proofs.Tryz
theorem callFunc_enter {P : Program} {f : FuncId} {fn : Func} {c : Code} (hf : P.funcs[f]? = some fn) (hn : (fn.name == "runtime.NumGoroutine") = false) (hb : fn.body = some c) (args : Array Value) (w : World) : (callFunc f args).run P w = .ok (.enter f args) w := by
 unfold callFunc
 simp only [Sem.run_bind]
 show Sem.run P (match P.funcs[f]? with | none => _ | some fn => _) w = _
 rw [hf]
 dsimp only
 rw [if_neg (by rw [hn]; simp),if_neg (by rw [hb]; simp)]
 rfl
abbrev formA (k x y r:Int) (n:Nat) (g:Nat→List AV):AV:=.agg [i64 k,i64 x,i64 y,i64 r,.ro n 2 g]
def dist2 (x y px py:Int):Int:=(px - x) * (px - x) + (py - y) * (py - y)
theorem Rs_form {w:World} {ρ:Env} {k x y r:Int} {n:Nat} {g:Nat→List AV} (hs:spots n g) (v:Value) (h:R w ρ (formA k x y r n g) v):R w ρ (formA k x y r n fun i => [i64 (gx g 0 i),i64 (gx g 1 i)]) v:=by
 cases h with
 | agg hl hh =>
  refine .agg hl fun i a z h1 h2 => ?_
  match i with
  | 0 => exact hh 0 a z h1 h2
  | 1 => exact hh 1 a z h1 h2
  | 2 => exact hh 2 a z h1 h2
  | 3 => exact hh 3 a z h1 h2
  | 4 =>
   simp at h1; subst h1
   exact ro_alike (fun i hi => (hs i hi).1) (hh 4 _ z rfl h2)
  | j + 5 => simp at h1
theorem Rs_two {w:World} {ρ:Env} {a a' b b':AV} {vs:List Value} (h:∀ v,R w ρ a v→R w ρ a' v) (k:∀ v,R w ρ b v→R w ρ b' v) (hR:Rs w ρ [a,b] vs):Rs w ρ [a',b'] vs:=by
 obtain ⟨x,xs,rfl,h1,h2⟩:=hR.inv
 exact .cons (h x h1) (Rs_one k h2)
abbrev shapeA (k r w t:Int) (n:Nat) (g:Nat→List AV):AV:=.agg [i64 k,i64 r,i64 w,i64 t,.ro n 2 g]
theorem Rs_shape {w:World} {ρ:Env} {k x y r:Int} {n:Nat} {g:Nat→List AV} (hs:spots n g) (v:Value) (h:R w ρ (shapeA k x y r n g) v):R w ρ (shapeA k x y r n fun i => [i64 (gx g 0 i),i64 (gx g 1 i)]) v:=Rs_form hs v h
def alk (r r':AV):Prop:=∀ w ρ v,R w ρ r' v→R w ρ r v
theorem ConOK.goR {P:Program} {G:Ctx} {H:Hots} (hG:CtxOK P G) {f:FuncId} {fn:Func} (hf:P.funcs[f]? = some fn) {c:Con}
  (h:∀ es1 ob r,c es1 = some (ob,r)→(∀ p ∈ ob,p)→∃ es,(∀ w I vs,Rs w (.ext I) es1 vs→Rs w (.ext I) es vs)∧funcOK P H fn es.length = true∧fnVC P G H fn es (alk r)):ConOK P f c:=by
 intro es0 ob r hc hob I w vs hI hRs
 obtain ⟨es,h0,h1,h2⟩:=h es0 ob r hc hob
 obtain ⟨k1,k2⟩:=fn_sound hG hf h1 h2 I w vs hI (h0 w I vs hRs)
 exact .inr ⟨k1,k2.mono fun e w' ⟨v,he,⟨r',hr,hR⟩,hb⟩ => ⟨v,he,hr _ _ _ hR,hb⟩⟩
theorem alk_refl {r:AV}:alk r r:=fun _ _ _ h => h
theorem alk_ro {n:Nat} {f g:Nat→List AV} (h:∀ i,i < n→g i = f i):alk (.ro n 2 f) (.ro n 2 g):=fun w ρ v hR => ro_alike h hR
theorem alk_nil {f:Nat→List AV}:alk (.ro 0 2 f) (.v (.slice none 0 0)):=fun w ρ v hR => by
 cases hR
 exact .ro 0 0 (Nat.le_refl _) (fun h => absurd h (by omega)) (fun h => absurd h (by omega)) (fun i h => absurd h (by omega)) (fun i k h => absurd h (by omega)) (fun i k c x h => absurd h (by omega))
end Go.Ax
end
section
namespace Go.Ax
open Go.RowKit
section
variable {P:Program} {G:Ctx} {w0:Base} {w:World} {ρ:Env} {m:Mem} {D:Nat→Prop} {t:Slots} {nt:Nat} {ds:Frm} {a:Act} {ro:Option Nat} {n:Nat} {Q:Exit→Act→World→Prop} {H:Hots} {K:AEx→St→Prop} {s:St} {c:Code} {I:Nat→Prop}
theorem pieceS (hG:CtxOK P G) (hm:P.follows .mixedOrders = true) (hok:codeOK H nt c = true) (hr:ranges c = false) (h:awp P G H c s K) (hW:∀ k ∈ writes c,ds.W k)
  (hs:SR w0 ρ s.t s.m (· < s.nx) nt ds a w)
  (hK:∀ e s' ρ' a' w',K e s'→(∀ j,j ∉ writes c→slot s'.t j = slot s.t j)→SR w0 ρ' s'.t s'.m (· < s'.nx) nt ds a' w'→Q (conc e) a' w'):c.wpIn (Fw none) n P Q a w:=by
 refine awp_sound hG hm c none n s K w0 ds ρ a w Q hok (fun l hl => by cases hl) hW h hs fun e s' w1 ds1 ρ' a' w' k0 k1 k2 k3 k4 _ => ?_
 obtain ⟨fx,ms,rfl,rfl,_,_,_,hms⟩:=k0
 have:=hms hr
 subst this
 have h5:=k4.shrink (fx:=w0.fix) (kp:=w0.kept) (fun p hp => List.mem_append.2 (.inr hp)) (fun p hp => hp)
 exact hK e s' ρ' a' w' k1 k3 h5
theorem SR.anew (hI:∀ b,I b→b < w.heap.size) (hs:∀ j,R w (.ext I) (slot t j) (a.tmps.getD j undef)) (hsz:a.tmps.size = nt) (hd:a.defers = ds.ds) (hf:∀ j,¬ ds.W j→a.tmps.getD j undef = ds.T.getD j undef) :
  SR ⟨w,I,[],[]⟩ (.ext I) t [] (· < 0) nt ds a w:=
 ⟨⟨.refl _ _,fun b hb => ⟨hI b hb,.inl hb⟩,fun r hr => hr.elim,fun r x hx => by simp [look] at hx,fun r x f hx => by simp [look] at hx,fun r x f r' x' f' hx => by simp [look] at hx,fun p hp => (by cases hp),fun p hp => (by cases hp)⟩,hs,hsz,hd,hf⟩
theorem slots_R (hsz:a.tmps.size = nt) {l:Slots} (h:∀ p ∈ l,R w ρ p.2 (a.tmps.getD p.1 undef)) (j:Nat):R w ρ (slot (l ++ anyS (List.range nt)) j) (a.tmps.getD j undef):=by
 rcases slot_append (l:=l) (t:=anyS (List.range nt)) (j:=j) with ⟨b,h1,h2⟩ | ⟨h1,h2⟩
 ·rw [h2]; exact h (j,b) h1
 ·rw [h2,← anyS_eq,slot_anys]
  split
  ·exact .any
  ·rename_i hj
   have:nt≤j:=by simpa using hj
   rw [Array.getD_eq_getD_getElem?,Array.getElem?_eq_none (by omega)]
   exact .v
theorem pieceI (hG:CtxOK P G) (hm:P.follows .mixedOrders = true) {l:Slots} {W:List Nat} (hok:codeOK H nt c = true) (hr:ranges c = false) (hW:writes c = W) (h:awp P G H c ⟨l ++ anyS (List.range nt),[],0⟩ K)
  (hI:∀ b,I b→b < w.heap.size) (hsz:a.tmps.size = nt) (hs:∀ p ∈ l,R w (.ext I) p.2 (a.tmps.getD p.1 undef))
  (hK:∀ e s' ρ' a' w',K e s'→SR ⟨w,I,[],[]⟩ ρ' s'.t s'.m (· < s'.nx) nt ⟨a.defers,(· ∈ W),a.tmps⟩ a' w'→Q (conc e) a' w'):c.wpIn (Fw none) n P Q a w:=
 pieceS hG hm hok hr h (by subst hW; exact fun k hk => hk) (SR.anew hI (slots_R hsz hs) hsz rfl (fun _ _ => rfl)) fun e s' ρ' a' w' k1 _ k3 => hK e s' ρ' a' w' k1 k3
theorem R.val {x y:Value} (h:R w ρ (.v x) y):y = x:=by cases h; rfl
theorem SR.val {j:Nat} {x:Value} (h:SR w0 ρ t m D nt ds a w) (hj:slot t j = .v x):a.tmps.getD j undef = x:=by
 have:=h.slots j
 rw [hj] at this
 exact this.val
end
section
variable {P:Program} {G:Ctx} {ops:Array Oper} {base:Nat} {hot:Hot} {w0:Base} {w:World} {ρ:Env} {m:Mem} {D:Nat→Prop} {t:Slots} {nt:Nat} {ds:Frm} {a:Act} {ro:Option Nat} {n:Nat} {Q:Exit→Act→World→Prop}
structure TodoK (ops:Array Oper) (k:Nat) (listed:Array Bool) (T:List (Nat×Oper)):Prop where
 size:listed.size = ops.size
 mem:∀ q,q ∈ T ↔ ops[q.1]? = some q.2∧listed.getD q.1 true = false∧q.1 < k
 late:∀ i,k≤i→listed.getD i false = false
 sorted:T.Pairwise fun p q => p.1 < q.1
 closed:∀ i,listed.getD i false = true→∀ b,((masks ops.toList []).getD i 0).testBit b = true→listed.getD b false = true
end
end Go.Ax
end
section
namespace Go.Ax
abbrev u64 (x:Int):AV:=.v (.int .u64 x)
def ftV (x:Int):Int:=if 9223372036854775807 < x then 9223372036854775807 else if x < -9223372036854775807 then -9223372036854775807 else x
def ftF (x:Int):Bool:=decide (9223372036854775807 < x∨x < -9223372036854775807)
def whV (v:Int):Int:=if v = -9223372036854775808 then -9223372036854775807 else v
def whF (v:Int) (f:Bool):Bool:=decide (v = -9223372036854775808) || f
def rg (x:Int):Prop:=-9223372036854775807≤x∧x≤9223372036854775807
theorem ftV_rg (x:Int):rg (ftV x):=by unfold ftV rg; split <;> (try split) <;> omega
theorem whV_rg {v:Int} (h:inR v):rg (whV v):=by unfold whV rg; unfold inR at h; split <;> omega
theorem rg_inR {x:Int} (h:rg x):inR x:=by unfold rg at h; unfold inR; omega
theorem ftV_of {x:Int} (h:rg x):ftV x = x:=by unfold rg at h; unfold ftV; rw [if_neg (by omega),if_neg (by omega)]
theorem ftF_of {x:Int} (h:rg x):ftF x = false:=by unfold rg at h; unfold ftF; exact decide_eq_false (by omega)
theorem whV_of {v:Int} (h:rg v):whV v = v:=by unfold rg at h; unfold whV; rw [if_neg (by omega)]
theorem whF_of {v:Int} {f:Bool} (h:rg v):whF v f = f:=by unfold rg at h; unfold whF; rw [decide_eq_false (by omega)]; rfl
theorem ftV_neg {x:Int}:ftV (-x) = -ftV x:=by unfold ftV; split <;> split <;> (try split) <;> (try split) <;> omega
def inU (x:Int):Prop:=0≤x∧x < 18446744073709551616
theorem wrap_u64 (x:Int):IntKind.u64.wrap x = x % 18446744073709551616:=by
 have e1:((2:Int) ^ IntKind.u64.bits) = 18446744073709551616:=by decide
 have e3:IntKind.u64.signed = false:=rfl
 unfold IntKind.wrap
 simp only [e1,e3,Bool.false_and]
 simp
theorem wrap_u {x:Int} (h:inU x):IntKind.u64.wrap x = x:=by
 rw [wrap_u64]; unfold inU at h; exact Int.emod_eq_of_lt h.1 h.2
def sgn (g:Bool) (m:Int):Int:=if g = true then -m else m
def ab (x:Int):Int:=if x < 0 then -x else x
theorem ab_natAbs (x:Int):ab x = x.natAbs:=by unfold ab; split <;> omega
theorem ab_nonneg (x:Int):0≤ab x:=by unfold ab; split <;> omega
theorem sgn_ab (x:Int):sgn (decide (x < 0)) (ab x) = x:=by
 unfold sgn ab
 by_cases h:x < 0
 ·simp [h]
 ·simp [h]
def isqB (n:Nat):Nat→Nat→Nat
 | 0,r => r
 | k + 1,r => isqB n k (if (r + 2 ^ k) * (r + 2 ^ k)≤n then r + 2 ^ k else r)
def isq (n:Nat):Nat:=isqB n 64 0
theorem isqB_ok {n:Nat}:∀ (k r:Nat),r * r≤n→n < (r + 2 ^ k) * (r + 2 ^ k)→isqB n k r * isqB n k r≤n∧n < (isqB n k r + 1) * (isqB n k r + 1)
 | 0,r,h1,h2 => ⟨h1,by simpa [isqB] using h2⟩
 | k + 1,r,h1,h2 => by
  unfold isqB
  have e:r + 2 ^ (k + 1) = r + 2 ^ k + 2 ^ k:=by rw [Nat.pow_succ]; omega
  by_cases h:(r + 2 ^ k) * (r + 2 ^ k)≤n
  ·rw [if_pos h]
   exact isqB_ok k _ h (by rw [← e]; exact h2)
  ·rw [if_neg h]
   exact isqB_ok k _ h1 (by omega)
theorem isq_ok {n:Nat} (h:n < 340282366920938463463374607431768211456):isq n * isq n≤n∧n < (isq n + 1) * (isq n + 1):=
 isqB_ok 64 0 (by omega) (by have e:(0 + 2 ^ 64) * (0 + 2 ^ 64) = 340282366920938463463374607431768211456:=by decide
                             rw [e]; exact h)
theorem isq_eq {n r:Nat} (h:n < 340282366920938463463374607431768211456) (h1:r * r≤n) (h2:n < (r + 1) * (r + 1)):isq n = r:=by
 obtain ⟨k1,k2⟩:=isq_ok h
 have a:isq n < r + 1:=Nat.lt_of_not_le fun hc => by
  have:=Nat.mul_le_mul hc hc
  omega
 have b:r < isq n + 1:=Nat.lt_of_not_le fun hc => by
  have:=Nat.mul_le_mul hc hc
  omega
 omega
theorem orI_u {h l:Int} (hh:inU h) (hl:inU l):orI .u64 (IntKind.u64.wrap (h * 4294967296)) (l / 4294967296) = h * 4294967296 % 18446744073709551616 + l / 4294967296:=by
 obtain ⟨a,rfl⟩:∃ a:Nat,h = a:=⟨h.toNat,by unfold inU at hh; omega⟩
 obtain ⟨b,rfl⟩:∃ b:Nat,l = b:=⟨l.toNat,by unfold inU at hl; omega⟩
 have ha:a < 18446744073709551616:=by unfold inU at hh; omega
 have hb:b < 18446744073709551616:=by unfold inU at hl; omega
 rw [wrap_u64]
 have e1:(a:Int) * 4294967296 % 18446744073709551616 = ((a * 4294967296 % 18446744073709551616:Nat):Int):=by omega
 have e2:(b:Int) / 4294967296 = ((b / 4294967296:Nat):Int):=by omega
 rw [e1,e2]
 unfold orI
 have e3:∀ n:Nat,n < 18446744073709551616→(BitVec.ofInt IntKind.u64.bits (n:Int)).toNat = n:=fun n hn => by
  show (BitVec.ofInt 64 (n:Int)).toNat = n
  rw [BitVec.toNat_ofInt]
  have:((n:Int) % ((2 ^ 64:Nat):Int)).toNat = n:=by
   have:((2 ^ 64:Nat):Int) = 18446744073709551616:=by decide
   rw [this]; omega
  exact this
 rw [BitVec.toNat_or,e3 _ (by omega),e3 _ (by omega)]
 have e4:a * 4294967296 % 18446744073709551616 = 2 ^ 32 * (a % 4294967296):=by omega
 have e5:b / 4294967296 < 2 ^ 32:=by omega
 rw [e4,← Nat.two_pow_add_eq_or_of_lt e5]
 rw [wrap_u (by unfold inU; omega)]
 omega
theorem p32:(2:Int) ^ min 32 64 = 4294967296:=by decide
theorem p31:(2:Int) ^ min 31 64 = 2147483648:=by decide
theorem p1:(2:Int) ^ min 1 64 = 2:=by decide
theorem p63:(2:Int) ^ min 63 64 = 9223372036854775808:=by decide
theorem fd32 {x:Int}:x.fdiv 4294967296 = x / 4294967296:=Int.fdiv_eq_ediv_of_nonneg x (by decide)
theorem fd31 {x:Int}:x.fdiv 2147483648 = x / 2147483648:=Int.fdiv_eq_ediv_of_nonneg x (by decide)
theorem fd1 {x:Int}:x.fdiv 2 = x / 2:=Int.fdiv_eq_ediv_of_nonneg x (by decide)
theorem fd63 {x:Int}:x.fdiv 9223372036854775808 = x / 9223372036854775808:=Int.fdiv_eq_ediv_of_nonneg x (by decide)
attribute [go_sem] p32 p31 p1 p63 fd32 fd31 fd1 fd63
theorem toNat_u {n:Nat} (h:n < 18446744073709551616):(BitVec.ofInt IntKind.u64.bits (n:Int)).toNat = n:=by
 show (BitVec.ofInt 64 (n:Int)).toNat = n
 rw [BitVec.toNat_ofInt]
 have e:((2 ^ 64:Nat):Int) = 18446744073709551616:=by decide
 rw [e]; omega
theorem andI_32 {x:Int} (hx:inU x):andI .u64 x 4294967295 = x % 4294967296:=by
 obtain ⟨a,rfl⟩:∃ a:Nat,x = a:=⟨x.toNat,by unfold inU at hx; omega⟩
 have ha:a < 18446744073709551616:=by unfold inU at hx; omega
 have e4:(4294967295:Int) = ((4294967295:Nat):Int):=rfl
 unfold andI
 rw [e4,BitVec.toNat_and,toNat_u ha,toNat_u (by omega)]
 have:a &&& 4294967295 = a % 4294967296:=Nat.and_two_pow_sub_one_eq_mod a 32
 rw [this,wrap_u (by unfold inU; omega)]
 omega
theorem bne_self {x:Int}:(x != x) = false:=by simp
theorem agg3 {a b c a' b' c':AV} (h1:a = a') (h2:b = b') (h3:c = c'):AV.agg [a,b,c] = .agg [a',b',c']:=by rw [h1,h2,h3]
theorem agg2 {a b a' b':AV} (h1:a = a') (h2:b = b'):AV.agg [a,b] = .agg [a',b']:=by rw [h1,h2]
theorem tup2 {a b a' b':AV} (h1:a = a') (h2:b = b'):AV.tup [a,b] = .tup [a',b']:=by rw [h1,h2]
theorem false_of' {b:Bool} (h:¬ b = true):false = b:=by cases b <;> simp_all
theorem bo_eq {x y:Bool} (h:x = y):bo x = bo y:=by rw [h]
theorem i64_eq {x y:Int} (h:x = y):i64 x = i64 y:=by rw [h]
theorem u64_eq {x y:Int} (h:x = y):u64 x = u64 y:=by rw [h]
end Go.Ax
end
section
set_option maxHeartbeats 1000000
set_option maxRecDepth 100000
namespace Go.Ax
open Go.Proofs Go.Proofs.Tryz
theorem Pur.run {P:Program} {f:FuncId} {es:List AV} {r:AV} (h:∀ (I:Nat→Prop) (w:World) (vs:List Value),(∀ b,I b→b < w.heap.size)→Rs w (.ext I) es vs→∃ v,(callFunc f vs.toArray).run P w = .ok (.value v) w∧R w (.ext (New I w w)) r v):Pur P f es r:=fun I w vs hI hR => by
 obtain ⟨v,h1,h2⟩:=h I w vs hI hR
 exact .inl ⟨v,w,h1,h2,RowKit.Below.refl _ _⟩
theorem R_v {w:World} {ρ:Env} {x v:Value} (h:R w ρ (.v x) v):v = x:=by cases h; rfl
theorem R_tup2 {w:World} {ρ:Env} {x y:Value}:R w ρ (.tup [.v x,.v y]) (.tuple #[x,y]):=.tup (vs:=[x,y]) (by simp) fun i a z e1 e2 => by
 match i with
 | 0 => cases e1; cases e2; exact .v
 | 1 => cases e1; cases e2; exact .v
 | i + 2 => simp at e1
def c234:Con
 | [.v (.int .u64 x),.v (.int .u64 y),.v (.int .u64 c)] => some ([inU x,inU y,0≤c∧c≤1],.tup [u64 ((x + y + c) % 18446744073709551616),u64 ((x + y + c) / 18446744073709551616)])
 | _ => none
theorem con234:ConOK prog 234 c234:=fun es ob r hc hob => by
 unfold c234 at hc
 split at hc
 ·rename_i x y c
  cases hc
  have hx:inU x:=hob _ (by simp)
  have hy:inU y:=hob _ (by simp)
  have hcc:0≤c∧c≤1:=hob _ (by simp)
  refine Pur.run fun I w vs hI hR => ?_
  obtain ⟨v1,xs,rfl,h1,hR⟩:=hR.inv
  obtain ⟨v2,xs,rfl,h2,hR⟩:=hR.inv
  obtain ⟨v3,xs,rfl,h3,hR⟩:=hR.inv
  cases R_v h1; cases R_v h2; cases R_v h3
  have:xs = []:=by have:=hR.1; simpa using this
  subst this
  refine ⟨_,?_,R_tup2⟩
  have:=run_callFunc_extern func234 (by kernel_rfl) (by kernel_rfl) (by kernel_rfl) (e:=add64Entry) (by kernel_rfl) #[.int .u64 x,.int .u64 y,.int .u64 c] w
  rw [run_add64 x y c hx.1 hy.1 hcc.1 hcc.2] at this
  exact this
 ·cases hc
def c236:Con
 | [.v (.int .u64 x),.v (.int .u64 y),.v (.int .u64 c)] => some ([inU x,inU y,0≤c∧c≤1],.tup [u64 ((x - y - c) % 18446744073709551616),u64 (if x < y + c then 1 else 0)])
 | _ => none
def sub64Row:Array Value→Sem Value:=fun vs => do
 let (x, y, b) ← Extern.MathBitsCarry.three "Sub64" vs
 pure (Extern.MathBitsCarry.pair ((x + Extern.MathBitsCarry.m64 - y - b) % Extern.MathBitsCarry.m64) (if x < y + b then 1 else 0))
theorem run_sub64Row {P:Program} (x y c:Nat) (hx:x < 18446744073709551616) (hy:y < 18446744073709551616) (hc:c≤1) (w:World) :
  (sub64Row #[.int .u64 (x:Int),.int .u64 (y:Int),.int .u64 (c:Int)]).run P w = .ok (.tuple #[.int .u64 (((x:Int) - y - c) % 18446744073709551616),.int .u64 (if (x:Int) < y + c then 1 else 0)]) w:=by
 have key:(sub64Row #[.int .u64 (x:Int),.int .u64 (y:Int),.int .u64 (c:Int)]).run P w = .ok (Extern.MathBitsCarry.pair ((x + Extern.MathBitsCarry.m64 - y - c) % Extern.MathBitsCarry.m64) (if x < y + c then 1 else 0)) w:=by
  have:c = 0∨c = 1:=by omega
  rcases this with rfl | rfl <;> rfl
 rw [key]
 have e1:Int.ofNat ((x + Extern.MathBitsCarry.m64 - y - c) % Extern.MathBitsCarry.m64) = ((x:Int) - y - c) % 18446744073709551616:=by
  have:Extern.MathBitsCarry.m64 = 18446744073709551616:=by decide
  rw [this]
  show ((((x + 18446744073709551616 - y - c) % 18446744073709551616:Nat)):Int) = _
  omega
 have e2:Int.ofNat (if x < y + c then 1 else 0) = if (x:Int) < y + c then 1 else 0:=by
  by_cases h:x < y + c
  ·rw [if_pos h,if_pos (by omega)]; rfl
  ·rw [if_neg h,if_neg (by omega)]; rfl
 unfold Extern.MathBitsCarry.pair
 rw [e1,e2]
theorem con236:ConOK prog 236 c236:=fun es ob r hc hob => by
 unfold c236 at hc
 split at hc
 ·rename_i x y c
  cases hc
  have hx:inU x:=hob _ (by simp)
  have hy:inU y:=hob _ (by simp)
  have hcc:0≤c∧c≤1:=hob _ (by simp)
  refine Pur.run fun I w vs hI hR => ?_
  obtain ⟨v1,xs,rfl,h1,hR⟩:=hR.inv
  obtain ⟨v2,xs,rfl,h2,hR⟩:=hR.inv
  obtain ⟨v3,xs,rfl,h3,hR⟩:=hR.inv
  cases R_v h1; cases R_v h2; cases R_v h3
  have:xs = []:=by have:=hR.1; simpa using this
  subst this
  refine ⟨_,?_,R_tup2⟩
  unfold inU at hx hy
  obtain ⟨a,rfl⟩:=Int.eq_ofNat_of_zero_le hx.1
  obtain ⟨b,rfl⟩:=Int.eq_ofNat_of_zero_le hy.1
  obtain ⟨d,rfl⟩:=Int.eq_ofNat_of_zero_le hcc.1
  have:=run_callFunc_extern func236 (by kernel_rfl) (by kernel_rfl) (by kernel_rfl) (e:=sub64Row) (by kernel_rfl) #[.int .u64 (a:Int),.int .u64 (b:Int),.int .u64 (d:Int)] w
  rw [run_sub64Row a b d (by omega) (by omega) (by omega)] at this
  exact this
 ·cases hc
abbrev ex (g:Bool) (m:Int):AV:=.agg [bo g,u64 (m % 18446744073709551616),u64 (m / 18446744073709551616)]
abbrev wd (g:Bool) (m:Int):AV:=.agg [bo g,u64 (m / 18446744073709551616),u64 (m % 18446744073709551616)]
def jn (h l:Int):Int:=h * 18446744073709551616 + l
theorem mod_jn (m:Int):jn (m / 18446744073709551616) (m % 18446744073709551616) = m:=by unfold jn; omega
def c190:Con
 | [.v (.int .i64 v)] => some ([inR v],ex (decide (v < 0)) (ab v))
 | _ => none
theorem con190:ConOK prog 190 c190:=ConOK.of (G:=[]) (H:=[]) .nil func190 fun l ob r hc hob => by
 unfold c190 at hc
 split at hc
 ·rename_i v
  cases hc
  have hv:inR v:=hob _ (by simp)
  refine ⟨by kernel_rfl,fnVC_go (rs:=[.cell 2 198]) rfl rfl ?_⟩
  simp only [go_sem]
  unfold inR at hv
  refine ⟨fun h z hz z1 hz1 => agg3 (bo_eq (by simp [h])) (u64_eq ?_) (u64_eq ?_),fun h z hz => agg3 (bo_eq (by simp [h])) (u64_eq ?_) (u64_eq ?_)⟩
  ·rw [hz1,hz,wrap_u64,wrap_u64]; unfold ab; rw [if_pos h]; omega
  ·unfold ab; rw [if_pos h]; omega
  ·rw [hz,wrap_u64]; unfold ab; rw [if_neg h]
  ·unfold ab; rw [if_neg h]; omega
 ·cases hc
def c304:Con
 | [.v (.int .u64 v)] => some ([],bo false)
 | _ => none
theorem con304:ConOK prog 304 c304:=ConOK.of (G:=[]) (H:=[]) .nil func304 fun l ob r hc hob => by
 unfold c304 at hc
 split at hc
 ·cases hc
  refine ⟨by kernel_rfl,fnVC_go (rs:=[.tmp 2]) rfl rfl ?_⟩
  simp only [go_sem]
  exact bne_self
 ·cases hc
def cmpS (x y:Int):Int:=if x < y then -1 else if y < x then 1 else 0
def c299:Con
 | [.v (.int .u64 x),.v (.int .u64 y)] => some ([],i64 (cmpS x y))
 | _ => none
theorem con299:ConOK prog 299 c299:=ConOK.of (G:=[(304,c304)]) (H:=[]) (.cons con304 .nil) func299 fun l ob r hc hob => by
 unfold c299 at hc
 split at hc
 ·cases hc
  refine ⟨by kernel_rfl,fnVC_go (rs:=[.tmp 4]) rfl rfl ?_⟩
  simp only [go_sem,c304]
  intro z hz z1 hz1
  subst hz hz1
  unfold cmpS
  refine ⟨fun h => (by cases h),fun _ => ⟨fun h => (by cases h),fun _ => ⟨fun h => by rw [if_pos h],fun h => ⟨fun h2 => by rw [if_neg h,if_pos h2],fun h2 => by rw [if_neg h,if_neg h2]⟩⟩⟩⟩
 ·cases hc
def c182:Con
 | [.agg [.v (.bool g),.v (.int .u64 l),.v (.int .u64 h)]] => some ([inU l,inU h],ex g (jn h l / 4294967296))
 | _ => none
theorem con182:ConOK prog 182 c182:=ConOK.of (G:=[]) (H:=[]) .nil func182 fun l ob r hc hob => by
 unfold c182 at hc
 split at hc
 ·rename_i g l h
  cases hc
  refine ⟨by kernel_rfl,fnVC_go (rs:=[.cell 2 198]) rfl rfl ?_⟩
  simp only [go_sem]
  have hl:inU l:=hob _ (by simp)
  have hh:inU h:=hob _ (by simp)
  intro z hz z1 hz1 z2 hz2 z3 hz3
  have e:=orI_u hh hl
  unfold inU at hh hl
  refine agg3 rfl (u64_eq ?_) (u64_eq ?_)
  ·rw [hz2,hz,hz1,e]; unfold jn; omega
  ·rw [hz3]; unfold jn; omega
 ·cases hc
def c191:Con
 | [.agg [.v (.bool g),.v (.int .u64 l),.v (.int .u64 h)]] => some ([inU l,inU h,h < 4294967296],ex g (jn h l * 4294967296))
 | _ => none
theorem con191:ConOK prog 191 c191:=ConOK.of (G:=[]) (H:=[]) .nil func191 fun l ob r hc hob => by
 unfold c191 at hc
 split at hc
 ·rename_i g l h
  cases hc
  refine ⟨by kernel_rfl,fnVC_go (rs:=[.cell 2 198]) rfl rfl ?_⟩
  simp only [go_sem]
  have hl:inU l:=hob _ (by simp)
  have hh:inU h:=hob _ (by simp)
  have hs:h < 4294967296:=hob _ (by simp)
  intro z hz z1 hz1 z2 hz2 z3 hz3
  have e:=orI_u hh hl
  unfold inU at hh hl
  refine agg3 rfl (u64_eq ?_) (u64_eq ?_)
  ·rw [hz,wrap_u64]; unfold jn; omega
  ·rw [hz3,hz1,hz2,e]; unfold jn; omega
 ·cases hc
def c183:Con
 | [.agg [.v (.bool g),.v (.int .u64 l),.v (.int .u64 h)],.v (.bool f)] => some ([inU l,inU h],.agg [i64 (ftV (sgn g (jn h l))),bo (ftF (sgn g (jn h l)) || f)])
 | _ => none
theorem con183:ConOK prog 183 c183:=ConOK.of (G:=[]) (H:=[]) .nil func183 fun l ob r hc hob => by
 unfold c183 at hc
 split at hc
 ·rename_i g l h f
  cases hc
  refine ⟨by kernel_rfl,fnVC_go (rs:=[.cell 4 24]) rfl rfl ?_⟩
  simp only [go_sem]
  have hl:inU l:=hob _ (by simp)
  have hh:inU h:=hob _ (by simp)
  unfold inU at hl hh
  have e:∀ {a a':Int} {b b':Bool},a = a'→b = b'→AV.agg [i64 a,bo b] = .agg [i64 a',bo b']:=fun h1 h2 => by rw [h1,h2]
  refine ⟨fun _ => trivial,fun _ => trivial,fun h2 z hz => ?_,fun h2 => ?_⟩
  ·have h0:h = 0:=by simpa using h2.1
   have hj:jn h l = l:=by unfold jn; omega
   have hw:z = l:=by rw [hz]; exact wrap_in (inRo (by omega))
   rw [hj]
   refine ⟨fun hg z1 hz1 => ?_,fun hg => ?_⟩
   ·have:sgn g l = -l:=by unfold sgn; rw [if_pos hg]
    rw [this]
    have hr:rg (-l):=by unfold rg; omega
    refine e ?_ (by rw [ftF_of hr]; rfl)
    rw [ftV_of hr,hz1,hw,wrap_in (inRo (by omega))]; omega
   ·have:sgn g l = l:=by unfold sgn; rw [hg]; simp
    rw [this]
    have hr:rg l:=by unfold rg; omega
    exact e (by rw [ftV_of hr,hw]) (by rw [ftF_of hr]; rfl)
  ·have hb:9223372036854775807 < jn h l:=by
    unfold jn
    simp at h2
    by_cases h0:h = 0
    ·have:=h2 h0; omega
    ·omega
   refine ⟨fun hg z hz => ?_,fun hg => ?_⟩
   ·have:sgn g (jn h l) = -jn h l:=by unfold sgn; rw [if_pos hg]
    rw [this]
    refine e ?_ ?_
    ·rw [hz,wrap_in (inRo (by omega))]; unfold ftV; rw [if_neg (by omega),if_pos (by omega)]; rfl
    ·unfold ftF; rw [decide_eq_true (by omega)]; rfl
   ·have:sgn g (jn h l) = jn h l:=by unfold sgn; rw [hg]; simp
    rw [this]
    refine e ?_ ?_
    ·unfold ftV; rw [if_pos hb]
    ·unfold ftF; rw [decide_eq_true (by omega)]; rfl
 ·cases hc
def c171:Con
 | [.v (.int .u64 x),.v (.int .u64 y)] => some ([inU x,inU y],.tup [u64 (x * y / 18446744073709551616),u64 (x * y % 18446744073709551616)])
 | _ => none
theorem con171:ConOK prog 171 c171:=ConOK.of (G:=[]) (H:=[]) .nil func171 fun l ob r hc hob => by
 unfold c171 at hc
 split at hc
 ·rename_i x y
  cases hc
  refine ⟨by kernel_rfl,fnVC_go (rs:=[.tmp 4,.tmp 5]) rfl rfl ?_⟩
  simp only [go_sem]
  have hx:inU x:=hob _ (by simp)
  have hy:inU y:=hob _ (by simp)
  intro z0 h0 z1 h1 z2 h2 z3 h3 z4 h4 z5 h5 z6 h6 z7 h7 z8 h8 z9 h9 z10 h10 z11 h11 z12 h12 z13 h13 z14 h14 z15 h15 z16 h16
  refine tup2 (u64_eq ?_) (u64_eq (by rw [h16,wrap_u64]))
  obtain ⟨a,rfl⟩:∃ a:Nat,x = a:=⟨x.toNat,by unfold inU at hx; omega⟩
  obtain ⟨b,rfl⟩:∃ b:Nat,y = b:=⟨y.toNat,by unfold inU at hy; omega⟩
  rw [andI_32 hx] at h0
  rw [andI_32 hy] at h2
  obtain ⟨k1,k2,k3,k4⟩:=Lib.mul64_hi a b (by unfold inU at hx; omega) (by unfold inU at hy; omega)
  have e0:z0 = ((a % 4294967296:Nat):Int):=by rw [h0]; omega
  have e1:z1 = ((a / 4294967296:Nat):Int):=by rw [h1]; omega
  have e2:z2 = ((b % 4294967296:Nat):Int):=by rw [h2]; omega
  have e3:z3 = ((b / 4294967296:Nat):Int):=by rw [h3]; omega
  have hu:∀ n:Nat,n < 18446744073709551616→IntKind.u64.wrap (n:Int) = n:=fun n hn => wrap_u (by unfold inU; omega)
  have e4:z4 = ((a % 4294967296 * (b % 4294967296):Nat):Int):=by rw [h4,e0,e2,← Int.natCast_mul,hu _ k1]
  have e5:z5 = ((a / 4294967296 * (b % 4294967296):Nat):Int):=by rw [h5,e1,e2,← Int.natCast_mul,hu _ (by omega)]
  have e6:z6 = ((a % 4294967296 * (b % 4294967296) / 4294967296:Nat):Int):=by rw [h6,e4]; omega
  have e7:z7 = ((a / 4294967296 * (b % 4294967296) + a % 4294967296 * (b % 4294967296) / 4294967296:Nat):Int):=by rw [h7,e5,e6,← Int.natCast_add,hu _ k2]
  have i7:inU z7:=by rw [e7]; unfold inU; omega
  rw [andI_32 i7] at h8
  have e10:z10 = ((a % 4294967296 * (b / 4294967296):Nat):Int):=by rw [h10,e0,e3,← Int.natCast_mul,hu _ (by omega)]
  have hm:a * b / 18446744073709551616 < 18446744073709551616:=by
   have:=Nat.mul_le_mul (show a≤18446744073709551615 by unfold inU at hx; omega) (show b≤18446744073709551615 by unfold inU at hy; omega)
   omega
  have e12:z12 = ((a / 4294967296 * (b / 4294967296):Nat):Int):=by rw [h12,e1,e3,← Int.natCast_mul,hu _ (by omega)]
  have er:((a * b / 18446744073709551616:Nat):Int) = (a:Int) * b / 18446744073709551616:=by rw [← Int.natCast_mul]; omega
  rw [← er]
  clear er h0 h1 h2 h3 h4 h5 h6 h10 h12 h16 e0 e1 e2 e3 e4 e5 e6 hx hy k1 hob
  generalize a / 4294967296 * (b % 4294967296) = p at *
  generalize a % 4294967296 * (b % 4294967296) = q at *
  generalize a % 4294967296 * (b / 4294967296) = r at *
  generalize a / 4294967296 * (b / 4294967296) = s at *
  generalize a * b / 18446744073709551616 = m at *
  have e8:z8 = (((p + q / 4294967296) % 4294967296:Nat):Int):=by rw [h8,e7]; omega
  have e9:z9 = (((p + q / 4294967296) / 4294967296:Nat):Int):=by rw [h9,e7]; omega
  have e11:z11 = (((p + q / 4294967296) % 4294967296 + r:Nat):Int):=by rw [h11,e8,e10,← Int.natCast_add,hu _ k3]
  have e13:z13 = ((s + (p + q / 4294967296) / 4294967296:Nat):Int):=by rw [h13,e12,e9,← Int.natCast_add,hu _ (by omega)]
  have e14:z14 = ((((p + q / 4294967296) % 4294967296 + r) / 4294967296:Nat):Int):=by rw [h14,e11]; omega
  rw [h15,e13,e14,← Int.natCast_add,hu _ (by omega),k4]
 ·cases hc
def orS (X:Nat→Int):Nat→Nat→Int
 | _,0 => 0
 | i,k + 1 => if X i≠0 then X i else orS X (i + 1) k
def c298:Con
 | [.ro n 1 g] => some ([∀ i,i < n→g i = [i64 (gx g 0 i)],n≤1000],i64 (orS (gx g 0) 0 n))
 | _ => none
theorem vc298 (n:Nat) (X:Nat→Int) (hn:n≤1000):fnVC prog [] [] Tryz.f298 [.ro n 1 fun i => [i64 (X i)]] (· = i64 (orS X 0 n)):=by
 refine fnVC_go (rs:=[.tmp 2]) rfl rfl ?_
 simp only [go_sem]
 refine loopC_go (fun (i:Nat) => i≤n∧orS X 0 n = orS X i (n - i)) (fun i => n - i) (fun i => [(8,i64 i)]) (fun _ => []) [] [9,10,11,5,12,13,14,15,2,16,8] 0 (by kernel_rfl) ?_ ⟨Nat.zero_le _,rfl⟩ ?_ ?_
 ·intro x _; simp [goodNames]
 ·simp only [go_sem]
 ·intro i hi
  simp only [go_sem]
  refine ⟨fun h => ⟨by omega,h,fun hx => ?_,fun hx z hz => ⟨i + 1,⟨by omega,?_⟩,by omega,?_⟩⟩,fun h => ?_⟩
  ·rw [hi.2,show n - i = (n - i - 1) + 1 by omega]
   unfold orS
   rw [if_pos (by simpa using hx)]
  ·rw [hi.2,show n - i = (n - i - 1) + 1 by omega]
   conv => lhs; unfold orS
   rw [if_neg (by simpa using hx)]
   rw [show n - (i + 1) = n - i - 1 by omega]
  ·rw [hz,wrap_in (inRo (by omega))]; rfl
  ·rw [hi.2,show n - i = 0 by omega]; rfl
theorem con298:ConOK prog 298 c298:=ConOK.go (G:=[]) (H:=[]) .nil func298 fun l ob r hc hob => by
 unfold c298 at hc
 split at hc
 ·rename_i n g
  cases hc
  have hs:∀ i,i < n→g i = [i64 (gx g 0 i)]:=hob _ (by simp)
  refine ⟨[.ro n 1 fun i => [i64 (gx g 0 i)]],fun w I vs h => Rs_one (fun v => ro_alike fun i hi => hs i hi) h,by kernel_rfl,vc298 n _ (hob _ (by simp))⟩
 ·cases hc
def c278:Con
 | [.agg [.v (.int .u64 l),.v (.int .u64 h)],.agg [.v (.int .u64 k),.v (.int .u64 i)]] => some ([inU l,inU h,inU k,inU i],i64 (cmpS (jn h l) (jn i k)))
 | _ => none
theorem con278:ConOK prog 278 c278:=ConOK.of (G:=[(299,c299),(298,c298)]) (H:=[]) (.cons con299 (.cons con298 .nil)) func278 fun l ob r hc hob => by
 unfold c278 at hc
 split at hc
 ·rename_i l h k i
  cases hc
  refine ⟨by kernel_rfl,fnVC_go (rs:=[.tmp 4]) rfl rfl ?_⟩
  simp only [go_sem,c299,c298]
  have hl:inU l:=hob _ (by simp)
  have hh:inU h:=hob _ (by simp)
  have hk:inU k:=hob _ (by simp)
  have hi:inU i:=hob _ (by simp)
  unfold inU at hl hh hk hi
  intro z hz z1 hz1 z2 hz2
  refine ⟨fun q hq => ?_,?_⟩
  ·have:q = 0∨q = 1:=by omega
   rcases this with rfl | rfl <;> rfl
  ·have:z2 = if z≠0 then z else if z1≠0 then z1 else 0:=by rw [hz2]; rfl
   rw [this,hz,hz1]
   unfold cmpS jn
   split <;> (try split) <;> (try split) <;> (try split) <;> (try split) <;> (try split) <;> (try split) <;> (try split) <;> omega
 ·cases hc
def c181:Con
 | [.v (.int .i64 a),.v (.int .i64 b)] => some ([inR a,inR b],ex (decide (a < 0) != decide (b < 0)) (ab (a * b)))
 | _ => none
theorem con181:ConOK prog 181 c181:=ConOK.of (G:=[(190,c190),(171,c171)]) (H:=[]) (.cons con190 (.cons con171 .nil)) func181 fun l ob r hc hob => by
 unfold c181 at hc
 split at hc
 ·rename_i a b
  cases hc
  have ha:inR a:=hob _ (by simp)
  have hb:inR b:=hob _ (by simp)
  refine ⟨by kernel_rfl,fnVC_go (rs:=[.cell 4 198]) rfl rfl ?_⟩
  simp only [go_sem,c190,c171]
  intro z0 h0 z1 h1 z2 h2
  refine ⟨ha,fun z3 h3 z4 h4 z5 h5 => ⟨hb,fun z6 h6 z7 h7 => ?_⟩⟩
  have ka:0≤ab a∧ab a≤9223372036854775808:=by unfold inR at ha; unfold ab; split <;> omega
  have kb:0≤ab b∧ab b≤9223372036854775808:=by unfold inR at hb; unfold ab; split <;> omega
  have e1:z1 = ab a:=by rw [h1]; omega
  have e4:z4 = ab b:=by rw [h4]; omega
  have em:ab (a * b) = ab a * ab b:=by rw [ab_natAbs,ab_natAbs,ab_natAbs,Int.natAbs_mul,Int.natCast_mul]
  refine ⟨by rw [e1]; unfold inU; omega,by rw [e4]; unfold inU; omega,agg3 (bo_eq ?_) (u64_eq ?_) (u64_eq ?_)⟩
  ·rw [h0,h3]; cases decide (a < 0) <;> cases decide (b < 0) <;> rfl
  ·rw [h7,e1,e4,em]
  ·rw [h6,e1,e4,em]
 ·cases hc
def plG (g:Bool) (m:Int) (g':Bool) (m':Int):Bool:=if g = g' then g else if m < m' then g' else g
def plM (g:Bool) (m:Int) (g':Bool) (m':Int):Int:=if g = g' then m + m' else if m < m' then m' - m else m - m'
def c241:Con
 | [.agg [.v (.bool g),.v (.int .u64 l),.v (.int .u64 h)],.agg [.v (.bool g'),.v (.int .u64 k),.v (.int .u64 i)]] => some ([inU l,inU h,inU k,inU i,jn h l + jn i k < 340282366920938463463374607431768211456],ex (plG g (jn h l) g' (jn i k)) (plM g (jn h l) g' (jn i k)))
 | _ => none
theorem con241:ConOK prog 241 c241:=ConOK.of (G:=[(234,c234),(236,c236),(278,c278)]) (H:=[]) (.cons con234 (.cons con236 (.cons con278 .nil))) func241 fun l ob r hc hob => by
 unfold c241 at hc
 split at hc
 ·rename_i g l h g' k i
  cases hc
  refine ⟨by kernel_rfl,fnVC_go (rs:=[.cell 4 198]) rfl rfl ?_⟩
  simp only [go_sem,c234,c236,c278]
  have hl:inU l:=hob _ (by simp)
  have hh:inU h:=hob _ (by simp)
  have hk:inU k:=hob _ (by simp)
  have hi:inU i:=hob _ (by simp)
  have hs:jn h l + jn i k < 340282366920938463463374607431768211456:=hob _ (by simp)
  refine ⟨fun hg z hz z1 hz1 => ⟨hl,hk,fun z2 hz2 z3 hz3 => ⟨hh,hi,?_⟩⟩,fun hg z hz => ⟨hl,hh,hk,hi,fun hc z4 hz4 z1 hz1 => ⟨hk,hl,fun z2 hz2 z3 hz3 => ⟨hi,hh,?_⟩⟩,fun hc z4 hz4 z1 hz1 => ⟨hl,hk,fun z2 hz2 z3 hz3 => ⟨hh,hi,?_⟩⟩⟩⟩
  ·have hg:g = g':=by simpa using hg
   unfold inU at hl hh hk hi
   unfold plG plM
   rw [if_pos hg,if_pos hg]
   unfold jn at hs ⊢
   refine ⟨by omega,agg3 rfl (u64_eq (by omega)) (u64_eq (by omega))⟩
  ·have hg:¬ g = g':=by simpa using hg
   have hlt:jn h l < jn i k:=by
    rw [hz] at hc; unfold cmpS at hc
    split at hc
    ·assumption
    ·split at hc <;> omega
   unfold inU at hl hh hk hi
   unfold plG plM
   rw [if_neg hg,if_neg hg,if_pos hlt,if_pos hlt]
   unfold jn at hs hlt ⊢
   refine ⟨by split at hz1 <;> omega,agg3 rfl (u64_eq (by omega)) (u64_eq (by split at hz1 <;> omega))⟩
  ·have hg:¬ g = g':=by simpa using hg
   have hlt:¬ jn h l < jn i k:=by
    rw [hz] at hc; unfold cmpS at hc
    split at hc
    ·omega
    ·assumption
   unfold inU at hl hh hk hi
   unfold plG plM
   rw [if_neg hg,if_neg hg,if_neg hlt,if_neg hlt]
   unfold jn at hs hlt ⊢
   refine ⟨by split at hz1 <;> omega,agg3 rfl (u64_eq (by omega)) (u64_eq (by split at hz1 <;> omega))⟩
 ·cases hc
def c180:Con
 | [.agg [.v (.int .i64 v),.v (.bool f)]] => some ([],.agg [i64 (whV v),bo (whF v f)])
 | _ => none
theorem con180:ConOK prog 180 c180:=ConOK.of (G:=[]) (H:=[]) .nil func180 fun l ob r hc hob => by
 unfold c180 at hc
 split at hc
 ·rename_i v f
  cases hc
  refine ⟨by kernel_rfl,fnVC_go (rs:=[.cell 2 24]) rfl rfl ?_⟩
  simp only [go_sem]
  unfold whV whF
  refine ⟨fun h => ?_,fun h => ?_⟩
  ·have h:v = -9223372036854775808:=by simpa using h
   rw [if_pos h,decide_eq_true h]; rfl
  ·have h:¬ v = -9223372036854775808:=by simpa using h
   rw [if_neg h,decide_eq_false h]; rfl
 ·cases hc
theorem pl_sgn {g g':Bool} {m m':Int}:sgn (plG g m g' m') (plM g m g' m') = sgn g m + sgn g' m':=by
 unfold sgn plG plM
 cases g <;> cases g' <;> simp <;> (try split) <;> (try simp) <;> omega
theorem plM_nonneg {g g':Bool} {m m':Int} (h:0≤m) (h':0≤m'):0≤plM g m g' m':=by
 unfold plM; split
 ·omega
 ·split <;> omega
theorem plM_le {g g':Bool} {m m':Int} (h:0≤m) (h':0≤m'):plM g m g' m'≤m + m':=by
 unfold plM; split
 ·omega
 ·split <;> omega
theorem sgn_div {g:Bool} {m d:Int} (hm:0≤m):sgn g (m / d) = (sgn g m).tdiv d:=by
 have e:m / d = m.tdiv d:=(Int.tdiv_eq_ediv_of_nonneg hm).symm
 unfold sgn
 cases g
 ·simpa using e
 ·simp only [if_true]
  rw [e,Int.neg_tdiv]
theorem sgn_mul_sgn {a b:Int}:sgn (decide (a < 0) != decide (b < 0)) (ab (a * b)) = a * b:=by
 rw [ab_natAbs]
 rcases Int.lt_or_le a 0 with ha | ha <;> rcases Int.lt_or_le b 0 with hb | hb
 ·have:=Int.mul_pos_of_neg_of_neg ha hb
  unfold sgn; simp [ha,hb]; omega
 ·have:=Int.mul_nonpos_of_nonpos_of_nonneg (Int.le_of_lt ha) hb
  unfold sgn; rw [decide_eq_true ha,decide_eq_false (by omega)]; simp; omega
 ·have:=Int.mul_nonpos_of_nonneg_of_nonpos ha (Int.le_of_lt hb)
  unfold sgn; rw [decide_eq_true hb,decide_eq_false (by omega)]; simp; omega
 ·have:=Int.mul_nonneg ha hb
  unfold sgn; rw [decide_eq_false (by omega),decide_eq_false (by omega)]; simp; omega
def gib (cs:List AV) (k:Nat):Bool:=match cs[k]? with
 | some (.v (.bool b)) => b
 | _ => false
theorem gib_1 {a:AV} {x:Bool} {l:List AV}:gib (a :: .v (.bool x) :: l) 1 = x:=(rfl)
def gb (g:Nat→List AV) (k i:Nat):Bool:=gib (g i) k
theorem gb_eq {g:Nat→List AV} {k i:Nat}:gb g k i = gib (g i) k:=(rfl)
attribute [go_sem] gb_eq gib_1
def anyB (G:Nat→Bool):Nat→Bool
 | 0 => false
 | n + 1 => anyB G n || G n
theorem anyB_iff {G:Nat→Bool}:∀ {n:Nat},anyB G n = true ↔ ∃ i,i < n∧G i = true
 | 0 => by simp [anyB]
 | n + 1 => by
  unfold anyB
  rw [Bool.or_eq_true,anyB_iff]
  constructor
  ·rintro (⟨i,h1,h2⟩ | h)
   ·exact ⟨i,by omega,h2⟩
   ·exact ⟨n,by omega,h⟩
  ·rintro ⟨i,h1,h2⟩
   by_cases e:i = n
   ·subst e; exact .inr h2
   ·exact .inl ⟨i,by omega,h2⟩
def nums (n:Nat) (g:Nat→List AV):Prop:=∀ i,i < n→g i = [i64 (gx g 0 i),bo (gb g 1 i)]∧inR (gx g 0 i)
abbrev nu (x:Int) (f:Bool):AV:=.agg [i64 (ftV x),bo (ftF x || f)]
def c184:Con
 | [.ro n 2 g] => some ([nums n g,n≤1000],bo (anyB (gb g 1) n))
 | _ => none
theorem vc184 (n:Nat) (X:Nat→Int) (F:Nat→Bool) (hn:n≤1000):fnVC prog [] [] Tryz.f184 [.ro n 2 fun i => [i64 (X i),bo (F i)]] (· = bo (anyB F n)):=by
 refine fnVC_go (rs:=[.tmp 2]) rfl rfl ?_
 simp only [go_sem]
 refine loopC_go (fun (i:Nat) => i≤n∧∀ j,j < i→F j = false) (fun i => n - i) (fun i => [(7,i64 i)]) (fun _ => []) [] [8,9,10,4,11,12,2,13,7] 0 (by kernel_rfl) ?_ ⟨Nat.zero_le _,fun j h => by omega⟩ ?_ ?_
 ·intro x _; simp [goodNames]
 ·simp only [go_sem]
 ·intro i hi
  simp only [go_sem]
  refine ⟨fun h => ⟨by omega,h,fun hx => (anyB_iff.2 ⟨i,by omega,hx⟩).symm,fun hx z hz => ⟨i + 1,⟨by omega,fun j hj => ?_⟩,by omega,?_⟩⟩,fun h => false_of' fun hc => ?_⟩
  ·by_cases e:j = i
   ·subst e; exact hx
   ·exact hi.2 j (by omega)
  ·rw [hz,wrap_in (inRo (by omega))]; rfl
  ·obtain ⟨j,h1,h2⟩:=anyB_iff.1 hc
   rw [hi.2 j (by omega)] at h2; cases h2
theorem con184:ConOK prog 184 c184:=ConOK.go (G:=[]) (H:=[]) .nil func184 fun l ob r hc hob => by
 unfold c184 at hc
 split at hc
 ·rename_i n g
  cases hc
  have hs:nums n g:=hob _ (by simp)
  refine ⟨[.ro n 2 fun i => [i64 (gx g 0 i),bo (gb g 1 i)]],fun w I vs h => Rs_one (fun v => ro_alike fun i hi => (hs i hi).1) h,by kernel_rfl,vc184 n _ _ (hob _ (by simp))⟩
 ·cases hc
theorem nums2 {a b:Int} {e f:Bool} {g:Nat→List AV} (h0:g 0 = [i64 a,bo e]) (h1:g 1 = [i64 b,bo f]) (ha:inR a) (hb:inR b):nums 2 g:=by
 intro i hi
 have:i = 0∨i = 1:=by omega
 rcases this with rfl | rfl
 ·simp only [gx,gb,h0,gi_0,gib_1]; exact ⟨trivial,ha⟩
 ·simp only [gx,gb,h1,gi_0,gib_1]; exact ⟨trivial,hb⟩
theorem nums4 {a b c d:Int} {e f p q:Bool} {g:Nat→List AV} (h0:g 0 = [i64 a,bo e]) (h1:g 1 = [i64 b,bo f]) (h2:g 2 = [i64 c,bo p]) (h3:g 3 = [i64 d,bo q]) (ha:inR a) (hb:inR b) (hc:inR c) (hd:inR d):nums 4 g:=by
 intro i hi
 have:i = 0∨i = 1∨i = 2∨i = 3:=by omega
 rcases this with rfl | rfl | rfl | rfl
 ·simp only [gx,gb,h0,gi_0,gib_1]; exact ⟨trivial,ha⟩
 ·simp only [gx,gb,h1,gi_0,gib_1]; exact ⟨trivial,hb⟩
 ·simp only [gx,gb,h2,gi_0,gib_1]; exact ⟨trivial,hc⟩
 ·simp only [gx,gb,h3,gi_0,gib_1]; exact ⟨trivial,hd⟩
theorem any2 {a b:Int} {e f:Bool} {g:Nat→List AV} (h0:g 0 = [i64 a,bo e]) (h1:g 1 = [i64 b,bo f]):anyB (gb g 1) 2 = (e || f):=by
 simp only [anyB,gb,h0,h1,gib_1,Bool.false_or]
theorem any4 {a b c d:Int} {e f p q:Bool} {g:Nat→List AV} (h0:g 0 = [i64 a,bo e]) (h1:g 1 = [i64 b,bo f]) (h2:g 2 = [i64 c,bo p]) (h3:g 3 = [i64 d,bo q]):anyB (gb g 1) 4 = (e || f || p || q):=by
 simp only [anyB,gb,h0,h1,h2,h3,gib_1,Bool.false_or]
theorem inU_mod {x:Int}:inU (x % 18446744073709551616):=by unfold inU; omega
theorem inU_div {x:Int} (h:0≤x) (h2:x < 340282366920938463463374607431768211456):inU (x / 18446744073709551616):=by unfold inU; omega
theorem sgn_ab_div {g:Bool} {x d:Int}:sgn g (ab x / d) = (sgn g (ab x)).tdiv d:=sgn_div (ab_nonneg x)
theorem sgn_pl_div {g:Bool} {e f:Bool} {x y d:Int}:sgn g (plM e (ab x) f (ab y) / d) = (sgn g (plM e (ab x) f (ab y))).tdiv d:=sgn_div (plM_nonneg (ab_nonneg x) (ab_nonneg y))
theorem ab_le {x k:Int} (h:-k≤x) (h2:x≤k):ab x≤k:=by unfold ab; split <;> omega
theorem mul_rg {a b:Int} (ha:inR a) (hb:inR b):ab (a * b)≤85070591730234615865843651857942052864:=by
 unfold inR at ha hb
 have em:ab (a * b) = ab a * ab b:=by rw [ab_natAbs,ab_natAbs,ab_natAbs,Int.natAbs_mul,Int.natCast_mul]
 rw [em]
 have h1:ab a≤9223372036854775808:=ab_le (by omega) (by omega)
 have h2:ab b≤9223372036854775808:=ab_le (by omega) (by omega)
 exact Int.le_trans (Int.mul_le_mul h1 h2 (ab_nonneg b) (by omega)) (by omega)
theorem inR_wh {v:Int} (h:inR v):inR (whV v):=rg_inR (whV_rg h)
theorem eq196 {xo yo:Operand} {neg:Bool} {a b x y:Int}:eqE prog neg 196 xo yo (.agg [u64 a,u64 b]) (.agg [u64 x,u64 y]) = some ⟨[],.v (.bool (negV neg ((a == x) && ((b == y) && true)))),.none⟩:=eqE_agg (by kernel_rfl)
attribute [go_sem] eq196
def c246:Con
 | [.v (.int .i64 v)] => some ([],bo false)
 | _ => none
theorem con246:ConOK prog 246 c246:=ConOK.of (G:=[]) (H:=[]) .nil func246 fun l ob r hc hob => by
 unfold c246 at hc
 split at hc
 ·rename_i v
  cases hc
  refine ⟨by kernel_rfl,fnVC_go (rs:=[.tmp 2]) rfl rfl ?_⟩
  simp only [go_sem]
  exact bne_self
 ·cases hc
def c189:Con
 | [.v (.int .i64 x),.v (.int .i64 y)] => some ([],i64 (cmpS x y))
 | _ => none
theorem con189:ConOK prog 189 c189:=ConOK.of (G:=[(246,c246)]) (H:=[]) (.cons con246 .nil) func189 fun l ob r hc hob => by
 unfold c189 at hc
 split at hc
 ·rename_i x y
  cases hc
  refine ⟨by kernel_rfl,fnVC_go (rs:=[.tmp 4]) rfl rfl ?_⟩
  simp only [go_sem,c246]
  intro z hz z1 hz1
  subst hz hz1
  unfold cmpS
  refine ⟨fun h => (by cases h),fun _ => ⟨fun h => (by cases h),fun _ => ⟨fun h => by rw [if_pos h],fun h => ⟨fun h2 => by rw [if_neg h,if_pos h2],fun h2 => by rw [if_neg h,if_neg h2]⟩⟩⟩⟩
 ·cases hc
def c178:Con
 | [.v (.int .i64 n)] => some ([inR n],nu (n * 4294967296) false)
 | _ => none
theorem con178:ConOK prog 178 c178:=ConOK.of (G:=[(190,c190),(191,c191),(183,c183)]) (H:=[]) (.cons con190 (.cons con191 (.cons con183 .nil))) func178 fun l ob r hc hob => by
 unfold c178 at hc
 split at hc
 ·rename_i n
  cases hc
  have h_0:=ob0 hob
  refine ⟨by kernel_rfl,fnVC_go (rs:=[.cell 2 24]) rfl rfl ?_⟩
  simp only [go_sem,c190,c191,c183]
  simp only [forall_eq,mod_jn,Bool.or_false]
  have ha:=ab_nonneg n
  have hb:ab n≤9223372036854775808:=by unfold inR at h_0; exact ab_le (by omega) (by omega)
  refine ⟨h_0,inU_mod,inU_div ha (by omega),by omega,inU_mod,inU_div (by omega) (by omega),?_⟩
  have e:sgn (decide (n < 0)) (ab n * 4294967296) = n * 4294967296:=by
   unfold sgn ab
   by_cases h:n < 0
   ·simp [h,Int.neg_mul]
   ·simp [h]
  rw [e]
  refine agg2 rfl ?_
  simp
 ·cases hc
def c164:Con
 | [.agg [.v (.int .i64 v),.v (.bool f)]] => some ([inR v],.agg [i64 (-whV v),bo (whF v f)])
 | _ => none
theorem con164:ConOK prog 164 c164:=ConOK.of (G:=[(180,c180)]) (H:=[]) (.cons con180 .nil) func164 fun l ob r hc hob => by
 unfold c164 at hc
 split at hc
 ·rename_i v f
  cases hc
  have h_0:=ob0 hob
  refine ⟨by kernel_rfl,fnVC_go (rs:=[.cell 2 24]) rfl rfl ?_⟩
  simp only [go_sem,c180]
  simp only [forall_eq]
  have:=inR_wh h_0
  have h2:=whV_rg h_0
  unfold inR rg at *
  rw [wrap_in (inRo (by omega))]
  refine agg2 (i64_eq (by omega)) rfl
 ·cases hc
def c125:Con
 | [.agg [.v (.int .i64 v),.v (.bool f)],.agg [.v (.int .i64 u),.v (.bool e)]] => some ([inR v,inR u],nu ((whV v * whV u).tdiv 4294967296) (whF v f || whF u e))
 | _ => none
theorem con125:ConOK prog 125 c125:=ConOK.of (G:=[(180,c180),(181,c181),(182,c182),(184,c184),(183,c183)]) (H:=[(1,⟨[(4,.slot 2),(5,.slot 3)],[]⟩),(2,⟨[(11,.slot 4)],[]⟩)]) (.cons con180 (.cons con181 (.cons con182 (.cons con184 (.cons con183 .nil))))) func125 fun l ob r hc hob => by
 unfold c125 at hc
 split at hc
 ·rename_i v f u e
  cases hc
  have h_0:=ob0 hob
  have h_1:=ob1 hob
  refine ⟨by kernel_rfl,fnVC_go (rs:=[.cell 4 24]) rfl rfl ?_⟩
  simp only [go_sem,c180,c181,c182,c184,c183]
  simp only [forall_eq,mod_jn,Bool.or_false,sgn_ab_div,sgn_mul_sgn]
  have k:=mul_rg (inR_wh h_0) (inR_wh h_1)
  have k0:=ab_nonneg (whV v * whV u)
  refine ⟨inR_wh h_0,inR_wh h_1,inU_mod,inU_div k0 (by omega),nums2 rfl rfl (inR_wh h_0) (inR_wh h_1),inU_mod,inU_div (by omega) (by omega),?_⟩
  rw [any2 rfl rfl]
 ·cases hc
def c238:Con
 | [.agg [.v (.int .i64 v),.v (.bool f)],.agg [.v (.int .i64 u),.v (.bool e)],.agg [.v (.int .i64 x),.v (.bool p)],.agg [.v (.int .i64 y),.v (.bool q)]] => some ([inR v,inR u,inR x,inR y],nu ((whV v * whV u + whV x * whV y).tdiv 4294967296) (whF v f || whF u e || whF x p || whF y q))
 | _ => none
theorem con238:ConOK prog 238 c238:=ConOK.of (G:=[(180,c180),(181,c181),(241,c241),(182,c182),(184,c184),(183,c183)]) (H:=[(1,⟨[(8,.slot 4),(9,.slot 5),(10,.slot 6),(11,.slot 7)],[]⟩),(2,⟨[(19,.slot 8)],[]⟩)]) (.cons con180 (.cons con181 (.cons con241 (.cons con182 (.cons con184 (.cons con183 .nil)))))) func238 fun l ob r hc hob => by
 unfold c238 at hc
 split at hc
 ·rename_i v f u e x p y q
  cases hc
  have h_0:=ob0 hob
  have h_1:=ob1 hob
  have h_2:=ob2 hob
  have h_3:=ob3 hob
  refine ⟨by kernel_rfl,fnVC_go (rs:=[.cell 8 24]) rfl rfl ?_⟩
  simp only [go_sem,c180,c181,c241,c182,c184,c183]
  simp only [forall_eq,mod_jn,Bool.or_false,sgn_pl_div,sgn_mul_sgn,pl_sgn]
  have k:=mul_rg (inR_wh h_0) (inR_wh h_1)
  have k0:=ab_nonneg (whV v * whV u)
  have j:=mul_rg (inR_wh h_2) (inR_wh h_3)
  have j0:=ab_nonneg (whV x * whV y)
  have p0:=plM_nonneg (g:=decide (whV v < 0) != decide (whV u < 0)) (g':=decide (whV x < 0) != decide (whV y < 0)) k0 j0
  have p1:=plM_le (g:=decide (whV v < 0) != decide (whV u < 0)) (g':=decide (whV x < 0) != decide (whV y < 0)) k0 j0
  refine ⟨inR_wh h_0,inR_wh h_1,inR_wh h_2,inR_wh h_3,inU_mod,inU_div k0 (by omega),inU_mod,inU_div j0 (by omega),by omega,inU_mod,inU_div p0 (by omega),nums4 rfl rfl rfl rfl (inR_wh h_0) (inR_wh h_1) (inR_wh h_2) (inR_wh h_3),inU_mod,inU_div (by omega) (by omega),?_⟩
  rw [any4 rfl rfl rfl rfl]
 ·cases hc
def c131:Con
 | [.agg [.v (.int .i64 v),.v (.bool f)],.agg [.v (.int .i64 u),.v (.bool e)]] => some ([],i64 (cmpS (whV v) (whV u)))
 | _ => none
theorem con131:ConOK prog 131 c131:=ConOK.of (G:=[(180,c180),(189,c189)]) (H:=[]) (.cons con180 (.cons con189 .nil)) func131 fun l ob r hc hob => by
 unfold c131 at hc
 split at hc
 ·rename_i v f u e
  cases hc
  refine ⟨by kernel_rfl,fnVC_go (rs:=[.tmp 4]) rfl rfl ?_⟩
  simp only [go_sem,c180,c189]
  simp only [forall_eq]
 ·cases hc
def uptN (i:Nat) (Z:Nat→Int) (j:Nat):Int:=if j < i then Z j else 0
theorem uptN_zero {Z:Nat→Int} {j:Nat}:uptN 0 Z j = 0:=by unfold uptN; rw [if_neg (by omega)]
theorem uptN_self {i:Nat} {Z:Nat→Int}:uptN (i + 1) Z i = Z i:=by unfold uptN; rw [if_pos (by omega)]
theorem uptN_lt {i j:Nat} {Z:Nat→Int} (h:j < i):uptN i Z j = Z j:=by unfold uptN; rw [if_pos h]
theorem uptN_ne {i j:Nat} {Z:Nat→Int} (h:j≠i):uptN (i + 1) Z j = uptN i Z j:=by
 unfold uptN
 by_cases e:j < i
 ·rw [if_pos e,if_pos (by omega)]
 ·rw [if_neg e,if_neg (by omega)]
def wvS (g:Nat→List AV) (i:Nat):Int:=whV (gx g 0 i)
def wfS (n:Nat) (g:Nat→List AV):Bool:=anyB (fun i => whF (gx g 0 i) (gb g 1 i)) n
def c240:Con
 | [.ro n 2 g] => some ([nums n g,n≤1000],.tup [.ro n 1 fun i => [i64 (uptN n (wvS g) i)],bo (wfS n g)])
 | _ => none
theorem vc240 (n:Nat) (X:Nat→Int) (F:Nat→Bool) (hn:n≤1000):fnVC prog [(180,c180)] [(6,⟨[(10,.slot 4)],[(7,[.slot 4])]⟩)] Tryz.f240 [.ro n 2 fun i => [i64 (X i),bo (F i)]] (· = .tup [.ro n 1 fun i => [i64 (uptN n (fun i => whV (X i)) i)],bo (anyB (fun i => whF (X i) (F i)) n)]):=by
 refine fnVC_go (rs:=[.tmp 2,.tmp 3]) rfl rfl ?_
 simp only [go_sem]
 refine ⟨by omega,by omega,by rw [show bytesT prog 2 = 8 by kernel_rfl]; omega,?_⟩
 refine loopC_go (fun (i:Nat) => i≤n) (fun i => n - i) (fun i => [(13,i64 i),(5,bo (anyB (fun i => whF (X i) (F i)) i))]) (fun i => [(4,famN n 1 2 (fun j => [i64 (uptN i (fun i => whV (X i)) j)]) none)]) [] [14,15,16,17,7,6,18,19,20,21,22,23,24,25,26,27,28,29,5,30,13] 0 (by kernel_rfl) ?_ (Nat.zero_le _) ?_ ?_
 ·intro x _; simp [goodNames,asg]
 ·simp only [go_sem,uptN_zero,implies_true,anyB]
 ·intro i hi
  simp only [go_sem,c180]
  refine ⟨fun hin => ⟨by omega,hin,fun z hz z1 hz1 => ⟨by omega,hin,by omega,fun z2 hz2 => ⟨i + 1,by omega,by omega,⟨?_,?_⟩,fun j hj => ?_⟩⟩⟩,fun hin => ?_⟩
  ·rw [hz2,wrap_in (inRo (by omega))]; rfl
  ·rw [hz1]; rfl
  ·by_cases e:j = i
   ·subst e
    rw [if_pos rfl,hz]
    simp only [go_sem,uptN_self]
   ·rw [if_neg e]
    have:∀ Z,uptN (i + 1) Z j = uptN i Z j:=fun Z => uptN_ne e
    simp only [go_sem,this]
  ·have e:i = n:=by omega
   subst e; rfl
theorem con240:ConOK prog 240 c240:=ConOK.go (G:=[(180,c180)]) (H:=[(6,⟨[(10,.slot 4)],[(7,[.slot 4])]⟩)]) (.cons con180 .nil) func240 fun l ob r hc hob => by
 unfold c240 at hc
 split at hc
 ·rename_i n g
  cases hc
  have hs:nums n g:=hob _ (by simp)
  refine ⟨[.ro n 2 fun i => [i64 (gx g 0 i),bo (gb g 1 i)]],fun w I vs h => Rs_one (fun v => ro_alike fun i hi => (hs i hi).1) h,by kernel_rfl,vc240 n _ _ (hob _ (by simp))⟩
 ·cases hc
def suS (X:Nat→Int):Nat→Int
 | 0 => 0
 | n + 1 => suS X n + X n
def smG (X:Nat→Int):Nat→Bool×Int
 | 0 => (false,0)
 | i + 1 => (plG (smG X i).1 (smG X i).2 (decide (X i < 0)) (ab (X i)),plM (smG X i).1 (smG X i).2 (decide (X i < 0)) (ab (X i)))
theorem smG_ok {X:Nat→Int}:∀ i,sgn (smG X i).1 (smG X i).2 = suS X i∧0≤(smG X i).2
 | 0 => ⟨rfl,Int.le_refl 0⟩
 | i + 1 => by
  obtain ⟨h1,h2⟩:=smG_ok (X:=X) i
  unfold smG suS
  exact ⟨by rw [pl_sgn,h1,sgn_ab],plM_nonneg h2 (ab_nonneg _)⟩
theorem smG_le {X:Nat→Int} {n:Nat} (h:∀ i,i < n→rg (X i)):∀ i,i≤n→(smG X i).2≤9223372036854775807 * i
 | 0,_ => by simp [smG]
 | i + 1,hi => by
  have h0:=smG_le h i (by omega)
  have h1:=h i (by omega)
  unfold rg at h1
  have h2:ab (X i)≤9223372036854775807:=ab_le (by omega) (by omega)
  have h3:=plM_le (g:=(smG X i).1) (g':=decide (X i < 0)) (smG_ok (X:=X) i).2 (ab_nonneg (X i))
  unfold smG
  dsimp only
  omega
def c179:Con
 | [.ro n 2 g] => some ([nums n g,n≤1000],nu (suS (wvS g) n) (wfS n g))
 | _ => none
theorem vc179 (n:Nat) (g:Nat→List AV) (hg:nums n g) (hn:n≤1000):fnVC prog [(240,c240),(190,c190),(241,c241),(183,c183)] [(6,⟨[(4,.slot 5)],[]⟩)] Tryz.f179 [.ro n 2 g] (· = nu (suS (wvS g) n) (wfS n g)):=by
 refine fnVC_go (rs:=[.cell 2 24]) rfl rfl ?_
 simp only [go_sem,c240]
 intro z hz
 refine ⟨hg,hn,?_⟩
 have hr:∀ i,i < n→rg (wvS g i):=fun i hi => whV_rg (hg i hi).2
 refine loopC_go (fun (i:Nat) => i≤n) (fun i => n - i) (fun i => [(15,i64 i)]) (fun i => [(8,fam1 198 3 [bo (smG (wvS g) i).1,u64 ((smG (wvS g) i).2 % 18446744073709551616),u64 ((smG (wvS g) i).2 / 18446744073709551616)] none)]) [0] [16,17,18,7,19,20,21,22,23,15] 0 (by kernel_rfl) ?_ (Nat.zero_le _) ?_ ?_
 ·intro x _; simp [goodNames,asg]
 ·simp only [go_sem,smG]
  simp
 ·intro i hi
  simp only [go_sem,c190,c241,c183]
  have h1:=smG_ok (X:=wvS g) i
  have h2:=smG_le hr i hi
  refine ⟨fun hin => ?_,fun hin => ?_⟩
  ·have h3:=hr i (by omega)
   have h4:=ab_nonneg (wvS g i)
   have h5:ab (wvS g i)≤9223372036854775807:=by unfold rg at h3; exact ab_le (by omega) (by omega)
   rw [uptN_lt (show i < n by omega)]
   simp only [forall_eq,mod_jn]
   refine ⟨by omega,hin,rg_inR h3,inU_mod,inU_div h1.2 (by omega),inU_mod,inU_div h4 (by omega),by omega,⟨i + 1,by omega,by omega,?_,rfl,rfl,rfl⟩⟩
   rw [wrap_in (inRo (by omega))]; rfl
  ·have e:i = n:=by omega
   subst e
   simp only [forall_eq,mod_jn]
   refine ⟨inU_mod,inU_div h1.2 (by omega),?_⟩
   rw [h1.1,hz]
theorem con179:ConOK prog 179 c179:=ConOK.go (G:=[(240,c240),(190,c190),(241,c241),(183,c183)]) (H:=[(6,⟨[(4,.slot 5)],[]⟩)]) (.cons con240 (.cons con190 (.cons con241 (.cons con183 .nil)))) func179 fun l ob r hc hob => by
 unfold c179 at hc
 split at hc
 ·rename_i n g
  cases hc
  exact ⟨[.ro n 2 g],fun w I vs h => h,by kernel_rfl,vc179 n g (hob _ (by simp)) (hob _ (by simp))⟩
 ·cases hc
theorem sum2 {a b:Int} {e f:Bool} {g:Nat→List AV} (h0:g 0 = [i64 a,bo e]) (h1:g 1 = [i64 b,bo f]):suS (wvS g) 2 = whV a + whV b∧wfS 2 g = (whF a e || whF b f):=by
 simp only [suS,wvS,wfS,anyB,gx,gb,h0,h1,gi_0,gib_1,Bool.false_or,Int.zero_add,and_self]
def c154:Con
 | [.agg [.v (.int .i64 v),.v (.bool f)],.agg [.v (.int .i64 u),.v (.bool e)]] => some ([inR v,inR u],nu (whV v - whV u) (whF v f || whF u e))
 | _ => none
theorem con154:ConOK prog 154 c154:=ConOK.of (G:=[(164,c164),(179,c179)]) (H:=[(1,⟨[(5,.slot 4)],[]⟩)]) (.cons con164 (.cons con179 .nil)) func154 fun l ob r hc hob => by
 unfold c154 at hc
 split at hc
 ·rename_i v f u e
  cases hc
  have h_0:=ob0 hob
  have h_1:=ob1 hob
  refine ⟨by kernel_rfl,fnVC_go (rs:=[.cell 4 24]) rfl rfl ?_⟩
  simp only [go_sem,c164,c179]
  simp only [forall_eq]
  have k:=whV_rg h_1
  have k2:rg (-whV u):=by unfold rg at *; omega
  refine ⟨h_1,nums2 rfl rfl h_0 (rg_inR k2),?_⟩
  obtain ⟨e1,e2⟩:=sum2 (g:=rowsOf 2 [i64 v,bo f,i64 (-whV u),bo (whF u e)]) rfl rfl
  rw [e1,e2,whV_of k2,whF_of k2]
  rfl
 ·cases hc
def exS (o f:Int) (X:Nat→Int):Nat→Int
 | 0 => f
 | i + 1 => if (o = 1∧X i < exS o f X i)∨(o = -1∧exS o f X i < X i) then X i else exS o f X i
def c245:Con
 | [.v (.int .i64 o),.v (.int .i64 f),.ro n 1 g] => some ([o = 1∨o = -1,∀ i,i < n→g i = [i64 (gx g 0 i)],n≤1000],i64 (exS o f (gx g 0) n))
 | _ => none
theorem vc245 (o f:Int) (n:Nat) (X:Nat→Int) (ho:o = 1∨o = -1) (hn:n≤1000):fnVC prog [(189,c189)] [] Tryz.f245 [i64 o,i64 f,.ro n 1 fun i => [i64 (X i)]] (· = i64 (exS o f X n)):=by
 refine fnVC_go (rs:=[.tmp 6]) rfl rfl ?_
 simp only [go_sem]
 refine loopC_go (fun (i:Nat) => i≤n) (fun i => n - i) (fun i => [(11,i64 i),(1,i64 (exS o f X i))]) (fun _ => []) [] [12,13,14,8,15,16,17,18,19,20,21,1,22,11] 0 (by kernel_rfl) ?_ (Nat.zero_le _) ?_ ?_
 ·intro x _; simp [goodNames]
 ·simp only [go_sem,exS]
 ·intro i hi
  simp only [go_sem,c189]
  refine ⟨fun hin => ⟨by omega,hin,fun z hz z1 hz1 => ?_⟩,fun hin => ?_⟩
  ·have hc:z1 < 0 ↔ ((o = 1∧X i < exS o f X i)∨(o = -1∧exS o f X i < X i)):=by
    unfold cmpS at hz
    rw [hz1]
    rcases ho with h | h <;> subst h
    ·split at hz
     ·subst hz; rw [wrap_in (inRo (by omega))]; omega
     ·split at hz <;> subst hz <;> rw [wrap_in (inRo (by omega))] <;> omega
    ·split at hz
     ·subst hz; rw [wrap_in (inRo (by omega))]; omega
     ·split at hz <;> subst hz <;> rw [wrap_in (inRo (by omega))] <;> omega
   have hw:IntKind.i64.wrap ((i:Int) + 1) = ((i + 1:Nat):Int):=by rw [wrap_in (inRo (by omega))]; rfl
   refine ⟨fun h z2 hz2 => ⟨i + 1,by omega,by omega,by rw [hz2,hw],?_⟩,fun h z2 hz2 => ⟨i + 1,by omega,by omega,by rw [hz2,hw],?_⟩⟩
   ·unfold exS; rw [if_pos (hc.1 h)]
   ·conv => rhs; unfold exS
    rw [if_neg (fun k => h (hc.2 k))]
  ·have e:i = n:=by omega
   subst e; rfl
theorem con245:ConOK prog 245 c245:=ConOK.go (G:=[(189,c189)]) (H:=[]) (.cons con189 .nil) func245 fun l ob r hc hob => by
 unfold c245 at hc
 split at hc
 ·rename_i o f n g
  cases hc
  have hs:∀ i,i < n→g i = [i64 (gx g 0 i)]:=hob _ (by simp)
  refine ⟨[i64 o,i64 f,.ro n 1 fun i => [i64 (gx g 0 i)]],fun w I vs h => ?_,by kernel_rfl,vc245 o f n _ (hob _ (by simp)) (hob _ (by simp))⟩
  obtain ⟨x,xs,rfl,h1,h2⟩:=h.inv
  obtain ⟨y,ys,rfl,h3,h4⟩:=h2.inv
  exact .cons h1 (.cons h3 (Rs_one (fun v => ro_alike fun i hi => hs i hi) h4))
 ·cases hc
theorem exS_congr {o f:Int} {X Y:Nat→Int}:∀ {n:Nat},(∀ i,i < n→X i = Y i)→exS o f X n = exS o f Y n
 | 0,_ => rfl
 | n + 1,h => by unfold exS; rw [exS_congr (n:=n) fun i hi => h i (by omega),h n (by omega)]
def msS (o:Int) (X:Nat→Int) (n:Nat):Int:=exS o (X 0) (fun i => X (i + 1)) (n - 1)
def moV (o:Int) (n:Nat) (g:Nat→List AV):Int:=if n = 0 then 0 else msS o (wvS g) n
abbrev moS (o:Int) (n:Nat) (g:Nat→List AV):AV:=.agg [i64 (moV o n g),bo (wfS n g)]
def c188:Con
 | [.v (.int .i64 o),.ro n 2 g] => some ([o = 1∨o = -1,nums n g,n≤1000],moS o n g)
 | _ => none
theorem vc188 (o:Int) (n:Nat) (g:Nat→List AV) (ho:o = 1∨o = -1) (hg:nums n g) (hn:n≤1000):fnVC prog [(240,c240),(245,c245)] [(4,⟨[(9,.slot 4)],[]⟩)] Tryz.f188 [i64 o,.ro n 2 g] (· = moS o n g):=by
 refine fnVC_go (rs:=[.cell 4 24]) rfl rfl ?_
 simp only [go_sem,c240,c245,Option.toList_some,Option.toList_none,List.cons_append,List.nil_append,List.append_nil]
 refine ⟨fun h => ?_,fun h z hz => ⟨hg,hn,?_⟩⟩
 ·have:n = 0:=by simpa using h
  subst this; rfl
 ·have h:n≠0:=by simpa using h
  obtain ⟨n,rfl⟩:∃ m,n = m + 1:=⟨n - 1,by omega⟩
  refine ⟨by omega,by omega,fun z1 hz1 => ⟨ho,fun _ _ => trivial,by omega,?_⟩⟩
  refine agg2 (i64_eq ?_) (bo_eq hz)
  unfold moV msS
  rw [if_neg (by omega),hz1]
  have e:(((n + 1:Nat):Int) - 1).toNat = n:=by omega
  rw [e,uptN_lt (by omega)]
  exact exS_congr fun i hi => by
   show uptN (n + 1) (wvS g) (1 + i) = _
   rw [uptN_lt (by omega),Nat.add_comm]
theorem con188:ConOK prog 188 c188:=ConOK.go (G:=[(240,c240),(245,c245)]) (H:=[(4,⟨[(9,.slot 4)],[]⟩)]) (.cons con240 (.cons con245 .nil)) func188 fun l ob r hc hob => by
 unfold c188 at hc
 split at hc
 ·rename_i o n g
  cases hc
  exact ⟨[i64 o,.ro n 2 g],fun w I vs h => h,by kernel_rfl,vc188 o n g (hob _ (by simp)) (hob _ (by simp)) (hob _ (by simp))⟩
 ·cases hc
def c220:Con
 | [.ro n 2 g] => some ([nums n g,n≤1000],moS 1 n g)
 | _ => none
theorem con220:ConOK prog 220 c220:=ConOK.of (G:=[(188,c188)]) (H:=[]) (.cons con188 .nil) func220 fun l ob r hc hob => by
 unfold c220 at hc
 split at hc
 ·rename_i n g
  cases hc
  have h_0:=ob0 hob
  have h_1:=ob1 hob
  refine ⟨by kernel_rfl,fnVC_go (rs:=[.cell 2 24]) rfl rfl ?_⟩
  simp only [go_sem,c188]
  simp only [forall_eq]
  exact ⟨.inl trivial,h_0,h_1,trivial⟩
 ·cases hc
def c129:Con
 | [.ro n 2 g] => some ([nums n g,n≤1000],moS (-1) n g)
 | _ => none
theorem con129:ConOK prog 129 c129:=ConOK.of (G:=[(188,c188)]) (H:=[]) (.cons con188 .nil) func129 fun l ob r hc hob => by
 unfold c129 at hc
 split at hc
 ·rename_i n g
  cases hc
  have h_0:=ob0 hob
  have h_1:=ob1 hob
  refine ⟨by kernel_rfl,fnVC_go (rs:=[.cell 2 24]) rfl rfl ?_⟩
  simp only [go_sem,c188]
  simp only [forall_eq]
  exact ⟨.inr trivial,h_0,h_1,trivial⟩
 ·cases hc
theorem mo2 {o a b:Int} {g:Nat→List AV} {e f:Bool} (h0:g 0 = [i64 a,bo e]) (h1:g 1 = [i64 b,bo f]):moV o 2 g = if (o = 1∧whV b < whV a)∨(o = -1∧whV a < whV b) then whV b else whV a:=by
 show msS o (wvS g) 2 = _
 simp only [msS,exS,wvS,gx,h0,h1,gi_0]
def c163:Con
 | [.agg [.v (.int .i64 x),.v (.bool f)],.agg [.v (.int .i64 l),.v (.bool p)],.agg [.v (.int .i64 h),.v (.bool q)]] => some ([inR x,inR l,inR h],.agg [i64 (max (whV l) (min (whV x) (whV h))),bo (whF l p || (whF x f || whF h q))])
 | _ => none
theorem con163:ConOK prog 163 c163:=ConOK.of (G:=[(220,c220),(129,c129)]) (H:=[(1,⟨[(7,.slot 6)],[]⟩)]) (.cons con220 (.cons con129 .nil)) func163 fun l ob r hc hob => by
 unfold c163 at hc
 split at hc
 ·rename_i x f l p h q
  cases hc
  have h_0:=ob0 hob
  have h_1:=ob1 hob
  have h_2:=ob2 hob
  refine ⟨by kernel_rfl,fnVC_go (rs:=[.cell 6 24]) rfl rfl ?_⟩
  simp only [go_sem,c220,c129]
  intro z hz z1 hz1
  refine ⟨nums2 rfl rfl h_0 h_2,fun z2 hz2 z3 hz3 => ?_⟩
  rw [mo2 rfl rfl] at hz
  rw [(sum2 (a:=x) (b:=h) (e:=f) (f:=q) rfl rfl).2] at hz1
  have kx:=whV_rg h_0
  have kl:=whV_rg h_1
  have kh:=whV_rg h_2
  have kz:rg z:=by rw [hz]; split <;> assumption
  refine ⟨nums2 rfl rfl h_1 (rg_inR kz),?_⟩
  rw [mo2 rfl rfl,whV_of kz] at hz2
  rw [(sum2 (a:=l) (b:=z) (e:=p) (f:=z1) rfl rfl).2,whF_of kz] at hz3
  refine agg2 (i64_eq ?_) (bo_eq (by rw [hz3,hz1]))
  rw [hz2,hz]
  simp only [Int.reduceNeg]
  have e1:((1:Int) = -1) = False:=by decide
  have e2:((-1:Int) = 1) = False:=by decide
  simp only [e1,e2,eq_self,true_and,false_and,or_false,false_or,Int.max_def,Int.min_def]
  repeat' split
  all_goals omega
 ·cases hc
end Go.Ax
end
section
namespace Go.Proofs
open Tryz
theorem tab64 {i:Int} (h0:0≤i) (h1:i < 256) (hs:i.toNat < Lib.len8tab.size):((Lib.len8tab[i.toNat]'hs).toNat:Int) = Lib.bitLen i.toNat:=by
 have:=Lib.len8_of i h0 (by omega)
 unfold Lib.len8 at this
 rw [ByteArray.getElem?_lt' _ _ hs,Option.getD_some] at this
 exact this
theorem end64 {x i:Int} {k:Int} {n:Nat} (hn:(n:Int) = k) (hk:k≤56) (h0:0≤i) (h1:i < 256) (hs:i.toNat < Lib.len8tab.size) (h:Lib.bitLen x.toNat = n + Lib.bitLen i.toNat):RowKit.wrap64 (k + RowKit.wrap64 ((Lib.len8tab[i.toNat]'hs).toNat:Int)) = (Lib.bitLen x.toNat:Int):=by
 have l:=Lib.bitLen_le8' i h0 (by omega)
 rw [tab64 h0 h1 hs,RowKit.wrap64,RowKit.wrap64]
 omega
theorem end640 {x:Int} (h0:0≤x) (h1:x < 256) (hs:x.toNat < Lib.len8tab.size):RowKit.wrap64 (RowKit.wrap64 ((Lib.len8tab[x.toNat]'hs).toNat:Int)) = (Lib.bitLen x.toNat:Int):=by
 have l:=Lib.bitLen_le8' x h0 (by omega)
 rw [tab64 h0 h1 hs,RowKit.wrap64,RowKit.wrap64]
 omega
set_option maxHeartbeats 4000000 in
set_option maxRecDepth 100000 in
theorem len64 (x:Int) (w:World) (h0:0≤x) (h1:x≤18446744073709551615) :
  Calls prog 282 #[.int .u64 x] w fun e w' => e = .returned (.int .i64 (Lib.bitLen x.toNat))∧w' = w:=by
 go_enter func282,ntmps282
 go_wp2
 all_goals first
  | (exfalso; rename_i h; rw [Lib.len8tab_size] at h; omega)
  | (go_ret; refine ⟨congrArg Ending.returned (congrArg (Value.int IntKind.i64) ?_),rfl⟩)
 all_goals first
  | exact end640 h0 (by omega) _
  | exact end64 (n:=56) rfl (by omega) (by omega) (by omega) _ (by rw [show (x / 4294967296 / 65536 / 256).toNat = x.toNat / 72057594037927936 by omega]; exact Lib.bitLen_shift56 x.toNat (by omega) (by omega))
  | exact end64 (n:=48) rfl (by omega) (by omega) (by omega) _ (by rw [show (x / 4294967296 / 65536).toNat = x.toNat / 281474976710656 by omega]; exact Lib.bitLen_shift48 x.toNat (by omega) (by omega))
  | exact end64 (n:=40) rfl (by omega) (by omega) (by omega) _ (by rw [show (x / 4294967296 / 256).toNat = x.toNat / 1099511627776 by omega]; exact Lib.bitLen_shift40 x.toNat (by omega) (by omega))
  | exact end64 (n:=32) rfl (by omega) (by omega) (by omega) _ (by rw [show (x / 4294967296).toNat = x.toNat / 4294967296 by omega]; exact Lib.bitLen_shift32 x.toNat (by omega) (by omega))
  | exact end64 (n:=24) rfl (by omega) (by omega) (by omega) _ (by rw [show (x / 65536 / 256).toNat = x.toNat / 16777216 by omega]; exact Lib.bitLen_shift24 x.toNat (by omega) (by omega))
  | exact end64 (n:=16) rfl (by omega) (by omega) (by omega) _ (by rw [show (x / 65536).toNat = x.toNat / 65536 by omega]; exact Lib.bitLen_shift16 x.toNat (by omega) (by omega))
  | exact end64 (n:=8) rfl (by omega) (by omega) (by omega) _ (by rw [show (x / 256).toNat = x.toNat / 256 by omega]; exact Lib.bitLen_shift8 x.toNat (by omega) (by omega))
end Go.Proofs
end
section
set_option maxHeartbeats 4000000
set_option maxRecDepth 100000
namespace Go.Ax
open Go.Proofs Go.Proofs.Tryz
theorem digit_low {y a b u v q r B:Nat} (hy:y = a * B + b) (hu:u * B + v < y * B) (hq:q * a + r = u) (ht:(u * B + v) / y≤q) (hv:v < B) (hb:b < B) (ha:0 < a)
  (hc:B≤q∨B * r + v < q * b):(u * B + v) / y + 1≤q:=by
 have hyp:0 < y:=by
  rw [hy]; have:=Nat.mul_pos ha (show 0 < B by omega); omega
 rcases hc with hc | hc
 ·have:(u * B + v) / y < B:=Nat.div_lt_of_lt_mul hu
  omega
 ·have h1:u * B + v < q * y:=by
   rw [hy,← hq,Nat.add_mul,Nat.mul_add]
   have e1:q * (a * B) = q * a * B:=by rw [Nat.mul_assoc]
   have e2:r * B = B * r:=Nat.mul_comm _ _
   omega
  have h2:=Nat.div_lt_of_lt_mul (by rw [Nat.mul_comm]; exact h1)
  omega
theorem digit_done {y a b u v q r B:Nat} (hy:y = a * B + b) (hq:q * a + r = u) (ht:(u * B + v) / y≤q) (hyp:0 < y)
  (hc:q * b≤B * r + v):(u * B + v) / y = q:=by
 have h1:q * y≤u * B + v:=by
  rw [hy,← hq,Nat.add_mul,Nat.mul_add]
  have e1:q * (a * B) = q * a * B:=by rw [Nat.mul_assoc]
  have e2:r * B = B * r:=Nat.mul_comm _ _
  omega
 have h2:q≤(u * B + v) / y:=(Nat.le_div_iff_mul_le hyp).2 h1
 omega
theorem digit_break {y a b u v q r B:Nat} (hy:y = a * B + b) (hu:u * B + v < y * B) (hq:q * a + r = u) (ht:(u * B + v) / y≤q) (hv:v < B) (hb:b < B) (ha:0 < a) (hB:0 < B)
  (hr:B≤r):(u * B + v) / y = q:=by
 have hyp:0 < y:=by
  rw [hy]; have:=Nat.mul_pos ha hB; omega
 have hqB:q < B:=by
  refine Nat.lt_of_not_le fun hc => ?_
  have h1:B * a≤q * a:=Nat.mul_le_mul_right a hc
  have h2:(a * B + B)≤u:=by rw [Nat.mul_comm a B]; omega
  have h3:u < y:=by
   have:u * B < y * B:=by omega
   exact Nat.lt_of_mul_lt_mul_right this
  omega
 refine digit_done hy hq ht hyp ?_
 have h4:q * b≤B * B:=Nat.mul_le_mul (by omega) (by omega)
 have h5:B * B≤B * r:=Nat.mul_le_mul_left B hr
 omega
theorem digit_high {y a b u v B:Nat} (hy:y = a * B + b) (hv:v < B) (ha:0 < a) (hB:0 < B):(u * B + v) / y≤u / a:=by
 have hyp:0 < y:=by
  rw [hy]; have:=Nat.mul_pos ha hB; omega
 rw [Nat.le_div_iff_mul_le ha]
 have h1:(u * B + v) / y * y≤u * B + v:=Nat.div_mul_le_self _ _
 generalize (u * B + v) / y = k at *
 have h2:k * (a * B)≤k * y:=Nat.mul_le_mul_left k (by omega)
 have h3:k * a * B < (u + 1) * B:=by
  rw [Nat.mul_assoc,Nat.add_mul]; omega
 have:=Nat.lt_of_mul_lt_mul_right h3
 omega
theorem digits {y u v w B:Nat} (hy:0 < y):((u * B + v) * B + w) / y = (u * B + v) / y * B + ((u * B + v) % y * B + w) / y∧((u * B + v) * B + w) % y = ((u * B + v) % y * B + w) % y:=by
 have e:(u * B + v) * B + w = y * ((u * B + v) / y * B) + ((u * B + v) % y * B + w):=by
  have:=Nat.div_add_mod (u * B + v) y
  conv => lhs; rw [← this]
  rw [Nat.add_mul,Nat.mul_assoc]; omega
 rw [e,Nat.mul_add_div hy,Nat.mul_add_mod]
 exact ⟨rfl,rfl⟩
theorem shifted {n y p:Nat} (hp:0 < p):n * p / (y * p) = n / y∧n * p % (y * p) = n % y * p:=⟨Nat.mul_div_mul_right _ _ hp,Nat.mul_mod_mul_right _ _ _⟩
abbrev blen (x:Int):Nat:=Lib.bitLen x.toNat
theorem lenAux_ok:∀ (f x:Nat),x < 2 ^ f→x < 2 ^ Lib.bitLenAux f x∧(x≠0→0 < Lib.bitLenAux f x∧2 ^ (Lib.bitLenAux f x - 1)≤x)∧Lib.bitLenAux f x≤f
 | 0,x,h => by
  have:x = 0:=by simpa using h
  subst this
  exact ⟨by simp [Lib.bitLenAux],fun h => absurd rfl h,by simp [Lib.bitLenAux]⟩
 | f + 1,x,h => by
  unfold Lib.bitLenAux
  by_cases h0:x = 0
  ·subst h0; simp
  ·rw [if_neg h0]
   obtain ⟨k1,k2,k3⟩:=lenAux_ok f (x / 2) (by rw [Nat.pow_succ] at h; omega)
   refine ⟨by rw [Nat.add_comm,Nat.pow_succ]; omega,fun _ => ⟨by omega,?_⟩,by omega⟩
   by_cases h1:x / 2 = 0
   ·have h2:x = 1:=by omega
    subst h2
    have:Lib.bitLenAux f (1 / 2) = 0:=by cases f <;> simp [Lib.bitLenAux]
    rw [this]; simp
   ·obtain ⟨j1,j2⟩:=k2 h1
    have e:1 + Lib.bitLenAux f (x / 2) - 1 = (Lib.bitLenAux f (x / 2) - 1) + 1:=by omega
    rw [e,Nat.pow_succ]; omega
theorem blen_ok {x:Int} (h:inU x):x.toNat < 2 ^ blen x∧(x≠0→0 < blen x∧2 ^ (blen x - 1)≤x.toNat)∧blen x≤64:=by
 unfold inU at h
 have:=lenAux_ok 64 x.toNat (by have:(2:Nat) ^ 64 = 18446744073709551616:=by decide
                                omega)
 exact ⟨this.1,fun h0 => this.2.1 (by omega),this.2.2⟩
def c282:Con
 | [.v (.int .u64 x)] => some ([inU x],i64 (blen x))
 | _ => none
theorem con282:ConOK prog 282 c282:=fun es ob r hc hob => by
 unfold c282 at hc
 split at hc
 ·rename_i x
  cases hc
  have hx:inU x:=hob _ (by simp)
  intro I w vs hI hR
  obtain ⟨v1,xs,rfl,h1,hR⟩:=hR.inv
  cases R_v h1
  have:xs = []:=by have:=hR.1; simpa using this
  subst this
  refine .inr ⟨callFunc_enter func282 (by kernel_rfl) rfl _ _,?_⟩
  refine (len64 x w hx.1 (by unfold inU at hx; omega)).mono fun e w' h => ?_
  obtain ⟨he,rfl⟩:=h
  exact ⟨_,he,.v,RowKit.Below.refl _ _⟩
 ·cases hc
def c247:Con
 | [.v (.int .u64 x)] => some ([inU x],i64 (64 - blen x))
 | _ => none
theorem con247:ConOK prog 247 c247:=ConOK.of (G:=[(282,c282)]) (H:=[]) (.cons con282 .nil) func247 fun l ob r hc hob => by
 unfold c247 at hc
 split at hc
 ·rename_i x
  cases hc
  have h_0:=ob0 hob
  refine ⟨by kernel_rfl,fnVC_go (rs:=[.tmp 2]) rfl rfl ?_⟩
  simp only [go_sem,c282]
  intro z hz
  refine ⟨h_0,fun z1 hz1 => ?_⟩
  have:=(blen_ok h_0).2.2
  rw [hz1,hz,wrap_in (inRo (by omega))]
 ·cases hc
theorem digit_bound {w Y B x:Nat} (hw:w < Y) (hx:x < B):w * B + x < Y * B:=by
 have:=Nat.mul_le_mul_right B (show w + 1≤Y from hw)
 rw [Nat.add_mul] at this
 omega
theorem rem_bound {n y p Y K:Nat} (hy:0 < y) (hp:0 < p) (hY:Y = y * p) (h:Y < K):n % y * p < K:=by
 have:=Nat.mul_lt_mul_of_pos_right (Nat.mod_lt n hy) hp
 omega
theorem fin_quo {p q n:Nat} (h:n = p * 4294967296 + q) (hn:n < 18446744073709551616):IntKind.u64.wrap (IntKind.u64.wrap ((p:Int) * 4294967296) + q) = n:=by
 rw [wrap_u64,wrap_u64]; omega
theorem fin_rem {w x g r:Nat} (h:g + r = w * 4294967296 + x) (hr:r < 18446744073709551616):IntKind.u64.wrap (IntKind.u64.wrap (IntKind.u64.wrap ((w:Int) * 4294967296) + x) - IntKind.u64.wrap (g:Int)) = r:=by
 rw [wrap_u64,wrap_u64,wrap_u64,wrap_u64]; omega
def c192:Con
 | [.v (.int .u64 h),.v (.int .u64 l),.v (.int .u64 y)] => some ([inU h,inU l,inU y,h < y],.tup [u64 (jn h l / y),u64 (jn h l % y)])
 | _ => none
theorem con192:ConOK prog 192 c192:=ConOK.of (G:=[(247,c247)]) (H:=[]) (.cons con247 .nil) func192 fun l ob r hc hob => by
 unfold c192 at hc
 split at hc
 ·rename_i h l y
  cases hc
  have hh:inU h:=hob _ (by simp)
  have hl:inU l:=hob _ (by simp)
  have hy:inU y:=hob _ (by simp)
  have hlt:h < y:=hob _ (by simp)
  refine ⟨by kernel_rfl,fnVC_go (rs:=[.tmp 6,.tmp 7]) rfl rfl ?_⟩
  simp only [go_sem,c247]
  refine ⟨fun hc => absurd (show y = 0 by simpa using hc) (by unfold inU at *; omega),fun hc => ⟨fun hc1 => absurd hc1 (by omega),fun hc1 => ⟨fun h2 => ?_,fun h2 => ?_⟩⟩⟩
  ·have hy0:¬ y = 0:=by simpa using hc
   have h2:h = 0:=by simpa using h2
   subst h2
   refine ⟨hy0,fun z hz => ⟨hy0,fun z1 hz1 => tup2 (u64_eq ?_) (u64_eq ?_)⟩⟩
   ·unfold inU at hl hy
    have hj:jn 0 l = l:=by unfold jn; omega
    rw [hj,hz,Int.tdiv_eq_ediv_of_nonneg hl.1]
    have k1:0≤l / y:=Int.ediv_nonneg hl.1 hy.1
    have k2:l / y≤l:=Int.ediv_le_self _ hl.1
    exact wrap_u (by unfold inU; omega)
   ·unfold inU at hl hy
    have hj:jn 0 l = l:=by unfold jn; omega
    rw [hj,hz1,Int.tmod_eq_emod_of_nonneg hl.1]
  have hy0:¬ y = 0:=by simpa using hc
  obtain ⟨b1,b2,b3⟩:=blen_ok hy
  obtain ⟨b4,b5⟩:=b2 hy0
  obtain ⟨H,rfl⟩:∃ n:Nat,h = n:=⟨h.toNat,by unfold inU at hh; omega⟩
  obtain ⟨L,rfl⟩:∃ n:Nat,l = n:=⟨l.toNat,by unfold inU at hl; omega⟩
  obtain ⟨y,rfl⟩:∃ n:Nat,y = n:=⟨y.toNat,by unfold inU at hy; omega⟩
  have hH:H < 18446744073709551616:=by unfold inU at hh; omega
  have hL:L < 18446744073709551616:=by unfold inU at hl; omega
  have hyy:y < 18446744073709551616:=by unfold inU at hy; omega
  generalize hs:64 - blen (y:Int) = s at *
  have hs2:blen (y:Int) = 64 - s:=by omega
  have hs3:s < 64:=by omega
  rw [hs2] at b1 b5
  rw [Int.toNat_natCast] at b1 b5
  have p64:(2:Nat) ^ 64 = 18446744073709551616:=by decide
  have p63:(2:Nat) ^ 63 = 9223372036854775808:=by decide
  have pp:2 ^ (64 - s) * 2 ^ s = 18446744073709551616:=by rw [← Nat.pow_add,← p64]; congr 1; omega
  have pq:2 ^ (64 - s - 1) * 2 ^ s = 9223372036854775808:=by rw [← Nat.pow_add,← p63]; congr 1; omega
  have ps:0 < 2 ^ s:=Nat.two_pow_pos s
  obtain ⟨Y,hY⟩:∃ Y,Y = y * 2 ^ s:=⟨_,rfl⟩
  have Y1:Y < 18446744073709551616:=by rw [hY,← pp]; exact Nat.mul_lt_mul_of_pos_right b1 ps
  have Y2:9223372036854775808≤Y:=by rw [hY,← pq]; exact Nat.mul_le_mul_right _ b5
  have hw:∀ n:Nat,n < 18446744073709551616→IntKind.u64.wrap (n:Int) = n:=fun n hn => wrap_u (by unfold inU; omega)
  intro z hz
  refine ⟨hy,fun z1 hz1 => ?_⟩
  have e1:z1 = (s:Int):=by rw [hz1,hz,hs2,show (64:Int) - ((64 - s:Nat):Int) = (s:Int) by omega,hw _ (by omega)]
  have m1:min z1.toNat 64 = s:=by rw [e1]; omega
  have n1:¬ z1 < 0:=by rw [e1]; omega
  rw [m1]
  refine ⟨n1,fun z2 hz2 z3 hz3 z4 hz4 => ⟨n1,fun z5 hz5 z6 hz6 => ?_⟩⟩
  have cP:((2:Int) ^ s) = ((2 ^ s:Nat):Int):=by simp
  have e2:z2 = (Y:Int):=by rw [hz2,cP,← Int.natCast_mul,← hY,hw _ Y1]
  have e3:z3 = ((Y / 4294967296:Nat):Int):=by rw [hz3,e2]; omega
  have e4:z4 = ((Y % 4294967296:Nat):Int):=by rw [hz4,e2,andI_32 (by unfold inU; omega)]; omega
  have hHY:H * 2 ^ s < Y:=by rw [hY]; exact Nat.mul_lt_mul_of_pos_right (by omega) ps
  have e5:z5 = ((H * 2 ^ s:Nat):Int):=by rw [hz5,cP,← Int.natCast_mul,hw _ (by omega)]
  have e6:z6 = ((64 - s:Nat):Int):=by rw [hz6,e1,show (64:Int) - (s:Int) = ((64 - s:Nat):Int) by omega,hw _ (by omega)]
  have m6:min z6.toNat 64 = 64 - s:=by rw [e6]; omega
  rw [m6]
  refine ⟨by rw [e6]; omega,fun z7 hz7 z8 hz8 => ⟨n1,fun z9 hz9 z10 hz10 z11 hz11 => ?_⟩⟩
  have e7:z7 = ((L / 2 ^ (64 - s):Nat):Int):=by
   have c2:((2:Int) ^ (64 - s)) = ((2 ^ (64 - s):Nat):Int):=by simp
   rw [hz7,c2,Int.fdiv_eq_ediv_of_nonneg _ (by omega)]; rfl
  have l7:L / 2 ^ (64 - s) < 2 ^ s:=Nat.div_lt_of_lt_mul (by rw [pp]; exact hL)
  obtain ⟨u,hu⟩:∃ u,u = H * 2 ^ s + L / 2 ^ (64 - s):=⟨_,rfl⟩
  have u1:u < Y:=by
   have:(H + 1) * 2 ^ s≤Y:=by rw [hY]; exact Nat.mul_le_mul_right _ (by omega)
   rw [Nat.add_mul] at this
   omega
  have e8:z8 = (u:Int):=by
   rw [hz8,e5,e7]
   unfold orI
   rw [BitVec.toNat_or,toNat_u (by omega),toNat_u (by omega),Nat.mul_comm H,← Nat.two_pow_add_eq_or_of_lt l7,Nat.mul_comm (2 ^ s),← hu,hw _ (by omega)]
  obtain ⟨t,ht⟩:∃ t,t = L * 2 ^ s % 18446744073709551616:=⟨_,rfl⟩
  have e9:z9 = (t:Int):=by rw [hz9,cP,← Int.natCast_mul,wrap_u64,ht]; omega
  have t1:t < 18446744073709551616:=by rw [ht]; omega
  have e10:z10 = ((t / 4294967296:Nat):Int):=by rw [hz10,e9]; omega
  have e11:z11 = ((t % 4294967296:Nat):Int):=by rw [hz11,e9,andI_32 (by unfold inU; omega)]; omega
  have hN:(H * 18446744073709551616 + L) * 2 ^ s = u * 18446744073709551616 + t:=by
   have k1:L * 2 ^ s = L / 2 ^ (64 - s) * 18446744073709551616 + L % 2 ^ (64 - s) * 2 ^ s:=by
    have:=Nat.div_add_mod' L (2 ^ (64 - s))
    conv => lhs; rw [← this]
    rw [Nat.add_mul,Nat.mul_assoc,pp]
   have k2:L % 2 ^ (64 - s) * 2 ^ s < 18446744073709551616:=by
    rw [← pp]; exact Nat.mul_lt_mul_of_pos_right (Nat.mod_lt _ (Nat.two_pow_pos _)) ps
   rw [ht,hu,Nat.add_mul,Nat.add_mul,Nat.mul_right_comm]
   omega
  clear hz hz1 hz2 hz3 hz4 hz5 hz6 hz7 hz8 hz9 hz10 hz11 m1 m6 n1 e5 e6 e7
  subst e3 e4 e8 e10 e11 e2
  obtain ⟨a,ha⟩:∃ a,a = Y / 4294967296:=⟨_,rfl⟩
  obtain ⟨b,hb⟩:∃ b,b = Y % 4294967296:=⟨_,rfl⟩
  obtain ⟨v,hv⟩:∃ v,v = t / 4294967296:=⟨_,rfl⟩
  obtain ⟨x,hx⟩:∃ x,x = t % 4294967296:=⟨_,rfl⟩
  rw [← ha,← hb,← hv,← hx]
  have a1:2147483648≤a∧a < 4294967296:=by omega
  have hYab:Y = a * 4294967296 + b:=by omega
  refine ⟨by omega,fun z12 hz12 z13 hz13 z14 hz14 => ?_⟩
  have hq0:u / a≤u:=Nat.div_le_self _ _
  have hqa:=Nat.div_mul_le_self u a
  have e12:z12 = ((u / a:Nat):Int):=by
   rw [hz12,Int.tdiv_eq_ediv_of_nonneg (by omega),← Int.natCast_ediv,hw _ (by omega)]
  have e13:z13 = ((u / a * a:Nat):Int):=by rw [hz13,e12,← Int.natCast_mul,hw _ (by omega)]
  have e14:z14 = ((u % a:Nat):Int):=by
   have:=Nat.div_add_mod' u a
   rw [hz14,e13,show ((u:Int) - ((u / a * a:Nat):Int)) = ((u % a:Nat):Int) by omega,hw _ (by have:=Nat.mod_lt u (show 0 < a by omega); omega)]
  subst e12 e13 e14
  have hu2:u * 4294967296 + v < Y * 4294967296:=by omega
  have f0:(u * 4294967296 + v) / Y≤u / a:=digit_high hYab (by omega) (by omega) (by omega)
  have hN2:(H * 18446744073709551616 + L) * 2 ^ s = (u * 4294967296 + v) * 4294967296 + x:=by rw [hN]; omega
  have hYp:0 < Y:=by omega
  have hxB:x < 4294967296:=by omega
  have hNd:(H * 18446744073709551616 + L) / y < 18446744073709551616:=Nat.div_lt_of_lt_mul (digit_bound (Int.ofNat_lt.1 hlt) hL)
  have hNm:(H * 18446744073709551616 + L) % y * 2 ^ s < 18446744073709551616:=rem_bound (Nat.pos_of_ne_zero fun h => hy0 (by rw [h]; rfl)) ps hY Y1
  have hJ:jn (H:Int) (L:Int) = ((H * 18446744073709551616 + L:Nat):Int):=by unfold jn; omega
  have F1:(H * 18446744073709551616 + L) / y = (u * 4294967296 + v) / Y * 4294967296 + ((u * 4294967296 + v) % Y * 4294967296 + x) / Y:=by
   rw [← (digits hYp).1,← hN2,hY,(shifted ps).1]
  have F2:(H * 18446744073709551616 + L) % y * 2 ^ s = ((u * 4294967296 + v) % Y * 4294967296 + x) % Y:=by
   rw [← (digits hYp).2,← hN2,hY,(shifted ps).2]
  obtain ⟨D1,hD1⟩:∃ D,D = (u * 4294967296 + v) / Y:=⟨_,rfl⟩
  rw [← hD1] at f0
  refine loopC_go (fun (p:Nat×Nat) => p.1 * a + p.2 = u∧D1≤p.1∧p.2 < 4294967296) (fun p => p.1) (fun p => [(15,u64 p.1),(16,u64 p.2)]) (fun _ => []) [] [67,68,69,70,71,72,73,74,75,76,77,78,79,80,15,81,82,83,16,84,85] (u / a,u % a) (by kernel_rfl) ?_ ⟨Nat.div_add_mod' u a,f0,by have:=Nat.mod_lt u (show 0 < a by omega); omega⟩ ?_ ?_
  ·intro x _; simp [goodNames]
  ·simp only [go_sem]
  intro p hp
  obtain ⟨q1,r⟩:=p
  obtain ⟨hq,hq2,hr⟩:=hp
  dsimp only at hq hq2 hr
  simp only [go_sem]
  intro z1 hz1 z2 hz2 z3 hz3
  have hqu:q1≤u:=by
   have:=Nat.mul_le_mul_left q1 (show 1≤a by omega)
   omega
  have hc:(4294967296≤(q1:Int)∨z3 < z1) ↔ (4294967296≤q1∨4294967296 * r + v < q1 * b):=by
   by_cases h:4294967296≤q1
   ·exact ⟨fun _ => .inl h,fun _ => .inl (by omega)⟩
   ·have h5:q1 * b < 4294967296 * 4294967296:=Nat.mul_lt_mul'' (by omega) (by omega)
    have k1:z1 = ((q1 * b:Nat):Int):=by rw [hz1,← Int.natCast_mul,hw _ (by omega)]
    have k2:z2 = ((4294967296 * r:Nat):Int):=by rw [hz2,show (4294967296:Int) * (r:Int) = ((4294967296 * r:Nat):Int) by omega,hw _ (by omega)]
    have k3:z3 = ((4294967296 * r + v:Nat):Int):=by rw [hz3,k2,← Int.natCast_add,hw _ (by omega)]
    rw [k1,k3]
    omega
  clear hz1 hz2 hz3
  refine ⟨fun h z4 hz4 z5 hz5 => ?_,fun h => ?_⟩
  ·have h:=hc.1 h
   clear hc
   have hd:=digit_low hYab hu2 hq (hD1 ▸ hq2) (by omega) (by omega) (by omega) h
   rw [← hD1] at hd
   have k4:z4 = ((q1 - 1:Nat):Int):=by rw [hz4,show (q1:Int) - 1 = ((q1 - 1:Nat):Int) by omega,hw _ (by omega)]
   have k5:z5 = ((r + a:Nat):Int):=by rw [hz5,← Int.natCast_add,hw _ (by omega)]
   have hqn:(q1 - 1) * a + (r + a) = u:=by
    rw [Nat.sub_mul,Nat.one_mul]
    have:=Nat.mul_le_mul_right a (show 1≤q1 by omega)
    omega
   clear hz4 hz5
   subst k4 k5
   refine ⟨fun h5 => ?_,fun h5 => ⟨(q1 - 1,r + a),⟨hqn,by dsimp only; omega,by dsimp only; omega⟩,by dsimp only; omega,rfl,rfl⟩⟩
   have hQ:=digit_break hYab hu2 hqn (by rw [← hD1]; omega) (by omega) (by omega) (by omega) (by omega) (by omega)
   generalize q1 - 1 = Q1 at hQ ⊢
   have hQd:=Nat.div_add_mod' (u * 4294967296 + v) Y
   rw [hQ] at hQd
   have hw1:=Nat.mod_lt (u * 4294967296 + v) (show 0 < Y by omega)
   rw [hQ] at F1
   obtain ⟨w,hwd⟩:∃ w,w = (u * 4294967296 + v) % Y:=⟨_,rfl⟩
   rw [← hwd] at hQd hw1 F1 F2
   clear hwd
   intro y1 hy1 y2 hy2 y3 hy3 y4 hy4
   have e4:y4 = (w:Int):=by
    rw [hy4,hy3,hy2,hy1,← Int.natCast_mul,fin_rem hQd (Nat.lt_trans hw1 Y1)]
   clear hy1 hy2 hy3 hy4
   subst e4
   refine ⟨by omega,fun y5 hy5 y6 hy6 y7 hy7 => ?_⟩
   have g5:y5 = ((w / a:Nat):Int):=by
    have:=Nat.div_le_self w a
    rw [hy5,Int.tdiv_eq_ediv_of_nonneg (by omega),← Int.natCast_ediv,hw _ (by omega)]
   have g6:y6 = ((w / a * a:Nat):Int):=by
    have:=Nat.div_mul_le_self w a
    rw [hy6,g5,← Int.natCast_mul,hw _ (by omega)]
   have g7:y7 = ((w % a:Nat):Int):=by
    have:=Nat.div_add_mod' w a
    rw [hy7,g6,show ((w:Int) - ((w / a * a:Nat):Int)) = ((w % a:Nat):Int) by omega,hw _ (by have:=Nat.mod_lt w (show 0 < a by omega); omega)]
   clear hy5 hy6 hy7
   subst g5 g6 g7
   have hw2:w * 4294967296 + x < Y * 4294967296:=digit_bound hw1 hxB
   have f2:(w * 4294967296 + x) / Y≤w / a:=digit_high hYab (by omega) (by omega) (by omega)
   obtain ⟨D2,hD2⟩:∃ D,D = (w * 4294967296 + x) / Y:=⟨_,rfl⟩
   rw [← hD2] at f2
   refine loopC_go (fun (p:Nat×Nat) => p.1 * a + p.2 = w∧D2≤p.1∧p.2 < 4294967296) (fun p => p.1) (fun p => [(18,u64 p.1),(16,u64 p.2)]) (fun _ => []) [] [102,103,104,105,106,107,108,109,110,111,112,113,114,115,18,116,117,118,16,119,120] (w / a,w % a) (by kernel_rfl) ?_ ⟨Nat.div_add_mod' w a,f2,by have:=Nat.mod_lt w (show 0 < a by omega); omega⟩ ?_ ?_
   ·intro x _; simp [goodNames]
   ·simp only [go_sem]
   intro p hp
   obtain ⟨q2,r⟩:=p
   obtain ⟨hq,hq2,hr⟩:=hp
   dsimp only at hq hq2 hr
   simp only [go_sem]
   intro z1 hz1 z2 hz2 z3 hz3
   have hqu:q2≤w:=by
    have:=Nat.mul_le_mul_left q2 (show 1≤a by omega)
    omega
   have hc:(4294967296≤(q2:Int)∨z3 < z1) ↔ (4294967296≤q2∨4294967296 * r + x < q2 * b):=by
    by_cases h:4294967296≤q2
    ·exact ⟨fun _ => .inl h,fun _ => .inl (by omega)⟩
    ·have h5:q2 * b < 4294967296 * 4294967296:=Nat.mul_lt_mul'' (by omega) (by omega)
     have k1:z1 = ((q2 * b:Nat):Int):=by rw [hz1,← Int.natCast_mul,hw _ (by omega)]
     have k2:z2 = ((4294967296 * r:Nat):Int):=by rw [hz2,show (4294967296:Int) * (r:Int) = ((4294967296 * r:Nat):Int) by omega,hw _ (by omega)]
     have k3:z3 = ((4294967296 * r + x:Nat):Int):=by rw [hz3,k2,← Int.natCast_add,hw _ (by omega)]
     rw [k1,k3]
     omega
   clear hz1 hz2 hz3
   refine ⟨fun h z4 hz4 z5 hz5 => ?_,fun h => ?_⟩
   ·have h:=hc.1 h
    clear hc
    have hd:=digit_low hYab hw2 hq (hD2 ▸ hq2) (by omega) (by omega) (by omega) h
    rw [← hD2] at hd
    have k4:z4 = ((q2 - 1:Nat):Int):=by rw [hz4,show (q2:Int) - 1 = ((q2 - 1:Nat):Int) by omega,hw _ (by omega)]
    have k5:z5 = ((r + a:Nat):Int):=by rw [hz5,← Int.natCast_add,hw _ (by omega)]
    have hqn:(q2 - 1) * a + (r + a) = w:=by
     rw [Nat.sub_mul,Nat.one_mul]
     have:=Nat.mul_le_mul_right a (show 1≤q2 by omega)
     omega
    clear hz4 hz5
    subst k4 k5
    refine ⟨fun h5 => ?_,fun h5 => ⟨(q2 - 1,r + a),⟨hqn,by dsimp only; omega,by dsimp only; omega⟩,by dsimp only; omega,rfl,rfl⟩⟩
    have hQ:=digit_break hYab hw2 hqn (by rw [← hD2]; omega) (by omega) (by omega) (by omega) (by omega) (by omega)
    generalize q2 - 1 = Q2 at hQ ⊢
    rw [hQ] at F1
    have hQe:=Nat.div_add_mod' (w * 4294967296 + x) Y
    rw [hQ,← F2] at hQe
    intro y1 hy1 y2 hy2 y3 hy3 y4 hy4 y5 hy5 y6 hy6
    refine ⟨by rw [e1]; exact Int.not_lt.2 (Int.natCast_nonneg s),fun y7 hy7 => ?_⟩
    rw [e1,Int.toNat_natCast,Nat.min_eq_left (Nat.le_of_lt hs3),cP,hy6,hy5,hy4,hy3,← Int.natCast_mul,fin_rem hQe hNm,Int.fdiv_eq_ediv_of_nonneg _ (Int.natCast_nonneg _),← Int.natCast_ediv,Nat.mul_div_cancel _ ps] at hy7
    rw [hy1,fin_quo F1 hNd] at hy2
    rw [hy2,hy7,hJ]
    exact tup2 rfl rfl
   ·have h:¬ (4294967296≤q2∨4294967296 * r + x < q2 * b):=fun hh => not_or.2 h (hc.2 hh)
    clear hc
    have hQ:=digit_done (v:=x) hYab hq (hD2 ▸ hq2) (by omega) (by omega)
    generalize q2 = Q2 at hQ ⊢
    rw [hQ] at F1
    have hQe:=Nat.div_add_mod' (w * 4294967296 + x) Y
    rw [hQ,← F2] at hQe
    intro y1 hy1 y2 hy2 y3 hy3 y4 hy4 y5 hy5 y6 hy6
    refine ⟨by rw [e1]; exact Int.not_lt.2 (Int.natCast_nonneg s),fun y7 hy7 => ?_⟩
    rw [e1,Int.toNat_natCast,Nat.min_eq_left (Nat.le_of_lt hs3),cP,hy6,hy5,hy4,hy3,← Int.natCast_mul,fin_rem hQe hNm,Int.fdiv_eq_ediv_of_nonneg _ (Int.natCast_nonneg _),← Int.natCast_ediv,Nat.mul_div_cancel _ ps] at hy7
    rw [hy1,fin_quo F1 hNd] at hy2
    rw [hy2,hy7,hJ]
    exact tup2 rfl rfl
  ·have h:¬ (4294967296≤q1∨4294967296 * r + v < q1 * b):=fun hh => not_or.2 h (hc.2 hh)
   clear hc
   have hQ:=digit_done (v:=v) hYab hq (hD1 ▸ hq2) (by omega) (by omega)
   generalize q1 = Q1 at hQ ⊢
   have hQd:=Nat.div_add_mod' (u * 4294967296 + v) Y
   rw [hQ] at hQd
   have hw1:=Nat.mod_lt (u * 4294967296 + v) (show 0 < Y by omega)
   rw [hQ] at F1
   obtain ⟨w,hwd⟩:∃ w,w = (u * 4294967296 + v) % Y:=⟨_,rfl⟩
   rw [← hwd] at hQd hw1 F1 F2
   clear hwd
   intro y1 hy1 y2 hy2 y3 hy3 y4 hy4
   have e4:y4 = (w:Int):=by
    rw [hy4,hy3,hy2,hy1,← Int.natCast_mul,fin_rem hQd (Nat.lt_trans hw1 Y1)]
   clear hy1 hy2 hy3 hy4
   subst e4
   refine ⟨by omega,fun y5 hy5 y6 hy6 y7 hy7 => ?_⟩
   have g5:y5 = ((w / a:Nat):Int):=by
    have:=Nat.div_le_self w a
    rw [hy5,Int.tdiv_eq_ediv_of_nonneg (by omega),← Int.natCast_ediv,hw _ (by omega)]
   have g6:y6 = ((w / a * a:Nat):Int):=by
    have:=Nat.div_mul_le_self w a
    rw [hy6,g5,← Int.natCast_mul,hw _ (by omega)]
   have g7:y7 = ((w % a:Nat):Int):=by
    have:=Nat.div_add_mod' w a
    rw [hy7,g6,show ((w:Int) - ((w / a * a:Nat):Int)) = ((w % a:Nat):Int) by omega,hw _ (by have:=Nat.mod_lt w (show 0 < a by omega); omega)]
   clear hy5 hy6 hy7
   subst g5 g6 g7
   have hw2:w * 4294967296 + x < Y * 4294967296:=digit_bound hw1 hxB
   have f2:(w * 4294967296 + x) / Y≤w / a:=digit_high hYab (by omega) (by omega) (by omega)
   obtain ⟨D2,hD2⟩:∃ D,D = (w * 4294967296 + x) / Y:=⟨_,rfl⟩
   rw [← hD2] at f2
   refine loopC_go (fun (p:Nat×Nat) => p.1 * a + p.2 = w∧D2≤p.1∧p.2 < 4294967296) (fun p => p.1) (fun p => [(18,u64 p.1),(16,u64 p.2)]) (fun _ => []) [] [102,103,104,105,106,107,108,109,110,111,112,113,114,115,18,116,117,118,16,119,120] (w / a,w % a) (by kernel_rfl) ?_ ⟨Nat.div_add_mod' w a,f2,by have:=Nat.mod_lt w (show 0 < a by omega); omega⟩ ?_ ?_
   ·intro x _; simp [goodNames]
   ·simp only [go_sem]
   intro p hp
   obtain ⟨q2,r⟩:=p
   obtain ⟨hq,hq2,hr⟩:=hp
   dsimp only at hq hq2 hr
   simp only [go_sem]
   intro z1 hz1 z2 hz2 z3 hz3
   have hqu:q2≤w:=by
    have:=Nat.mul_le_mul_left q2 (show 1≤a by omega)
    omega
   have hc:(4294967296≤(q2:Int)∨z3 < z1) ↔ (4294967296≤q2∨4294967296 * r + x < q2 * b):=by
    by_cases h:4294967296≤q2
    ·exact ⟨fun _ => .inl h,fun _ => .inl (by omega)⟩
    ·have h5:q2 * b < 4294967296 * 4294967296:=Nat.mul_lt_mul'' (by omega) (by omega)
     have k1:z1 = ((q2 * b:Nat):Int):=by rw [hz1,← Int.natCast_mul,hw _ (by omega)]
     have k2:z2 = ((4294967296 * r:Nat):Int):=by rw [hz2,show (4294967296:Int) * (r:Int) = ((4294967296 * r:Nat):Int) by omega,hw _ (by omega)]
     have k3:z3 = ((4294967296 * r + x:Nat):Int):=by rw [hz3,k2,← Int.natCast_add,hw _ (by omega)]
     rw [k1,k3]
     omega
   clear hz1 hz2 hz3
   refine ⟨fun h z4 hz4 z5 hz5 => ?_,fun h => ?_⟩
   ·have h:=hc.1 h
    clear hc
    have hd:=digit_low hYab hw2 hq (hD2 ▸ hq2) (by omega) (by omega) (by omega) h
    rw [← hD2] at hd
    have k4:z4 = ((q2 - 1:Nat):Int):=by rw [hz4,show (q2:Int) - 1 = ((q2 - 1:Nat):Int) by omega,hw _ (by omega)]
    have k5:z5 = ((r + a:Nat):Int):=by rw [hz5,← Int.natCast_add,hw _ (by omega)]
    have hqn:(q2 - 1) * a + (r + a) = w:=by
     rw [Nat.sub_mul,Nat.one_mul]
     have:=Nat.mul_le_mul_right a (show 1≤q2 by omega)
     omega
    clear hz4 hz5
    subst k4 k5
    refine ⟨fun h5 => ?_,fun h5 => ⟨(q2 - 1,r + a),⟨hqn,by dsimp only; omega,by dsimp only; omega⟩,by dsimp only; omega,rfl,rfl⟩⟩
    have hQ:=digit_break hYab hw2 hqn (by rw [← hD2]; omega) (by omega) (by omega) (by omega) (by omega) (by omega)
    generalize q2 - 1 = Q2 at hQ ⊢
    rw [hQ] at F1
    have hQe:=Nat.div_add_mod' (w * 4294967296 + x) Y
    rw [hQ,← F2] at hQe
    intro y1 hy1 y2 hy2 y3 hy3 y4 hy4 y5 hy5 y6 hy6
    refine ⟨by rw [e1]; exact Int.not_lt.2 (Int.natCast_nonneg s),fun y7 hy7 => ?_⟩
    rw [e1,Int.toNat_natCast,Nat.min_eq_left (Nat.le_of_lt hs3),cP,hy6,hy5,hy4,hy3,← Int.natCast_mul,fin_rem hQe hNm,Int.fdiv_eq_ediv_of_nonneg _ (Int.natCast_nonneg _),← Int.natCast_ediv,Nat.mul_div_cancel _ ps] at hy7
    rw [hy1,fin_quo F1 hNd] at hy2
    rw [hy2,hy7,hJ]
    exact tup2 rfl rfl
   ·have h:¬ (4294967296≤q2∨4294967296 * r + x < q2 * b):=fun hh => not_or.2 h (hc.2 hh)
    clear hc
    have hQ:=digit_done (v:=x) hYab hq (hD2 ▸ hq2) (by omega) (by omega)
    generalize q2 = Q2 at hQ ⊢
    rw [hQ] at F1
    have hQe:=Nat.div_add_mod' (w * 4294967296 + x) Y
    rw [hQ,← F2] at hQe
    intro y1 hy1 y2 hy2 y3 hy3 y4 hy4 y5 hy5 y6 hy6
    refine ⟨by rw [e1]; exact Int.not_lt.2 (Int.natCast_nonneg s),fun y7 hy7 => ?_⟩
    rw [e1,Int.toNat_natCast,Nat.min_eq_left (Nat.le_of_lt hs3),cP,hy6,hy5,hy4,hy3,← Int.natCast_mul,fin_rem hQe hNm,Int.fdiv_eq_ediv_of_nonneg _ (Int.natCast_nonneg _),← Int.natCast_ediv,Nat.mul_div_cancel _ ps] at hy7
    rw [hy1,fin_quo F1 hNd] at hy2
    rw [hy2,hy7,hJ]
    exact tup2 rfl rfl
 ·cases hc
end Go.Ax
end