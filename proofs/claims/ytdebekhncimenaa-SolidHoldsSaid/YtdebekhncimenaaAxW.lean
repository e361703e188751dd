/-
  Equations of first order: whole numbers, truth values, calls, results.
-/
import Derived.Test.YtdebekhncimenaaAxV
set_option linter.unusedVariables false
set_option linter.unusedSimpArgs false
namespace Go.Ax

section
variable {P : Program} {G : Ctx} {H : Hots} {K0 : AEx → St → Prop} {st : List Fr} {s : St} {hot : Option Hot} {ops : Array Oper} {rest : List Oper} {i j k n sz len key base : Nat} {t : Slots} {m : Mem} {nx : Nat} {d : Option Tmp} {ty : TypeId} {pos : String} {af : Array Edge} {gd : Option (Nat × Bool)} {g : Option Bool} {ρ0 : Operand → AV} {a b : AV} {l : List AV} {cs : List AV} {c c' : IntKind} {x y : Int} {q u : TypeId}

theorem pureRun_under {d : TypeDesc} (h : P.underlying q = some d) : pureRun P (underlying q) = some d := by
  show pureRun P (match P.underlying q with
    | some d => Sem.pure d
    | none => stuck _) = _
  rw [h]; rfl

theorem pureRun_bind {α β : Type} (x : Sem α) (f : α → Sem β) : pureRun P (x.bind f) = match pureRun P x with
    | some a => pureRun P (f a)
    | none => none := by
  induction x with
  | pure a => rfl
  | program k ih => exact ih P
  | _ => rfl

def notEq : BinOp → Bool
  | .eql => false
  | .neq => false
  | _ => true
theorem aStep_binG {op : BinOp} (h : notEq op = true) {x y : Operand} : aStep P G key g ⟨d, .binOp op q x y u, ty, pos, af, gd⟩ ρ0 m = binE P op q (strip (ρ0 x)) (strip (ρ0 y)) := by
  have h0 : aStep P G key g ⟨d, .binOp op q x y u, ty, pos, af, gd⟩ ρ0 m = effOf (aPure P (fun x => strip (ρ0 x)) ⟨d, .binOp op q x y u, ty, pos, af, gd⟩) := by
    cases op <;> first | rfl | simp [notEq] at h
  rw [h0]
  unfold aPure binE
  dsimp only [Op.operands, List.map, flatAll]
  cases hx : flat (strip (ρ0 x)) with
  | none => rfl
  | some vx =>
    cases hy : flat (strip (ρ0 y)) with
    | none => rfl
    | some vy =>
      dsimp only
      have : execOp (fun x => (flat (strip (ρ0 x))).getD undef) ⟨d, .binOp op q x y u, ty, pos, af, gd⟩ = Sem.bind (Go.binOp op q vx vy) fun v => Sem.pure (Next.value v) := by
        show Sem.bind (Sem.bind (eqGuard op q x y ((flat (strip (ρ0 x))).getD undef) ((flat (strip (ρ0 y))).getD undef)) fun _ => Go.binOp op q ((flat (strip (ρ0 x))).getD undef) ((flat (strip (ρ0 y))).getD undef)) (fun v => Sem.pure (Next.value v)) = _
        rw [hx, hy]
        cases op <;> first | rfl | simp [notEq] at h
      rw [this, pureRun_bind]
      cases pureRun P (Go.binOp op q vx vy) <;> rfl
theorem aStep_add2 {x y : Operand} : aStep P G key g ⟨d, .binOp .add q x y u, ty, pos, af, gd⟩ ρ0 m = binE P .add q (strip (ρ0 x)) (strip (ρ0 y)) := aStep_binG rfl
theorem aStep_sub2 {x y : Operand} : aStep P G key g ⟨d, .binOp .sub q x y u, ty, pos, af, gd⟩ ρ0 m = binE P .sub q (strip (ρ0 x)) (strip (ρ0 y)) := aStep_binG rfl
theorem aStep_mul2 {x y : Operand} : aStep P G key g ⟨d, .binOp .mul q x y u, ty, pos, af, gd⟩ ρ0 m = binE P .mul q (strip (ρ0 x)) (strip (ρ0 y)) := aStep_binG rfl
theorem aStep_quo2 {x y : Operand} : aStep P G key g ⟨d, .binOp .quo q x y u, ty, pos, af, gd⟩ ρ0 m = binE P .quo q (strip (ρ0 x)) (strip (ρ0 y)) := aStep_binG rfl
theorem aStep_rem2 {x y : Operand} : aStep P G key g ⟨d, .binOp .rem q x y u, ty, pos, af, gd⟩ ρ0 m = binE P .rem q (strip (ρ0 x)) (strip (ρ0 y)) := aStep_binG rfl
theorem aStep_and2 {x y : Operand} : aStep P G key g ⟨d, .binOp .and q x y u, ty, pos, af, gd⟩ ρ0 m = binE P .and q (strip (ρ0 x)) (strip (ρ0 y)) := aStep_binG rfl
theorem aStep_or2 {x y : Operand} : aStep P G key g ⟨d, .binOp .or q x y u, ty, pos, af, gd⟩ ρ0 m = binE P .or q (strip (ρ0 x)) (strip (ρ0 y)) := aStep_binG rfl
theorem aStep_xor2 {x y : Operand} : aStep P G key g ⟨d, .binOp .xor q x y u, ty, pos, af, gd⟩ ρ0 m = binE P .xor q (strip (ρ0 x)) (strip (ρ0 y)) := aStep_binG rfl
theorem aStep_andNot2 {x y : Operand} : aStep P G key g ⟨d, .binOp .andNot q x y u, ty, pos, af, gd⟩ ρ0 m = binE P .andNot q (strip (ρ0 x)) (strip (ρ0 y)) := aStep_binG rfl
theorem aStep_shl2 {x y : Operand} : aStep P G key g ⟨d, .binOp .shl q x y u, ty, pos, af, gd⟩ ρ0 m = binE P .shl q (strip (ρ0 x)) (strip (ρ0 y)) := aStep_binG rfl
theorem aStep_shr2 {x y : Operand} : aStep P G key g ⟨d, .binOp .shr q x y u, ty, pos, af, gd⟩ ρ0 m = binE P .shr q (strip (ρ0 x)) (strip (ρ0 y)) := aStep_binG rfl
theorem aStep_lss2 {x y : Operand} : aStep P G key g ⟨d, .binOp .lss q x y u, ty, pos, af, gd⟩ ρ0 m = binE P .lss q (strip (ρ0 x)) (strip (ρ0 y)) := aStep_binG rfl
theorem aStep_leq2 {x y : Operand} : aStep P G key g ⟨d, .binOp .leq q x y u, ty, pos, af, gd⟩ ρ0 m = binE P .leq q (strip (ρ0 x)) (strip (ρ0 y)) := aStep_binG rfl
theorem aStep_gtr2 {x y : Operand} : aStep P G key g ⟨d, .binOp .gtr q x y u, ty, pos, af, gd⟩ ρ0 m = binE P .gtr q (strip (ρ0 x)) (strip (ρ0 y)) := aStep_binG rfl
theorem aStep_geq2 {x y : Operand} : aStep P G key g ⟨d, .binOp .geq q x y u, ty, pos, af, gd⟩ ρ0 m = binE P .geq q (strip (ρ0 x)) (strip (ρ0 y)) := aStep_binG rfl

theorem binE_of (op : BinOp) (v : Value) (h : Go.binOp op q (.int c x) (.int c' y) = Sem.pure v) : binE P op q (.v (.int c x)) (.v (.int c' y)) = some ⟨[], ofVal v, .none⟩ := by
  unfold binE
  dsimp only [flat]
  rw [h]
  rfl
theorem binOp_same (op : BinOp) (hs : op ≠ .shl ∧ op ≠ .shr) : Go.binOp op q (.int c x) (.int c y) = match op with
    | .add | .sub | .mul => Op.intArith op c x y
    | .quo | .rem => Op.intDiv op c x y
    | .and | .or | .xor | .andNot => Op.intBits op c x y
    | _ => Op.intCmp op x y := by
  cases op <;> simp [Go.binOp] at hs ⊢
theorem binE_add : binE P .add q (.v (.int c x)) (.v (.int c y)) = some ⟨[], nm c (c.wrap (x + y)), .none⟩ := binE_of .add (.int c (c.wrap (x + y))) (binOp_same .add (by simp))
theorem binE_sub : binE P .sub q (.v (.int c x)) (.v (.int c y)) = some ⟨[], nm c (c.wrap (x - y)), .none⟩ := binE_of .sub (.int c (c.wrap (x - y))) (binOp_same .sub (by simp))
theorem binE_mul : binE P .mul q (.v (.int c x)) (.v (.int c y)) = some ⟨[], nm c (c.wrap (x * y)), .none⟩ := binE_of .mul (.int c (c.wrap (x * y))) (binOp_same .mul (by simp))
theorem binE_none (op : BinOp) (hh : pureRun P (Go.binOp op q (.int c x) (.int c' y)) = none) : binE P op q (.v (.int c x)) (.v (.int c' y)) = none := by
  unfold binE
  dsimp only [flat]
  rw [hh]
theorem binE_quo : binE P .quo q (.v (.int c x)) (.v (.int c y)) = if y = 0 then none else some ⟨[], nm c (c.wrap (x.tdiv y)), .none⟩ := by
  by_cases h : y = 0
  · rw [if_pos h]
    exact binE_none .quo (by rw [binOp_same .quo (by simp)]; simp only [Op.intDiv, if_pos h]; rfl)
  · rw [if_neg h]
    exact binE_of .quo (.int c (c.wrap (x.tdiv y))) (by rw [binOp_same .quo (by simp)]; simp only [Op.intDiv, if_neg h]; rfl)
theorem binE_rem : binE P .rem q (.v (.int c x)) (.v (.int c y)) = if y = 0 then none else some ⟨[], nm c (x.tmod y), .none⟩ := by
  by_cases h : y = 0
  · rw [if_pos h]
    exact binE_none .rem (by rw [binOp_same .rem (by simp)]; simp only [Op.intDiv, if_pos h]; rfl)
  · rw [if_neg h]
    exact binE_of .rem (.int c (x.tmod y)) (by rw [binOp_same .rem (by simp)]; simp only [Op.intDiv, if_neg h]; rfl)
/-- Bits of whole numbers. -/
def andI (c : IntKind) (x y : Int) : Int := c.wrap (BitVec.ofInt c.bits x &&& BitVec.ofInt c.bits y).toNat
def orI (c : IntKind) (x y : Int) : Int := c.wrap (BitVec.ofInt c.bits x ||| BitVec.ofInt c.bits y).toNat
def xorI (c : IntKind) (x y : Int) : Int := c.wrap (BitVec.ofInt c.bits x ^^^ BitVec.ofInt c.bits y).toNat
def andNotI (c : IntKind) (x y : Int) : Int := c.wrap (BitVec.ofInt c.bits x &&& ~~~BitVec.ofInt c.bits y).toNat
theorem binE_and : binE P .and q (.v (.int c x)) (.v (.int c y)) = some ⟨[], nm c (andI c x y), .none⟩ := binE_of .and (.int c (andI c x y)) (binOp_same .and (by simp))
theorem binE_or : binE P .or q (.v (.int c x)) (.v (.int c y)) = some ⟨[], nm c (orI c x y), .none⟩ := binE_of .or (.int c (orI c x y)) (binOp_same .or (by simp))
theorem binE_xor : binE P .xor q (.v (.int c x)) (.v (.int c y)) = some ⟨[], nm c (xorI c x y), .none⟩ := binE_of .xor (.int c (xorI c x y)) (binOp_same .xor (by simp))
theorem binE_andNot : binE P .andNot q (.v (.int c x)) (.v (.int c y)) = some ⟨[], nm c (andNotI c x y), .none⟩ := binE_of .andNot (.int c (andNotI c x y)) (binOp_same .andNot (by simp))
theorem binE_shl : binE P .shl q (.v (.int c x)) (.v (.int c' y)) = if y < 0 then none else some ⟨[], nm c (c.wrap (x * 2 ^ min y.toNat c.bits)), .none⟩ := by
  have e : Go.binOp .shl q (.int c x) (.int c' y) = Op.shift .shl c x c' y := by simp [Go.binOp]
  by_cases h : y < 0
  · rw [if_pos h]
    exact binE_none .shl (by rw [e]; simp only [Op.shift, if_pos h]; rfl)
  · rw [if_neg h]
    exact binE_of .shl (.int c (c.wrap (x * 2 ^ min y.toNat c.bits))) (by rw [e]; simp only [Op.shift, if_neg h]; rfl)
theorem binE_shr : binE P .shr q (.v (.int c x)) (.v (.int c' y)) = if y < 0 then none else some ⟨[], nm c (x.fdiv (2 ^ min y.toNat c.bits)), .none⟩ := by
  have e : Go.binOp .shr q (.int c x) (.int c' y) = Op.shift .shr c x c' y := by simp [Go.binOp]
  by_cases h : y < 0
  · rw [if_pos h]
    exact binE_none .shr (by rw [e]; simp only [Op.shift, if_pos h]; rfl)
  · rw [if_neg h]
    exact binE_of .shr (.int c (x.fdiv (2 ^ min y.toNat c.bits))) (by rw [e]; simp only [Op.shift, if_neg h]; rfl)
theorem binE_lss : binE P .lss q (.v (.int c x)) (.v (.int c y)) = some ⟨[], .v (.bool (decide (x < y))), .none⟩ := binE_of .lss (.bool (decide (x < y))) (binOp_same .lss (by simp))
theorem binE_leq : binE P .leq q (.v (.int c x)) (.v (.int c y)) = some ⟨[], .v (.bool (decide (x ≤ y))), .none⟩ := binE_of .leq (.bool (decide (x ≤ y))) (binOp_same .leq (by simp))
theorem binE_gtr : binE P .gtr q (.v (.int c x)) (.v (.int c y)) = some ⟨[], .v (.bool (decide (y < x))), .none⟩ := binE_of .gtr (.bool (decide (y < x))) (binOp_same .gtr (by simp))
theorem binE_geq : binE P .geq q (.v (.int c x)) (.v (.int c y)) = some ⟨[], .v (.bool (decide (y ≤ x))), .none⟩ := binE_of .geq (.bool (decide (y ≤ x))) (binOp_same .geq (by simp))
theorem bits_i64 : IntKind.bits .i64 = 64 := (rfl)
theorem bits_u64 : IntKind.bits .u64 = 64 := (rfl)
theorem bits_u8 : IntKind.bits .u8 = 8 := (rfl)
theorem bits_u32 : IntKind.bits .u32 = 32 := (rfl)

/-! ### Equality -/
def negV (c : Bool) (b : Bool) : Bool := match c with
  | true => !b
  | false => b
def eqE (P : Program) (neg : Bool) (q : TypeId) (xo yo : Operand) (a b : AV) : Option Eff := match aEq P q a b with
  | some r => some ⟨[], .v (.bool (negV neg r)), .none⟩
  | none => match flat a with
    | some x => match flat b with
      | some y => match pureRun P (Sem.bind (eqGuard (match neg with | true => .neq | false => .eql) q xo yo x y) fun _ => Go.binOp (match neg with | true => .neq | false => .eql) q x y) with
        | some v => some ⟨[], ofVal v, .none⟩
        | none => none
      | none => none
    | none => none
theorem aStep_eqG {x y : Operand} {op : BinOp} {neg : Bool} (hn : op = match neg with | true => .neq | false => .eql) : effOf (aPure P (fun x => strip (ρ0 x)) ⟨d, .binOp op q x y u, ty, pos, af, gd⟩) = match flat (strip (ρ0 x)) with
    | some vx => match flat (strip (ρ0 y)) with
      | some vy => match pureRun P (Sem.bind (eqGuard op q x y vx vy) fun _ => Go.binOp op q vx vy) with
        | some v => some ⟨[], ofVal v, .none⟩
        | none => none
      | none => none
    | none => none := by
  unfold aPure
  dsimp only [Op.operands, List.map, flatAll]
  cases hx : flat (strip (ρ0 x)) with
  | none => rfl
  | some vx =>
    cases hy : flat (strip (ρ0 y)) with
    | none => rfl
    | some vy =>
      dsimp only
      have : execOp (fun x => (flat (strip (ρ0 x))).getD undef) ⟨d, .binOp op q x y u, ty, pos, af, gd⟩ = Sem.bind (Sem.bind (eqGuard op q x y vx vy) fun _ => Go.binOp op q vx vy) fun v => Sem.pure (Next.value v) := by
        show Sem.bind (Sem.bind (eqGuard op q x y ((flat (strip (ρ0 x))).getD undef) ((flat (strip (ρ0 y))).getD undef)) fun _ => Go.binOp op q ((flat (strip (ρ0 x))).getD undef) ((flat (strip (ρ0 y))).getD undef)) (fun v => Sem.pure (Next.value v)) = _
        rw [hx, hy]
        rfl
      rw [this, pureRun_bind]
      cases pureRun P (Sem.bind (eqGuard op q x y vx vy) fun _ => Go.binOp op q vx vy) <;> rfl
theorem aStep_eql2 {x y : Operand} : aStep P G key g ⟨d, .binOp .eql q x y u, ty, pos, af, gd⟩ ρ0 m = eqE P false q x y (strip (ρ0 x)) (strip (ρ0 y)) := by
  rw [aStep_eql]
  unfold optB eqE
  cases aEq P q (strip (ρ0 x)) (strip (ρ0 y)) with
  | some r => rfl
  | none => exact aStep_eqG (neg := false) rfl
theorem aStep_neq2 {x y : Operand} : aStep P G key g ⟨d, .binOp .neq q x y u, ty, pos, af, gd⟩ ρ0 m = eqE P true q x y (strip (ρ0 x)) (strip (ρ0 y)) := by
  rw [aStep_neq]
  unfold optB eqE
  cases aEq P q (strip (ρ0 x)) (strip (ρ0 y)) with
  | some r => rfl
  | none => exact aStep_eqG (neg := true) rfl
theorem aEq_int : aEq P q (.v (.int c x)) b = none := by
  unfold aEq
  show (match eqOkT P q with | true => _ | false => _) = _
  cases eqOkT P q
  · rfl
  · rfl
theorem aEq_bool {r : Bool} : aEq P q (.v (.bool r)) b = none := by
  unfold aEq
  show (match eqOkT P q with | true => _ | false => _) = _
  cases eqOkT P q
  · rfl
  · rfl
theorem eqE_int {xo yo : Operand} : eqE P false q xo yo (.v (.int c x)) (.v (.int c y)) = some ⟨[], .v (.bool (x == y)), .none⟩ := by
  unfold eqE
  rw [aEq_int]
  dsimp only [flat]
  have h : Go.binOp .eql q (.int c x) (.int c y) = Sem.pure (.bool (x == y)) := by rw [binOp_same .eql (by simp)]; rfl
  have : Sem.bind (eqGuard .eql q xo yo (.int c x) (.int c y)) (fun _ => Go.binOp .eql q (.int c x) (.int c y)) = Sem.pure (.bool (x == y)) := by rw [← h]; rfl
  rw [this]
  rfl
theorem neE_int {xo yo : Operand} : eqE P true q xo yo (.v (.int c x)) (.v (.int c y)) = some ⟨[], .v (.bool (x != y)), .none⟩ := by
  unfold eqE
  rw [aEq_int]
  dsimp only [flat]
  have h : Go.binOp .neq q (.int c x) (.int c y) = Sem.pure (.bool (x != y)) := by rw [binOp_same .neq (by simp)]; rfl
  have : Sem.bind (eqGuard .neq q xo yo (.int c x) (.int c y)) (fun _ => Go.binOp .neq q (.int c x) (.int c y)) = Sem.pure (.bool (x != y)) := by rw [← h]; rfl
  rw [this]
  rfl
theorem eqE_agg {xo yo : Operand} {neg r : Bool} (h : aEq P q (.agg l) (.agg cs) = some r) : eqE P neg q xo yo (.agg l) (.agg cs) = some ⟨[], .v (.bool (negV neg r)), .none⟩ := by
  unfold eqE
  rw [h]
theorem eqE_iface {xo yo : Operand} {neg : Bool} {ms : Array (String × TypeId)} (h : P.underlying q = some (.interface ms)) : eqE P neg q xo yo (.iface u a) (.v .nilIface) = some ⟨[], .v (.bool (negV neg false)), .none⟩ := by
  unfold eqE aEq aNil
  dsimp only
  rw [h]
theorem eqE_nilnil {xo : Operand} {v : Value} {neg : Bool} {ms : Array (String × TypeId)} (h : P.underlying q = some (.interface ms)) : eqE P neg q xo (.const v) (.v .nilIface) (.v .nilIface) = some ⟨[], .v (.bool (negV neg true)), .none⟩ := by
  have he : pureRun P (Op.equal q .nilIface .nilIface) = some true := by
    show pureRun P (Op.equalIn (9999 + 1) q .nilIface .nilIface) = _
    unfold Op.equalIn
    show pureRun P (Sem.bind _ _) = _
    rw [pureRun_bind, pureRun_under h]
    rfl
  unfold eqE
  have h0 : aEq P q (.v .nilIface) (.v .nilIface) = none := by
    unfold aEq
    show (match eqOkT P q with | true => _ | false => _) = _
    cases eqOkT P q <;> rfl
  rw [h0]
  dsimp only [flat]
  have hg : ∀ op, eqGuard op q xo (.const v) .nilIface .nilIface = Sem.pure () := fun op => by
    cases op <;> cases xo <;> rfl
  rw [hg]
  cases neg
  · show (match pureRun P (Sem.bind (Op.equal q .nilIface .nilIface) fun b => Sem.pure (Value.bool b)) with | some v => _ | none => _) = _
    rw [pureRun_bind, he]; rfl
  · show (match pureRun P (Sem.bind (Op.equal q .nilIface .nilIface) fun b => Sem.pure (Value.bool (!b))) with | some v => _ | none => _) = _
    rw [pureRun_bind, he]; rfl
theorem negV_true {r : Bool} : negV true r = !r := (rfl)
theorem negV_false {r : Bool} : negV false r = r := (rfl)
/-- Truth values. -/
theorem eqE_bool (hu : P.underlying q = some .bool) {xo yo : Operand} {r s : Bool} : eqE P false q xo yo (.v (.bool r)) (.v (.bool s)) = some ⟨[], .v (.bool (r == s)), .none⟩ := by
  unfold eqE
  rw [aEq_bool]
  dsimp only [flat]
  have : pureRun P (Sem.bind (eqGuard .eql q xo yo (.bool r) (.bool s)) (fun _ => Go.binOp .eql q (.bool r) (.bool s))) = some (.bool (r == s)) := by
    show pureRun P (Sem.bind (Op.equal q (.bool r) (.bool s)) fun b => Sem.pure (Value.bool b)) = _
    rw [pureRun_bind]
    have : pureRun P (Op.equal q (.bool r) (.bool s)) = some (r == s) := by
      show pureRun P (Op.equalIn (9999 + 1) q (.bool r) (.bool s)) = _
      unfold Op.equalIn
      show pureRun P (Sem.bind _ _) = _
      rw [pureRun_bind, pureRun_under hu]
      rfl
    rw [this]; rfl
  rw [this]
  rfl
theorem neE_bool (hu : P.underlying q = some .bool) {xo yo : Operand} {r s : Bool} : eqE P true q xo yo (.v (.bool r)) (.v (.bool s)) = some ⟨[], .v (.bool (!(r == s))), .none⟩ := by
  unfold eqE
  rw [aEq_bool]
  dsimp only [flat]
  have : pureRun P (Sem.bind (eqGuard .neq q xo yo (.bool r) (.bool s)) (fun _ => Go.binOp .neq q (.bool r) (.bool s))) = some (.bool (!(r == s))) := by
    show pureRun P (Sem.bind (Op.equal q (.bool r) (.bool s)) fun b => Sem.pure (Value.bool (!b))) = _
    rw [pureRun_bind]
    have : pureRun P (Op.equal q (.bool r) (.bool s)) = some (r == s) := by
      show pureRun P (Op.equalIn (9999 + 1) q (.bool r) (.bool s)) = _
      unfold Op.equalIn
      show pureRun P (Sem.bind _ _) = _
      rw [pureRun_bind, pureRun_under hu]
      rfl
    rw [this]; rfl
  rw [this]
  rfl

/-! ### One operand -/
def unE (P : Program) (op : UnOp) (a : AV) : Option Eff := match flat a with
  | some x => match pureRun P (Op.unary op x) with
    | some v => some ⟨[], ofVal v, .none⟩
    | none => none
  | none => none
theorem aStep_un2 {op : UnOp} {x : Operand} : aStep P G key g ⟨d, .unOp op q x, ty, pos, af, gd⟩ ρ0 m = unE P op (strip (ρ0 x)) := by
  rw [aStep_unOp]
  unfold aPure unE
  dsimp only [Op.operands, List.map, flatAll]
  cases hx : flat (strip (ρ0 x)) with
  | none => rfl
  | some vx =>
    dsimp only
    have : execOp (fun x => (flat (strip (ρ0 x))).getD undef) ⟨d, .unOp op q x, ty, pos, af, gd⟩ = Sem.bind (Op.unary op vx) fun v => Sem.pure (Next.value v) := by
      show Sem.bind (Op.unary op ((flat (strip (ρ0 x))).getD undef)) (fun v => Sem.pure (Next.value v)) = _
      rw [hx]; rfl
    rw [this, pureRun_bind]
    cases pureRun P (Op.unary op vx) <;> rfl
theorem unE_neg : unE P .neg (.v (.int c x)) = some ⟨[], nm c (c.wrap (0 - x)), .none⟩ := (rfl)
theorem unE_not {r : Bool} : unE P .not (.v (.bool r)) = some ⟨[], .v (.bool (!r)), .none⟩ := (rfl)
theorem unE_xor : unE P .xor (.v (.int c x)) = some ⟨[], nm c (xorI c (if c.signed then -1 else c.max) x), .none⟩ := (rfl)
def convE (P : Program) (q u : TypeId) (a : AV) : Option Eff := match flat a with
  | some x => match pureRun P (Go.convert q u x) with
    | some v => some ⟨[], ofVal v, .none⟩
    | none => none
  | none => none
theorem aStep_conv2 {x : Operand} : aStep P G key g ⟨d, .convert q u x, ty, pos, af, gd⟩ ρ0 m = convE P q u (strip (ρ0 x)) := by
  rw [aStep_convert]
  unfold aPure convE
  dsimp only [Op.operands, List.map, flatAll]
  cases hx : flat (strip (ρ0 x)) with
  | none => rfl
  | some vx =>
    dsimp only
    have : execOp (fun x => (flat (strip (ρ0 x))).getD undef) ⟨d, .convert q u x, ty, pos, af, gd⟩ = Sem.bind (Go.convert q u vx) fun v => Sem.pure (Next.value v) := by
      show Sem.bind (Go.convert q u ((flat (strip (ρ0 x))).getD undef)) (fun v => Sem.pure (Next.value v)) = _
      rw [hx]; rfl
    rw [this, pureRun_bind]
    cases pureRun P (Go.convert q u vx) <;> rfl
theorem convE_int (h1 : (P.underlying q).isSome = true) (h2 : P.underlying u = some (.int c')) : convE P q u (.v (.int c x)) = some ⟨[], nm c' (c'.wrap x), .none⟩ := by
  obtain ⟨dq, hq⟩ := Option.isSome_iff_exists.1 h1
  have : pureRun P (Go.convert q u (.int c x)) = some (.int c' (c'.wrap x)) := by
    unfold Go.convert
    show pureRun P (Sem.bind _ fun _ => Sem.bind _ _) = _
    rw [pureRun_bind]
    have e1 : pureRun P (underlying q) = some dq := pureRun_under hq
    have e2 : pureRun P (underlying u) = some (.int c') := pureRun_under h2
    rw [e1]
    dsimp only
    rw [pureRun_bind, e2]
    rfl
  unfold convE
  dsimp only [flat]
  rw [this]
  rfl

/-! ### Built-in functions -/
def mmE (mx : Bool) (l : List AV) : Option Eff := match intsOf l with
  | some (x :: l) => some ⟨[], .v (.int .i64 (l.foldl (match mx with | true => gmax | false => gmin) x)), .none⟩
  | _ => none
theorem gmax_eq {x y : Int} : gmax x y = max x y := by unfold gmax; omega
theorem gmin_eq {x y : Int} : gmin x y = min x y := by unfold gmin; omega
def mmS (P : Program) (mx : Bool) (o : Oper) (l : List AV) (ρ : Operand → AV) : Option Eff := match intsOf l with
  | some (x :: l) => some ⟨[], .v (.int .i64 (l.foldl (match mx with | true => gmax | false => gmin) x)), .none⟩
  | _ => effOf (aPure P ρ o)
theorem aStep_max2 {args : Array Operand} {ats : Array TypeId} : aStep P G key g ⟨d, .call ⟨.builtin .max, args, ats⟩, ty, pos, af, gd⟩ (opd t) m = mmS P true ⟨d, .call ⟨.builtin .max, args, ats⟩, ty, pos, af, gd⟩ (argsV t args.toList) (fun x => strip (opd t x)) := by
  rw [aStep_max', argsV_eq]
  unfold optB mmS
  cases intsOf (argsV t args.toList) with
  | none => rfl
  | some l => cases l <;> rfl
theorem aStep_min2 {args : Array Operand} {ats : Array TypeId} : aStep P G key g ⟨d, .call ⟨.builtin .min, args, ats⟩, ty, pos, af, gd⟩ (opd t) m = mmS P false ⟨d, .call ⟨.builtin .min, args, ats⟩, ty, pos, af, gd⟩ (argsV t args.toList) (fun x => strip (opd t x)) := by
  rw [aStep_min', argsV_eq]
  unfold optB mmS
  cases intsOf (argsV t args.toList) with
  | none => rfl
  | some l => cases l <;> rfl
theorem mmS_max2 {o : Oper} {ρ : Operand → AV} : mmS P true o [.v (.int .i64 x), .v (.int .i64 y)] ρ = some ⟨[], nm .i64 (max x y), .none⟩ := by
  rw [← gmax_eq]; rfl
theorem mmS_min2 {o : Oper} {ρ : Operand → AV} : mmS P false o [.v (.int .i64 x), .v (.int .i64 y)] ρ = some ⟨[], nm .i64 (min x y), .none⟩ := by
  rw [← gmin_eq]; rfl
theorem mmS_max3 {o : Oper} {ρ : Operand → AV} {z : Int} : mmS P true o [.v (.int .i64 x), .v (.int .i64 y), .v (.int .i64 z)] ρ = some ⟨[], nm .i64 (max (max x y) z), .none⟩ := by
  rw [← gmax_eq, ← gmax_eq]; rfl
theorem mmS_max4 {o : Oper} {ρ : Operand → AV} {z w : Int} : mmS P true o [.v (.int .i64 x), .v (.int .i64 y), .v (.int .i64 z), .v (.int .i64 w)] ρ = some ⟨[], nm .i64 (max (max (max x y) z) w), .none⟩ := by
  rw [← gmax_eq, ← gmax_eq, ← gmax_eq]; rfl
def lenR (n : Nat) (e : Option TypeId) : Option Eff := match e with
  | some _ => some ⟨[], .v (.int .i64 n), .none⟩
  | none => none
theorem lenR_some : lenR n (some q) = some ⟨[], .v (.int .i64 n), .none⟩ := (rfl)
def lenE (P : Program) (o : Oper) (q : TypeId) (a : AV) (ρ : Operand → AV) : Option Eff := match lenA a with
  | some n => lenR n (sElem P q)
  | none => effOf (aPure P ρ o)
theorem aStep_len2 {x : Operand} : aStep P G key g ⟨d, .call ⟨.builtin .len, #[x], #[q]⟩, ty, pos, af, gd⟩ ρ0 m = lenE P ⟨d, .call ⟨.builtin .len, #[x], #[q]⟩, ty, pos, af, gd⟩ q (strip (ρ0 x)) (fun x => strip (ρ0 x)) := by
  rw [aStep_len]
  unfold optB lenE lenR
  cases lenA (strip (ρ0 x)) with
  | none => rfl
  | some n => dsimp only; cases sElem P q <;> rfl
theorem lenE_ro {o : Oper} {ρ : Operand → AV} {f : Nat → List AV} : lenE P o q (.ro n sz f) ρ = lenR n (sElem P q) := (rfl)
theorem lenE_own {o : Oper} {ρ : Operand → AV} {r f : Nat} : lenE P o q (.own r f n sz) ρ = lenR n (sElem P q) := (rfl)
theorem lenE_vw {o : Oper} {ρ : Operand → AV} {r f lo : Nat} : lenE P o q (.vw r f lo n sz) ρ = lenR n (sElem P q) := (rfl)

/-! ### Picks -/
def orE (na : List Prop) (x y : Option Bool) (nb : List Prop) : Option Eff := match x with
  | some t => match y with
    | some q => some ⟨na ++ nb.map (t = false → ·), .v (.bool (t || q)), .none⟩
    | none => none
  | none => none
def andE (na : List Prop) (x y : Option Bool) (nb : List Prop) : Option Eff := match x with
  | some t => match y with
    | some q => some ⟨na ++ nb.map (t = true → ·), .v (.bool (t && q)), .none⟩
    | none => none
  | none => none
theorem orE_some {na nb : List Prop} {r s : Bool} : orE na (some r) (some s) nb = some ⟨na ++ nb.map (r = false → ·), .v (.bool (r || s)), .none⟩ := (rfl)
theorem andE_some {na nb : List Prop} {r s : Bool} : andE na (some r) (some s) nb = some ⟨na ++ nb.map (r = true → ·), .v (.bool (r && s)), .none⟩ := (rfl)
theorem aStep_or3 {xo yo : Operand} : aStep P G key g ⟨d, .pick xo (.const (.bool true)) yo, ty, pos, af, gd⟩ ρ0 m = orE (needs [ρ0 xo]) (boolOf (strip (ρ0 xo))) (boolOf (strip (ρ0 yo))) (needs [ρ0 yo]) := by
  rw [aStep_pick, aPick_or]
  unfold optB orE
  cases boolOf (strip (ρ0 xo)) with
  | none => rfl
  | some r => dsimp only; cases boolOf (strip (ρ0 yo)) <;> rfl
theorem aStep_and3 {xo : Operand} : aStep P G key g ⟨d, .pick xo (.tmp j) (.const (.bool false)), ty, pos, af, gd⟩ ρ0 m = andE (needs [ρ0 xo]) (boolOf (strip (ρ0 xo))) (boolOf (strip (ρ0 (.tmp j)))) (needs [ρ0 (.tmp j)]) := by
  rw [aStep_pick, aPick_and]
  unfold optB andE
  cases boolOf (strip (ρ0 xo)) with
  | none => rfl
  | some r => dsimp only; cases boolOf (strip (ρ0 (.tmp j))) <;> rfl
theorem boolOf_bool {r : Bool} : boolOf (.v (.bool r)) = some r := (rfl)
theorem isPick_pick {xo yo zo : Operand} : isPick (.pick xo yo zo) = true := (rfl)

/-! ### Calls -/
def callY (gs : List Prop) (x : Option (List Prop × AV)) : Option (List Prop × AV) := match x with
  | some (ob, r) => match plain 3 r with
    | true => some (gs ++ ob, r)
    | false => none
  | none => none
def callZ (c : Bool) (ob : List Prop) (r : AV) : Option (List Prop × AV) := match c with
  | true => some (ob, r)
  | false => none
theorem callY_some {gs ob : List Prop} : callY gs (some (ob, a)) = callZ (plain 3 a) (gs ++ ob) a := by
  show (match plain 3 a with
    | true => some (gs ++ ob, a)
    | false => none) = _
  cases plain 3 a <;> rfl
theorem callZ_true {ob : List Prop} : callZ true ob a = some (ob, a) := (rfl)
def callX (c : Bool) (f : Con) (l : List AV) (m : Mem) : Option (List Prop × AV) := match c with
  | true => f l
  | false => callY (l.flatMap (pgs 3 m)) (f (l.map (purU 3 m)))
theorem callX_true {f : Con} : callX true f l m = f l := (rfl)
theorem callX_false {f : Con} : callX false f l m = callY (l.flatMap (pgs 3 m)) (f (l.map (purU 3 m))) := (rfl)
def callD (x : Option Con) (l : List AV) (m : Mem) : Option (List Prop × AV) := match x with
  | some f => callX (l.all (clean 3)) f l m
  | none => none
theorem callD_some {f : Con} : callD (some f) l m = callX (l.all (clean 3)) f l m := (rfl)
def callE (G : Ctx) (m : Mem) (l : List AV) (f : AV) : Option Eff := match f with
  | .fn f cap => bndE (effOf2 (callD (ctxCall G f) (l ++ cap) m))
  | _ => none
theorem callE_fn {f : FuncId} : callE G m l (.fn f cs) = bndE (effOf2 (callD (ctxCall G f) (l ++ cs) m)) := (rfl)
theorem bndE_some {ob : List Prop} {u : Upd} : bndE (some ⟨ob, a, u⟩) = some ⟨ob, bnd a, u⟩ := (rfl)
theorem bndE_eq (x : Option Eff) : bndE x = x := by
  rcases x with _ | ⟨_, _, _⟩ <;> rfl
theorem aCall_D {f : FuncId} : aCall G f l m = callD (ctxCall G f) l m := by
  unfold aCall callD
  cases ctxCall G f with
  | none => rfl
  | some c =>
    dsimp only
    unfold callX
    cases l.all (clean 3) with
    | true => rfl
    | false =>
      dsimp only
      unfold callY
      cases c (l.map (purU 3 m)) with
      | none => rfl
      | some p => rfl
theorem aStep_call2 {f : Operand} {args : Array Operand} {ats : Array TypeId} : aStep P G key g ⟨d, .call ⟨.value f, args, ats⟩, ty, pos, af, gd⟩ (opd t) m = callE G m (argsV t args.toList) (strip (opd t f)) := by
  rw [aStep_call, argsV_eq]
  unfold fnK callE
  cases strip (opd t f) with
  | fn h cap => dsimp only; rw [aCall_D, bndE_eq]
  | _ => rfl
def invF (G : Ctx) (m : Mem) (l : List AV) (f : Option FuncId) : Option Eff := match f with
  | some f => bndE (effOf2 (callD (ctxCall G f) l m))
  | none => none
theorem invF_some {f : FuncId} : invF G m l (some f) = bndE (effOf2 (callD (ctxCall G f) l m)) := (rfl)
def invE (P : Program) (G : Ctx) (m : Mem) (name : String) (l : List AV) (r : AV) : Option Eff := match r with
  | .iface t x => invF G m (x :: l) (methT P t name)
  | .v .nilIface => some ⟨[False], .v (.bool false), .none⟩
  | _ => none
theorem invE_iface {name : String} : invE P G m name l (.iface q a) = invF G m (a :: l) (methT P q name) := (rfl)
theorem invE_nil {name : String} : invE P G m name l (.v .nilIface) = some ⟨[False], .v (.bool false), .none⟩ := (rfl)
theorem aStep_invoke2 {r : Operand} {name : String} {args : Array Operand} {ats : Array TypeId} : aStep P G key g ⟨d, .call ⟨.invoke r name, args, ats⟩, ty, pos, af, gd⟩ (opd t) m = invE P G m name (argsV t args.toList) (strip (opd t r)) := by
  show (match strip (opd t r) with
    | .iface t' x => match methT P t' name with
      | some h => effOf2 (aCall G h (x :: args.toList.map (fun x => strip (opd t x))) m)
      | none => none
    | .v .nilIface => some ⟨[False], .v (.bool false), .none⟩
    | _ => none) = _
  rw [argsV_eq]
  unfold invE invF
  cases strip (opd t r) with
  | iface q x =>
    dsimp only
    cases methT P q name with
    | none => rfl
    | some h => dsimp only; rw [aCall_D, bndE_eq]
  | v x => cases x <;> rfl
  | _ => rfl
theorem ctxCall_eq {f : FuncId} : ctxCall G f = if f < 1000000 then ctxGet G f else none := (rfl)
theorem ctxGet_cons {f h : FuncId} {c : Con} : ctxGet ((f, c) :: G) h = if f = h then some c else ctxGet G h := (rfl)

theorem stepC_ite {p : Prop} [Decidable p] {x : Option Eff} : stepC P G H K0 hot ops d rest i st t m nx (if p then none else x) = (¬ p ∧ stepC P G H K0 hot ops d rest i st t m nx x) := by
  by_cases h : p
  · simp [h, stepC, optK]
  · simp [h]
theorem withOb_ite {p : Prop} [Decidable p] {x : Option Eff} {ob : List Prop} : withOb ob (if p then none else x) = if p then none else withOb ob x := by
  by_cases h : p <;> simp [h, withOb]

end
end Go.Ax
