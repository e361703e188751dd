/-
  The evaluator as a machine: continuations are data.
-/
import Derived.Test.YtdebekhncimenaaAxS
set_option linter.unusedVariables false
namespace Go.Ax

inductive Fr where
  | seq (c : Code)
  | block (id : Nat)

section
variable (P : Program) (G : Ctx) (H : Hots) (K0 : AEx → St → Prop)

def kOf : List Fr → AEx → St → Prop
  | [] => K0
  | .seq c :: st => seqK (kOf st) fun s' => awp P G H c s' (kOf st)
  | .block id :: st => blockK id (kOf st)

def goC (c : Code) (st : List Fr) (s : St) : Prop := awp P G H c s (kOf P G H K0 st)
def retC (e : AEx) (st : List Fr) (s : St) : Prop := kOf P G H K0 st e s
/-- In a region: the operations that are left; the number of the next one; the state; the key of the region's first one. -/
def regC (hot : Option Hot) (ops : Array Oper) (rest : List Oper) (i : Nat) (st : List Fr) (t : Slots) (m : Mem) (nx : Nat) : Prop :=
  regP P G hot ops nx rest i ⟨t, m, nx⟩ fun s' => kOf P G H K0 st .normal { s' with nx := s'.nx + ops.size }
/-- An operation has been met: what came of it. -/
def stepC (hot : Option Hot) (ops : Array Oper) (dst : Option Tmp) (rest : List Oper) (i : Nat) (st : List Fr) (t : Slots) (m : Mem) (nx : Nat) (x : Option Eff) : Prop :=
  optK x fun e => boolK (rootOK hot nx i t e.u) (conj e.ob (regC P G H K0 hot ops rest (i + 1) st (putSlot dst e.val t) (e.u.app (nx + i) m) nx))
def rootC (hot : Option Hot) (ops : Array Oper) (rest : List Oper) (i : Nat) (st : List Fr) (nx : Nat) (ob : List Prop) (t : Slots) (m : Mem) (b : Bool) : Prop :=
  boolK b (conj ob (regC P G H K0 hot ops rest (i + 1) st t m nx))
def condC (b : Option Bool) (x y : Code) (st : List Fr) (s : St) : Prop := optK b fun b => (b = true → goC P G H K0 x st s) ∧ (b = false → goC P G H K0 y st s)
def exitC (j : Nat) (st : List Fr) (s : St) (b : Bool) : Prop := match b with
  | true => retC P G H K0 .normal st s
  | false => retC P G H K0 (.exit j) st s
def loopC (c : Code) (st : List Fr) (s : St) : Prop := loopP (awp P G H c) (writes c) s (kOf P G H K0 st)

variable {P G H K0} {st : List Fr} {s : St} {hot : Option Hot} {ops : Array Oper} {rest : List Oper} {i : Nat} {t : Slots} {m : Mem} {nx : Nat}

theorem goC_seq {a b : Code} : goC P G H K0 (.seq a b) st s = goC P G H K0 a (.seq b :: st) s := (rfl)
theorem goC_block {id : Nat} {c : Code} : goC P G H K0 (.block id c) st s = goC P G H K0 c (.block id :: st) s := (rfl)
theorem goC_skip : goC P G H K0 .skip st s = retC P G H K0 .normal st s := (rfl)
theorem goC_ret : goC P G H K0 .ret st s = retC P G H K0 .ret st s := (rfl)
theorem goC_exit {j : Nat} : goC P G H K0 (.exit j) st s = retC P G H K0 (.exit j) st s := (rfl)
theorem goC_cond {c : Operand} {x y : Code} : goC P G H K0 (.cond c x y) st s = condC P G H K0 (boolOf (opd s.t c)) x y st s := (rfl)
theorem goC_loop {c : Code} : goC P G H K0 (.loop c) st s = loopC P G H K0 c st s := (rfl)
theorem retC_nseq {c : Code} : retC P G H K0 .normal (.seq c :: st) s = goC P G H K0 c st s := (rfl)
theorem retC_rseq {c : Code} : retC P G H K0 .ret (.seq c :: st) s = retC P G H K0 .ret st s := (rfl)
theorem retC_eseq {j : Nat} {c : Code} : retC P G H K0 (.exit j) (.seq c :: st) s = retC P G H K0 (.exit j) st s := (rfl)
theorem retC_nblock {id : Nat} : retC P G H K0 .normal (.block id :: st) s = retC P G H K0 .normal st s := (rfl)
theorem retC_rblock {id : Nat} : retC P G H K0 .ret (.block id :: st) s = retC P G H K0 .ret st s := (rfl)
theorem retC_eblock {j id : Nat} : retC P G H K0 (.exit j) (.block id :: st) s = exitC P G H K0 j st s (decide (j = id)) := by
  show (if j = id then kOf P G H K0 st .normal s else kOf P G H K0 st (.exit j) s) = _
  unfold exitC retC
  by_cases h : j = id <;> simp [h]
theorem exitC_true {j : Nat} : exitC P G H K0 j st s true = retC P G H K0 .normal st s := (rfl)
theorem exitC_false {j : Nat} : exitC P G H K0 j st s false = retC P G H K0 (.exit j) st s := (rfl)
theorem retC_nil {e : AEx} : retC P G H K0 e [] s = K0 e s := (rfl)
theorem condC_some {b : Bool} {x y : Code} : condC P G H K0 (some b) x y st s = ((b = true → goC P G H K0 x st s) ∧ (b = false → goC P G H K0 y st s)) := (rfl)
theorem goC_region {id : Nat} {draw : Bool} : goC P G H K0 (.region id ops draw) st ⟨t, m, nx⟩ = regC P G H K0 (hotOf H id draw) ops ops.toList 0 st t m nx := by
  show regP P G _ ops nx ops.toList 0 _ _ = _
  unfold regC
  have key : ∀ (rest : List Oper) (i : Nat) (s : St), s.nx = nx → ∀ K1 K2 : St → Prop, (∀ s', s'.nx = nx → K1 s' = K2 s') → regP P G (hotOf H id draw) ops nx rest i s K1 = regP P G (hotOf H id draw) ops nx rest i s K2 := by
    intro rest
    induction rest with
    | nil => intro i s hs K1 K2 h; exact h s hs
    | cons o rest ih =>
      intro i s hs K1 K2 h
      simp only [regP, optK, boolK]
      cases stepE P G ops (nx + i) o s.t (memFor (hotOf H id draw) nx i o s.t s.m) with
      | none => rfl
      | some e =>
        dsimp only
        rw [ih (i + 1) _ (by exact hs) K1 K2 h]
  exact key _ _ _ rfl _ _ fun s' hs' => by show kOf P G H K0 st .normal _ = kOf P G H K0 st .normal _; rw [hs']
theorem regC_nil : regC P G H K0 hot ops [] i st t m nx = retC P G H K0 .normal st ⟨t, m, nx + ops.size⟩ := (rfl)
theorem regC_cons {d : Option Tmp} {op : Op} {ty : TypeId} {pos : String} {af : Array Edge} {gd : Option (Nat × Bool)} : regC P G H K0 hot ops (⟨d, op, ty, pos, af, gd⟩ :: rest) i st t m nx =
    stepC P G H K0 hot ops d rest i st t m nx (stepE P G ops (nx + i) ⟨d, op, ty, pos, af, gd⟩ t (memFor hot nx i ⟨d, op, ty, pos, af, gd⟩ t m)) := rfl
theorem stepC_some {d : Option Tmp} {ob : List Prop} {v : AV} {u : Upd} : stepC P G H K0 hot ops d rest i st t m nx (some ⟨ob, v, u⟩) =
    rootC P G H K0 hot ops rest i st nx ob (putSlot d v t) (u.app (nx + i) m) (rootOK hot nx i t u) := rfl
theorem rootC_true {ob : List Prop} : rootC P G H K0 hot ops rest i st nx ob t m true = conj ob (regC P G H K0 hot ops rest (i + 1) st t m nx) := (rfl)

/-- A function's body, by a continuation of which is known only what it owes. -/
theorem fnVC_of {fn : Func} {c : Code} {l : List AV} {K : AV → Prop} (hb : fn.body = some c) (h : ∀ K0 : AEx → St → Prop, (∀ s, endK P fn K .normal s → K0 .normal s) → (∀ s, endK P fn K .ret s → K0 .ret s) → goC P G H K0 c [] ⟨argSlots 0 l, [], 0⟩) : fnVC P G H fn l K := by
  unfold fnVC
  rw [hb]
  exact h (endK P fn K) (fun _ h => h) (fun _ h => h)

/-- A loop: the round, by a continuation of which is known only what it owes. -/
theorem loopC_of {X : Type} (I : Inv X) {c : Code} (W : List Nat) (hW : writes c = W) (x0 : X) (h0 : I.ok x0) (hf : fits I W s x0 s)
    (hr : ∀ x, I.ok x → ∀ K1 : AEx → St → Prop, (∀ s', (∃ y, I.ok y ∧ I.μ y < I.μ x ∧ fits I W s y s') → K1 .normal s') → (∀ s', retC P G H K0 .ret st s' → K1 .ret s') → (∀ j s', retC P G H K0 (.exit j) st s' → K1 (.exit j) s') →
      goC P G H K1 c [] (headSt I W s x)) : loopC P G H K0 c st s :=
  by subst hW; exact loopI I x0 h0 hf fun x hx => hr x hx _ (fun _ h => h) (fun _ h => h) (fun _ _ h => h)

end
end Go.Ax
