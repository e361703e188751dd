/-
  The evaluator's equations, so said that a simplifier looks at what decides first.
-/
import Derived.Test.YtdebekhncimenaaAxT
set_option linter.unusedVariables false
namespace Go.Ax
section
variable {P : Program} {G : Ctx} {H : Hots} {c : Code} {s s' : St} {K : AEx → St → Prop} {K1 : St → Prop} {hot : Option Hot} {ops : Array Oper} {base : Nat} {rest : List Oper} {i i' : Nat} {key key' : Nat} {o : Oper} {t t' : Slots} {m m' : Mem}

/-! ### Choices -/

/-- A mark: look into this. -/
def mark {α : Sort _} (x : α) : α := x
theorem mark_eq {α : Sort _} {x : α} : mark x = x := Eq.trans (Eq.refl (mark x)) (Eq.refl x)

def optB {α β : Type} (x : Option α) (k : α → β) (d : Unit → β) : β := match x with
  | some a => k a
  | none => d ()
theorem optB_c {α β : Type} {x y : Option α} {k : α → β} {d : Unit → β} (h : mark x = y) : optB x k d = optB y k d := by simp only [mark] at *; subst_vars; rfl
theorem optB_some {α β : Type} {a : α} {k : α → β} {d : Unit → β} : optB (some a) k d = k a := rfl
theorem optB_none {α β : Type} {k : α → β} {d : Unit → β} : optB none k d = d () := rfl

def ifB {β : Type} (b : Bool) (x y : Unit → β) : β := match b with
  | true => x ()
  | false => y ()
theorem ifB_c {β : Type} {b b' : Bool} {x y : Unit → β} (h : mark b = b') : ifB b x y = ifB b' x y := by simp only [mark] at *; subst_vars; rfl
theorem ifB_true {β : Type} {x y : Unit → β} : ifB true x y = x () := rfl
theorem ifB_false {β : Type} {x y : Unit → β} : ifB false x y = y () := rfl

def ifP {β : Type} (p : Prop) [Decidable p] (x y : Unit → β) : β := if p then x () else y ()
theorem ifP_true {β : Type} {p : Prop} [Decidable p] {x y : Unit → β} (h : p) : ifP p x y = x () := if_pos h
theorem ifP_false {β : Type} {p : Prop} [Decidable p] {x y : Unit → β} (h : ¬ p) : ifP p x y = y () := if_neg h

def tupK {β : Type} (a : AV) (k : List AV → β) (d : Unit → β) : β := match a with
  | .tup cs => k cs
  | _ => d ()
theorem tupK_c {β : Type} {a b : AV} {k : List AV → β} {d : Unit → β} (h : mark a = b) : tupK a k d = tupK b k d := by simp only [mark] at *; subst_vars; rfl
theorem tupK_tup {β : Type} {cs : List AV} {k : List AV → β} {d : Unit → β} : tupK (.tup cs) k d = k cs := rfl
def fnK {β : Type} (a : AV) (k : FuncId → List AV → β) (d : Unit → β) : β := match a with
  | .fn f cs => k f cs
  | _ => d ()
theorem fnK_c {β : Type} {a b : AV} {k : FuncId → List AV → β} {d : Unit → β} (h : mark a = b) : fnK a k d = fnK b k d := by simp only [mark] at *; subst_vars; rfl
theorem fnK_fn {β : Type} {f : FuncId} {cs : List AV} {k : FuncId → List AV → β} {d : Unit → β} : fnK (.fn f cs) k d = k f cs := rfl
def ifcK {β : Type} (a : AV) (k : TypeId → AV → β) (d : Unit → β) : β := match a with
  | .iface u y => k u y
  | _ => d ()
theorem ifcK_c {β : Type} {a b : AV} {k : TypeId → AV → β} {d : Unit → β} (h : mark a = b) : ifcK a k d = ifcK b k d := by simp only [mark] at *; subst_vars; rfl
theorem ifcK_iface {β : Type} {u : TypeId} {y : AV} {k : TypeId → AV → β} {d : Unit → β} : ifcK (.iface u y) k d = k u y := rfl
theorem ifcK_v {β : Type} {x : Value} {k : TypeId → AV → β} {d : Unit → β} : ifcK (.v x) k d = d () := rfl
def aggV2 {β : Type} (x y : Option Value) (k : Array Value → Array Value → β) (d : Unit → β) : β := match x, y with
  | some (.agg xs), some (.agg ys) => k xs ys
  | _, _ => d ()
theorem aggV2_c {β : Type} {x x' y y' : Option Value} {k : Array Value → Array Value → β} {d : Unit → β} (h : mark x = x') (h' : mark y = y') : aggV2 x y k d = aggV2 x' y' k d := by simp only [mark] at *; subst_vars; rfl
theorem aggV2_agg {β : Type} {xs ys : Array Value} {k : Array Value → Array Value → β} {d : Unit → β} : aggV2 (some (.agg xs)) (some (.agg ys)) k d = k xs ys := rfl
theorem aggV2_int {β : Type} {a b : IntKind} {x y : Int} {k : Array Value → Array Value → β} {d : Unit → β} : aggV2 (some (.int a x)) (some (.int b y)) k d = d () := rfl
theorem aggV2_bool {β : Type} {x y : Bool} {k : Array Value → Array Value → β} {d : Unit → β} : aggV2 (some (.bool x)) (some (.bool y)) k d = d () := rfl
theorem aggV2_str {β : Type} {x y : ByteArray} {k : Array Value → Array Value → β} {d : Unit → β} : aggV2 (some (.string x)) (some (.string y)) k d = d () := rfl
theorem aggV2_none {β : Type} {y : Option Value} {k : Array Value → Array Value → β} {d : Unit → β} : aggV2 none y k d = d () := by cases y <;> rfl
theorem aggV2_none' {β : Type} {x : Option Value} {k : Array Value → Array Value → β} {d : Unit → β} : aggV2 x none k d = d () := by
  cases x with
  | none => rfl
  | some v => cases v <;> rfl
def valK {β : Type} (x : Option Next) (k : Value → β) (d : Unit → β) : β := match x with
  | some (.value v) => k v
  | _ => d ()
theorem valK_c {β : Type} {x y : Option Next} {k : Value → β} {d : Unit → β} (h : mark x = y) : valK x k d = valK y k d := by simp only [mark] at *; subst_vars; rfl
theorem valK_v {β : Type} {v : Value} {k : Value → β} {d : Unit → β} : valK (some (.value v)) k d = k v := rfl

theorem optK_c {α : Type} {x y : Option α} {k : α → Prop} (h : mark x = y) : optK x k = optK y k := by simp only [mark] at *; subst_vars; rfl
theorem boolK_c {b b' : Bool} {k : Prop} (h : mark b = b') : boolK b k = boolK b' k := by simp only [mark] at *; subst_vars; rfl
theorem optK_some {α : Type} {e : α} {k : α → Prop} : optK (some e) k = k e := rfl
theorem optK_none {α : Type} {k : α → Prop} : optK none k = False := rfl
theorem boolK_true {k : Prop} : boolK true k = k := rfl
theorem boolK_false {k : Prop} : boolK false k = False := rfl

theorem awp_c (h : mark s = s') : awp P G H c s K = awp P G H c s' K := by simp only [mark] at *; subst_vars; rfl
theorem loopP_c {b : St → (AEx → St → Prop) → Prop} {W : List Nat} (h : mark s = s') : loopP b W s K = loopP b W s' K := by simp only [mark] at *; subst_vars; rfl
theorem regP_c (hi : mark i = i') (h : mark s = s') : regP P G hot ops base rest i s K1 = regP P G hot ops base rest i' s' K1 := by simp only [mark] at *; subst_vars; rfl
theorem stepE_c (hk : mark key = key') (ht : mark t = t') (hm : mark m = m') : stepE P G ops key o t m = stepE P G ops key' o t' m' := by simp only [mark] at *; subst_vars; rfl
theorem aStep_c {g : Option Bool} {ρ : Operand → AV} (hm : mark m = m') : aStep P G key g o ρ m = aStep P G key g o ρ m' := by simp only [mark] at *; subst_vars; rfl
theorem owed_eq {d : Option Tmp} {op : Op} {ty : TypeId} {pos : String} {af : Array Edge} {gd : Option (Nat × Bool)} {ρ : Operand → AV} : owed ⟨d, op, ty, pos, af, gd⟩ ρ = ifB (isPick op) (fun _ => []) (fun _ => needs (op.operands.toList.map ρ)) := by
  unfold owed ifB
  dsimp only
  cases isPick op <;> rfl
theorem restr_c {h : Hot} (ht : mark t = t') (hm : mark m = m') (hi : mark i = i') : restr h base i o t m = restr h base i' o t' m' := by simp only [mark] at *; subst_vars; rfl
theorem memFor_c (ht : mark t = t') (hm : mark m = m') (hi : mark i = i') : memFor hot base i o t m = memFor hot base i' o t' m' := by simp only [mark] at *; subst_vars; rfl

/-! ### A region's steps -/

theorem stepE_free1 {d : Option Tmp} {op : Op} {ty : TypeId} {pos : String} {af : Array Edge} : stepE P G ops key ⟨d, op, ty, pos, af, none⟩ t m =
    optB (aStep P G key none ⟨d, op, ty, pos, af, none⟩ (opd t) m) (fun e => some ⟨owed ⟨d, op, ty, pos, af, none⟩ (opd t) ++ e.ob, e.val, e.u⟩) (fun _ => none) := by
  kernel_rfl
theorem stepE_guard1 {d : Option Tmp} {op : Op} {ty : TypeId} {pos : String} {af : Array Edge} {g : Nat × Bool} : stepE P G ops key ⟨d, op, ty, pos, af, some g⟩ t m =
    optB (guardOf ops (slot t) g) (fun b => optB (aStep P G key (some b) ⟨d, op, ty, pos, af, some g⟩ (opd t) m) (fun e => ifB e.u.mild (fun _ => some ⟨(owed ⟨d, op, ty, pos, af, some g⟩ (opd t) ++ e.ob).map (b = true → ·), .cond b e.val, e.u⟩) (fun _ => none)) (fun _ => none)) (fun _ => none) := by
  kernel_rfl

section
variable {d : Option Tmp} {ty : TypeId} {pos : String} {af : Array Edge} {gd : Option (Nat × Bool)} {g : Option Bool} {ρ0 : Operand → AV}

theorem aStep_move {x : Operand} : aStep P G key g ⟨d, .move x, ty, pos, af, gd⟩ ρ0 m = some ⟨[], strip (ρ0 x), .none⟩ := (rfl)
theorem aStep_assign {x : Operand} : aStep P G key g ⟨d, .assign x, ty, pos, af, gd⟩ ρ0 m = some ⟨[], strip (ρ0 x), .none⟩ := (rfl)
theorem aStep_pick {c a b : Operand} : aStep P G key g ⟨d, .pick c a b, ty, pos, af, gd⟩ ρ0 m = effOf2 (aPick ρ0 c a b) := rfl
theorem aPick_or {c y : Operand} : aPick ρ0 c (.const (.bool true)) y = optB (boolOf (strip (ρ0 c))) (fun t => optB (boolOf (strip (ρ0 y))) (fun q => some (needs [ρ0 c] ++ (needs [ρ0 y]).map (t = false → ·), .v (.bool (t || q)))) (fun _ => none)) (fun _ => none) := by
  kernel_rfl
theorem aPick_and {c : Operand} {j : Nat} : aPick ρ0 c (.tmp j) (.const (.bool false)) = optB (boolOf (strip (ρ0 c))) (fun t => optB (boolOf (strip (ρ0 (.tmp j)))) (fun q => some (needs [ρ0 c] ++ (needs [ρ0 (.tmp j)]).map (t = true → ·), .v (.bool (t && q)))) (fun _ => none)) (fun _ => none) := by
  kernel_rfl
theorem aStep_alloc {t : TypeId} : aStep P G key g ⟨d, .alloc t, ty, pos, af, gd⟩ ρ0 m = optB (zeroT P t) (fun z => some (aAlloc key t (z.cells.toList.map .v) g)) (fun _ => none) := by
  kernel_rfl
theorem aStep_box {t : TypeId} {x : Operand} : aStep P G key g ⟨d, .box t x, ty, pos, af, gd⟩ ρ0 m = optB (cellsOf (strip (ρ0 x))) (fun cs => some (aAlloc key t cs g)) (fun _ => none) := by
  kernel_rfl
theorem aStep_load {t : TypeId} {p : Operand} : aStep P G key g ⟨d, .load t p, ty, pos, af, gd⟩ ρ0 m = effOf2 (aLoad P t (strip (ρ0 p)) m) := rfl
theorem aLoad_bx {t : TypeId} {r k : Nat} : aLoad P t (.bx r k) m = optB (look m r) (fun fam => ifB (decide ((fam 0).n = 1)) (fun _ => optB (ofCells P t (((fam 0).get 0).drop k)) (fun a => some (gOb (fam 0).g [], a)) (fun _ => none)) (fun _ => none)) (fun _ => none) := by
  unfold aLoad optB ifB
  dsimp only
  cases look m r with
  | none => rfl
  | some fam =>
    dsimp only
    generalize (fam 0).n = q
    rcases q with _ | _ | q
    · rfl
    · kernel_rfl
    · rfl
theorem aLoad_ptr {t : TypeId} {r f i sz k : Nat} : aLoad P t (.ptr r f i sz k) m = optB (look m r) (fun fam => optB (ofCells P t (((fam f).get i).drop k)) (fun a => some ((i < (fam f).n) :: (sz = (fam f).sz) :: gOb (fam f).g [], a)) (fun _ => none)) (fun _ => none) := by
  kernel_rfl
theorem aLoad_rop {t : TypeId} {cs : List AV} : aLoad P t (.rop cs) m = optB (ofCells P t cs) (fun a => some ([], a)) (fun _ => none) := by
  kernel_rfl
theorem aStep_store {t : TypeId} {p x : Operand} : aStep P G key g ⟨d, .store t p x, ty, pos, af, gd⟩ ρ0 m = aStore P t (strip (ρ0 p)) (strip (ρ0 x)) m := rfl
theorem aStore_bx {t : TypeId} {r k : Nat} {x : AV} : aStore P t (.bx r k) x m = optB (cellsOf x) (fun cs => ifP ((layT P t).map (·.2) = some cs.length) (fun _ => optB (look m r) (fun fam => ifB (decide ((fam 0).n = 1)) (fun _ => ifP (k + cs.length ≤ (fam 0).sz) (fun _ => some ⟨gOb (fam 0).g [], .v undef, .set r (set1 fam k cs)⟩) (fun _ => none)) (fun _ => none)) (fun _ => none)) (fun _ => none)) (fun _ => none) := by
  unfold aStore optB ifB ifP
  cases cellsOf x with
  | none => rfl
  | some cs =>
    dsimp only
    split
    · cases look m r with
      | none => rfl
      | some fam =>
        dsimp only
        by_cases h : (fam 0).n = 1
        · simp [h]
        · simp [h]
    · rfl
theorem aStore_ptr {t : TypeId} {r f i sz k : Nat} {x : AV} : aStore P t (.ptr r f i sz k) x m = optB (cellsOf x) (fun cs => ifP ((layT P t).map (·.2) = some cs.length) (fun _ => optB (look m r) (fun fam => ifP (k + cs.length ≤ sz) (fun _ => some ⟨(i < (fam f).n) :: (sz = (fam f).sz) :: gOb (fam f).g [], .v undef, .set r (updAt fam f i k cs)⟩) (fun _ => none)) (fun _ => none)) (fun _ => none)) (fun _ => none) := by
  kernel_rfl
theorem aStep_build {t : TypeId} {parts : Array (Nat × Operand)} : aStep P G key g ⟨d, .build t parts, ty, pos, af, gd⟩ ρ0 m = optB (zeroT P t) (fun z => optB (bPlaces P t) (fun pl => optB (fillA (fun i => pl[i]?) (z.cells.toList.map .v) (parts.toList.map fun q => (q.1, strip (ρ0 q.2)))) (fun cs => some ⟨[], .agg cs, .none⟩) (fun _ => none)) (fun _ => none)) (fun _ => none) := by
  show effOf (aBuild P _ t parts.toList) = _
  unfold aBuild optB effOf
  cases zeroT P t with
  | none => rfl
  | some z =>
    dsimp only
    cases bPlaces P t with
    | none => rfl
    | some pl =>
      dsimp only
      cases fillA (fun i => pl[i]?) (z.cells.toList.map .v) (parts.toList.map fun q => (q.1, strip (ρ0 q.2))) <;> rfl
theorem fillA_nil {place : Nat → Option (Nat × Nat)} {cells : List AV} : fillA place cells [] = some cells := rfl
theorem fillA_cons {place : Nat → Option (Nat × Nat)} {cells : List AV} {i : Nat} {a : AV} {rest : List (Nat × AV)} : fillA place cells ((i, a) :: rest) =
    optB (place i) (fun os => optB (cellsOf a) (fun cs => ifP (cs.length = os.2 ∧ os.1 + cs.length ≤ cells.length) (fun _ => fillA place (putCells cells os.1 cs) rest) (fun _ => none)) (fun _ => none)) (fun _ => none) := by
  rw [fillA]
  unfold optB ifP
  cases place i <;> kernel_rfl
theorem fillA_c {place : Nat → Option (Nat × Nat)} {cells cells' : List AV} {l l' : List (Nat × AV)} (h : mark cells = cells') (h' : mark l = l') : fillA place cells l = fillA place cells' l' := by simp only [mark] at *; subst_vars; rfl
theorem aStep_buildSlice {t : TypeId} {len : Nat} {parts : Array (Nat × Operand)} : aStep P G key g ⟨d, .buildSlice t len parts, ty, pos, af, gd⟩ ρ0 m =
    optB (sElem P t) (fun e => optB (zeroT P e) (fun z => ifP (len * sizeT P e ≤ 16777216 ∧ z.cells.size = sizeT P e) (fun _ => optB (fillA (fun i => some (i * sizeT P e, sizeT P e)) (zeros z len) (parts.toList.map fun q => (q.1, strip (ρ0 q.2))))
      (fun cs => some ⟨[], .own key 0 len (sizeT P e), .new (fun f => if f = 0 then ⟨len, sizeT P e, e, rowsOf (sizeT P e) cs, g⟩ else ⟨0, sizeT P e, e, fun _ => [], g⟩)⟩) (fun _ => none)) (fun _ => none)) (fun _ => none)) (fun _ => none) := by
  kernel_rfl
def addrOff (off : Nat) : AV → Option AV
  | .bx r k => some (.bx r (k + off))
  | .ptr r g i sz k => some (.ptr r g i sz (k + off))
  | .rop cs => some (.rop (cs.drop off))
  | _ => none
theorem aStep_fieldAddr {s : TypeId} {p : Operand} {f : Nat} : aStep P G key g ⟨d, .fieldAddr s p f, ty, pos, af, gd⟩ ρ0 m = optB (fOff P s f) (fun off => effOf (addrOff off (strip (ρ0 p)))) (fun _ => none) := by
  show effOf (aFieldAddr P s f _) = _
  unfold aFieldAddr optB
  cases fOff P s f with
  | none => rfl
  | some off => dsimp only; cases strip (ρ0 p) <;> rfl
theorem aStep_field {s : TypeId} {x : Operand} {f : Nat} : aStep P G key g ⟨d, .field s x f, ty, pos, af, gd⟩ ρ0 m = effOf (aField P s f (strip (ρ0 x))) := rfl
theorem aField_agg {s : TypeId} {f : Nat} {cs : List AV} : aField P s f (.agg cs) = optB (fOff P s f) (fun off => optB (fTy P s f) (fun t => ofCells P t (cs.drop off)) (fun _ => none)) (fun _ => none) := by
  kernel_rfl
theorem aStep_indexAddr {t : TypeId} {x i : Operand} : aStep P G key g ⟨d, .indexAddr t x i, ty, pos, af, gd⟩ ρ0 m = effOf2 (aIndexAddr P t (strip (ρ0 x)) (strip (ρ0 i))) := rfl
theorem aIndexAddr_ro {t : TypeId} {len sz : Nat} {get : Nat → List AV} {k : IntKind} {n : Int} : aIndexAddr P t (.ro len sz get) (.v (.int k n)) = optB (sElem P t) (fun e => ifP ((P.info? e).isSome = true ∧ sizeT P e = sz) (fun _ => some ([0 ≤ n, n < (len : Int)], .rop (get n.toNat))) (fun _ => none)) (fun _ => none) := by
  kernel_rfl
theorem aIndexAddr_own {t : TypeId} {r f len sz : Nat} {k : IntKind} {n : Int} : aIndexAddr P t (.own r f len sz) (.v (.int k n)) = optB (sElem P t) (fun e => ifP ((P.info? e).isSome = true ∧ sizeT P e = sz) (fun _ => some ([0 ≤ n, n < (len : Int)], .ptr r f n.toNat sz 0)) (fun _ => none)) (fun _ => none) := by
  kernel_rfl
theorem aIndexAddr_vw {t : TypeId} {r f lo len sz : Nat} {k : IntKind} {n : Int} : aIndexAddr P t (.vw r f lo len sz) (.v (.int k n)) = optB (sElem P t) (fun e => ifP ((P.info? e).isSome = true ∧ sizeT P e = sz) (fun _ => some ([0 ≤ n, n < (len : Int)], .ptr r f (lo + n.toNat) sz 0)) (fun _ => none)) (fun _ => none) := by
  kernel_rfl
theorem aIndexAddr_bx {t : TypeId} {r q : Nat} {k : IntKind} {n : Int} : aIndexAddr P t (.bx r q) (.v (.int k n)) = optB (aElem P t) (fun le => ifP ((P.info? le.2).isSome = true) (fun _ => some ([0 ≤ n, n < (le.1 : Int)], .bx r (q + n.toNat * sizeT P le.2))) (fun _ => none)) (fun _ => none) := by
  kernel_rfl
theorem aIndexAddr_rop {t : TypeId} {cs : List AV} {k : IntKind} {n : Int} : aIndexAddr P t (.rop cs) (.v (.int k n)) = optB (aElem P t) (fun le => ifP ((P.info? le.2).isSome = true) (fun _ => some ([0 ≤ n, n < (le.1 : Int)], .rop (cs.drop (n.toNat * sizeT P le.2)))) (fun _ => none)) (fun _ => none) := by
  kernel_rfl
theorem aStep_makeFunc {f : FuncId} {cap : Array Operand} : aStep P G key g ⟨d, .makeFunc (.func f) #[] cap, ty, pos, af, gd⟩ ρ0 m = some ⟨[], .fn f (cap.toList.map fun x => strip (ρ0 x)), .none⟩ := rfl
theorem aStep_makeInterface {t : TypeId} {x : Operand} : aStep P G key g ⟨d, .makeInterface t x, ty, pos, af, gd⟩ ρ0 m = ifB (concreteT P t) (fun _ => some ⟨[], .iface t (strip (ρ0 x)), .none⟩) (fun _ => none) := by
  kernel_rfl
theorem aStep_extract {x : Operand} {i : Nat} : aStep P G key g ⟨d, .extract x i, ty, pos, af, gd⟩ ρ0 m = tupK (strip (ρ0 x)) (fun cs => effOf cs[i]?) (fun _ => effOf (aPure P (fun x => strip (ρ0 x)) ⟨d, .extract x i, ty, pos, af, gd⟩)) := by
  kernel_rfl
theorem aStep_nilCheck {x : Operand} : aStep P G key g ⟨d, .nilCheck x, ty, pos, af, gd⟩ ρ0 m = ifB (nonNil (strip (ρ0 x))) (fun _ => some ⟨[], strip (ρ0 x), .none⟩) (fun _ => effOf (aPure P (fun x => strip (ρ0 x)) ⟨d, .nilCheck x, ty, pos, af, gd⟩)) := by
  kernel_rfl
theorem aStep_assertOk {x : Operand} {it t : TypeId} : aStep P G key g ⟨d, .typeAssert x it t true, ty, pos, af, gd⟩ ρ0 m = ifcK (strip (ρ0 x)) (fun u y => ifB (concreteT P t) (fun _ => ifP (u = t) (fun _ => some ⟨[], .tup [y, .v (.bool true)], .none⟩) (fun _ => optB (zeroT P t) (fun z => some ⟨[], .tup [ofVal1 z, .v (.bool false)], .none⟩) (fun _ => none))) (fun _ => none)) (fun _ => effOf (aPure P (fun x => strip (ρ0 x)) ⟨d, .typeAssert x it t true, ty, pos, af, gd⟩)) := by
  kernel_rfl
theorem aStep_assert {x : Operand} {it t : TypeId} : aStep P G key g ⟨d, .typeAssert x it t false, ty, pos, af, gd⟩ ρ0 m = ifcK (strip (ρ0 x)) (fun u y => ifB (concreteT P t) (fun _ => ifP (u = t) (fun _ => some ⟨[], y, .none⟩) (fun _ => none)) (fun _ => none)) (fun _ => effOf (aPure P (fun x => strip (ρ0 x)) ⟨d, .typeAssert x it t false, ty, pos, af, gd⟩)) := by
  kernel_rfl
theorem aStep_eql {t u : TypeId} {x y : Operand} : aStep P G key g ⟨d, .binOp .eql t x y u, ty, pos, af, gd⟩ ρ0 m = optB (aEq P t (strip (ρ0 x)) (strip (ρ0 y))) (fun b => some ⟨[], .v (.bool b), .none⟩) (fun _ => effOf (aPure P (fun x => strip (ρ0 x)) ⟨d, .binOp .eql t x y u, ty, pos, af, gd⟩)) := by
  kernel_rfl
theorem aStep_neq {t u : TypeId} {x y : Operand} : aStep P G key g ⟨d, .binOp .neq t x y u, ty, pos, af, gd⟩ ρ0 m = optB (aEq P t (strip (ρ0 x)) (strip (ρ0 y))) (fun b => some ⟨[], .v (.bool (!b)), .none⟩) (fun _ => effOf (aPure P (fun x => strip (ρ0 x)) ⟨d, .binOp .neq t x y u, ty, pos, af, gd⟩)) := by
  kernel_rfl
theorem aStep_len {a : Operand} {t : TypeId} : aStep P G key g ⟨d, .call ⟨.builtin .len, #[a], #[t]⟩, ty, pos, af, gd⟩ ρ0 m = optB (lenA (strip (ρ0 a))) (fun n => optB (sElem P t) (fun _ => some ⟨[], .v (.int .i64 n), .none⟩) (fun _ => none)) (fun _ => effOf (aPure P (fun x => strip (ρ0 x)) ⟨d, .call ⟨.builtin .len, #[a], #[t]⟩, ty, pos, af, gd⟩)) := by
  kernel_rfl
theorem aStep_call {f : Operand} {args : Array Operand} {ats : Array TypeId} : aStep P G key g ⟨d, .call ⟨.value f, args, ats⟩, ty, pos, af, gd⟩ ρ0 m = fnK (strip (ρ0 f)) (fun h cap => effOf2 (aCall G h (args.toList.map (fun x => strip (ρ0 x)) ++ cap) m)) (fun _ => none) := by
  kernel_rfl
theorem aCall_eq {f : FuncId} {l : List AV} : aCall G f l m = optB (ctxCall G f) (fun c => ifB (l.all (clean 3)) (fun _ => c l) (fun _ => optB (c (l.map (purU 3 m))) (fun p => ifB (plain 3 p.2) (fun _ => some (l.flatMap (pgs 3 m) ++ p.1, p.2)) (fun _ => none)) (fun _ => none))) (fun _ => none) := by
  kernel_rfl
theorem aCall_c {f : FuncId} {l l' : List AV} (h : mark l = l') (hm : mark m = m') : aCall G f l m = aCall G f l' m' := by simp only [mark] at *; subst_vars; rfl

theorem aPure_eq {ρ : Operand → AV} : aPure P ρ o = ifB (flatAll (o.op.operands.toList.map ρ)) (fun _ => valK (pureRun P (execOp (fun x => (flat (ρ x)).getD undef) o)) (fun v => some (ofVal v)) (fun _ => none)) (fun _ => none) := by
  kernel_rfl
theorem aStep_unOp {op : UnOp} {t : TypeId} {x : Operand} : aStep P G key g ⟨d, .unOp op t x, ty, pos, af, gd⟩ ρ0 m = effOf (aPure P (fun x => strip (ρ0 x)) ⟨d, .unOp op t x, ty, pos, af, gd⟩) := rfl

theorem aStep_add {t u : TypeId} {x y : Operand} : aStep P G key g ⟨d, .binOp .add t x y u, ty, pos, af, gd⟩ ρ0 m = effOf (aPure P (fun x => strip (ρ0 x)) ⟨d, .binOp .add t x y u, ty, pos, af, gd⟩) := rfl
theorem aStep_sub {t u : TypeId} {x y : Operand} : aStep P G key g ⟨d, .binOp .sub t x y u, ty, pos, af, gd⟩ ρ0 m = effOf (aPure P (fun x => strip (ρ0 x)) ⟨d, .binOp .sub t x y u, ty, pos, af, gd⟩) := rfl
theorem aStep_mul {t u : TypeId} {x y : Operand} : aStep P G key g ⟨d, .binOp .mul t x y u, ty, pos, af, gd⟩ ρ0 m = effOf (aPure P (fun x => strip (ρ0 x)) ⟨d, .binOp .mul t x y u, ty, pos, af, gd⟩) := rfl
theorem aStep_quo {t u : TypeId} {x y : Operand} : aStep P G key g ⟨d, .binOp .quo t x y u, ty, pos, af, gd⟩ ρ0 m = effOf (aPure P (fun x => strip (ρ0 x)) ⟨d, .binOp .quo t x y u, ty, pos, af, gd⟩) := rfl
theorem aStep_rem {t u : TypeId} {x y : Operand} : aStep P G key g ⟨d, .binOp .rem t x y u, ty, pos, af, gd⟩ ρ0 m = effOf (aPure P (fun x => strip (ρ0 x)) ⟨d, .binOp .rem t x y u, ty, pos, af, gd⟩) := rfl
theorem aStep_and {t u : TypeId} {x y : Operand} : aStep P G key g ⟨d, .binOp .and t x y u, ty, pos, af, gd⟩ ρ0 m = effOf (aPure P (fun x => strip (ρ0 x)) ⟨d, .binOp .and t x y u, ty, pos, af, gd⟩) := rfl
theorem aStep_or {t u : TypeId} {x y : Operand} : aStep P G key g ⟨d, .binOp .or t x y u, ty, pos, af, gd⟩ ρ0 m = effOf (aPure P (fun x => strip (ρ0 x)) ⟨d, .binOp .or t x y u, ty, pos, af, gd⟩) := rfl
theorem aStep_xor {t u : TypeId} {x y : Operand} : aStep P G key g ⟨d, .binOp .xor t x y u, ty, pos, af, gd⟩ ρ0 m = effOf (aPure P (fun x => strip (ρ0 x)) ⟨d, .binOp .xor t x y u, ty, pos, af, gd⟩) := rfl
theorem aStep_shl {t u : TypeId} {x y : Operand} : aStep P G key g ⟨d, .binOp .shl t x y u, ty, pos, af, gd⟩ ρ0 m = effOf (aPure P (fun x => strip (ρ0 x)) ⟨d, .binOp .shl t x y u, ty, pos, af, gd⟩) := rfl
theorem aStep_shr {t u : TypeId} {x y : Operand} : aStep P G key g ⟨d, .binOp .shr t x y u, ty, pos, af, gd⟩ ρ0 m = effOf (aPure P (fun x => strip (ρ0 x)) ⟨d, .binOp .shr t x y u, ty, pos, af, gd⟩) := rfl
theorem aStep_andNot {t u : TypeId} {x y : Operand} : aStep P G key g ⟨d, .binOp .andNot t x y u, ty, pos, af, gd⟩ ρ0 m = effOf (aPure P (fun x => strip (ρ0 x)) ⟨d, .binOp .andNot t x y u, ty, pos, af, gd⟩) := rfl
theorem aStep_lss {t u : TypeId} {x y : Operand} : aStep P G key g ⟨d, .binOp .lss t x y u, ty, pos, af, gd⟩ ρ0 m = effOf (aPure P (fun x => strip (ρ0 x)) ⟨d, .binOp .lss t x y u, ty, pos, af, gd⟩) := rfl
theorem aStep_leq {t u : TypeId} {x y : Operand} : aStep P G key g ⟨d, .binOp .leq t x y u, ty, pos, af, gd⟩ ρ0 m = effOf (aPure P (fun x => strip (ρ0 x)) ⟨d, .binOp .leq t x y u, ty, pos, af, gd⟩) := rfl
theorem aStep_gtr {t u : TypeId} {x y : Operand} : aStep P G key g ⟨d, .binOp .gtr t x y u, ty, pos, af, gd⟩ ρ0 m = effOf (aPure P (fun x => strip (ρ0 x)) ⟨d, .binOp .gtr t x y u, ty, pos, af, gd⟩) := rfl
theorem aStep_geq {t u : TypeId} {x y : Operand} : aStep P G key g ⟨d, .binOp .geq t x y u, ty, pos, af, gd⟩ ρ0 m = effOf (aPure P (fun x => strip (ρ0 x)) ⟨d, .binOp .geq t x y u, ty, pos, af, gd⟩) := rfl
theorem aStep_min {args : Array Operand} {ats : Array TypeId} : aStep P G key g ⟨d, .call ⟨.builtin .min, args, ats⟩, ty, pos, af, gd⟩ ρ0 m = effOf (aPure P (fun x => strip (ρ0 x)) ⟨d, .call ⟨.builtin .min, args, ats⟩, ty, pos, af, gd⟩) := rfl
theorem aStep_max {args : Array Operand} {ats : Array TypeId} : aStep P G key g ⟨d, .call ⟨.builtin .max, args, ats⟩, ty, pos, af, gd⟩ ρ0 m = effOf (aPure P (fun x => strip (ρ0 x)) ⟨d, .call ⟨.builtin .max, args, ats⟩, ty, pos, af, gd⟩) := rfl
theorem aStep_cap {args : Array Operand} {ats : Array TypeId} : aStep P G key g ⟨d, .call ⟨.builtin .cap, args, ats⟩, ty, pos, af, gd⟩ ρ0 m = effOf (aPure P (fun x => strip (ρ0 x)) ⟨d, .call ⟨.builtin .cap, args, ats⟩, ty, pos, af, gd⟩) := rfl
theorem aStep_convert {a b : TypeId} {x : Operand} : aStep P G key g ⟨d, .convert a b x, ty, pos, af, gd⟩ ρ0 m = effOf (aPure P (fun x => strip (ρ0 x)) ⟨d, .convert a b x, ty, pos, af, gd⟩) := rfl

/-! ### Whole numbers -/

def int2 {β : Type} (a b : AV) (k : Int → Int → β) (d : Unit → β) : β := match a, b with
  | .v (.int _ x), .v (.int _ y) => k x y
  | _, _ => d ()
theorem int2_c {β : Type} {a a' b b' : AV} {k : Int → Int → β} {d : Unit → β} (h : mark a = a') (h' : mark b = b') : int2 a b k d = int2 a' b' k d := by simp only [mark] at *; subst_vars; rfl
theorem int2_int {β : Type} {k1 k2 : IntKind} {x y : Int} {k : Int → Int → β} {d : Unit → β} : int2 (.v (.int k1 x)) (.v (.int k2 y)) k d = k x y := rfl

end
end
end Go.Ax
