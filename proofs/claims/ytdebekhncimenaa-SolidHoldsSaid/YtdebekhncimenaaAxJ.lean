/-
  Regions that draw their order: what the text's order comes to, every order comes to.
-/
import Derived.Test.YtdebekhncimenaaAxI
set_option linter.unusedSimpArgs false
set_option linter.unusedVariables false
namespace Go.Ax
open Go.RowKit

/-- 0: touches no rows; 1: looks at rows, or makes new ones; 2: changes rows. -/
def opKind : Op → Nat
  | .load _ _ => 1
  | .alloc _ => 1
  | .box _ _ => 1
  | .buildSlice _ _ _ => 1
  | .makeSlice _ _ _ => 1
  | .call ⟨.builtin .append, _, _⟩ => 3
  | .store _ _ _ => 2
  | .call ⟨.value _, _, _⟩ => 1
  | .call ⟨.invoke _ _, _, _⟩ => 1
  | _ => 0

def rootIn (h : Hot) (i j : Nat) : Bool := match rootOf h.root i with
  | some r => (hideOf h.hide j).contains r
  | none => false
/-- The root's slot is another one. -/
def Root.off (d : Option Tmp) : Root → Bool
  | .slot q => d != some q
  | .made _ => true
def rootsOff (h : Hot) (i : Nat) (d : Option Tmp) : Bool := (hideOf h.hide i).all (Root.off d) && match rootOf h.root i with
  | some r => r.off d
  | none => true

/-- Two operations that may change places. -/
def comm (h : Hot) (ops : Array Oper) (i j : Nat) (x y : Oper) : Bool :=
  x.apart ops y && (opKind x.op == 0 || opKind y.op == 0 || ((opKind x.op == 1 || (opKind x.op == 2 && rootIn h i j)) && (opKind y.op == 1 || (opKind y.op == 2 && rootIn h j i)))) && !(y.after.any fun e => e.on == i && Region.binds .any e) && !(x.after.any fun e => e.on == j && Region.binds .any e) && rootsOff h i y.dst && rootsOff h j x.dst

def maskOf (acc : List Nat) (o : Oper) : Nat := o.after.toList.foldl (fun s e => if Region.binds .any e then s ||| 2 ^ e.on ||| acc.getD e.on 0 else s) 0
def masks : List Oper → List Nat → List Nat
  | [], acc => acc
  | o :: rest, acc => masks rest (acc ++ [maskOf acc o])

def drawOK (h : Hot) (ops : Array Oper) : Bool :=
  let ms := masks ops.toList []
  (List.range ops.size).all fun i => match ops[i]? with
    | some y => (y.after.all fun e => !Region.binds .any e || decide (e.on < i)) && (List.range i).all fun j => (ms.getD i 0).testBit j || match ops[j]? with
      | some x => comm h ops j i x y
      | none => false
    | none => false

section
variable {P : Program} {G : Ctx} {ops : Array Oper} {base : Nat}

theorem masks_prefix : ∀ (l : List Oper) (acc : List Nat) (k : Nat), k < acc.length → (masks l acc).getD k 0 = acc.getD k 0
  | [], acc, k, _ => rfl
  | o :: rest, acc, k, h => by
    simp only [masks]
    rw [masks_prefix rest _ k (by simp; omega)]
    simp [List.getD, List.getElem?_append_left h]

theorem masks_at : ∀ (l : List Oper) (acc : List Nat) (k : Nat) (o : Oper), l[k]? = some o → ∃ pre, (masks l acc).getD (acc.length + k) 0 = maskOf pre o ∧ ∀ q, pre.getD q 0 = (masks l acc).getD q 0 ∨ pre.getD q 0 = 0
  | [], acc, k, o, h => by simp at h
  | o' :: rest, acc, 0, o, h => by
    simp at h; subst h
    refine ⟨acc, ?_, fun q => ?_⟩
    · simp only [masks, Nat.add_zero]
      rw [masks_prefix _ _ _ (by simp)]
      simp [List.getD]
    · by_cases hq : q < acc.length
      · left
        simp only [masks]
        rw [masks_prefix _ _ _ (by simp; omega)]
        simp [List.getD, List.getElem?_append_left hq]
      · right
        simp [List.getD, List.getElem?_eq_none (Nat.le_of_not_lt hq)]
  | o' :: rest, acc, k + 1, o, h => by
    simp at h
    obtain ⟨pre, h1, h2⟩ := masks_at rest (acc ++ [maskOf acc o']) k o h
    refine ⟨pre, ?_, fun q => h2 q⟩
    simp only [masks]
    rw [← h1]
    congr 1
    simp; omega

theorem maskOf_bit {acc : List Nat} {o : Oper} {b : Nat} (h : (maskOf acc o).testBit b = true) : ∃ e ∈ o.after, Region.binds .any e = true ∧ (e.on = b ∨ (acc.getD e.on 0).testBit b = true) := by
  unfold maskOf at h
  have key : ∀ (l : List Edge) (s : Nat), (l.foldl (fun s e => if Region.binds .any e then s ||| 2 ^ e.on ||| acc.getD e.on 0 else s) s).testBit b = true →
      s.testBit b = true ∨ ∃ e ∈ l, Region.binds .any e = true ∧ (e.on = b ∨ (acc.getD e.on 0).testBit b = true) := by
    intro l
    induction l with
    | nil => intro s h; exact .inl h
    | cons e l ih =>
      intro s h
      rw [List.foldl_cons] at h
      rcases ih _ h with h | ⟨e', he', h'⟩
      · split at h
        · rename_i hb
          rw [Nat.testBit_or, Nat.testBit_or, Bool.or_eq_true, Bool.or_eq_true] at h
          rcases h with (h | h) | h
          · exact .inl h
          · refine .inr ⟨e, by simp, hb, .inl ?_⟩
            simpa [Nat.testBit_two_pow] using h
          · exact .inr ⟨e, by simp, hb, .inr h⟩
        · exact .inl h
      · exact .inr ⟨e', by simp [he'], h'⟩
  rcases key _ _ h with h | ⟨e, he, h⟩
  · simp at h
  · exact ⟨e, by simpa using he, h⟩

theorem mask_bit {i b : Nat} {o : Oper} (ho : ops[i]? = some o) (h : ((masks ops.toList []).getD i 0).testBit b = true) :
    ∃ e ∈ o.after, Region.binds .any e = true ∧ (e.on = b ∨ ((masks ops.toList []).getD e.on 0).testBit b = true) := by
  obtain ⟨pre, h1, h2⟩ := masks_at ops.toList [] i o (by simpa using ho)
  simp only [List.length_nil, Nat.zero_add] at h1
  rw [h1] at h
  obtain ⟨e, he, hb, h3⟩ := maskOf_bit h
  refine ⟨e, he, hb, h3.imp id fun h => ?_⟩
  rcases h2 e.on with e1 | e1
  · rw [← e1]; exact h
  · rw [e1] at h; simp at h

/-! ### What an operation's outcome hangs on -/

theorem aPure_congr {o : Oper} {ρ ρ' : Operand → AV} (h : ∀ x ∈ o.op.operands, ρ x = ρ' x) (hs : ∀ cs b, o.op ≠ .select cs b) : aPure P ρ o = aPure P ρ' o := by
  unfold aPure
  rw [List.map_congr_left (fun x hx => h x (by simpa using hx))]
  rw [execOp_congr o hs fun x hx => by rw [h x hx]]

theorem aBuild_congr {ρ ρ' : Operand → AV} {t : TypeId} {parts : List (Nat × Operand)} (h : ∀ p ∈ parts, ρ p.2 = ρ' p.2) : aBuild P ρ t parts = aBuild P ρ' t parts := by
  have e : parts.map (fun (i, x) => (i, ρ x)) = parts.map fun (i, x) => (i, ρ' x) := List.map_congr_left fun p hp => by
    obtain ⟨i, x⟩ := p
    have := h _ hp
    dsimp only at this ⊢
    rw [this]
  unfold aBuild
  rw [e]
theorem aBuildSlice_congr {ρ ρ' : Operand → AV} {key : Nat} {t : TypeId} {len : Nat} {g : Option Bool} {parts : List (Nat × Operand)} (h : ∀ p ∈ parts, ρ p.2 = ρ' p.2) : aBuildSlice P ρ key t len parts g = aBuildSlice P ρ' key t len parts g := by
  have e : parts.map (fun (i, x) => (i, ρ x)) = parts.map fun (i, x) => (i, ρ' x) := List.map_congr_left fun p hp => by
    obtain ⟨i, x⟩ := p
    have := h _ hp
    dsimp only at this ⊢
    rw [this]
  unfold aBuildSlice
  rw [e]

theorem aPick_congr {ρ ρ' : Operand → AV} {c a b : Operand} (h1 : ρ c = ρ' c) (h2 : ρ a = ρ' a) (h3 : ρ b = ρ' b) : aPick ρ c a b = aPick ρ' c a b := by
  unfold aPick
  rw [h1]
  cases boolOf (strip (ρ' c)) with
  | none => rfl
  | some t =>
    simp only
    split
    · rw [h3]
    · rw [h2]
    · rfl

theorem aop_congr {key : Nat} {g : Option Bool} {o : Oper} {ρ ρ' : Operand → AV} {m : Mem} (hs : ∀ cs b, o.op ≠ .select cs b) (h : ∀ x ∈ o.op.operands, ρ x = ρ' x) : aop P key g o ρ m = aop P key g o ρ' m := by
  have hp : aPure P (fun x => strip (ρ x)) o = aPure P (fun x => strip (ρ' x)) o := aPure_congr (fun x hx => by rw [h x hx]) hs
  unfold aop
  dsimp only
  rw [hp]
  obtain ⟨dst, op, type, pos, after, guard⟩ := o
  dsimp only at h ⊢
  cases op
  case pick c a b =>
    dsimp only
    rw [aPick_congr (h c (by simp [Op.operands])) (h a (by simp [Op.operands])) (h b (by simp [Op.operands]))]
  case build t parts =>
    dsimp only
    rw [aBuild_congr (ρ := fun x => strip (ρ x)) (ρ' := fun x => strip (ρ' x)) fun p hp' => by rw [h p.2 (by simp [Op.operands]; exact ⟨p.1, by simpa using hp'⟩)]]
  case buildSlice t len parts =>
    dsimp only
    rw [aBuildSlice_congr (ρ := fun x => strip (ρ x)) (ρ' := fun x => strip (ρ' x)) fun p hp' => by rw [h p.2 (by simp [Op.operands]; exact ⟨p.1, by simpa using hp'⟩)]]
  case makeFunc fn first cap =>
    have e : cap.toList.map (fun x => strip (ρ x)) = cap.toList.map fun x => strip (ρ' x) := List.map_congr_left fun x hx => by rw [h x (by simp [Op.operands]; exact .inr (by simpa using hx))]
    cases fn <;> first | rfl | (dsimp only; rw [e])
  case call c =>
    obtain ⟨callee, args, ats⟩ := c
    cases callee
    case value f => dsimp only
    case invoke r s => dsimp only
    case builtin b =>
      have e : args.toList.map (fun x => strip (ρ x)) = args.toList.map fun x => strip (ρ' x) := List.map_congr_left fun x hx => by rw [h x (by simp [Op.operands, Call.operands]; simpa using hx)]
      cases b <;> first | rfl | (dsimp only; rw [e])
  case move x => dsimp only; rw [h x (by simp [Op.operands])]
  case assign x => dsimp only; rw [h x (by simp [Op.operands])]
  case box t x => dsimp only; rw [h x (by simp [Op.operands])]
  case load t x => dsimp only; rw [h x (by simp [Op.operands])]
  case store t x y => dsimp only; rw [h x (by simp [Op.operands]), h y (by simp [Op.operands])]
  case fieldAddr t x f => dsimp only; rw [h x (by simp [Op.operands])]
  case field t x f => dsimp only; rw [h x (by simp [Op.operands])]
  case indexAddr t x y => dsimp only; rw [h x (by simp [Op.operands]), h y (by simp [Op.operands])]
  case makeInterface t x => dsimp only; rw [h x (by simp [Op.operands])]
  case extract x i => dsimp only; rw [h x (by simp [Op.operands])]
  case nilCheck x => dsimp only; rw [h x (by simp [Op.operands])]
  case typeAssert x t u ok => cases ok <;> (dsimp only; rw [h x (by simp [Op.operands])])
  case binOp op t x y u => cases op <;> first | rfl | (dsimp only; rw [h x (by simp [Op.operands]), h y (by simp [Op.operands])])
  all_goals rfl

theorem aExt_congr {key : Nat} {g : Option Bool} {o : Oper} {ρ ρ' : Operand → AV} {m : Mem} (h : ∀ x ∈ o.op.operands, ρ x = ρ' x) : aExt P key g o ρ m = aExt P key g o ρ' m := by
  unfold aExt
  split
  · rename_i t l c ho
    rw [h l (by simp [ho, Op.operands]), h c (by simp [ho, Op.operands])]
  · rename_i t x lo hi ho
    rw [h x (by simp [ho, Op.operands])]
    have e1 : lo.map (fun y => strip (ρ y)) = lo.map (fun y => strip (ρ' y)) := by
      cases lo with
      | none => rfl
      | some y => simp only [Option.map_some]; rw [h y (by simp [ho, Op.operands])]
    have e2 : hi.map (fun y => strip (ρ y)) = hi.map (fun y => strip (ρ' y)) := by
      cases hi with
      | none => rfl
      | some y => simp only [Option.map_some]; rw [h y (by simp [ho, Op.operands])]
    rw [e1, e2]
  · rename_i args ats ho
    split
    · rename_i s x t u hargs hats
      have m1 : s ∈ args := by have : s ∈ args.toList := by rw [hargs]; simp
                               simpa using this
      have m2 : x ∈ args := by have : x ∈ args.toList := by rw [hargs]; simp
                               simpa using this
      rw [h s (by simp [ho, Op.operands, Call.operands, m1]), h x (by simp [ho, Op.operands, Call.operands, m2])]
    · rfl
  · rfl

theorem aStep_congr {key : Nat} {g : Option Bool} {o : Oper} {ρ ρ' : Operand → AV} {m : Mem} (hs : ∀ cs b, o.op ≠ .select cs b) (h : ∀ x ∈ o.op.operands, ρ x = ρ' x) : aStep P G key g o ρ m = aStep P G key g o ρ' m := by
  have ha := aop_congr (P := P) (key := key) (g := g) (m := m) hs h
  unfold aStep
  split
  · rename_i f args ats ho
    rw [h f (by simp [ho, Op.operands, Call.operands])]
    rw [List.map_congr_left fun x hx => by rw [h x (by simp [ho, Op.operands, Call.operands]; exact .inr (by simpa using hx))]]
  · rename_i r name args ats ho
    rw [h r (by simp [ho, Op.operands, Call.operands])]
    rw [List.map_congr_left fun x hx => by rw [h x (by simp [ho, Op.operands, Call.operands]; exact .inr (by simpa using hx))]]
  · split
    · exact aExt_congr h
    · exact ha

end
end Go.Ax
