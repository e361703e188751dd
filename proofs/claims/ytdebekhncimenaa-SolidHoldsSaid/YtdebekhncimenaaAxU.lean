import Derived.Test.YtdebekhncimenaaAxS
namespace Go.Ax
section
variable {P : Program} {G : Ctx} {key : Nat} {m : Mem} {d : Option Tmp} {ty : TypeId} {pos : String} {af : Array Edge} {gd : Option (Nat × Bool)} {g : Option Bool} {ρ0 : Operand → AV}

def intsOf : List AV → Option (List Int)
  | [] => some []
  | .v (.int .i64 n) :: rest => match intsOf rest with
    | some l => some (n :: l)
    | none => none
  | _ => none
def gmax (x y : Int) : Int := if y > x then y else x
def gmin (x y : Int) : Int := if y < x then y else x
theorem intsOf_nil : intsOf [] = some [] := rfl
theorem intsOf_cons {n : Int} {rest : List AV} : intsOf (.v (.int .i64 n) :: rest) = optB (intsOf rest) (fun l => some (n :: l)) (fun _ => none) := by
  kernel_rfl
theorem intsOf_flat : ∀ {q : List AV} {l : List Int}, intsOf q = some l → q.map (fun a => (flat a).getD undef) = l.map (.int .i64 ·) ∧ flatAll q = true
  | [], l, h => by cases h; exact ⟨rfl, rfl⟩
  | a :: rest, l, h => by
    unfold intsOf at h
    split at h
    · rename_i e; cases e
    · rename_i n r e
      cases e
      split at h
      · rename_i l' h'
        cases h
        obtain ⟨h1, h2⟩ := intsOf_flat h'
        refine ⟨?_, h2⟩
        rw [List.map_cons, List.map_cons, h1]
        rfl
      · cases h
    · cases h
theorem max_fold : ∀ (l : List Int) (x : Int), (l.map (Value.int .i64 ·)).foldlM Builtin.max2 (.int .i64 x) = (Sem.pure (.int .i64 (l.foldl gmax x)) : Sem Value)
  | [], x => rfl
  | y :: l, x => by
    rw [List.map_cons, List.foldlM_cons, List.foldl_cons, ← max_fold l (gmax x y)]
    rfl
theorem min_fold : ∀ (l : List Int) (x : Int), (l.map (Value.int .i64 ·)).foldlM Builtin.min2 (.int .i64 x) = (Sem.pure (.int .i64 (l.foldl gmin x)) : Sem Value)
  | [], x => rfl
  | y :: l, x => by
    rw [List.map_cons, List.foldlM_cons, List.foldl_cons, ← min_fold l (gmin x y)]
    rfl

theorem builtin_pure {b : Builtin} {args : Array Operand} {ats : Array TypeId} {l : List Int} (hl : intsOf (args.toList.map fun x => strip (ρ0 x)) = some l) {v : Value}
    (hv : Go.builtin b ats ty (args.map fun | .const _ => true | _ => false) (l.map (Value.int .i64 ·)).toArray = Sem.pure (.value v)) :
    aPure P (fun x => strip (ρ0 x)) ⟨d, .call ⟨.builtin b, args, ats⟩, ty, pos, af, gd⟩ = some (ofVal v) := by
  obtain ⟨h1, h2⟩ := intsOf_flat hl
  have ho : (Op.call ⟨.builtin b, args, ats⟩).operands.toList = args.toList := by simp [Op.operands, Call.operands]
  unfold aPure
  dsimp only
  rw [ho, h2]
  dsimp only
  have he : args.map (fun x => (flat (strip (ρ0 x))).getD undef) = (l.map (Value.int .i64 ·)).toArray := by
    apply Array.ext'
    rw [Array.toList_map, ← h1, List.map_map]
    rfl
  have : execOp (fun x => (flat (strip (ρ0 x))).getD undef) ⟨d, .call ⟨.builtin b, args, ats⟩, ty, pos, af, gd⟩ = Sem.pure (.value v) := by
    rw [← hv, ← he]
    rfl
  rw [this]
  rfl

theorem aStep_max' {args : Array Operand} {ats : Array TypeId} : aStep P G key g ⟨d, .call ⟨.builtin .max, args, ats⟩, ty, pos, af, gd⟩ ρ0 m =
    optB (intsOf (args.toList.map fun x => strip (ρ0 x))) (fun l => match l with
      | x :: l => some ⟨[], .v (.int .i64 (l.foldl gmax x)), .none⟩
      | [] => effOf (aPure P (fun x => strip (ρ0 x)) ⟨d, .call ⟨.builtin .max, args, ats⟩, ty, pos, af, gd⟩)) (fun _ => effOf (aPure P (fun x => strip (ρ0 x)) ⟨d, .call ⟨.builtin .max, args, ats⟩, ty, pos, af, gd⟩)) := by
  rw [aStep_max]
  cases h : intsOf (args.toList.map fun x => strip (ρ0 x)) with
  | none => rfl
  | some l =>
    cases l with
    | nil => rfl
    | cons x l =>
      rw [builtin_pure h (v := .int .i64 (l.foldl gmax x)) (by
        show (Sem.bind (Builtin.max_ ats ty _) fun v => Sem.pure (Next.value v)) = _
        show (Sem.bind ((l.map (Value.int .i64 ·)).foldlM Builtin.max2 (.int .i64 x)) fun v => Sem.pure (Next.value v)) = _
        rw [max_fold]; rfl)]
      rfl
theorem aStep_min' {args : Array Operand} {ats : Array TypeId} : aStep P G key g ⟨d, .call ⟨.builtin .min, args, ats⟩, ty, pos, af, gd⟩ ρ0 m =
    optB (intsOf (args.toList.map fun x => strip (ρ0 x))) (fun l => match l with
      | x :: l => some ⟨[], .v (.int .i64 (l.foldl gmin x)), .none⟩
      | [] => effOf (aPure P (fun x => strip (ρ0 x)) ⟨d, .call ⟨.builtin .min, args, ats⟩, ty, pos, af, gd⟩)) (fun _ => effOf (aPure P (fun x => strip (ρ0 x)) ⟨d, .call ⟨.builtin .min, args, ats⟩, ty, pos, af, gd⟩)) := by
  rw [aStep_min]
  cases h : intsOf (args.toList.map fun x => strip (ρ0 x)) with
  | none => rfl
  | some l =>
    cases l with
    | nil => rfl
    | cons x l =>
      rw [builtin_pure h (v := .int .i64 (l.foldl gmin x)) (by
        show (Sem.bind (Builtin.min_ ats ty _) fun v => Sem.pure (Next.value v)) = _
        show (Sem.bind ((l.map (Value.int .i64 ·)).foldlM Builtin.min2 (.int .i64 x)) fun v => Sem.pure (Next.value v)) = _
        rw [min_fold]; rfl)]
      rfl
end
end Go.Ax
