/-
  Equations of first order: regions that draw their order.
-/
import Derived.Test.YtdebekhncimenaaAxX1
set_option linter.unusedVariables false
set_option linter.unusedSimpArgs false
namespace Go.Ax
section
variable {t : Slots} {m : Mem} {base i j k q : Nat} {h : Hot} {o : Oper} {d : Option Tmp} {op : Op} {ty : TypeId} {pos : String} {gd : Option (Nat × Bool)} {l : List Edge} {root : List (Nat × Root)} {hide : List (Nat × List Root)} {r : Root} {rs : List Root} {x : Fam}

def bindsG : Ground → Bool
  | .textOnly _ => false
  | .gcOnly _ => false
  | _ => true
theorem bindsG_data : bindsG .data = true := (rfl)
theorem bindsG_chain : bindsG .chain = true := (rfl)
theorem bindsG_guard : bindsG .guard = true := (rfl)
theorem bindsG_phase : bindsG .phase = true := (rfl)
theorem bindsG_textOnly {y : Departure} : bindsG (.textOnly y) = false := (rfl)
theorem bindsG_gcOnly {y : Departure} : bindsG (.gcOnly y) = false := (rfl)
def afterB (base k : Nat) : List Edge → Bool
  | [] => false
  | e :: r => if base + e.on = k then (if bindsG e.ground = true then true else afterB base k r) else afterB base k r
theorem afterB_nil : afterB base k [] = false := (rfl)
theorem afterB_cons {on : Nat} {g : Ground} : afterB base k (⟨on, g⟩ :: l) = if base + on = k then (if bindsG g = true then true else afterB base k l) else afterB base k l := (rfl)
theorem afterB_eq : ∀ {l : List Edge}, (l.any fun x => decide (base + x.on = k) && Region.binds .any x) = afterB base k l
  | [] => rfl
  | e :: l => by
    have hb : Region.binds .any e = bindsG e.ground := by
      obtain ⟨on, g⟩ := e
      cases g <;> rfl
    rw [List.any_cons, afterB_eq, hb]
    simp only [afterB]
    by_cases h1 : base + e.on = k
    · by_cases h2 : bindsG e.ground = true <;> simp [h1, h2]
    · simp [h1]
def keyA : AV → Option Nat
  | .bx r _ => some r
  | .ptr r _ _ _ _ => some r
  | .own r _ _ _ => some r
  | _ => none
theorem keyA_bx {n k : Nat} : keyA (.bx n k) = some n := (rfl)
theorem keyA_ptr {r f i sz k : Nat} : keyA (.ptr r f i sz k) = some r := (rfl)
theorem keyA_own {r f n sz : Nat} : keyA (.own r f n sz) = some r := (rfl)
theorem keyOf_made {a : Nat} : keyOf base t (.made a) = some (base + a) := (rfl)
theorem keyOf_slot : keyOf base t (.slot q) = keyA (slot t q) := by
  unfold keyOf keyA
  dsimp only
  cases slot t q <;> rfl
def eqK (k : Nat) : Option Nat → Bool
  | some q => if q = k then true else false
  | none => false
theorem eqK_some : eqK k (some q) = if q = k then true else false := (rfl)
theorem hidden_nil : hidden base t k [] = false := (rfl)
theorem hidden_cons : hidden base t k (r :: rs) = if eqK k (keyOf base t r) = true then true else hidden base t k rs := by
  show ((match keyOf base t r with
    | some q => decide (q = k)
    | none => false) || hidden base t k rs) = _
  cases keyOf base t r with
  | none => rfl
  | some q => by_cases e : q = k <;> simp [eqK, e]
theorem hideOf_nil : hideOf [] i = [] := (rfl)
theorem hideOf_cons : hideOf ((k, rs) :: hide) i = if k = i then rs else hideOf hide i := (rfl)
theorem rootOf_nil : rootOf [] i = none := (rfl)
theorem rootOf_cons : rootOf ((k, r) :: root) i = if k = i then some r else rootOf root i := (rfl)
/-- The rows that an operation may look at. -/
def restrB (hid : List Root) (base : Nat) (af : List Edge) (t : Slots) : Mem → Mem
  | [] => []
  | (k, x) :: m => if k < base then (if hidden base t k hid = true then restrB hid base af t m else (k, x) :: restrB hid base af t m) else
      if afterB base k af = true then (if hidden base t k hid = true then restrB hid base af t m else (k, x) :: restrB hid base af t m) else restrB hid base af t m
theorem restrB_nil {af : List Edge} : restrB rs base af t [] = [] := (rfl)
theorem restrB_cons {af : List Edge} : restrB rs base af t ((k, x) :: m) = if k < base then (if hidden base t k rs = true then restrB rs base af t m else (k, x) :: restrB rs base af t m) else
      if afterB base k af = true then (if hidden base t k rs = true then restrB rs base af t m else (k, x) :: restrB rs base af t m) else restrB rs base af t m := (rfl)
theorem restrB_eq {af : List Edge} : ∀ {m : Mem}, (m.filter fun e => (decide (e.1 < base) || af.any fun x => decide (base + x.on = e.1) && Region.binds .any x) && !hidden base t e.1 rs) = restrB rs base af t m
  | [] => rfl
  | (k, x) :: m => by
    rw [List.filter_cons, restrB_eq]
    simp only [restrB, afterB_eq]
    by_cases h1 : k < base
    · cases h2 : hidden base t k rs <;> simp [h1, h2]
    · cases h3 : afterB base k af <;> cases h2 : hidden base t k rs <;> simp [h1, h2, h3]
theorem memFor_some {af : List Edge} : memFor (some ⟨root, hide⟩) base i ⟨d, op, ty, pos, af.toArray, gd⟩ t m = restrB (hideOf hide i) base af t m := by
  rw [← restrB_eq]
  simp [memFor, restr]
theorem rootOK_snone : rootOK (some h) base i t .none = true := (rfl)
theorem rootOK_snew : rootOK (some h) base i t (.new x) = true := (rfl)
def rootX (base : Nat) (t : Slots) (k : Nat) : Option Root → Bool
  | some r => eqK k (keyOf base t r)
  | none => true
theorem rootX_some : rootX base t k (some r) = eqK k (keyOf base t r) := (rfl)
theorem rootX_none : rootX base t k none = true := (rfl)
theorem rootOK_sset : rootOK (some ⟨root, hide⟩) base i t (.set k x) = rootX base t k (rootOf root i) := by
  unfold rootOK rootX
  dsimp only
  cases rootOf root i with
  | none => rfl
  | some r =>
    dsimp only
    cases keyOf base t r with
    | none => rfl
    | some q => by_cases e : q = k <;> simp [eqK, e]
theorem hotAt_nil : hotAt [] i = ⟨[], []⟩ := (rfl)
theorem hotAt_cons {H : Hots} : hotAt ((k, h) :: H) i = if k = i then h else hotAt H i := (rfl)
theorem zeros_zero {z : Value} : zeros z 0 = [] := (rfl)
theorem zeros_succ {z : Value} {n : Nat} : zeros z (n + 1) = z.cells.toList.map AV.v ++ zeros z n := by
  simp [zeros, List.replicate_succ]
theorem callD_V {f : Con} {l : List AV} : callD (some f) l m = callX (cleanL 3 l) f l m := by
  rw [← cleanL_eq]; rfl
theorem callX_V {f : Con} {l : List AV} : callX false f l m = callY (pgsL 3 m l) (f (purUL 3 m l)) := by
  rw [← purUL_eq, ← pgsL_eq]; rfl

/-! ### Rows at a loop's head -/
variable {N M : Nat} {σ : Names} {rows : Mem} {cs cs' : List AV} {ty' : TypeId} {sz sz' n n' : Nat} {g : Option Bool} {a b : AV} {get get' : Nat → List AV}
def fitF (N M : Nat) (σ : Names) (x : Fam) : Option Fam → Prop
  | some y => ∀ f, fitRow N M σ (x f) (y f)
  | none => False
theorem fitRows_none : fitRows N M [] m ((q, x) :: rows) = (fitF N M [] x (look m q) ∧ fitRows N M [] m rows) := by
  show ((∃ y, look m q = some y ∧ ∀ f, fitRow N M [] (x f) (y f)) ∧ _) = _
  unfold fitF
  cases look m q <;> simp
theorem fitRows_some {k : Nat} : fitRows N M [(q, some k)] m [(q, x)] = fitF N M [(q, some k)] x (look m k) := by
  simp only [fitRows, asg, if_true, and_true]
  unfold fitF
  cases look m k <;> simp
theorem fitRows_nilS : fitRows N M [(q, none)] m [(q, famN n sz ty get none)] = (n = 0) := by
  simp only [fitRows, asg, if_true, and_true]
  apply propext
  constructor
  · intro h; have := (h 0).1; simpa [famN] using this
  · intro h f
    subst h
    unfold famN
    split <;> exact ⟨rfl, rfl⟩
theorem fitF_1 : fitF N M σ (fam1 ty sz cs none) (some (fam1 ty' sz' cs' g)) = (sz = sz' ∧ ty = ty' ∧ g = none ∧ fitL N M σ cs cs') := by
  apply propext
  constructor
  · intro h
    have h0 := h 0
    exact ⟨h0.2.1, h0.2.2.1, h0.2.2.2.1, h0.2.2.2.2.2 0 (by show 0 < 1; omega)⟩
  · rintro ⟨rfl, rfl, rfl, h⟩ f
    unfold fam1
    by_cases e : f = 0
    · rw [if_pos e, if_pos e]; exact ⟨rfl, rfl, rfl, rfl, rfl, fun _ _ => h⟩
    · rw [if_neg e, if_neg e]; exact ⟨rfl, rfl, rfl, rfl, rfl, fun i hi => by
        have hi : i < 0 := hi
        omega⟩
theorem fitF_N : fitF N M σ (famN n sz ty get none) (some (famN n' sz' ty' get' g)) = (n = n' ∧ sz = sz' ∧ ty = ty' ∧ g = none ∧ ∀ i, i < n → fitL N M σ (get i) (get' i)) := by
  apply propext
  constructor
  · intro h
    have h0 := h 0
    exact ⟨h0.1, h0.2.1, h0.2.2.1, h0.2.2.2.1, h0.2.2.2.2.2⟩
  · rintro ⟨rfl, rfl, rfl, rfl, h⟩ f
    unfold famN
    by_cases e : f = 0
    · rw [if_pos e, if_pos e]; exact ⟨rfl, rfl, rfl, rfl, rfl, h⟩
    · rw [if_neg e, if_neg e]; exact ⟨rfl, rfl, rfl, rfl, rfl, fun i hi => by
        have hi : i < 0 := hi
        omega⟩
theorem fitL_nil : fitL N M σ [] [] = True := (rfl)
theorem fitL_cons : fitL N M σ (a :: cs) (b :: cs') = (fit1 N M σ a b ∧ fitL N M σ cs cs') := (rfl)
/-- A row that has a name. -/
theorem fit1_named {k r f : Nat} : fit1 N M [(q, some k)] (.own q f n sz) a = (q < M ∧ a = .own k f n sz) := by
  simp only [fit1, asg, if_true]
theorem fit1_nilS {f : Nat} : fit1 N M [(q, none)] (.own q f n sz) a = (q < M ∧ n = 0 ∧ a = .v (.slice none 0 0)) := by
  simp only [fit1, asg, if_true]
end
end Go.Ax
