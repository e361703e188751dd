/-
  Regions that draw their order, continued.
-/
import Derived.Test.YtdebekhncimenaaAxJ
set_option linter.unusedSimpArgs false
set_option linter.unusedVariables false
namespace Go.Ax
open Go.RowKit

section
variable {P : Program} {G : Ctx} {ops : Array Oper} {base : Nat} {hot : Hot}

/-- An operation that touches no rows. -/
theorem aStep_free {key : Nat} {g : Option Bool} {o : Oper} {ρ0 : Operand → AV} {m : Mem} {e : Eff} (hk : opKind o.op = 0) (h : aStep P G key g o ρ0 m = some e) : e.u = .none ∧ ∀ key' m', aStep P G key' g o ρ0 m' = some e := by
  unfold aStep at h
  split at h
  · rename_i f args ats ho; rw [ho] at hk; simp [opKind] at hk
  · rename_i r name args ats ho; rw [ho] at hk; simp [opKind] at hk
  · rename_i hn1 hn2
    by_cases hext : isExt o.op = true
    · rw [hext] at h
      dsimp only at h
      have e2 : ∀ key' m', aStep P G key' g o ρ0 m' = aExt P key' g o ρ0 m' := fun key' m' => by
        unfold aStep
        split
        · rename_i f args ats ho; exact absurd ho (hn1 _ _ _)
        · rename_i r name args ats ho; exact absurd ho (hn2 _ _ _ _)
        · rw [hext]
      simp only [e2]
      unfold aExt at h ⊢
      split at h
      · rename_i ho; rw [ho] at hk; simp [opKind] at hk
      · refine ⟨?_, fun _ _ => h⟩
        unfold aCut at h
        (repeat' split at h) <;> first | (cases h; done) | (cases h; rfl)
      · rename_i ho; rw [ho] at hk; simp [opKind] at hk
      · cases h
    rw [Bool.not_eq_true] at hext
    rw [hext] at h
    dsimp only at h
    have e2 : ∀ key' m', aStep P G key' g o ρ0 m' = aop P key' g o ρ0 m' := fun key' m' => by
      unfold aStep
      split
      · rename_i f args ats ho; exact absurd ho (hn1 _ _ _)
      · rename_i r name args ats ho; exact absurd ho (hn2 _ _ _ _)
      · rw [hext]
    simp only [e2]
    unfold aop at h ⊢
    dsimp only at h ⊢
    obtain ⟨dst, op, type, pos, after, guard⟩ := o
    dsimp only at h hk ⊢
    cases op
    case alloc => simp [opKind] at hk
    case box => simp [opKind] at hk
    case load => simp [opKind] at hk
    case store => simp [opKind] at hk
    case buildSlice => simp [opKind] at hk
    case pick => exact ⟨effOf2_u h, fun _ _ => h⟩
    case indexAddr => exact ⟨effOf2_u h, fun _ _ => h⟩
    case move => cases h; exact ⟨rfl, fun _ _ => rfl⟩
    case assign => cases h; exact ⟨rfl, fun _ _ => rfl⟩
    case makeFunc fn first cap =>
      cases fn <;> dsimp only at h ⊢ <;> first | exact ⟨effOf_u h, fun _ _ => h⟩ | skip
      refine ⟨?_, fun _ _ => h⟩
      split at h <;> cases h
      rfl
    case makeInterface t x =>
      refine ⟨?_, fun _ _ => h⟩
      dsimp only at h
      split at h <;> cases h
      rfl
    case extract x i =>
      refine ⟨?_, fun _ _ => h⟩
      dsimp only at h
      split at h <;> exact effOf_u h
    case nilCheck x =>
      refine ⟨?_, fun _ _ => h⟩
      dsimp only at h
      split at h
      · cases h; rfl
      · exact effOf_u h
    case typeAssert x t u ok =>
      cases ok <;> dsimp only at h ⊢
      all_goals
        refine ⟨?_, fun _ _ => h⟩
        (repeat' split at h) <;> first | (cases h; done) | exact effOf_u h | (cases h; rfl)
    case binOp op t x y u =>
      cases op <;> dsimp only at h ⊢ <;> first | exact ⟨effOf_u h, fun _ _ => h⟩ | skip
      all_goals
        refine ⟨?_, fun _ _ => h⟩
        split at h
        · cases h; rfl
        · exact effOf_u h
    case call c =>
      obtain ⟨callee, args, ats⟩ := c
      cases callee
      case value f => simp [opKind] at hk
      case invoke r s => simp [opKind] at hk
      case builtin b =>
        cases b <;> dsimp only at h ⊢ <;> first | exact ⟨effOf_u h, fun _ _ => h⟩ | skip
        all_goals first | (simp [opKind] at hk; done) | skip
        refine ⟨?_, fun _ _ => h⟩
        (repeat' split at h) <;> first | (cases h; done) | exact effOf_u h | (cases h; rfl)
    all_goals exact ⟨effOf_u h, fun _ _ => h⟩

/-- An operation that looks at rows or makes new ones. -/
theorem aStep_mild {key : Nat} {g : Option Bool} {o : Oper} {ρ0 : Operand → AV} {m : Mem} {e : Eff} (hk : opKind o.op = 1) (h : aStep P G key g o ρ0 m = some e) : e.u = .none ∨ ∃ x, e.u = .new x := by
  unfold aStep at h
  split at h
  · split at h
    · exact .inl (effOf2_u h)
    · cases h
  · split at h
    · split at h
      · exact .inl (effOf2_u h)
      · cases h
    · cases h; exact .inl rfl
    · cases h
  · rename_i hn1 hn2
    split at h
    · unfold aExt at h
      split at h
      · unfold aMake at h
        (repeat' split at h) <;> first | (cases h; done) | (cases h; exact .inr ⟨_, rfl⟩)
      · rename_i ho; rw [ho] at hk; simp [opKind] at hk
      · rename_i ho; rw [ho] at hk; simp [opKind] at hk
      · cases h
    rename_i hx2
    clear hx2
    unfold aop at h
    dsimp only at h
    obtain ⟨dst, op, type, pos, after, guard⟩ := o
    dsimp only at h hk hn1 hn2
    cases op <;> (try (simp [opKind] at hk; done))
    case makeSlice => exact .inl (effOf_u h)
    case call c =>
      exfalso
      clear h
      have k1 : ∀ c : Call, opKind (.call c) = 1 → (∀ f args ats, c ≠ ⟨.value f, args, ats⟩) → (∀ r s args ats, c ≠ ⟨.invoke r s, args, ats⟩) → False := fun c h1 h2 h3 => by
        obtain ⟨callee, args, ats⟩ := c
        cases callee with
        | value f => exact h2 _ _ _ rfl
        | invoke r s => exact h3 _ _ _ _ rfl
        | builtin b => cases b <;> simp [opKind] at h1
      exact k1 c hk (fun f args ats e => hn1 f args ats (by rw [e])) (fun r s args ats e => hn2 r s args ats (by rw [e]))
    case alloc =>
      dsimp only at h
      split at h <;> cases h
      exact .inr ⟨_, rfl⟩
    case box =>
      dsimp only at h
      split at h <;> cases h
      exact .inr ⟨_, rfl⟩
    case load => exact .inl (effOf2_u h)
    case buildSlice =>
      dsimp only at h
      unfold aBuildSlice at h
      (repeat' split at h) <;> first | (cases h; done) | skip
      cases h
      exact .inr ⟨_, rfl⟩

/-! ### The steps as a relation -/

def stApp (base i : Nat) (o : Oper) (e : Eff) (s : St) : St := { s with t := putSlot o.dst e.val s.t, m := e.u.app (base + i) s.m }

def runL (P : Program) (G : Ctx) (hot : Hot) (ops : Array Oper) (base : Nat) : List (Nat × Oper) → St → St → Prop
  | [], s, s' => s = s'
  | (i, o) :: rest, s, s' => ∃ e, stepE P G ops (base + i) o s.t (restr hot base i o s.t s.m) = some e ∧ rootOK (some hot) base i s.t e.u = true ∧ (∀ p ∈ e.ob, p) ∧ runL P G hot ops base rest (stApp base i o e s) s'

/-- States that say the same. -/
structure StEq (s s' : St) : Prop where
  t : slot s.t = slot s'.t
  m : s.m = s'.m
  nx : s.nx = s'.nx
theorem StEq.refl (s : St) : StEq s s := ⟨rfl, rfl, rfl⟩
theorem StEq.trans {a b c : St} (h : StEq a b) (k : StEq b c) : StEq a c := ⟨h.t.trans k.t, h.m.trans k.m, h.nx.trans k.nx⟩
theorem StEq.symm {a b : St} (h : StEq a b) : StEq b a := ⟨h.t.symm, h.m.symm, h.nx.symm⟩

theorem opd_congr {t t' : Slots} (h : slot t = slot t') : opd t = opd t' := by
  funext x
  cases x <;> simp [opd, h]

theorem stepE_congr {key : Nat} {o : Oper} {t t' : Slots} {m : Mem} (h : slot t = slot t') : stepE P G ops key o t m = stepE P G ops key o t' m := by
  unfold stepE
  rw [opd_congr h, h]

theorem slot_app {o : Oper} {e : Eff} {s : St} {i : Nat} (j : Nat) : slot (stApp base i o e s).t j = if o.dst = some j then e.val else slot s.t j := slot_put _ _ _

theorem keyOf_congr {t t' : Slots} (h : slot t = slot t') : keyOf base t = keyOf base t' := by
  funext r
  cases r with
  | made a => rfl
  | slot q => simp only [keyOf, h]
theorem hidden_congr {t t' : Slots} {k : Nat} (h : keyOf base t = keyOf base t') : ∀ (l : List Root), hidden base t k l = hidden base t' k l
  | [] => rfl
  | r :: rest => by simp only [hidden, h, hidden_congr h rest]
theorem restr_congr {i : Nat} {o : Oper} {t t' : Slots} {m : Mem} (h : slot t = slot t') : restr hot base i o t m = restr hot base i o t' m := by
  unfold restr
  congr 1
  funext e
  rw [hidden_congr (keyOf_congr h)]
theorem rootOK_congr {i : Nat} {t t' : Slots} {u : Upd} (h : slot t = slot t') : rootOK (some hot) base i t u = rootOK (some hot) base i t' u := by
  unfold rootOK
  rw [keyOf_congr h]

theorem StEq.app {s s' : St} (h : StEq s s') (i : Nat) (o : Oper) (e : Eff) : StEq (stApp base i o e s) (stApp base i o e s') :=
  ⟨by funext j; rw [slot_app, slot_app, h.t], by simp [stApp, h.m], h.nx⟩

theorem runL_congr : ∀ {L : List (Nat × Oper)} {s s1 s' : St}, StEq s s1 → runL P G hot ops base L s s' → ∃ s'', runL P G hot ops base L s1 s'' ∧ StEq s' s''
  | [], s, s1, s', h, hr => by simp only [runL] at hr; subst hr; exact ⟨s1, rfl, h⟩
  | (i, o) :: rest, s, s1, s', h, hr => by
    obtain ⟨e, h1, h0, h2, h3⟩ := hr
    obtain ⟨s'', h4, h5⟩ := runL_congr (h.app i o e) h3
    exact ⟨s'', ⟨e, by rw [← stepE_congr h.t, ← h.m, ← restr_congr h.t]; exact h1, by rw [← rootOK_congr h.t]; exact h0, h2, h4⟩, h5⟩

theorem regP_runL {K : St → Prop} : ∀ (rest : List Oper) (i : Nat) (s : St), regP P G (some hot) ops base rest i s K → ∃ s', runL P G hot ops base ((List.range' i rest.length).zip rest) s s' ∧ K s'
  | [], i, s, h => ⟨s, rfl, h⟩
  | o :: rest, i, s, h => by
    simp only [regP, memFor, optK, boolK] at h
    split at h
    · rename_i e he
      split at h
      · rename_i hro
        obtain ⟨hob, h⟩ := conj_iff.1 h
        obtain ⟨s', h1, h2⟩ := regP_runL rest (i + 1) _ h
        exact ⟨s', ⟨e, he, hro, hob, h1⟩, h2⟩
      · exact h.elim
    · exact h.elim

theorem insRow_comm {k k' : Nat} {x y : Fam} (hne : k ≠ k') : ∀ (m : Mem), insRow k x (insRow k' y m) = insRow k' y (insRow k x m)
  | [] => by
    simp only [insRow]
    by_cases h : k' < k
    · have h' : ¬ k < k' := by omega
      simp [h, h']
    · have h' : k < k' := by omega
      simp [h, h']
  | (q, z) :: rest => by
    simp only [insRow]
    by_cases h1 : q < k <;> by_cases h2 : q < k'
    · simp only [h1, h2, if_true, insRow]
      by_cases h : k' < k
      · have h' : ¬ k < k' := by omega
        simp [h, h', h2]
      · have h' : k < k' := by omega
        simp [h, h', h1]
    · have h3 : k' < k := by omega
      have h4 : ¬ k < k' := by omega
      simp [h1, h2, insRow, h3, h4]
    · have h3 : k < k' := by omega
      have h4 : ¬ k' < k := by omega
      simp [h1, h2, insRow, h3, h4]
    · simp only [h1, h2, if_false, insRow]
      rw [insRow_comm hne rest]

theorem filter_ins {p : Nat × Fam → Bool} {k : Nat} {x : Fam} (h : p (k, x) = false) : ∀ (m : Mem), (insRow k x m).filter p = m.filter p
  | [] => by simp [insRow, h]
  | (q, z) :: rest => by
    simp only [insRow]
    split
    · rw [List.filter_cons]; simp [h]
    · rw [List.filter_cons, List.filter_cons, filter_ins h rest]

theorem filter_set {p : Nat × Fam → Bool} {k : Nat} {x : Fam} (h : ∀ y, p (k, y) = false) : ∀ (m : Mem), (setRow k x m).filter p = m.filter p
  | [] => rfl
  | (q, z) :: rest => by
    simp only [setRow]
    split
    · rename_i e; subst e
      rw [List.filter_cons, List.filter_cons]; simp [h]
    · rw [List.filter_cons, List.filter_cons, filter_set h rest]

theorem set_ins {k k' : Nat} {x y : Fam} (hne : k ≠ k') : ∀ (m : Mem), setRow k x (insRow k' y m) = insRow k' y (setRow k x m)
  | [] => by
    have h' : ¬ k' = k := fun h => hne h.symm
    simp [insRow, setRow, h']
  | (q, z) :: rest => by
    have h' : ¬ k' = k := fun h => hne h.symm
    have ih := set_ins hne (x := x) (y := y) rest
    by_cases h : q < k' <;> by_cases e : q = k
    · subst e; simp [insRow, setRow, h, h']
    · simp [insRow, setRow, h, e, h']
    · subst e; simp [insRow, setRow, h, h']
    · simp [insRow, setRow, h, e, h', ih]

theorem set_set {k k' : Nat} {x y : Fam} (hne : k ≠ k') : ∀ (m : Mem), setRow k x (setRow k' y m) = setRow k' y (setRow k x m)
  | [] => rfl
  | (q, z) :: rest => by
    have h' : ¬ k' = k := fun h => hne h.symm
    by_cases e : q = k <;> by_cases e' : q = k'
    · exact absurd (e.symm.trans e') hne
    · subst e; simp [setRow, e']
    · subst e'; simp [setRow, e]
    · simp only [setRow, e, e', if_false]
      rw [set_set hne rest]

theorem hidden_mem {t : Slots} {k : Nat} {r : Root} (hk : keyOf base t r = some k) : ∀ {l : List Root}, r ∈ l → hidden base t k l = true
  | x :: rest, h => by
    simp only [hidden, Bool.or_eq_true]
    rcases List.mem_cons.1 h with e | h
    · subst e; left; rw [hk]; simp
    · exact .inr (hidden_mem hk h)

/-- What one operation does to the rows another one does not see. -/
theorem restr_app {i j : Nat} {y : Oper} {t : Slots} {u : Upd} {m : Mem} (hu : u = .none ∨ (∃ x, u = .new x) ∨ (∃ r x, u = .set r x) ∧ rootIn hot i j = true) (hr : rootOK (some hot) base i t u = true) (hi : (y.after.any fun e => e.on == i && Region.binds .any e) = false) : restr hot base j y t (u.app (base + i) m) = restr hot base j y t m := by
  rcases hu with rfl | ⟨x, rfl⟩ | ⟨⟨r, x, rfl⟩, h⟩
  · rfl
  · unfold restr
    simp only [Upd.app]
    refine filter_ins ?_ m
    have e1 : decide (base + i < base) = false := by simp
    have e2 : (y.after.any fun x => decide (base + x.on = base + i) && Region.binds .any x) = false := by
      rw [← hi]
      congr 1
      funext e
      by_cases h : e.on = i
      · simp [h]
      · have : ¬ base + e.on = base + i := by omega
        simp [h]
    simp only [e1, e2, Bool.or_self, Bool.false_and]
  · unfold restr
    simp only [Upd.app]
    refine filter_set (fun z => ?_) m
    unfold rootIn at h
    unfold rootOK at hr
    dsimp only at hr
    split at h
    · rename_i q hq
      rw [hq] at hr
      dsimp only at hr
      split at hr
      · rename_i k hk
        have : k = r := by simpa using hr
        subst this
        rw [hidden_mem hk (by simpa using h)]
        simp
      · cases hr
    · cases h

theorem keyOf_put {d : Option Tmp} {x : AV} {t : Slots} {r : Root} (h : r.off d = true) : keyOf base (putSlot d x t) r = keyOf base t r := by
  cases r with
  | made a => rfl
  | slot q =>
    simp only [keyOf, slot_put]
    rw [if_neg]
    simpa [Root.off] using h
theorem hidden_put {d : Option Tmp} {x : AV} {t : Slots} {k : Nat} : ∀ {l : List Root}, l.all (Root.off d) = true → hidden base (putSlot d x t) k l = hidden base t k l
  | [], _ => rfl
  | r :: rest, h => by
    simp only [List.all_cons, Bool.and_eq_true] at h
    simp only [hidden, keyOf_put h.1, hidden_put h.2]
theorem restr_put {i : Nat} {o : Oper} {d : Option Tmp} {x : AV} {t : Slots} {m : Mem} (h : rootsOff hot i d = true) : restr hot base i o (putSlot d x t) m = restr hot base i o t m := by
  unfold rootsOff at h
  simp only [Bool.and_eq_true] at h
  unfold restr
  congr 1
  funext e
  rw [hidden_put h.1]
theorem rootOK_put {i : Nat} {d : Option Tmp} {x : AV} {t : Slots} {u : Upd} (h : rootsOff hot i d = true) : rootOK (some hot) base i (putSlot d x t) u = rootOK (some hot) base i t u := by
  unfold rootsOff at h
  simp only [Bool.and_eq_true] at h
  unfold rootOK
  cases u with
  | set r y =>
    dsimp only
    cases hq : rootOf hot.root i with
    | none => rfl
    | some q =>
      have h2 := h.2
      rw [hq] at h2
      dsimp only at h2 ⊢
      rw [keyOf_put h2]
  | _ => rfl

/-- What an operation comes to hangs on the slots that it looks at. -/
theorem stepE_put {key : Nat} {o : Oper} {d : Option Tmp} {x : AV} {t : Slots} {m : Mem} (hs : ∀ cs b, o.op ≠ .select cs b) (h : ∀ k, d = some k → k ∉ o.looksAt ops) : stepE P G ops key o (putSlot d x t) m = stepE P G ops key o t m := by
  have h1 : ∀ y ∈ o.op.operands, opd (putSlot d x t) y = opd t y := fun y hy => by
    cases y with
    | tmp j =>
      simp only [opd, slot_put]
      split
      · rename_i e
        exact absurd (by unfold Oper.looksAt; exact List.mem_append_left _ (List.mem_filterMap.2 ⟨Operand.tmp j, by simpa using hy, rfl⟩)) (h j e)
      · rfl
    | _ => rfl
  have h2 : ∀ g, o.guard = some g → guardOf ops (slot (putSlot d x t)) g = guardOf ops (slot t) g := fun g hg => by
    unfold guardOf
    cases hd : (ops[g.1]?).bind (·.dst) with
    | none => rfl
    | some k =>
      have : slot (putSlot d x t) k = slot t k := by
        rw [slot_put]
        split
        · rename_i e
          refine absurd ?_ (h k e)
          unfold Oper.looksAt
          obtain ⟨g1, g2⟩ := g
          refine List.mem_append_right _ ?_
          simp only [hg]
          dsimp only at hd
          rw [hd]
          simp
        · rfl
      simp only [this]
  have h3 : owed o (opd (putSlot d x t)) = owed o (opd t) := by
    unfold owed
    rw [List.map_congr_left fun y hy => h1 y (by simpa using hy)]
  unfold stepE
  cases hg : o.guard with
  | none => simp only [aStep_congr (g := none) hs h1, h3]
  | some g =>
    simp only [h2 g hg, h3]
    cases guardOf ops (slot t) g with
    | none => rfl
    | some b => simp only [aStep_congr (g := some b) hs h1]

theorem stepE_free {key : Nat} {o : Oper} {t : Slots} {m : Mem} {e : Eff} (hk : opKind o.op = 0) (h : stepE P G ops key o t m = some e) : e.u = .none ∧ ∀ key' m', stepE P G ops key' o t m' = some e := by
  unfold stepE at h ⊢
  split at h
  · split at h
    · rename_i e0 h0
      cases h
      obtain ⟨h1, h2⟩ := aStep_free hk h0
      exact ⟨h1, fun key' m' => by simp only [h2]⟩
    · cases h
  · split at h
    · split at h
      · rename_i e0 h0
        obtain ⟨h1, h2⟩ := aStep_free hk h0
        split at h
        · rename_i hm
          cases h
          exact ⟨h1, fun key' m' => by simp only [h2, hm]⟩
        · cases h
      · cases h
    · cases h

theorem stepE_mild {key : Nat} {o : Oper} {t : Slots} {m : Mem} {e : Eff} (hk : opKind o.op = 1) (h : stepE P G ops key o t m = some e) : e.u = .none ∨ ∃ x, e.u = .new x := by
  unfold stepE at h
  split at h
  · split at h
    · rename_i e0 h0
      cases h
      exact (aStep_mild hk h0 : e0.u = .none ∨ ∃ x, e0.u = .new x)
    · cases h
  · split at h
    · split at h
      · rename_i e0 h0
        split at h
        · cases h
          exact (aStep_mild hk h0 : e0.u = .none ∨ ∃ x, e0.u = .new x)
        · cases h
      · cases h
    · cases h

theorem stepE_sel {key : Nat} {o : Oper} {t : Slots} {m : Mem} {e : Eff} (h : stepE P G ops key o t m = some e) : ∀ cs b, o.op ≠ .select cs b := by
  intro cs b hc
  have key' : ∀ g, aStep P G key g o (opd t) m = none := fun g => by
    unfold aStep
    rw [hc]
    dsimp only [isExt]
    unfold aop
    rw [hc]
    dsimp only
    unfold effOf aPure execOp
    rw [hc]
    dsimp only
    have : ∀ (s : Sem (Array CommCase)) v, pureRun P (s.bind fun x => .pure (Next.comm x b .select)) ≠ some (.value v) := by
      intro s
      induction s with
      | pure d => intro v hv; simp [pureRun, Sem.bind] at hv
      | program k ih => intro v hv; exact ih P v hv
      | _ => intro v hv; simp [pureRun, Sem.bind] at hv
    split
    · rename_i x hx
      exfalso
      split at hx
      · split at hx
        · rename_i v hv
          exact this _ v hv
        · cases hx
      · cases hx
    · rfl
  unfold stepE at h
  split at h
  · simp [key'] at h
  · split at h
    · simp [key'] at h
    · cases h

theorem aStep_kind {key : Nat} {g : Option Bool} {o : Oper} {ρ0 : Operand → AV} {m : Mem} {e : Eff} (hk : opKind o.op = 2) (h : aStep P G key g o ρ0 m = some e) : ∃ r x y, e.u = .set r x ∧ look m r = some y := by
  unfold aStep at h
  split at h
  · rename_i f args ats ho; rw [ho] at hk; simp [opKind] at hk
  · rename_i r name args ats ho; rw [ho] at hk; simp [opKind] at hk
  · split at h
    · exfalso
      unfold aExt at h
      split at h
      · rename_i ho; rw [ho] at hk; simp [opKind] at hk
      · rename_i ho; rw [ho] at hk; simp [opKind] at hk
      · rename_i ho; rw [ho] at hk; simp [opKind] at hk
      · cases h
    unfold aop at h
    dsimp only at h
    obtain ⟨dst, op, type, pos, after, guard⟩ := o
    dsimp only at h hk
    cases op <;> (try (simp [opKind] at hk; done))
    case store =>
      dsimp only at h
      unfold aStore at h
      (repeat' split at h) <;> first | (cases h; done) | (cases h; exact ⟨_, _, _, rfl, by assumption⟩)
    all_goals
      exfalso
      clear h
      revert hk
      unfold opKind
      split <;> first | (simp; done) | (rename_i e; cases e)

theorem stepE_kind {key : Nat} {o : Oper} {t : Slots} {m : Mem} {e : Eff} (hk : opKind o.op = 2) (h : stepE P G ops key o t m = some e) : ∃ r x y, e.u = .set r x ∧ look m r = some y := by
  unfold stepE at h
  split at h
  · split at h
    · rename_i e0 h0
      cases h
      obtain ⟨r, x, y, h1, h2⟩ := aStep_kind hk h0
      exact ⟨r, x, y, h1, h2⟩
    · cases h
  · split at h
    · split at h
      · rename_i e0 h0
        obtain ⟨r, x, y, h1, h2⟩ := aStep_kind hk h0
        split at h
        · rename_i hm
          rw [h1] at hm
          simp [Upd.mild] at hm
        · cases h
      · cases h
    · cases h

theorem look_filterK {p : Nat × Fam → Bool} {q : Nat → Bool} (hp : ∀ r x, p (r, x) = q r) {r : Nat} {y : Fam} : ∀ {m : Mem}, look (m.filter p) r = some y → q r = true
  | [], h => by simp [look] at h
  | (k, z) :: rest, h => by
    rw [List.filter_cons] at h
    split at h
    · rename_i hk
      simp only [look] at h
      split at h
      · rename_i e; subst e; rw [← hp k z]; exact hk
      · exact look_filterK hp h
    · exact look_filterK hp h

theorem look_restr1 {i : Nat} {o : Oper} {t : Slots} {m : Mem} {r : Nat} {y : Fam} (h : look (restr hot base i o t m) r = some y) : (r < base ∨ ∃ e ∈ o.after, base + e.on = r ∧ Region.binds .any e = true) ∧ hidden base t r (hideOf hot.hide i) = false := by
  have := look_filterK (q := fun k => (decide (k < base) || o.after.any fun x => decide (base + x.on = k) && Region.binds .any x) && !hidden base t k (hideOf hot.hide i)) (fun _ _ => rfl) h
  simp only [Bool.and_eq_true, Bool.or_eq_true, decide_eq_true_eq, Bool.not_eq_true'] at this
  refine ⟨this.1.imp id fun h => ?_, this.2⟩
  rw [Array.any_eq_true'] at h
  obtain ⟨e, he, h⟩ := h
  exact ⟨e, he, by simpa using h⟩

/-- Two that may change places. -/
theorem swap {i j : Nat} {x y : Oper} {L : List (Nat × Oper)} {s s' : St} (hij : i ≠ j) (hc : comm hot ops i j x y = true) (h : runL P G hot ops base ((i, x) :: (j, y) :: L) s s') : ∃ s'', runL P G hot ops base ((j, y) :: (i, x) :: L) s s'' ∧ StEq s' s'' := by
  obtain ⟨ex, hx, hxr, hxo, ey, hy, hyr, hyo, hL⟩ := h
  unfold comm at hc
  simp only [Bool.and_eq_true, Bool.not_eq_true'] at hc
  obtain ⟨⟨⟨⟨⟨hap, hk⟩, ha1⟩, ha2⟩, ho1⟩, ho2⟩ := hc
  obtain ⟨p1, p2, p3⟩ := Oper.apart_spec hap
  have et : (stApp base i x ex s).t = putSlot x.dst ex.val s.t := rfl
  have em : (stApp base i x ex s).m = ex.u.app (base + i) s.m := rfl
  rw [et, em, restr_put ho2, stepE_put (stepE_sel hy) p1] at hy
  rw [et, rootOK_put ho2] at hyr
  have kinds : (ex.u = .none ∨ ey.u = .none ∨ ((∃ u, ex.u = .new u) ∧ ∃ u, ey.u = .new u) ∨ (∃ r u u', ex.u = .set r u ∧ ey.u = .new u' ∧ r ≠ base + j) ∨ (∃ r u u', ey.u = .set r u ∧ ex.u = .new u' ∧ r ≠ base + i) ∨ (∃ r u r' u', ex.u = .set r u ∧ ey.u = .set r' u' ∧ r ≠ r')) ∧
      stepE P G ops (base + j) y s.t (restr hot base j y s.t s.m) = some ey ∧ stepE P G ops (base + i) x s.t (restr hot base i x s.t (ey.u.app (base + j) s.m)) = some ex := by
    simp only [Bool.or_eq_true, Bool.and_eq_true, beq_iff_eq] at hk
    rcases hk with (hk | hk) | ⟨hk1, hk2⟩
    · obtain ⟨f1, f2⟩ := stepE_free hk hx
      refine ⟨.inl f1, ?_, f2 _ _⟩
      rw [f1] at hy; exact hy
    · obtain ⟨f1, f2⟩ := stepE_free hk hy
      refine ⟨.inr (.inl f1), f2 _ _, ?_⟩
      rw [f1]; exact hx
    · have m1 : ex.u = .none ∨ (∃ x, ex.u = .new x) ∨ (∃ r x, ex.u = .set r x) ∧ rootIn hot i j = true := by
        rcases hk1 with h | ⟨h, h'⟩
        · exact (stepE_mild h hx).imp id .inl
        · obtain ⟨r, u, z, h1, h2⟩ := stepE_kind h hx
          exact .inr (.inr ⟨⟨r, u, h1⟩, h'⟩)
      have m2 : ey.u = .none ∨ (∃ x, ey.u = .new x) ∨ (∃ r x, ey.u = .set r x) ∧ rootIn hot j i = true := by
        rcases hk2 with h | ⟨h, h'⟩
        · exact (stepE_mild h hy).imp id .inl
        · obtain ⟨r, u, z, h1, h2⟩ := stepE_kind h hy
          exact .inr (.inr ⟨⟨r, u, h1⟩, h'⟩)
      rw [restr_app m1 hxr ha1] at hy
      refine ⟨?_, hy, by rw [restr_app m2 hyr ha2]; exact hx⟩
      have notnew : ∀ {r : Nat} {u : Fam} {i j : Nat} {x : Oper} {e : Eff}, stepE P G ops (base + i) x s.t (restr hot base i x s.t s.m) = some e → e.u = .set r u → (opKind x.op = 1 ∨ opKind x.op = 2 ∧ rootIn hot i j = true) → (x.after.any fun e => e.on == j && Region.binds .any e) = false → (∃ y, look (restr hot base i x s.t s.m) r = some y) ∧ r ≠ base + j := by
        intro r u i j x e he hu hkk ha
        have h2 : opKind x.op = 2 := by
          rcases hkk with h | h
          · rcases stepE_mild h he with h' | ⟨z, h'⟩ <;> rw [h'] at hu <;> cases hu
          · exact h.1
        obtain ⟨r', u', z, h3, h4⟩ := stepE_kind h2 he
        rw [hu] at h3
        cases h3
        refine ⟨⟨z, h4⟩, fun e => ?_⟩
        subst e
        rcases (look_restr1 h4).1 with h5 | ⟨e, h5, h6, h7⟩
        · omega
        · have : e.on = j := by omega
          have hh : (x.after.any fun e => e.on == j && Region.binds .any e) = true := by
            rw [Array.any_eq_true']
            exact ⟨e, h5, by simp [this, h7]⟩
          rw [hh] at ha
          cases ha
      rcases m1 with m1 | ⟨u1, m1⟩ | ⟨⟨r1, u1, m1⟩, i1⟩
      · exact .inl m1
      · rcases m2 with m2 | ⟨u2, m2⟩ | ⟨⟨r2, u2, m2⟩, i2⟩
        · exact .inr (.inl m2)
        · exact .inr (.inr (.inl ⟨⟨u1, m1⟩, u2, m2⟩))
        · exact .inr (.inr (.inr (.inr (.inl ⟨r2, u2, u1, m2, m1, (notnew hy m2 hk2 ha1).2⟩))))
      · rcases m2 with m2 | ⟨u2, m2⟩ | ⟨⟨r2, u2, m2⟩, i2⟩
        · exact .inr (.inl m2)
        · exact .inr (.inr (.inr (.inl ⟨r1, u1, u2, m1, m2, (notnew hx m1 hk1 ha2).2⟩)))
        · refine .inr (.inr (.inr (.inr (.inr ⟨r1, u1, r2, u2, m1, m2, fun e => ?_⟩))))
          subst e
          obtain ⟨⟨z, hz⟩, _⟩ := notnew hy m2 hk2 ha1
          have hh := (look_restr1 hz).2
          unfold rootIn at i1
          rw [m1] at hxr
          unfold rootOK at hxr
          dsimp only at hxr
          split at i1
          · rename_i q hq
            rw [hq] at hxr
            dsimp only at hxr
            split at hxr
            · rename_i k hk
              have : k = r1 := by simpa using hxr
              subst this
              rw [hidden_mem hk (by simpa using i1)] at hh
              cases hh
            · cases hxr
          · cases i1
  obtain ⟨hu, hyS, hxS⟩ := kinds
  have hxS' : stepE P G ops (base + i) x (stApp base j y ey s).t (restr hot base i x (stApp base j y ey s).t (stApp base j y ey s).m) = some ex := by
    rw [show (stApp base j y ey s).t = putSlot y.dst ey.val s.t from rfl, stepE_put (stepE_sel hx) p3, restr_put ho1]
    exact hxS
  have hxr' : rootOK (some hot) base i (stApp base j y ey s).t ex.u = true := by
    rw [show (stApp base j y ey s).t = putSlot y.dst ey.val s.t from rfl, rootOK_put ho1]
    exact hxr
  have heq : StEq (stApp base j y ey (stApp base i x ex s)) (stApp base i x ex (stApp base j y ey s)) := by
    refine ⟨?_, ?_, rfl⟩
    · funext k
      simp only [slot_app]
      by_cases e1 : y.dst = some k
      · have : ¬ x.dst = some k := fun e => p2 k e e1
        simp [e1, this]
      · simp [e1]
    · show ey.u.app (base + j) (ex.u.app (base + i) s.m) = ex.u.app (base + i) (ey.u.app (base + j) s.m)
      rcases hu with h | h | ⟨⟨u1, h1⟩, u2, h2⟩ | ⟨r, u, u', h1, h2, h3⟩ | ⟨r, u, u', h1, h2, h3⟩ | ⟨r, u, r', u', h1, h2, h3⟩
      · rw [h]; rfl
      · rw [h]; rfl
      · rw [h1, h2]
        exact insRow_comm (by omega) _
      · rw [h1, h2]; exact (set_ins h3 _).symm
      · rw [h1, h2]; exact set_ins h3 _
      · rw [h1, h2]; exact set_set (Ne.symm h3) _
  obtain ⟨s'', h1, h2⟩ := runL_congr heq hL
  exact ⟨s'', ⟨ey, hyS, hyr, hyo, ex, hxS', hxr', hxo, h1⟩, h2⟩

theorem bubble {i : Nat} {x : Oper} {L2 : List (Nat × Oper)} : ∀ {L1 : List (Nat × Oper)} {s s' : St}, (∀ q ∈ L1, q.1 ≠ i ∧ comm hot ops q.1 i q.2 x = true) → runL P G hot ops base (L1 ++ (i, x) :: L2) s s' → ∃ s'', runL P G hot ops base ((i, x) :: (L1 ++ L2)) s s'' ∧ StEq s' s''
  | [], s, s', _, h => ⟨s', h, .refl _⟩
  | (j, y) :: L1, s, s', hc, h => by
    obtain ⟨e, h1, h0, h2, h3⟩ := h
    obtain ⟨s1, h4, h5⟩ := bubble (fun q hq => hc q (by simp [hq])) h3
    obtain ⟨c1, c2⟩ := hc (j, y) (by simp)
    obtain ⟨s2, h6, h7⟩ := swap (L := L1 ++ L2) c1 c2 (s := s) (s' := s1) ⟨e, h1, h0, h2, h4⟩
    exact ⟨s2, h6, h5.trans h7⟩

end
end Go.Ax
