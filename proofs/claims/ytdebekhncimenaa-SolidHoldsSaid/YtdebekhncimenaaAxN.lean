/-
  Functions: what the evaluator says of a body is so of its calls.
-/
import Derived.Test.YtdebekhncimenaaAxM
set_option linter.unusedSimpArgs false
set_option linter.unusedVariables false
namespace Go.Ax
open Go.RowKit

section
variable {P : Program} {G : Ctx} {w0 : Base} {w : World} {ρ : Env} {m : Mem} {D : Nat → Prop} {t : Slots} {nt : Nat} {ds : Frm} {a : Act}

/-- The checks that a function must pass, called with so many arguments. -/
def funcOK (P : Program) (H : Hots) (fn : Func) (k : Nat) : Bool :=
  P.follows .mixedOrders && !(fn.name == "runtime.NumGoroutine") && decide (k ≤ fn.ntmps) && match fn.body with
  | some c => codeOK H fn.ntmps c
  | none => false

theorem bind_pure' {α : Type} (x : Sem α) : x.bind Sem.pure = x := by
  induction x with
  | pure a => rfl
  | halt h => rfl
  | _ => rename_i ih; simp only [Sem.bind]; first | rw [ih] | (congr 1; funext v; exact ih v)
theorem bind_assoc' {α β γ : Type} (x : Sem α) (f : α → Sem β) (g : β → Sem γ) : (x.bind f).bind g = x.bind fun a => (f a).bind g := by
  induction x with
  | pure a => rfl
  | halt h => rfl
  | _ => rename_i ih; simp only [Sem.bind]; first | rw [ih] | (congr 1; funext v; exact ih v)
theorem lawful : LawfulMonad Sem := LawfulMonad.mk' (id_map := fun x => bind_pure' x) (pure_bind := fun _ _ => rfl) (bind_assoc := fun x f g => bind_assoc' x f g)
attribute [local instance] lawful

theorem asAddr_run {t : TypeId} {v x : Value} (h : (Instr.loadAt t v).run P w = .ok x w) : (do loadVar t (← asAddr v) : Sem Value).run P w = .ok x w := by
  unfold Instr.loadAt at h
  cases v with
  | pointer p =>
    cases p with
    | some q => exact h
    | none => exact absurd h (by simp [Instr.sureAddr, stuck])
  | _ => exact absurd h (by simp [Instr.sureAddr, stuck])

theorem resOf_sound {r : ResultVar} {s : St} {ob : List Prop} {x : AV} (hs : SR w0 ρ s.t s.m D nt ds a w) (h : resOf P r s = some (ob, x)) (hob : ∀ p ∈ ob, p) :
    ∃ v, (match r with | .tmp t => pure (a.tmps.getD t undef) | .cell q t => do loadVar t (← asAddr (a.tmps.getD q undef)) : Sem Value).run P w = .ok v w ∧ R w ρ x v := by
  cases r with
  | tmp t =>
    refine ⟨_, rfl, ?_⟩
    have := hs.slots t
    unfold resOf at h
    dsimp only at h
    split at h
    · cases h
    · cases h; exact this
  | cell q t =>
    obtain ⟨v, h1, h2⟩ := aLoad_sound hs.rel h hob (hs.slots q)
    exact ⟨v, asAddr_run h1, h2⟩

theorem resList_sound {s : St} (hs : SR w0 ρ s.t s.m D nt ds a w) : ∀ {rs : List ResultVar} {ob : List Prop} {xs : List AV}, resList P s rs = some (ob, xs) → (∀ p ∈ ob, p) →
    ∃ vs : List Value, (rs.mapM fun | .tmp t => pure (a.tmps.getD t undef) | .cell q t => do loadVar t (← asAddr (a.tmps.getD q undef)) : Sem (List Value)).run P w = .ok vs w ∧ Rs w ρ xs vs := by
  intro rs
  induction rs with
  | nil =>
    intro ob xs h hob
    simp only [resList] at h
    cases h
    exact ⟨[], rfl, rfl, fun i a x h => by simp at h⟩
  | cons r rest ih =>
    intro ob xs h hob
    simp only [resList] at h
    split at h
    · rename_i o1 x1 h1
      split at h
      · rename_i o2 x2 h2
        cases h
        obtain ⟨v, hv, hR⟩ := resOf_sound hs h1 fun p hp => hob p (by simp [hp])
        obtain ⟨vs, hvs, hRs⟩ := ih h2 fun p hp => hob p (by simp [hp])
        refine ⟨v :: vs, ?_, by simp [hRs.1], fun i c x h3 h4 => ?_⟩
        · rw [List.mapM_cons]
          simp only [Sem.run_bind]
          erw [hv]
          simp only [Result.andThen_ok, Sem.run_bind]
          erw [hvs]
          rfl
        · cases i with
          | zero => simp at h3 h4; subst h3; subst h4; exact hR
          | succ i => simp at h3 h4; exact hRs.2 i c x h3 h4
      · cases h
    · cases h

theorem resAll_sound {s : St} (hs : SR w0 ρ s.t s.m D nt ds a w) {fn : Func} {ob : List Prop} {x : AV} (h : resAll P s fn.results.toList = some (ob, x)) (hob : ∀ p ∈ ob, p) :
    ∃ v, (results fn a.tmps).run P w = .ok v w ∧ R w ρ x v := by
  unfold resAll at h
  have key : ∀ {ob xs}, resList P s fn.results.toList = some (ob, xs) → (∀ p ∈ ob, p) → ∃ vs : List Value, Rs w ρ xs vs ∧ (results fn a.tmps).run P w = .ok (if h : vs.toArray.size = 1 then vs.toArray[0] else .tuple vs.toArray) w := fun h hob => by
    obtain ⟨vs, h1, h2⟩ := resList_sound hs h hob
    refine ⟨vs, h2, ?_⟩
    unfold results
    rw [← Array.toArray_toList (xs := fn.results), List.mapM_toArray]
    simp only [map_eq_pure_bind, bind_assoc, pure_bind]
    rw [Sem.run_bind]
    erw [h1]
    rfl
  split at h
  · rename_i o1 x1 h1
    cases h
    obtain ⟨vs, h2, h3⟩ := key h1 hob
    obtain ⟨v, rfl⟩ : ∃ v, vs = [v] := by
      have := h2.1
      cases vs with
      | nil => simp at this
      | cons v vs => cases vs with
        | nil => exact ⟨v, rfl⟩
        | cons _ _ => simp at this
    exact ⟨v, h3, h2.2 0 x v rfl rfl⟩
  · rename_i o1 as hne h1
    cases h
    obtain ⟨vs, h2, h3⟩ := key h1 hob
    have hl : ¬ vs.toArray.size = 1 := fun hl => by
      have h4 := h2.1
      rw [List.size_toArray] at hl
      rw [hl] at h4
      cases as with
      | nil => simp at h4
      | cons c as => cases as with
        | nil => exact hne c rfl
        | cons _ _ => simp only [List.length_cons] at h4; omega
    rw [dif_neg hl] at h3
    exact ⟨_, h3, .tup h2.1 h2.2⟩
  · cases h

theorem argSlots_get : ∀ {as : List AV} {i j : Nat}, slot (argSlots i as) j = if i ≤ j ∧ j < i + as.length then as.getD (j - i) (.v undef) else .v undef
  | [], i, j => by
    simp only [argSlots, slot, List.length_nil]
    rw [if_neg (by omega)]
  | a :: as, i, j => by
    simp only [argSlots, slot]
    by_cases e : i = j
    · subst e; simp
    · rw [if_neg e, argSlots_get]
      by_cases h : i ≤ j ∧ j < i + (as.length + 1)
      · have h1 : i + 1 ≤ j ∧ j < i + 1 + as.length := by omega
        have h2 : j - i = (j - (i + 1)) + 1 := by omega
        simp only [List.length_cons, h, h1, and_self, if_true, h2]
        simp
      · have h1 : ¬ (i + 1 ≤ j ∧ j < i + 1 + as.length) := by omega
        simp only [List.length_cons, h, h1, if_false]

/-- The marks are taken. -/
theorem leaves_marks {F : Fence} {n : Nat} {fn : Func} {Z : Ending → World → Prop} {a : Act} : ∀ (ms : List Nat) (w0 : Base) (w : World), ms.Nodup → (∀ b ∈ ms, (b, Obj.deferred (some [])) ∈ w0.fix) → SR w0 ρ t m D nt ds a w →
    (∀ (w1 : Base) (w' : World), w1.toWorld = w0.toWorld → w1.old = w0.old → SR w1 ρ t m D nt ds a w' → ∃ v, (results fn a.tmps).run P w' = .ok v w' ∧ Z (.returned v) w') →
    LeavesInM F n P fn a.tmps Z (ms.map dmark) .returning w
  | [], w0, w, _, _, h, hZ => by
    have := hZ w0 w rfl rfl h
    simpa only [List.map_nil, LeavesInM, LeavesIn] using this
  | b :: ms, w0, w, hn, hm, h, hZ => by
    have hb := hm b (by simp)
    obtain ⟨n1, n2⟩ := List.nodup_cons.1 hn
    simp only [List.map_cons, LeavesInM]
    refine ⟨by simp, .inl ⟨b, _, rfl, run_takeDeferred (h.rel.fix _ hb).2.2.2, ?_⟩⟩
    refine leaves_marks ms { w0 with fix := w0.fix.filter (fun p => p.1 ≠ b) } _ n2 (fun c hc => ?_) (h.putObj hb (fun p hp => .inr (by simpa using hp))) (fun w1 w' h1 h2 h3 => hZ w1 w' h1 h2 h3)
    refine List.mem_filter.2 ⟨hm c (by simp [hc]), ?_⟩
    simp only [ne_eq, decide_not, Bool.not_eq_true', decide_eq_false_iff_not]
    intro e; subst e; exact n1 hc

/-- A function's calls. -/
theorem fn_sound (hG : CtxOK P G) {f : FuncId} {fn : Func} (hf : P.funcs[f]? = some fn) {as : List AV} {H : Hots} (hok : funcOK P H fn as.length = true) {K : AV → Prop} (h : fnVC P G H fn as K)
    (I : Nat → Prop) (w : World) (vs : List Value) (hI : ∀ b, I b → b < w.heap.size) (hRs : Rs w (.ext I) as vs) :
    (callFunc f vs.toArray).run P w = .ok (.enter f vs.toArray) w ∧ Calls P f vs.toArray w fun e w' => ∃ v, e = .returned v ∧ (∃ r, K r ∧ R w' (.ext (New I w w')) r v) ∧ Below w.heap.size w w' := by
  unfold funcOK at hok
  simp only [Bool.and_eq_true, Bool.not_eq_true', decide_eq_true_eq] at hok
  obtain ⟨⟨⟨hm, hname⟩, hsz⟩, hbody⟩ := hok
  cases hb : fn.body with
  | none => rw [hb] at hbody; simp at hbody
  | some c =>
    rw [hb] at hbody
    dsimp only at hbody
    unfold fnVC at h
    rw [hb] at h
    dsimp only at h
    refine ⟨?_, callsIn_wide.1 (callsIn_of_wp_marks (n := 0) (F := Fence.wide) hf hb trivial ?_)⟩
    · unfold callFunc
      simp only [Sem.run_bind]
      show Sem.run P (match P.funcs[f]? with | none => _ | some fn => _) w = _
      rw [hf]
      dsimp only
      rw [if_neg (by rw [hname]; simp), if_neg (by rw [hb]; simp)]
      rfl
    · have hlen : vs.length = as.length := hRs.1
      have hnt : (vs.toArray ++ Array.replicate (fn.ntmps - vs.toArray.size) undef).size = fn.ntmps := by simp; omega
      refine awp_sound hG hm c none 0 _ _ ⟨w, I, [], []⟩ ⟨[], fun _ => True, #[]⟩ (Env.ext I) _ w _ hbody (fun l hl => by cases hl) (fun _ _ => trivial) h ⟨⟨.refl _ _, fun b hb => ⟨hI b hb, .inl hb⟩, fun r hr => hr.elim, fun r x hx => by simp [look] at hx, fun r x f hx => by simp [look] at hx, fun r x f r' x' f' hx => by simp [look] at hx, fun p hp => (by cases hp), fun p hp => (by cases hp)⟩, fun j => ?_, hnt, rfl, fun j hj => absurd trivial hj⟩ fun e s' w1 ds1 ρ' a' w' k0 k1 k2 k3 k4 => ?_
      · rw [argSlots_get]
        split
        · rename_i hj
          have hj' : j < as.length := by omega
          have hj2 : j < vs.length := by omega
          refine hRs.2 j _ _ ?_ ?_
          · simp [List.getD, List.getElem?_eq_getElem hj']
          · simp [Array.getD_eq_getD_getElem?, Array.getElem?_append, hj2]
        · rename_i hj
          have hj2 : vs.length ≤ j := by omega
          have : (vs.toArray ++ Array.replicate (fn.ntmps - vs.toArray.size) undef).getD j undef = undef := by
            rw [Array.getD_eq_getD_getElem?, Array.getElem?_append_right (by simpa using hj2), Array.getElem?_replicate]
            split <;> rfl
          rw [this]
          exact .v
      · obtain ⟨fx, ms, e1, e2, hms, hnd, _⟩ := k0
        have fin : ∀ e, e = AEx.normal ∨ e = AEx.ret → endK P fn K e s' → LeavesInM Fence.wide 0 P fn a'.tmps (fun e w' => ∃ v, e = .returned v ∧ (∃ r, K r ∧ R w' (.ext (New I w w')) r v) ∧ Below w.heap.size w w') a'.defers .returning w' := by
          intro e he h
          have h : match resAll P s' fn.results.toList with
              | some (ob, a) => conj ob (K (pur 3 s'.m a))
              | none => False := by
            rcases he with rfl | rfl <;> exact h
          rw [k4.defers, e2]
          simp only [List.append_nil]
          refine leaves_marks ms w1 w' hnd (fun b hb => by rw [e1]; exact List.mem_append.2 (.inl (hms b hb))) k4 fun w2 w'' g1 g2 k5 => ?_
          rw [e1] at g1 g2
          split at h
          · rename_i ob x hx
            obtain ⟨hob, hK⟩ := conj_iff.1 h
            obtain ⟨v, h1, h2⟩ := resAll_sound k5 hx hob
            refine ⟨v, h1, v, rfl, ⟨_, hK, pur_sound k5.rel (fun b hb => ?_) (fun b h1 h2 => .inr ⟨by rw [g1] at h2; exact h2, h1⟩) 3 _ _ h2⟩, by have := k5.rel.below; rw [g1] at this; exact this⟩
            obtain ⟨l1, l2⟩ := k5.rel.imm2 b hb
            rw [g2, g1] at l2
            rcases l2 with l2 | l2
            · exact .inl l2
            · exact .inr ⟨l2, l1⟩
          · exact h.elim
        cases e with
        | normal => exact fin .normal (.inl rfl) k1
        | ret => exact fin .ret (.inr rfl) k1
        | exit j => exact k1.elim


/-! ### In use -/

theorem loopI {X : Type} (I : Inv X) {body : St → (AEx → St → Prop) → Prop} {W : List Nat} {s : St} {K : AEx → St → Prop} (x0 : X) (h0 : I.ok x0) (hf : fits I W s x0 s)
    (hr : ∀ x, I.ok x → body (headSt I W s x) (seqK K fun s' => ∃ y, I.ok y ∧ I.μ y < I.μ x ∧ fits I W s y s')) : loopP body W s K := ⟨X, I, ⟨x0, h0, hf⟩, hr⟩

theorem fits_plain {X : Type} {I : Inv X} {W : List Nat} {s s' : St} {x : X} (h1 : fitSlots s.nx s.nx [] W s'.t (I.live x)) (h2 : I.rows x = []) (h3 : fitKeep s.m s'.m I.keep) (h4 : I.keep.Nodup) (h5 : I.names = 0) : fits I W s x s' :=
  ⟨[], by rw [h5]; exact h1, by rw [h2]; trivial, h3, by simp, by simp [h2], by simpa [h2] using h4, by simp [h2]⟩

/-- A contract that a function's body has earned. -/
theorem ConOK.of {G : Ctx} {H : Hots} (hG : CtxOK P G) {f : FuncId} {fn : Func} (hf : P.funcs[f]? = some fn) {c : Con} (h : ∀ as ob r, c as = some (ob, r) → (∀ p ∈ ob, p) → funcOK P H fn as.length = true ∧ fnVC P G H fn as (· = r)) : ConOK P f c := by
  intro as ob r hc hob I w vs hI hRs
  obtain ⟨h1, h2⟩ := h as ob r hc hob
  obtain ⟨k1, k2⟩ := fn_sound hG hf h1 h2 I w vs hI hRs
  refine .inr ⟨k1, k2.mono fun e w' ⟨v, he, ⟨r', hr, hR⟩, hb⟩ => ⟨v, he, ?_, hb⟩⟩
  subst hr
  exact hR

end
end Go.Ax
