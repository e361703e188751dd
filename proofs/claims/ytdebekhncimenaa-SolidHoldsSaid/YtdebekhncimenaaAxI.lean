/-
  Regions: in the order of the text, and in whatever order.
-/
import Derived.Test.YtdebekhncimenaaAxH
set_option linter.unusedSimpArgs false
set_option linter.unusedVariables false
namespace Go.Ax
open Go.RowKit

/-- What of an activation stays: its deferred calls; the temporaries outside W. -/
structure Frm where
  ds : List Deferred
  W : Nat → Prop
  T : Array Value

/-- A state of the evaluator holds of a frame and a world. -/
structure SR (w0 : Base) (ρ : Env) (t : Slots) (m : Mem) (D : Nat → Prop) (nt : Nat) (ds : Frm) (a : Act) (w : World) : Prop where
  rel : Rel w0 ρ m D w
  slots : ∀ j, R w ρ (slot t j) (a.tmps.getD j undef)
  size : a.tmps.size = nt
  defers : a.defers = ds.ds
  frame : ∀ j, ¬ ds.W j → a.tmps.getD j undef = ds.T.getD j undef

section
variable {P : Program} {w0 : Base} {w : World} {ρ : Env} {m : Mem} {D : Nat → Prop} {key : Nat} {G : Ctx} {t : Slots} {nt : Nat} {ds : Frm} {a : Act}

theorem SR.opd (h : SR w0 ρ t m D nt ds a w) (x : Operand) : R w ρ (opd t x) (a.eval x) := by
  cases x with
  | tmp j => exact h.slots j
  | const v => exact .v
  | global g => exact .v
  | func f => exact .fn (cs := []) (vs := []) rfl (fun i a x h => by simp at h)

theorem put_getD (d : Option Tmp) (v : Value) (j : Nat) (hd : ∀ k, d = some k → k < a.tmps.size) : (a.put d v).tmps.getD j undef = if d = some j then v else a.tmps.getD j undef := by
  cases d with
  | none => simp [Act.put]
  | some k =>
    have hk := hd k rfl
    simp only [Act.put, Option.some.injEq]
    by_cases e : k = j
    · subst e; simp [Array.getD_eq_getD_getElem?, Array.getElem?_setIfInBounds, hk]
    · simp [Array.getD_eq_getD_getElem?, Array.getElem?_setIfInBounds, e]
theorem put_size (d : Option Tmp) (v : Value) : (a.put d v).tmps.size = a.tmps.size := by cases d <;> simp [Act.put]
theorem put_defers (d : Option Tmp) (v : Value) : (a.put d v).defers = a.defers := by cases d <;> rfl

theorem slot_put (d : Option Tmp) (x : AV) (j : Nat) : slot (putSlot d x t) j = if d = some j then x else slot t j := by
  cases d with
  | none => simp [putSlot]
  | some k =>
    simp only [putSlot, slot, Option.some.injEq]

/-- Behind an operation. -/
theorem SR.put (h : SR w0 ρ t m D nt ds a w) {w' : World} {ρ' : Env} {m' : Mem} {D' : Nat → Prop} {d : Option Tmp} {x : AV} {v : Value} (hd : ∀ k, d = some k → k < nt ∧ ds.W k) (hr : Rel w0 ρ' m' D' w') (hx : R w' ρ' x v) (hle : ρ.le ρ') (hs : Same ρ.imm w w') :
    SR w0 ρ' (putSlot d x t) m' D' nt ds (a.put d v) w' := by
  refine ⟨hr, fun j => ?_, (put_size d v).trans h.size, (put_defers d v).trans h.defers, fun j hj => ?_⟩
  · rw [put_getD d v j (fun k e => by rw [h.size]; exact (hd k e).1), slot_put]
    split
    · exact hx
    · exact (h.slots j).mono hle hs
  · rw [put_getD d v j (fun k e => by rw [h.size]; exact (hd k e).1)]
    split
    · rename_i e; exact absurd (hd j e).2 hj
    · exact h.frame j hj

theorem guardOf_sound {ops : Array Oper} {g : Nat × Bool} {b : Bool} (h : SR w0 ρ t m D nt ds a w) (hg : guardOf ops (slot t) g = some b) : (yielded ops a.tmps g.1 == some g.2) = b := by
  unfold guardOf at hg
  split at hg
  · rename_i d hd
    have hsl := h.slots d
    have hy : ∀ v, a.tmps.getD d undef = v → yielded ops a.tmps g.1 = match v with | .bool b => some b | _ => none := by
      intro v hv
      unfold yielded
      rw [hd]
      simp only [Option.bind_some]
      rw [Array.getD_eq_getD_getElem?] at hv
      cases hq : a.tmps[d]? with
      | none => rw [hq] at hv; simp at hv; subst hv; simp [undef]
      | some u => rw [hq] at hv; simp at hv; subst hv; cases u <;> rfl
    split at hg
    · rename_i c hc
      cases hg
      rw [hc] at hsl
      generalize hv : a.tmps.getD d undef = v at hsl
      cases hsl
      rw [hy _ hv]
      cases hgw : g.2 <;> cases c <;> simp
    · rename_i q c hc
      cases hg
      rw [hc] at hsl
      generalize hv : a.tmps.getD d undef = v at hsl
      cases hsl with
      | yes hh =>
        cases hh
        rw [hy _ hv]
        cases hgw : g.2 <;> cases c <;> simp
      | no =>
        rw [hy _ hv]
        simp [undef]
    · cases hg
  · cases hg

variable {ro : Option Nat} {n : Nat} {Q : Exit → Act → World → Prop} {ops : Array Oper} {o : Oper} {next : Act → World → Prop}

theorem effOf_u {a : Option AV} {e : Eff} (h : effOf a = some e) : e.u = .none := by
  unfold effOf at h; split at h <;> cases h; rfl
theorem effOf2_u {a : Option (List Prop × AV)} {e : Eff} (h : effOf2 a = some e) : e.u = .none := by
  unfold effOf2 at h; split at h <;> cases h; rfl
theorem aStore_u {t : TypeId} {p x : AV} {e : Eff} (h : aStore P t p x m = some e) : ∃ r y, e.u = .set r y := by
  unfold aStore at h
  (repeat' split at h) <;> first | (cases h; done) | (cases h; exact ⟨_, _, rfl⟩)

theorem aExt_guard {g : Bool} {ρ0 : Operand → AV} {e : Eff} {key : Nat} (h : aExt P key (some g) o ρ0 m = some e) {x : Fam} (hu : e.u = .new x) : ∀ f, (x f).g = some g := by
  unfold aExt at h
  split at h
  · unfold aMake at h
    (repeat' split at h) <;> first | (cases h; done) | skip
    cases h; cases hu; intro f; unfold famN; split <;> rfl
  · unfold aCut at h
    (repeat' split at h) <;> first | (cases h; done) | (cases h; cases hu; done)
  · split at h
    · rename_i hg; cases hg
    · cases h
  · cases h

/-- A guarded operation's rows bear its guard. -/
theorem aStep_guard {g : Bool} {ρ0 : Operand → AV} {e : Eff} (h : aStep P G key (some g) o ρ0 m = some e) {x : Fam} (hu : e.u = .new x) : ∀ f, (x f).g = some g := by
  have n1 : ∀ {e : Eff}, e.u = .none → e.u = .new x → False := fun h1 h2 => by rw [h1] at h2; cases h2
  unfold aStep at h
  split at h
  · split at h
    · exact (n1 (effOf2_u h) hu).elim
    · cases h
  · split at h
    · split at h
      · exact (n1 (effOf2_u h) hu).elim
      · cases h
    · cases h; cases hu
    · cases h
  · split at h
    · exact aExt_guard h hu
    unfold aop at h
    dsimp only at h
    split at h
    case h_4 =>
      split at h
      · cases h; simp only [aAlloc] at hu; cases hu; intro f; dsimp only; split <;> rfl
      · cases h
    case h_5 =>
      split at h
      · cases h; simp only [aAlloc] at hu; cases hu; intro f; dsimp only; split <;> rfl
      · cases h
    case h_7 => obtain ⟨r, y, h2⟩ := aStore_u h; rw [h2] at hu; cases hu
    case h_9 =>
      unfold aBuildSlice at h
      (repeat' split at h) <;> first | (cases h; done) | skip
      cases h; cases hu; intro f; dsimp only; split <;> rfl
    all_goals
      first
        | exact (n1 (effOf_u h) hu).elim
        | exact (n1 (effOf2_u h) hu).elim
        | ((repeat' split at h) <;> first | (cases h; done) | exact (n1 (effOf_u h) hu).elim | (cases h; cases hu; done))

theorem Rel.dead (h : Rel w0 ρ m D w) (hk : ¬ D key) {x : Fam} (hx : ∀ f, (x f).g = some false) : Rel w0 ρ (insRow key x m) (fun r => D r ∨ r = key) w := by
  have hkl : look m key = none := by
    cases hl : look m key with
    | none => rfl
    | some y => exact absurd (h.key _ _ hl) hk
  have hlk : ∀ r y f, look (insRow key x m) r = some y → (y f).g ≠ some false → look m r = some y := fun r y f hy hg => by
    rw [look_ins hkl] at hy
    split at hy
    · cases hy; exact absurd (hx f) hg
    · exact hy
  refine ⟨h.below, h.imm2, fun r hr => .inl (h.dom r hr), fun r y hy => ?_, fun r y f hy hg => h.row r y f (hlk r y f hy hg) hg,
    fun r y f r' y' f' hy hy' hg hg' hc hc' he => h.sep r y f r' y' f' (hlk r y f hy hg) (hlk r' y' f' hy' hg') hg hg' hc hc' he, h.fix, h.kept⟩
  rw [look_ins hkl] at hy
  split at hy
  · rename_i e; exact .inr e.symm
  · exact .inl (h.key r y hy)

/-- One operation of a region, guarded or not. -/
theorem stepE_sound (hG : CtxOK P G) (h : SR w0 ρ t m D nt ds a w) (hk : ¬ D key) {m' : Mem} (hm : ∀ r x, look m' r = some x → look m r = some x) {e : Eff} (he : stepE P G ops key o t m' = some e) (hob : ∀ q ∈ e.ob, q) (hd : ∀ k, o.dst = some k → k < nt ∧ ds.W k)
    (hn : ∀ ρ' v w', SR w0 ρ' (putSlot o.dst e.val t) (e.u.app key m) (fun r => D r ∨ r = key) nt ds (a.put o.dst v) w' → next (a.put o.dst v) w') :
    if Region.wanted o (yielded ops a.tmps) then o.wpIn (Fw ro) n P a w next Q else (∀ f, o.about P w a.eval = some f → (Fw ro).fn f) ∧ next (a.put o.dst undef) w := by
  unfold stepE at he
  split at he
  · rename_i hg
    split at he
    · rename_i e0 hs
      cases he
      rw [if_pos (by simp [Region.wanted, hg])]
      exact aStep_sound hG h.rel hk hm hs hob h.opd fun v w' ⟨ρ', h1, h2, h3, h4⟩ => hn ρ' v w' (h.put hd h2 h1 h3 h4)
    · cases he
  · rename_i g hg
    split at he
    · rename_i b hb
      split at he
      · rename_i e0 hs
        split at he
        · rename_i hmild
          cases he
          have hw : Region.wanted o (yielded ops a.tmps) = b := by
            simp only [Region.wanted, hg]
            exact guardOf_sound h hb
          rw [hw]
          cases b with
          | true =>
            simp only [if_true]
            exact aStep_sound hG h.rel hk hm hs (conj_map_imp hob rfl) h.opd fun v w' ⟨ρ', h1, h2, h3, h4⟩ => hn ρ' v w' (h.put hd h2 (.yes h1) h3 h4)
          | false =>
            simp only [Bool.false_eq_true, if_false]
            refine ⟨fun _ _ => trivial, hn ρ undef w (h.put hd ?_ .no (.refl _) (.refl _ _))⟩
            cases hu : e0.u with
            | none => exact h.rel.sub (fun _ _ h => h) (fun _ h => .inl h)
            | new x => exact h.rel.dead hk (aStep_guard hs hu)
            | set r y => rw [hu] at hmild; simp [Upd.mild] at hmild
            | swap r y => rw [hu] at hmild; simp [Upd.mild] at hmild
        · cases he
      · cases he
    · cases he

theorem conj_iff : ∀ {l : List Prop} {k : Prop}, conj l k ↔ (∀ p ∈ l, p) ∧ k
  | [], k => by simp [conj]
  | p :: ps, k => by simp only [conj, conj_iff (l := ps), List.forall_mem_cons, and_assoc]

theorem SR.weaken (h : SR w0 ρ t m D nt ds a w) {D' : Nat → Prop} (hD : ∀ r, D r → D' r) : SR w0 ρ t m D' nt ds a w :=
  ⟨h.rel.sub (fun _ _ h => h) hD, h.slots, h.size, h.defers, h.frame⟩

/-- The operations fit the frame. -/
def fitsOps (nt : Nat) (l : List Oper) : Bool := l.all fun o => match o.dst with | some d => decide (d < nt) | none => true
theorem fitsOps_mem {l : List Oper} (h : fitsOps nt l = true) {o : Oper} (ho : o ∈ l) : ∀ k, o.dst = some k → k < nt := fun k hk => by
  unfold fitsOps at h
  rw [List.all_eq_true] at h
  have := h o ho
  rw [hk] at this
  simpa using this

theorem wpOpsIn_cons' {i : Nat} {rest : List Nat} {o : Oper} (ho : ops[i]? = some o) : wpOpsIn (Fw ro) n P ops Q (i :: rest) a w =
    if Region.wanted o (yielded ops a.tmps) then o.wpIn (Fw ro) n P a w (wpOpsIn (Fw ro) n P ops Q rest) Q else (∀ f, o.about P w a.eval = some f → (Fw ro).fn f) ∧ wpOpsIn (Fw ro) n P ops Q rest (a.put o.dst undef) w := by
  simp only [wpOpsIn, ho]

/-- In the order of the text. -/
theorem regP_text (hG : CtxOK P G) {base : Nat} {K : St → Prop} : ∀ (rest : List Oper) (i : Nat) (s : St) (ρ : Env) (a : Act) (w : World),
    regP P G none ops base rest i s K → (∀ j, rest[j]? = ops[i + j]?) → (∀ o ∈ rest, ∀ k, o.dst = some k → k < nt ∧ ds.W k) → SR w0 ρ s.t s.m (· < base + i) nt ds a w →
    (∀ s' ρ' a' w', K s' → s'.nx = s.nx → SR w0 ρ' s'.t s'.m (· < base + i + rest.length) nt ds a' w' → Q .normal a' w') → wpOpsIn (Fw ro) n P ops Q (List.range' i rest.length) a w
  | [], i, s, ρ, a, w, h, _, _, hs, hK => by
    simp only [regP] at h
    exact hK s ρ a w h rfl hs
  | o :: rest, i, s, ρ, a, w, h, hops, hfit, hs, hK => by
    have ho : ops[i]? = some o := by simpa using (hops 0).symm
    simp only [regP, memFor, rootOK, optK, boolK] at h
    split at h
    · rename_i e he
      obtain ⟨hob, h⟩ := conj_iff.1 h
      simp only [List.length_cons, List.range'_succ]
      rw [wpOpsIn_cons' ho]
      refine stepE_sound hG hs (by omega) (fun _ _ h => h) he hob (hfit o (by simp)) fun ρ' v w' hs' => ?_
      have hs2 := hs'.weaken (D' := (· < base + (i + 1))) (fun r hr => by rcases hr with hr | hr <;> omega)
      refine regP_text hG rest (i + 1) _ ρ' _ w' h (fun j => by have := hops (j + 1); simpa [Nat.add_assoc, Nat.add_comm 1 j] using this) (fun o ho => hfit o (by simp [ho])) hs2 fun s' ρ'' a' w'' k1 k2 k3 => hK s' ρ'' a' w'' k1 k2 (k3.weaken fun r hr => by simp only [List.length_cons]; omega)
    · exact h.elim

end
end Go.Ax
