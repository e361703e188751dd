/-
  Whatever order is drawn.
-/
import Derived.Test.YtdebekhncimenaaAxK
set_option linter.unusedSimpArgs false
set_option linter.unusedVariables false
namespace Go.Ax
open Go.RowKit

section
variable {P : Program} {G : Ctx} {ops : Array Oper} {base : Nat} {hot : Hot} {w0 : Base} {w : World} {ρ : Env} {m : Mem} {D : Nat → Prop} {t : Slots} {nt : Nat} {ds : Frm} {a : Act} {ro : Option Nat} {n : Nat} {Q : Exit → Act → World → Prop}

theorem look_filter {p : Nat × Fam → Bool} : ∀ {m : Mem}, (∀ r x y, p (r, x) = p (r, y)) → ∀ r x, look (m.filter p) r = some x → look m r = some x
  | [], _, r, x, h => by simp [look] at h
  | (k, y) :: rest, hp, r, x, h => by
    rw [List.filter_cons] at h
    split at h
    · simp only [look] at h ⊢
      split at h
      · rename_i e; simp only [e, if_true]; exact h
      · rename_i e; simp only [e]; exact look_filter hp r x h
    · rename_i hf
      have h' := look_filter hp r x h
      simp only [look]
      split
      · rename_i e
        exfalso
        subst e
        have : ∀ {m : Mem}, look (m.filter p) k ≠ none → ∃ z, p (k, z) = true := by
          intro m
          induction m with
          | nil => intro h; simp [look] at h
          | cons q m ih =>
            obtain ⟨k', z⟩ := q
            intro h
            rw [List.filter_cons] at h
            split at h
            · rename_i hz
              simp only [look] at h
              split at h
              · rename_i e; subst e; exact ⟨z, hz⟩
              · exact ih h
            · exact ih h
        obtain ⟨z, hz⟩ := this (m := rest) (by rw [h]; simp)
        exact hf (by rw [hp k y z]; exact hz)
      · exact h'

theorem look_restr {i : Nat} {o : Oper} {r : Nat} {x : Fam} (h : look (restr hot base i o t m) r = some x) : look m r = some x :=
  look_filter (fun _ _ _ => rfl) r x h

theorem SR.congr (h : SR w0 ρ t m D nt ds a w) {t' : Slots} (ht : slot t = slot t') : SR w0 ρ t' m D nt ds a w :=
  ⟨h.rel, fun j => by rw [← ht]; exact h.slots j, h.size, h.defers, h.frame⟩

theorem regP_mono {K K' : St → Prop} {ho : Option Hot} (hK : ∀ s, K s → K' s) : ∀ {rest : List Oper} {i : Nat} {s : St}, regP P G ho ops base rest i s K → regP P G ho ops base rest i s K'
  | [], i, s, h => by simp only [regP] at h ⊢; exact hK _ h
  | o :: rest, i, s, h => by
    simp only [regP, optK, boolK] at h ⊢
    split at h
    · rename_i e he
      split at h
      · rename_i hr
        rw [conj_iff] at h ⊢
        exact ⟨h.1, regP_mono hK h.2⟩
      · exact h.elim
    · exact h.elim

def listedD (base : Nat) (listed : Array Bool) (r : Nat) : Prop := r < base ∨ ∃ i, r = base + i ∧ listed.getD i false = true

structure Todo (ops : Array Oper) (listed : Array Bool) (T : List (Nat × Oper)) : Prop where
  size : listed.size = ops.size
  mem : ∀ q, q ∈ T ↔ ops[q.1]? = some q.2 ∧ listed.getD q.1 true = false
  sorted : T.Pairwise fun p q => p.1 < q.1
  closed : ∀ i, listed.getD i false = true → ∀ b, ((masks ops.toList []).getD i 0).testBit b = true → listed.getD b false = true

theorem drawOK_edge (h : drawOK hot ops = true) {i : Nat} {o : Oper} (ho : ops[i]? = some o) : ∀ e ∈ o.after, Region.binds .any e = true → e.on < i := by
  unfold drawOK at h
  rw [List.all_eq_true] at h
  have h1 := h i (by
    rw [List.mem_range]
    rw [Array.getElem?_eq_some_iff] at ho
    exact ho.1)
  simp only [ho, Bool.and_eq_true] at h1
  have h2 := h1.1
  rw [Array.all_eq_true_iff_forall_mem] at h2
  intro e he hb
  have := h2 e he
  simpa [hb] using this

theorem drawOK_comm (h : drawOK hot ops = true) {i j : Nat} {x y : Oper} (hx : ops[j]? = some x) (hy : ops[i]? = some y) (hji : j < i) : ((masks ops.toList []).getD i 0).testBit j = true ∨ comm hot ops j i x y = true := by
  unfold drawOK at h
  rw [List.all_eq_true] at h
  have h1 := h i (by
    rw [List.mem_range]
    rw [Array.getElem?_eq_some_iff] at hy
    exact hy.1)
  simp only [hy, Bool.and_eq_true] at h1
  have h2 := h1.2
  rw [List.all_eq_true] at h2
  have h3 := h2 j (List.mem_range.2 hji)
  simpa [hx, Bool.or_eq_true] using h3

theorem getD_true_of {listed : Array Bool} {i : Nat} (h : i < listed.size) : listed.getD i true = listed.getD i false := by
  simp [Array.getD_eq_getD_getElem?, Array.getElem?_eq_getElem h]

theorem getD_set {listed : Array Bool} {i j : Nat} {d : Bool} (h : i < listed.size) : (listed.setIfInBounds i true).getD j d = if j = i then true else listed.getD j d := by
  by_cases e : j = i
  · subst e; simp [Array.getD_eq_getD_getElem?, Array.getElem?_setIfInBounds, h]
  · simp [Array.getD_eq_getD_getElem?, Array.getElem?_setIfInBounds, Ne.symm e, e]

theorem Todo.ready_first {listed : Array Bool} {i : Nat} {o : Oper} {T : List (Nat × Oper)} (h : Todo ops listed ((i, o) :: T)) (hd : drawOK hot ops = true) : i ∈ Region.ready .any ops listed := by
  obtain ⟨h1, h2⟩ := (h.mem (i, o)).1 (by simp)
  dsimp only at h1 h2
  refine mem_ready.2 ⟨h2, o, h1, fun e he hb => ?_⟩
  have hlt := drawOK_edge hd h1 e he hb
  have hi : i < ops.size := by
    rw [Array.getElem?_eq_some_iff] at h1
    exact h1.1
  have hlt2 : e.on < listed.size := by rw [h.size]; omega
  cases hl : listed.getD e.on false with
  | true => rfl
  | false =>
    exfalso
    have hm : (e.on, ops[e.on]'(by omega)) ∈ (i, o) :: T := (h.mem _).2 ⟨by simp, by rw [getD_true_of hlt2]; exact hl⟩
    rcases List.mem_cons.1 hm with hm | hm
    · have := congrArg Prod.fst hm; dsimp only at this; omega
    · have := (List.pairwise_cons.1 h.sorted).1 _ hm
      dsimp only at this
      omega

theorem any_sound (hG : CtxOK P G) (hd : drawOK hot ops = true) (hfit : ∀ o ∈ ops.toList, ∀ k, o.dst = some k → k < nt ∧ ds.W k) :
    ∀ (fuel : Nat) (T : List (Nat × Oper)) (listed : Array Bool) (s s' : St) (ρ : Env) (a : Act) (w : World),
      Todo ops listed T → T.length ≤ fuel → runL P G hot ops base T s s' → SR w0 ρ s.t s.m (listedD base listed) nt ds a w →
      (∀ ρ' a' w', SR w0 ρ' s'.t s'.m (· < base + ops.size) nt ds a' w' → Q .normal a' w') →
      wpAnyIn (Fw ro) n P .any ops Q fuel listed a w := by
  intro fuel
  have fin : ∀ (listed : Array Bool) (s s' : St) (ρ : Env) (a : Act) (w : World), Todo ops listed [] → runL P G hot ops base [] s s' → SR w0 ρ s.t s.m (listedD base listed) nt ds a w → (∀ ρ' a' w', SR w0 ρ' s'.t s'.m (· < base + ops.size) nt ds a' w' → Q .normal a' w') → Q .normal a w := by
    intro listed s s' ρ a w hT hr hs hK
    simp only [runL] at hr
    subst hr
    refine hK ρ a w (hs.weaken fun r hr => ?_)
    rcases hr with hr | ⟨i, rfl, hr⟩
    · omega
    · rcases Nat.lt_or_ge i listed.size with h | h
      · rw [hT.size] at h; omega
      · simp [Array.getD_eq_getD_getElem?, Array.getElem?_eq_none h] at hr
  have noready : ∀ listed, Todo ops listed [] → Region.ready .any ops listed = [] := by
    intro listed hT
    refine List.eq_nil_iff_forall_not_mem.2 fun j hj => ?_
    obtain ⟨h1, o, h2, _⟩ := mem_ready.1 hj
    have := (hT.mem (j, o)).2 ⟨h2, h1⟩
    simp at this
  induction fuel with
  | zero =>
    intro T listed s s' ρ a w hT hl hr hs hK
    cases T with
    | nil => exact ⟨noready listed hT, fin listed s s' ρ a w hT hr hs hK⟩
    | cons q T => simp at hl
  | succ fuel ih =>
    intro T listed s s' ρ a w hT hl hr hs hK
    refine ⟨fun h0 => ?_, fun i hi => ?_⟩
    · cases T with
      | nil => exact fin listed s s' ρ a w hT hr hs hK
      | cons q T =>
        have := hT.ready_first hd
        rw [h0] at this
        simp at this
    · obtain ⟨hu, o, ho, hall⟩ := mem_ready.1 hi
      have hsz : i < ops.size := by
        have h1 := ho
        rw [Array.getElem?_eq_some_iff] at h1
        exact h1.1
      have hli : i < listed.size := by rw [hT.size]; exact hsz
      have hm : (i, o) ∈ T := (hT.mem _).2 ⟨ho, hu⟩
      obtain ⟨L1, L2, rfl⟩ := List.append_of_mem hm
      have hs1 := List.pairwise_append.1 hT.sorted
      have hcm : ∀ q ∈ L1, q.1 ≠ i ∧ comm hot ops q.1 i q.2 o = true := fun q hq => by
        have hlt := hs1.2.2 q hq (i, o) (by simp)
        dsimp only at hlt
        obtain ⟨q1, q2⟩ := (hT.mem q).1 (List.mem_append_left _ hq)
        refine ⟨by omega, ?_⟩
        rcases drawOK_comm hd q1 ho hlt with hb | hc
        · exfalso
          have hql : q.1 < listed.size := by omega
          rw [getD_true_of hql] at q2
          obtain ⟨e, he, hbi, h3⟩ := mask_bit ho hb
          have hel := hall e he hbi
          rcases h3 with h3 | h3
          · rw [← h3, hel] at q2; cases q2
          · rw [hT.closed _ hel _ h3] at q2; cases q2
        · exact hc
      obtain ⟨s1, ⟨e, he, hro, hob, hrest⟩, heq⟩ := bubble hcm hr
      have key : wpOpIn (Fw ro) n P ops Q i (wpAnyIn (Fw ro) n P .any ops Q fuel (listed.setIfInBounds i true)) a w := by
        unfold wpOpIn
        rw [ho]
        refine stepE_sound hG hs (key := base + i) ?_ (fun r x hx => look_restr hx) he hob (hfit _ (by
          rw [Array.getElem?_eq_some_iff] at ho
          obtain ⟨h1, rfl⟩ := ho
          simp)) fun ρ' v w' hs' => ?_
        · rintro (h | ⟨j, hj, h⟩)
          · omega
          · have : j = i := by omega
            subst this
            rw [getD_true_of hli, h] at hu
            cases hu
        · refine ih (L1 ++ L2) _ (stApp base i o e s) s1 ρ' _ w' ⟨by simpa using hT.size, fun q => ?_, ?_, ?_⟩ (by simp at hl ⊢; omega) hrest (hs'.weaken fun r hr => ?_) fun ρ'' a' w'' hq => hK ρ'' a' w'' (heq.m ▸ hq.congr heq.t.symm)
          · rw [getD_set hli]
            have h0 := hT.mem q
            simp only [List.mem_append, List.mem_cons] at h0 ⊢
            constructor
            · intro hq
              have hne : q.1 ≠ i := by
                rcases hq with hq | hq
                · have := hs1.2.2 q hq (i, o) (by simp); dsimp only at this; omega
                · have := (List.pairwise_cons.1 hs1.2.1).1 q hq; dsimp only at this; omega
              rw [if_neg hne]
              exact h0.1 (hq.imp id .inr)
            · rintro ⟨q1, q2⟩
              split at q2
              · cases q2
              · rename_i hne
                rcases h0.2 ⟨q1, q2⟩ with h | h | h
                · exact .inl h
                · subst h; exact absurd rfl hne
                · exact .inr h
          · refine List.pairwise_append.2 ⟨hs1.1, (List.pairwise_cons.1 hs1.2.1).2, fun x hx y hy => hs1.2.2 x hx y (by simp [hy])⟩
          · intro j hj b hb
            rw [getD_set hli] at hj ⊢
            split
            · rfl
            · split at hj
              · rename_i e; subst e
                obtain ⟨e, he, hbi, h3⟩ := mask_bit ho hb
                have hel := hall e he hbi
                rcases h3 with h3 | h3
                · rw [← h3]; exact hel
                · exact hT.closed _ hel _ h3
              · exact hT.closed _ hj _ hb
          · rcases hr with (hr | ⟨j, hj, hr⟩) | hr
            · exact .inl hr
            · exact .inr ⟨j, hj, by rw [getD_set hli]; split <;> first | rfl | exact hr⟩
            · exact .inr ⟨i, hr, by rw [getD_set hli]; simp⟩
      exact key

theorem Rel.draw (h : Rel w0 ρ m D w) : Rel w0 ρ m D { w with drawn := w.drawn + 1 } := by
  refine ⟨⟨h.below.os, h.below.tape, h.below.output, h.below.size, h.below.block⟩, h.imm2, h.dom, h.key, fun r x f h1 h2 => ?_, h.sep, h.fix, h.kept⟩
  obtain ⟨h3, h4⟩ := h.row r x f h1 h2
  exact ⟨h3, h4.mono h3 (.refl _) (fun _ _ h => h) (fun _ _ => rfl) fun _ => rfl⟩

theorem SR.draw (h : SR w0 ρ t m D nt ds a w) : SR w0 ρ t m D nt ds a { w with drawn := w.drawn + 1 } :=
  ⟨h.rel.draw, fun j => (h.slots j).mono (.refl _) fun _ _ => rfl, h.size, h.defers, h.frame⟩

theorem range_zip (l : Array Oper) (q : Nat × Oper) : q ∈ (List.range' 0 l.size).zip l.toList ↔ l[q.1]? = some q.2 := by
  rw [List.mem_iff_getElem?]
  constructor
  · rintro ⟨i, hi⟩
    rw [List.getElem?_zip_eq_some] at hi
    obtain ⟨h1, h2⟩ := hi
    have hlt : i < l.size := by
      have := (List.getElem?_eq_some_iff.1 h2).1
      simpa using this
    rw [List.getElem?_range' hlt] at h1
    simp at h1
    subst h1
    simpa using h2
  · intro h
    refine ⟨q.1, ?_⟩
    rw [List.getElem?_zip_eq_some]
    have hlt : q.1 < l.size := (Array.getElem?_eq_some_iff.1 h).1
    refine ⟨?_, by simpa using h⟩
    rw [List.getElem?_range' hlt]
    simp

/-- A region. -/
theorem region_sound (hG : CtxOK P G) (hm : P.follows .mixedOrders = true) {draw : Bool} {id : Nat} {H : Hots} (hd : draw = false ∨ drawOK (hotAt H id) ops = true) (hfit : ∀ o ∈ ops.toList, ∀ k, o.dst = some k → k < nt ∧ ds.W k) {K : St → Prop} {s : St}
    (h : regP P G (hotOf H id draw) ops base ops.toList 0 s K) (hs : SR w0 ρ s.t s.m (· < base) nt ds a w)
    (hK : ∀ s' ρ' a' w', K s' → SR w0 ρ' s'.t s'.m (· < base + ops.size) nt ds a' w' → Q .normal a' w') :
    (Code.region id ops draw).wpIn (Fw ro) n P Q a w := by
  cases draw with
  | false =>
    refine wpIn_region ?_
    have := regP_text (ro := ro) (n := n) (Q := Q) hG ops.toList 0 s ρ a w h (fun j => by simp) hfit (by simpa using hs) (fun s' ρ' a' w' k1 _ k3 => hK s' ρ' a' w' k1 (k3.weaken fun r hr => by simp at hr ⊢; omega))
    rw [List.range_eq_range']
    simpa using this
  | true =>
    have hd := hd.resolve_left (by simp)
    obtain ⟨s', h1, h2⟩ := regP_runL _ _ _ h
    refine wpIn_region_any hm ?_
    simp only [Array.length_toList] at h1
    refine any_sound hG hd hfit ops.size _ _ s s' ρ a _ ⟨by simp, fun q => ?_, ?_, ?_⟩ (by simp) h1 (hs.draw.weaken fun r hr => .inl hr) fun ρ' a' w' h => hK s' ρ' a' w' h2 h
    · rw [range_zip]
      constructor
      · intro h
        refine ⟨h, ?_⟩
        have hlt := (Array.getElem?_eq_some_iff.1 h).1
        simp [Array.getD_eq_getD_getElem?, Array.getElem?_replicate, hlt]
      · exact fun h => h.1
    · refine List.Pairwise.of_map (S := (· < ·)) Prod.fst (fun _ _ h => h) ?_
      rw [List.map_fst_zip (by simp)]
      exact List.pairwise_lt_range'
    · intro i hi
      simp [Array.getD_eq_getD_getElem?, Array.getElem?_replicate] at hi
      split at hi <;> simp at hi

/-! ### The frame -/

theorem regP_frame {K : St → Prop} {ho : Option Hot} : ∀ {rest : List Oper} {i : Nat} {s : St}, regP P G ho ops base rest i s K → regP P G ho ops base rest i s fun s' => K s' ∧ s'.nx = s.nx ∧ ∀ j, j ∉ writesOps rest → slot s'.t j = slot s.t j
  | [], i, s, h => by simp only [regP] at h ⊢; exact ⟨h, by simp⟩
  | o :: rest, i, s, h => by
    simp only [regP, optK, boolK] at h ⊢
    split at h
    · rename_i e he
      split at h
      · rename_i hr
        rw [conj_iff] at h ⊢
        refine ⟨h.1, regP_mono (fun s' hs' => ?_) (regP_frame h.2)⟩
        obtain ⟨h1, h2, h3⟩ := hs'
        refine ⟨h1, h2, fun j hj => ?_⟩
        simp only [writesOps] at hj
        have hj' : j ∉ writesOps rest ∧ o.dst ≠ some j := by
          cases hd : o.dst with
          | none => rw [hd] at hj; exact ⟨hj, by simp⟩
          | some d => rw [hd] at hj; simp only [List.mem_cons, not_or] at hj; exact ⟨hj.2, fun e => hj.1 (Option.some.inj e).symm⟩
        rw [h3 j hj'.1]
        dsimp only
        rw [slot_put, if_neg hj'.2]
      · exact h.elim
    · exact h.elim

end
end Go.Ax
