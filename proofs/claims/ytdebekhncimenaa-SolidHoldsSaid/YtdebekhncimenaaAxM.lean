/-
  Code: what the evaluator says comes true.
-/
import Derived.Test.YtdebekhncimenaaAxL
import Derived.LoopNIn
import Derived.RangeFuncLeaves
import Derived.RangeFuncNested
set_option linter.unusedSimpArgs false
set_option linter.unusedVariables false
namespace Go.Ax
open Go.RowKit

section
variable {P : Program} {G : Ctx} {w0 : Base} {w : World} {ρ : Env} {m : Mem} {D : Nat → Prop} {t : Slots} {nt : Nat} {ds : Frm} {a : Act} {ro : Option Nat} {n : Nat} {Q : Exit → Act → World → Prop}

def conc : AEx → Exit
  | .normal => .normal
  | .exit j => .exit j
  | .ret => .ret

/-- The checks that the text must pass. -/
def codeOK (H : Hots) (nt : Nat) : Code → Bool
  | .region id ops draw => fitsOps nt ops.toList && (!draw || drawOK (hotAt H id) ops)
  | .seq a b => codeOK H nt a && codeOK H nt b
  | .cond _ a b => codeOK H nt a && codeOK H nt b
  | .block _ c => codeOK H nt c
  | .loop c => codeOK H nt c
  | .rangeFunc _ ps a b => ps.toList.all (fun p => decide (p < nt)) && codeOK H nt a && codeOK H nt b
  | _ => true

/-! ### The parameters of a round -/
def setAll (ps : List Nat) (vs : List Value) (T : Array Value) : Array Value := (ps.zip vs).foldl (fun t p => t.setIfInBounds p.1 p.2) T
theorem setAll_size : ∀ (ps : List Nat) (vs : List Value) (T : Array Value), (setAll ps vs T).size = T.size
  | [], vs, T => rfl
  | p :: ps, [], T => rfl
  | p :: ps, v :: vs, T => by
    have := setAll_size ps vs (T.setIfInBounds p v)
    simpa [setAll] using this
theorem slotsOf_R {w : World} {ρ : Env} : ∀ (ps : List Nat) (as : List AV) (vs : List Value) (t : Slots) (T : Array Value), as.length = ps.length → vs.length = as.length → (∀ p ∈ ps, p < T.size) →
    (∀ (i : Nat) (a : AV) (x : Value), as[i]? = some a → vs[i]? = some x → R w ρ a x) → (∀ j, R w ρ (slot t j) (T.getD j undef)) → ∀ j, R w ρ (slot (slotsOf ps as t) j) ((setAll ps vs T).getD j undef)
  | [], as, vs, t, T, h1, h2, hp, h, ht => by
    intro j
    cases as <;> simpa [slotsOf, setAll] using ht j
  | p :: ps, [], vs, t, T, h1, h2, hp, h, ht => by simp at h1
  | p :: ps, a :: as, [], t, T, h1, h2, hp, h, ht => by simp at h2
  | p :: ps, a :: as, v :: vs, t, T, h1, h2, hp, h, ht => by
    have := slotsOf_R ps as vs ((p, a) :: t) (T.setIfInBounds p v) (by simpa using h1) (by simpa using h2) (fun q hq => by simpa using hp q (by simp [hq])) (fun i b x hb hx => h (i + 1) b x (by simpa using hb) (by simpa using hx)) (fun j => by
      have hlt : p < T.size := hp p (by simp)
      simp only [slot]
      by_cases e : p = j
      · subst e
        simp only [if_true, Array.getD_eq_getD_getElem?, Array.getElem?_setIfInBounds, hlt]
        exact h 0 a v rfl rfl
      · simp only [if_neg e, Array.getD_eq_getD_getElem?, Array.getElem?_setIfInBounds]
        have := ht j
        rw [Array.getD_eq_getD_getElem?] at this
        exact this)
    intro j
    simpa [slotsOf, setAll] using this j
theorem setAll_other : ∀ (ps : List Nat) (vs : List Value) (T : Array Value) (j : Nat), j ∉ ps → (setAll ps vs T).getD j undef = T.getD j undef
  | [], vs, T, j, h => rfl
  | p :: ps, [], T, j, h => rfl
  | p :: ps, v :: vs, T, j, h => by
    have := setAll_other ps vs (T.setIfInBounds p v) j (fun hj => h (by simp [hj]))
    have hpj : p ≠ j := fun e => h (by simp [e])
    simp only [setAll, List.zip_cons_cons, List.foldl_cons] at this ⊢
    rw [this]
    simp [Array.getD_eq_getD_getElem?, Array.getElem?_setIfInBounds, hpj]
theorem setAll_arr (ps : Array Nat) (vs : Array Value) (T : Array Value) : (ps.zip vs).foldl (fun t (p, v) => t.setIfInBounds p v) T = setAll ps.toList vs.toList T := by
  unfold setAll
  rw [← Array.foldl_toList, Array.toList_zip]

/-! ### Names for rows -/

def Env.ren (ρ : Env) (N : Nat) (σ : Names) : Env where
  dom r := r < N ∧ match asg σ r with
    | some k => ρ.dom k
    | none => True
  blk r f := match asg σ r with
    | some k => ρ.blk k f
    | none => 0
  cap r f := match asg σ r with
    | some k => ρ.cap k f
    | none => 0
  imm := ρ.imm

theorem asg_low {N : Nat} : ∀ {σ : Names} {r : Nat}, (∀ p ∈ σ, N ≤ p.1) → r < N → asg σ r = some r
  | [], r, _, _ => rfl
  | (k, x) :: rest, r, h, hr => by
    simp only [asg]
    have hk := h (k, x) (by simp)
    dsimp only at hk
    rw [if_neg (by omega)]
    exact asg_low (fun p hp => h p (by simp [hp])) hr

/-- A value whose keys lie below N. -/
theorem R.ren_low {N N' : Nat} {σ : Names} (hσ : ∀ p ∈ σ, N ≤ p.1) (hN : N ≤ N') {x : Value} {ac : AV} (h : R w ρ ac x) : ∀ (d : Nat), kb d N ac → R w (ρ.ren N' σ) ac x := by
  have lo : ∀ r, r < N → ρ.dom r → (ρ.ren N' σ).dom r := fun r hr hd => by
    refine ⟨by omega, ?_⟩
    rw [asg_low hσ hr]; exact hd
  have bl : ∀ r f, r < N → (ρ.ren N' σ).blk r f = ρ.blk r f := fun r f hr => by simp only [Env.ren, asg_low hσ hr]
  have ca : ∀ r f, r < N → (ρ.ren N' σ).cap r f = ρ.cap r f := fun r f hr => by simp only [Env.ren, asg_low hσ hr]
  induction h with
  | v => exact fun _ _ => .v
  | any => exact fun _ _ => .any
  | agg hl h ih =>
    intro d hk
    cases d with
    | zero => simp [kb] at hk
    | succ d =>
      simp only [kb] at hk
      exact .agg hl fun i b x h1 h2 => ih i b x h1 h2 lo bl ca d (hk b (List.mem_of_getElem? h1))
  | tup hl h ih =>
    intro d hk
    cases d with
    | zero => simp [kb] at hk
    | succ d =>
      simp only [kb] at hk
      exact .tup hl fun i b x h1 h2 => ih i b x h1 h2 lo bl ca d (hk b (List.mem_of_getElem? h1))
  | fn hl h ih =>
    intro d hk
    cases d with
    | zero => simp [kb] at hk
    | succ d =>
      simp only [kb] at hk
      exact .fn hl fun i b x h1 h2 => ih i b x h1 h2 lo bl ca d (hk b (List.mem_of_getElem? h1))
  | iface h ih =>
    intro d hk
    cases d with
    | zero => simp [kb] at hk
    | succ d => simp only [kb] at hk; exact .iface (ih lo bl ca d hk)
  | yes h ih =>
    intro d hk
    cases d with
    | zero => simp [kb] at hk
    | succ d => simp only [kb] at hk; exact .yes (ih lo bl ca d hk)
  | no => exact fun _ _ => .no
  | ro b o hn ha hi hlen hex hr ih =>
    exact fun _ _ => .ro b o hn ha hi hlen hex hr
  | rop b o hi hex hr ih => exact fun _ _ => .rop b o hi hex hr
  | @bx ρ r k hd =>
    intro d hk
    have hk : r < N := by cases d <;> simpa [kb] using hk
    rw [← bl r 0 hk]
    exact .bx (lo r hk hd)
  | @ptr ρ r f i sz k hd =>
    intro d hk
    have hk : r < N := by cases d <;> simpa [kb] using hk
    rw [← bl r f hk]
    exact .ptr (lo r hk hd)
  | @own ρ r f nn sz aa hd hn ha =>
    intro d hk
    have hk : r < N := by cases d <;> simpa [kb] using hk
    rw [← ca r f hk]
    exact .own (lo r hk hd) (by rw [ca r f hk]; exact hn) (by rw [ca r f hk, bl r f hk]; exact ha)
  | @vw ρ r f l nn sz aa cap hd hn ha =>
    intro d hk
    have hk : r < N := by cases d <;> simpa [kb] using hk
    exact .vw (lo r hk hd) hn (by rw [bl r f hk]; exact ha)

/-- All keys in a value of the state lie below N: by what it stood for. -/
theorem R.low {x : Value} {ac : AV} {N N' : Nat} {σ : Names} (hσ : ∀ p ∈ σ, N ≤ p.1) (hN : N ≤ N') (h : R w ρ ac x) (hd : ∀ r, ρ.dom r → r < N) :
    ∀ {w' : World} {ρ' : Env} {x' : Value}, R w' ρ' ac x' → R w' (ρ'.ren N' σ) ac x' := by
  have lo : ∀ (ρ' : Env) r, r < N → ρ'.dom r → (ρ'.ren N' σ).dom r := fun ρ' r hr hd => by
    refine ⟨by omega, ?_⟩
    rw [asg_low hσ hr]; exact hd
  have bl : ∀ (ρ' : Env) r f, r < N → (ρ'.ren N' σ).blk r f = ρ'.blk r f := fun ρ' r f hr => by simp only [Env.ren, asg_low hσ hr]
  have ca : ∀ (ρ' : Env) r f, r < N → (ρ'.ren N' σ).cap r f = ρ'.cap r f := fun ρ' r f hr => by simp only [Env.ren, asg_low hσ hr]
  induction h with
  | v => intro w' ρ' x' h; cases h; exact .v
  | any => intro w' ρ' x' h; cases h; exact .any
  | @agg ρ cs vs hl h ih =>
    intro w' ρ' x' h'
    cases h' with
    | agg hl' h' =>
      refine .agg hl' fun i b x h1 h2 => ?_
      have hlt : i < vs.length := by
        have := (List.getElem?_eq_some_iff.1 h1).1
        omega
      exact ih i b vs[i] h1 (by simp) hd (h' i b x h1 h2)
  | @tup ρ cs vs hl h ih =>
    intro w' ρ' x' h'
    cases h' with
    | tup hl' h' =>
      refine .tup hl' fun i b x h1 h2 => ?_
      have hlt : i < vs.length := by
        have := (List.getElem?_eq_some_iff.1 h1).1
        omega
      exact ih i b vs[i] h1 (by simp) hd (h' i b x h1 h2)
  | @fn ρ f cs vs hl h ih =>
    intro w' ρ' x' h'
    cases h' with
    | fn hl' h' =>
      refine .fn hl' fun i b x h1 h2 => ?_
      have hlt : i < vs.length := by
        have := (List.getElem?_eq_some_iff.1 h1).1
        omega
      exact ih i b vs[i] h1 (by simp) hd (h' i b x h1 h2)
  | iface h ih => intro w' ρ' x' h'; cases h' with | iface h' => exact .iface (ih hd h')
  | yes h ih => intro w' ρ' x' h'; cases h' with | yes h' => exact .yes (ih hd h')
  | no => intro w' ρ' x' h'; cases h' with | no => exact .no
  | ro b o hn ha hi hlen hex hr ih =>
    intro w' ρ' x' h'
    cases h' with | ro b o hn ha hi hlen hex hr => exact .ro b o hn ha hi hlen hex hr
  | rop b o hi hex hr ih =>
    intro w' ρ' x' h'
    cases h' with | rop b o hi hex hr => exact .rop b o hi hex hr
  | @bx ρ r k hr =>
    intro w' ρ' x' h'
    cases h' with | bx hd' => 
    rw [← bl ρ' r 0 (hd r hr)]
    exact .bx (lo ρ' r (hd r hr) hd')
  | @ptr ρ r f i sz k hr =>
    intro w' ρ' x' h'
    cases h' with | ptr hd' =>
    rw [← bl ρ' r f (hd r hr)]
    exact .ptr (lo ρ' r (hd r hr) hd')
  | @own ρ r f nn sz aa hr hn ha =>
    intro w' ρ' x' h'
    cases h' with | own hd' hn' ha' =>
    have hk := hd r hr
    rw [← ca ρ' r f hk]
    exact .own (lo ρ' r hk hd') (by rw [ca ρ' r f hk]; exact hn') (by rw [ca ρ' r f hk, bl ρ' r f hk]; exact ha')
  | @vw ρ r f l nn sz aa cap hr hn ha =>
    intro w' ρ' x' h'
    cases h' with | vw hd' hn' ha' =>
    have hk := hd r hr
    exact .vw (lo ρ' r hk hd') hn' (by rw [bl ρ' r f hk]; exact ha')

theorem fit1_sound {N k : Nat} {σ : Names} (hσ : ∀ p ∈ σ, N ≤ p.1 ∧ p.1 < N + k) {new old : AV} (h : fit1 N (N + k) σ new old) {x : Value} (hR : R w ρ old x) : R w (ρ.ren (N + k) σ) new x := by
  unfold fit1 at h
  split at h
  · rename_i r f nn sz
    obtain ⟨hlt, h⟩ := h
    split at h
    · rename_i q hq
      subst h
      have e1 : (ρ.ren (N + k) σ).cap r f = ρ.cap q f := by simp only [Env.ren, hq]
      have e2 : (ρ.ren (N + k) σ).blk r f = ρ.blk q f := by simp only [Env.ren, hq]
      cases hR with
      | own hd hn ha =>
        rw [← e1]
        exact .own ⟨hlt, by rw [hq]; exact hd⟩ (by rw [e1]; exact hn) (by rw [e1, e2]; exact ha)
    · rename_i hq
      obtain ⟨rfl, rfl⟩ := h
      have e1 : (ρ.ren (N + k) σ).cap r f = 0 := by simp only [Env.ren, hq]
      cases hR
      have := R.own (w := w) (ρ := ρ.ren (N + k) σ) (r := r) (f := f) (n := 0) (sz := sz) (a := none) ⟨hlt, by rw [hq]; trivial⟩ (by omega) (by rw [e1]; simp)
      rw [e1] at this
      exact this
  · exact .any
  · obtain ⟨rfl, hk⟩ := h
    exact hR.ren_low (fun p hp => (hσ p hp).1) (by omega) 3 hk


theorem look_append {m m' : Mem} {r : Nat} : look (m ++ m') r = match look m r with | some x => some x | none => look m' r := by
  induction m with
  | nil => rfl
  | cons q m ih =>
    obtain ⟨k, x⟩ := q
    simp only [List.cons_append, look]
    split
    · rfl
    · exact ih

theorem look_kept {keep : List Nat} {r : Nat} {x : Fam} : ∀ {m : Mem}, look (keptRows keep m) r = some x → r ∈ keep ∧ look m r = some x
  | [], h => by simp [keptRows, look] at h
  | (k, y) :: rest, h => by
    unfold keptRows at h
    rw [List.filter_cons] at h
    split at h
    · rename_i hk
      simp only [look] at h ⊢
      split at h
      · rename_i e; subst e
        simp only [if_true]
        exact ⟨by simpa using hk, h⟩
      · rename_i e
        simp only [e, if_false]
        exact look_kept h
    · rename_i hk
      have h' := look_kept (m := rest) h
      refine ⟨h'.1, ?_⟩
      simp only [look]
      rw [if_neg]
      · exact h'.2
      · intro e; subst e
        simp only [List.contains_eq_mem, decide_eq_true_eq] at hk
        exact hk h'.1

theorem look_mem {r : Nat} {x : Fam} : ∀ {m : Mem}, look m r = some x → (r, x) ∈ m
  | (k, y) :: rest, h => by
    simp only [look] at h
    split at h
    · rename_i e; cases h; subst e; simp
    · exact List.mem_cons_of_mem _ (look_mem h)

theorem fitRows_mem {N M : Nat} {σ : Names} {m : Mem} : ∀ {rows : Mem}, fitRows N M σ m rows → ∀ r x, (r, x) ∈ rows →
    match asg σ r with
    | some k => ∃ y, look m k = some y ∧ ∀ f, fitRow N M σ (x f) (y f)
    | none => ∀ f, (x f).n = 0 ∧ (x f).g = none
  | [], _, r, x, h => by simp at h
  | (k, y) :: rest, h, r, x, hm => by
    simp only [fitRows] at h
    rcases List.mem_cons.1 hm with e | hm
    · cases e; exact h.1
    · exact fitRows_mem h.2 r x hm

theorem fitKeep_mem {m m' : Mem} : ∀ {keep : List Nat}, fitKeep m m' keep → ∀ r ∈ keep, look m' r = look m r
  | [], _, r, h => by simp at h
  | k :: rest, h, r, hm => by
    simp only [fitKeep] at h
    rcases List.mem_cons.1 hm with e | hm
    · subst e; exact h.1
    · exact fitKeep_mem h.2 r hm

theorem fitSlots_mem {N M : Nat} {σ : Names} {W : List Nat} {t : Slots} : ∀ {l : Slots}, fitSlots N M σ W t l → ∀ j b, (j, b) ∈ l → j ∈ W ∧ fit1 N M σ b (slot t j)
  | [], _, j, b, h => by simp at h
  | (k, y) :: rest, h, j, b, hm => by
    simp only [fitSlots] at h
    rcases List.mem_cons.1 hm with e | hm
    · cases e; exact ⟨h.1, h.2.1⟩
    · exact fitSlots_mem h.2.2 j b hm

theorem fitL_get {N M : Nat} {σ : Names} : ∀ {as bs : List AV}, fitL N M σ as bs → ∀ (i : Nat) (c : AV), as[i]? = some c → ∃ c', bs[i]? = some c' ∧ fit1 N M σ c c'
  | [], [], _, i, c, h => by simp at h
  | a :: as, b :: bs, h, 0, c, hc => by simp at hc; subst hc; exact ⟨b, by simp, h.1⟩
  | a :: as, b :: bs, h, i + 1, c, hc => by
    simp at hc
    simpa using fitL_get h.2 i c hc
  | [], _ :: _, h, _, _, _ => h.elim
  | _ :: _, [], h, _, _, _ => h.elim
theorem fitL_len {N M : Nat} {σ : Names} : ∀ {as bs : List AV}, fitL N M σ as bs → as.length = bs.length
  | [], [], _ => rfl
  | a :: as, b :: bs, h => by simp [fitL_len h.2]
  | [], _ :: _, h => h.elim
  | _ :: _, [], h => h.elim

theorem slot_append : ∀ {l t : Slots} {j : Nat}, (∃ b, (j, b) ∈ l ∧ slot (l ++ t) j = b) ∨ ((∀ b, (j, b) ∉ l) ∧ slot (l ++ t) j = slot t j)
  | [], t, j => .inr ⟨by simp, rfl⟩
  | (k, y) :: rest, t, j => by
    simp only [List.cons_append, slot]
    by_cases e : k = j
    · subst e
      exact .inl ⟨y, by simp, by simp⟩
    · simp only [e, if_false]
      rcases slot_append (l := rest) (t := t) (j := j) with ⟨b, h1, h2⟩ | ⟨h1, h2⟩
      · exact .inl ⟨b, by simp [h1], h2⟩
      · refine .inr ⟨fun b hb => ?_, h2⟩
        rcases List.mem_cons.1 hb with hb | hb
        · cases hb; exact e rfl
        · exact h1 b hb

theorem slot_anys {W : List Nat} {j : Nat} : slot (W.map fun j => (j, AV.any)) j = if j ∈ W then AV.any else .v undef := by
  induction W with
  | nil => simp [slot]
  | cons k W ih =>
    simp only [List.map_cons, slot, List.mem_cons]
    by_cases e : k = j
    · subst e; simp
    · have : ¬ j = k := fun h => e h.symm
      simp only [e, if_false, this, false_or]
      exact ih
theorem slot_havoc {W : List Nat} {t : Slots} {j : Nat} : slot (havoc W t) j = if j ∈ W then AV.any else slot t j := by
  unfold havoc
  induction t with
  | nil => exact slot_anys
  | cons q t ih =>
    obtain ⟨k, a⟩ := q
    simp only [dropW]
    by_cases hk : k ∈ W
    · rw [if_pos hk, ih]
      by_cases hj : j ∈ W
      · simp [hj]
      · have : ¬ k = j := fun e => hj (e ▸ hk)
        simp [hj, slot, this]
    · rw [if_neg hk]
      simp only [List.cons_append, slot]
      by_cases e : k = j
      · subst e; simp [hk]
      · simp only [e, if_false]
        exact ih

/-- Rows that the invariant speaks of. -/
theorem rows_of {X : Type} {I : Inv X} {W : List Nat} {s s' : St} {x : X} {ρe ρ : Env} {we : World} {wb : Base} (he : Rel wb ρe s.m (· < s.nx) we)
    (h : Rel w0 ρ s'.m D w) {σ : Names} (h2 : fitRows s.nx (s.nx + I.names) σ s'.m (I.rows x)) (h3 : fitKeep s.m s'.m I.keep) (h4 : goodNames s.nx I.names σ (I.rows x) I.keep) :
    Rel w0 (ρ.ren (s.nx + I.names) σ) (I.rows x ++ keptRows I.keep s.m) (· < s.nx + I.names) w := by
  obtain ⟨g1, g2, g3, g4⟩ := h4
  have hσ : ∀ p ∈ σ, s.nx ≤ p.1 := fun p hp => (g1 p hp).1
  have cases_ : ∀ r y, look (I.rows x ++ keptRows I.keep s.m) r = some y → ((r, y) ∈ I.rows x) ∨ (r ∈ I.keep ∧ look s.m r = some y ∧ look s'.m r = some y ∧ r < s.nx) := fun r y hy => by
    rw [look_append] at hy
    split at hy
    · rename_i z hz; cases hy; exact .inl (look_mem hz)
    · obtain ⟨k1, k2⟩ := look_kept hy
      exact .inr ⟨k1, k2, by rw [fitKeep_mem h3 r k1]; exact k2, he.key r y k2⟩
  -- what stands behind a row of the new memory
  have back : ∀ r y f, look (I.rows x ++ keptRows I.keep s.m) r = some y → (y f).g ≠ some false → 0 < (ρ.ren (s.nx + I.names) σ).cap r f →
      ∃ k z, asg σ r = some k ∧ look s'.m k = some z ∧ (z f).g ≠ some false ∧ ((r ∈ (I.rows x).map (·.1)) ∨ (r ∈ I.keep ∧ k = r)) := fun r y f hy hg hc => by
    rcases cases_ r y hy with hm | ⟨k1, k2, k3, k4⟩
    · have := fitRows_mem h2 r y hm
      split at this
      · rename_i k hk
        obtain ⟨z, hz, hf⟩ := this
        exact ⟨k, z, hk, hz, by rw [(hf f).2.2.2.1]; simp, .inl (List.mem_map.2 ⟨_, hm, rfl⟩)⟩
      · rename_i hk
        simp only [Env.ren, hk] at hc
        omega
    · exact ⟨r, y, asg_low hσ k4, k3, hg, .inr ⟨k1, rfl⟩⟩
  refine ⟨h.below, h.imm2, fun r hr => hr.1, fun r y hy => ?_, fun r y f hy hg => ?_, fun r y f r' y' f' hy hy' hg hg' hc hc' heq => ?_, h.fix, h.kept⟩
  · rcases cases_ r y hy with hm | ⟨k1, k2, k3, k4⟩
    · exact g4 _ hm
    · show r < s.nx + I.names
      omega
  · rcases cases_ r y hy with hm | ⟨k1, k2, k3, k4⟩
    · have hlt : r < s.nx + I.names := g4 _ hm
      have := fitRows_mem h2 r y hm
      split at this
      · rename_i k hk
        obtain ⟨z, hz, hf⟩ := this
        obtain ⟨f1, f2, f3, f4, f5, f6⟩ := hf f
        obtain ⟨d1, d2⟩ := h.row k z f hz (by rw [f4]; simp)
        have e1 : (ρ.ren (s.nx + I.names) σ).cap r f = ρ.cap k f := by simp only [Env.ren, hk]
        have e2 : (ρ.ren (s.nx + I.names) σ).blk r f = ρ.blk k f := by simp only [Env.ren, hk]
        refine ⟨⟨hlt, by rw [hk]; exact d1⟩, ⟨by rw [e1, f1]; exact d2.n_le, ?_, fun i hi => ?_, fun i q c v hi hc hv => ?_⟩⟩
        · rw [e1, e2, f2, f3]; exact d2.blk
        · rw [fitL_len (f6 i hi), f2]; exact d2.len i (by omega)
        · obtain ⟨c', hc', hfit⟩ := fitL_get (f6 i hi) q c hc
          rw [e2, f2] at hv
          exact fit1_sound g1 hfit (d2.rel i q c' v (by omega) hc' hv)
      · rename_i hk
        obtain ⟨f1, f2⟩ := this f
        have e1 : (ρ.ren (s.nx + I.names) σ).cap r f = 0 := by simp only [Env.ren, hk]
        exact ⟨⟨hlt, by rw [hk]; trivial⟩, ⟨by omega, fun hc => by omega, fun i hi => by omega, fun i q c v hi => by omega⟩⟩
    · obtain ⟨d1, d2⟩ := h.row r y f k3 hg
      obtain ⟨c1, c2⟩ := he.row r y f k2 hg
      have hk := asg_low hσ k4
      have e1 : (ρ.ren (s.nx + I.names) σ).cap r f = ρ.cap r f := by simp only [Env.ren, hk]
      have e2 : (ρ.ren (s.nx + I.names) σ).blk r f = ρ.blk r f := by simp only [Env.ren, hk]
      refine ⟨⟨by omega, by rw [hk]; exact d1⟩, ⟨by rw [e1]; exact d2.n_le, by rw [e1, e2]; exact d2.blk, d2.len, fun i q c v hi hc hv => ?_⟩⟩
      rw [e2] at hv
      have hR := d2.rel i q c v hi hc hv
      have hcap : 0 < ρe.cap r f := by have := c2.n_le; omega
      obtain ⟨b1, b2, cc, b3, b4⟩ := c2.blk hcap
      have hq : q < (y f).sz := by
        rw [← c2.len i hi]
        exact (List.getElem?_eq_some_iff.1 hc).1
      have hlt : i * (y f).sz + q < cc.size := by
        rw [b4]
        have h1 : (i + 1) * (y f).sz ≤ ρe.cap r f * (y f).sz := Nat.mul_le_mul_right _ (by have := c2.n_le; omega)
        rw [Nat.add_mul] at h1
        omega
      exact (c2.rel i q c cc[i * (y f).sz + q] hi hc (by unfold Has World.cell?; simp [b3, hlt])).low hσ (by omega) (fun r hr => he.dom r hr) hR
  · obtain ⟨k, z, a1, a2, a3, a4⟩ := back r y f hy hg hc
    obtain ⟨k', z', a1', a2', a3', a4'⟩ := back r' y' f' hy' hg' hc'
    simp only [Env.ren, a1] at hc heq
    simp only [Env.ren, a1'] at hc' heq
    obtain ⟨e1, e2⟩ := h.sep k z f k' z' f' a2 a2' a3 a3' hc hc' heq
    refine ⟨?_, e2⟩
    subst e1
    have inj : ∀ {l : Mem}, ((l.filterMap fun e => asg σ e.1)).Nodup → ∀ r r' k, r ∈ l.map (·.1) → r' ∈ l.map (·.1) → asg σ r = some k → asg σ r' = some k → r = r' := by
      intro l
      induction l with
      | nil => intro _ r r' k h; simp at h
      | cons q l ih =>
        intro hn r r' k hr hr' h1 h2
        rw [List.filterMap_cons] at hn
        have mem : ∀ r, r ∈ l.map (·.1) → asg σ r = some k → k ∈ l.filterMap fun e => asg σ e.1 := fun r hr h => by
          obtain ⟨e, he, rfl⟩ := List.mem_map.1 hr
          exact List.mem_filterMap.2 ⟨e, he, h⟩
        rcases List.mem_cons.1 hr with e | hr
        · rcases List.mem_cons.1 hr' with e' | hr'
          · rw [e, e']
          · subst e; rw [h1] at hn
            exact absurd (mem r' hr' h2) (List.nodup_cons.1 hn).1
        · rcases List.mem_cons.1 hr' with e' | hr'
          · subst e'; rw [h2] at hn
            exact absurd (mem r hr h1) (List.nodup_cons.1 hn).1
          · refine ih ?_ r r' k hr hr' h1 h2
            split at hn
            · exact hn
            · exact (List.nodup_cons.1 hn).2
    have dis : ∀ r k, r ∈ (I.rows x).map (·.1) → asg σ r = some k → k ∈ I.keep → False := fun r k hr h hk => by
      obtain ⟨e, he, rfl⟩ := List.mem_map.1 hr
      exact (List.nodup_append.1 g3).2.2 k (List.mem_filterMap.2 ⟨e, he, h⟩) k hk rfl
    rcases a4 with a4 | ⟨a4, e4⟩
    · rcases a4' with a4' | ⟨a4', e4'⟩
      · exact inj (List.nodup_append.1 g3).1 r r' k a4 a4' a1 a1'
      · exact (dis r k a4 a1 (e4' ▸ a4')).elim
    · rcases a4' with a4' | ⟨a4', e4'⟩
      · exact (dis r' k a4' a1' (e4 ▸ a4)).elim
      · rw [← e4, ← e4']


/-- A loop's head. -/
theorem head_sound {X : Type} {I : Inv X} {W : List Nat} {s s' : St} {x : X} {ρe : Env} {we : World} {ae : Act} {wb : Base} {de : Frm} (he : SR wb ρe s.t s.m (· < s.nx) nt de ae we)
    (h : SR w0 ρ s'.t s'.m D nt ds a w) (fr : ∀ j, j ∉ W → slot s'.t j = slot s.t j) (hf : fits I W s x s') :
    (∃ ρ', SR w0 ρ' (headSt I W s x).t (headSt I W s x).m (· < (headSt I W s x).nx) nt ds a w) ∧ ∀ j, j ∉ W → slot (headSt I W s x).t j = slot s.t j := by
  obtain ⟨σ, h1, h2, h3, h4⟩ := hf
  have hσ : ∀ p ∈ σ, s.nx ≤ p.1 := fun p hp => (h4.1 p hp).1
  refine ⟨⟨ρ.ren (s.nx + I.names) σ, rows_of (W := W) he.rel h.rel h2 h3 h4, fun j => ?_, h.size, h.defers, h.frame⟩, fun j hj => ?_⟩
  · rcases slot_append (l := I.live x) (t := havoc W s.t) (j := j) with ⟨b, k1, k2⟩ | ⟨k1, k2⟩
    · show R w _ (slot (I.live x ++ havoc W s.t) j) _
      rw [k2]
      exact fit1_sound h4.1 (fitSlots_mem h1 j b k1).2 (h.slots j)
    · show R w _ (slot (I.live x ++ havoc W s.t) j) _
      rw [k2, slot_havoc]
      split
      · exact .any
      · rename_i hj
        exact (he.slots j).low hσ (by omega) (fun r hr => he.rel.dom r hr) (fr j hj ▸ h.slots j)
  · show slot (I.live x ++ havoc W s.t) j = _
    rcases slot_append (l := I.live x) (t := havoc W s.t) (j := j) with ⟨b, k1, k2⟩ | ⟨k1, k2⟩
    · exact absurd (fitSlots_mem h1 j b k1).1 hj
    · rw [k2, slot_havoc, if_neg hj]

/-- A fixed block is turned; it is fixed no more, or as it is now. -/
theorem Rel.putObj (h : Rel w0 ρ m D w) {b : Nat} {o o' : Obj} (hb : (b, o) ∈ w0.fix) {fx : List (Nat × Obj)} (hfx : ∀ p ∈ fx, (p = (b, o') ∧ ∀ c ty fr, o' ≠ .cells c ty fr) ∨ (p ∈ w0.fix ∧ p.1 ≠ b)) : Rel { w0 with fix := fx } ρ m D (w.putObj b o') := by
  obtain ⟨f1, f2, f3, f4⟩ := h.fix _ hb
  have hoth : ∀ k, k ≠ b → (w.putObj b o').heap[k]? = w.heap[k]? := fun k hk => World.putObj_heap_other hk
  have hs : Same ρ.imm w (w.putObj b o') := fun k hk => hoth k (fun e => f3 (e ▸ hk))
  have hsz : (w.putObj b o').heap.size = w.heap.size := by simp
  refine ⟨h.below.trans ⟨rfl, rfl, rfl, by simp, fun k hk => hoth k (fun e => by dsimp only at f1 hk; omega)⟩, fun k hk => by rw [hsz]; exact h.imm2 k hk, h.dom, h.key, fun r x f hx hg => ?_, h.sep, fun p hp => ?_, ?_⟩
  · obtain ⟨hd, hr⟩ := h.row r x f hx hg
    have hr' := hr.mono (w' := w.putObj b o') hd (.refl _) (fun _ _ h => h) hs (fun hc => hoth _ (fun e => by
      obtain ⟨_, _, c, hh, _⟩ := hr.blk hc
      exact h.fix_ne hh hb e.symm))
    exact ⟨hd, hr'.n_le, hr'.blk, hr'.len, hr'.rel⟩
  · rcases hfx p hp with ⟨rfl, hno⟩ | ⟨hp1, hp2⟩
    · exact ⟨f1, hno, f3, World.putObj_heap_same (h.fixlt hb)⟩
    · obtain ⟨g1, g2, g3, g4⟩ := h.fix p hp1
      exact ⟨g1, g2, g3, (hoth _ hp2).trans g4⟩
  · exact h.keeps hs
theorem SR.putObj (h : SR w0 ρ t m D nt ds a w) {b : Nat} {o o' : Obj} (hb : (b, o) ∈ w0.fix) {fx : List (Nat × Obj)} (hfx : ∀ p ∈ fx, (p = (b, o') ∧ ∀ c ty fr, o' ≠ .cells c ty fr) ∨ (p ∈ w0.fix ∧ p.1 ≠ b)) : SR { w0 with fix := fx } ρ t m D nt ds a (w.putObj b o') :=
  ⟨h.rel.putObj hb hfx, fun j => (h.slots j).mono (.refl _) (fun k hk => World.putObj_heap_other (fun e => (h.rel.fix _ hb).2.2.1 (e ▸ hk))), h.size, h.defers, h.frame⟩
/-- All that is there stays. -/
theorem Rel.stay (h : Rel w0 ρ m D w) {w' : World} (hb : Below w.heap.size w w') : Rel w0 ρ m D w' := by
  have hs : Same ρ.imm w w' := Same.of_below hb h.imm
  refine ⟨h.below.trans (hb.mono h.below.size), fun b hi => ⟨Nat.lt_of_lt_of_le (h.imm b hi) hb.size, (h.imm2 b hi).2⟩, h.dom, h.key, fun r x f hx hg => ?_, h.sep, h.fixed fun p hp => hb.block _ (h.fixlt hp), h.keeps hs⟩
  obtain ⟨hd, hr⟩ := h.row r x f hx hg
  exact ⟨hd, hr.mono hd (.refl _) (fun _ _ h => h) hs (fun hc => hb.block _ (h.lt hx hg hc))⟩
theorem SR.stay (h : SR w0 ρ t m D nt ds a w) {w' : World} (hb : Below w.heap.size w w') : SR w0 ρ t m D nt ds a w' :=
  ⟨h.rel.stay hb, fun j => (h.slots j).mono (.refl _) (Same.of_below hb h.rel.imm), h.size, h.defers, h.frame⟩
/-- A new block that is no cells is fixed. -/
theorem Rel.fixNew (h : Rel w0 ρ m D w) {o : Obj} (ho : ∀ c ty fr, o ≠ .cells c ty fr) : Rel { w0 with fix := (w.heap.size, o) :: w0.fix } ρ m D (w.alloc o) := by
  have h' := h.stay (w' := w.alloc o) (((Below.refl _ w).alloc (Nat.le_refl _) _))
  refine ⟨h'.below, h'.imm2, h'.dom, h'.key, fun r x f hx hg => ?_, h'.sep, fun p hp => ?_, h'.kept⟩
  · obtain ⟨hd, hr⟩ := h'.row r x f hx hg
    exact ⟨hd, hr.n_le, hr.blk, hr.len, hr.rel⟩
  · rcases List.mem_cons.1 hp with rfl | hp
    · exact ⟨h.below.size, ho, fun hi => by have := h.imm _ hi; dsimp only at this; omega, Go.heap_alloc_new _ _⟩
    · exact h'.fix p hp

/-- Less is fixed, less is kept. -/
theorem Rel.shrink (h : Rel w0 ρ m D w) {fx kp : List (Nat × Obj)} (hf : ∀ p ∈ fx, p ∈ w0.fix) (hk : ∀ p ∈ kp, p ∈ w0.kept) : Rel { w0 with fix := fx, kept := kp } ρ m D w :=
  ⟨h.below, h.imm2, h.dom, h.key, fun r x f hx hg => ⟨(h.row r x f hx hg).1, (h.row r x f hx hg).2.n_le, (h.row r x f hx hg).2.blk, (h.row r x f hx hg).2.len, (h.row r x f hx hg).2.rel⟩, h.sep, fun p hp => h.fix p (hf p hp), fun p hp => h.kept p (hk p hp)⟩
theorem SR.shrink (h : SR w0 ρ t m D nt ds a w) {fx kp : List (Nat × Obj)} (hf : ∀ p ∈ fx, p ∈ w0.fix) (hk : ∀ p ∈ kp, p ∈ w0.kept) : SR { w0 with fix := fx, kept := kp } ρ t m D nt ds a w :=
  ⟨h.rel.shrink hf hk, h.slots, h.size, h.defers, h.frame⟩
theorem SR.reframe (h : SR w0 ρ t m D nt ds a w) : SR w0 ρ t m D nt ⟨a.defers, fun _ => True, #[]⟩ a w :=
  ⟨h.rel, h.slots, h.size, rfl, fun _ hj => absurd trivial hj⟩

theorem writesOps_mem {l : List Oper} {o : Oper} {k : Nat} (h : o ∈ l) (hk : o.dst = some k) : k ∈ writesOps l := by
  induction l with
  | nil => cases h
  | cons p l ih =>
    unfold writesOps
    rcases List.mem_cons.1 h with e | h
    · rw [← e, hk]; exact List.mem_cons_self
    · have := ih h
      cases p.dst with
      | none => exact this
      | some d => exact List.mem_cons_of_mem _ this
/-- The dmark of a range over a function. -/
def dmark (D : Nat) : Deferred := { target := .collected D, args := #[] }
/-- Is there a range over a function in it? -/
def ranges : Code → Bool
  | .seq a b => ranges a || ranges b
  | .cond _ a b => ranges a || ranges b
  | .block _ c => ranges c
  | .loop c => ranges c
  | .rangeFunc _ _ _ _ => true
  | _ => false
/-- What ranges over functions add: fixed blocks, marks. -/
def Ext (r : Bool) (w0 : Base) (ds : Frm) (w1 : Base) (ds1 : Frm) : Prop :=
  ∃ (fx : List (Nat × Obj)) (ms : List Nat), w1 = { w0 with fix := fx ++ w0.fix } ∧ ds1 = { ds with ds := ms.map dmark ++ ds.ds } ∧ (∀ b ∈ ms, (b, Obj.deferred (some [])) ∈ fx) ∧ ms.Nodup ∧ (∀ b ∈ ms, ∀ p ∈ w0.fix, p.1 ≠ b) ∧ (r = false → ms = [])
theorem Ext.refl {r : Bool} (w0 : Base) (ds : Frm) : Ext r w0 ds w0 ds := ⟨[], [], rfl, rfl, by simp, List.nodup_nil, by simp, fun _ => rfl⟩
theorem Ext.mono {r r' : Bool} {w0 w1 : Base} {d0 d1 : Frm} (h : Ext r w0 d0 w1 d1) (hr : r' = false → r = false) : Ext r' w0 d0 w1 d1 := by
  obtain ⟨fx, ms, h1, h2, h3, h4, h5, h6⟩ := h
  exact ⟨fx, ms, h1, h2, h3, h4, h5, fun e => h6 (hr e)⟩
theorem Ext.trans {r : Bool} {w0 w1 w2 : Base} {d0 d1 d2 : Frm} (h : Ext r w0 d0 w1 d1) (k : Ext r w1 d1 w2 d2) : Ext r w0 d0 w2 d2 := by
  obtain ⟨fx, ms, rfl, rfl, h1, h2, h3, h4⟩ := h
  obtain ⟨fy, ns, rfl, rfl, k1, k2, k3, k4⟩ := k
  refine ⟨fy ++ fx, ns ++ ms, by simp, by simp, fun b hb => ?_, List.nodup_append.2 ⟨k2, h2, fun b hb c hc e => ?_⟩, fun b hb p hp => ?_, fun e => by rw [h4 e, k4 e]; rfl⟩
  · rcases List.mem_append.1 hb with hb | hb
    · exact List.mem_append.2 (.inl (k1 b hb))
    · exact List.mem_append.2 (.inr (h1 b hb))
  · subst e
    exact k3 b hb _ (List.mem_append.2 (.inl (h1 b hc))) rfl
  · rcases List.mem_append.1 hb with hb | hb
    · exact k3 b hb p (List.mem_append.2 (.inr hp))
    · exact h3 b hb p hp
theorem Ext.W {r : Bool} {w0 w1 : Base} {d0 d1 : Frm} (h : Ext r w0 d0 w1 d1) : d1.W = d0.W := by
  obtain ⟨fx, ms, rfl, rfl, _⟩ := h; rfl

/-- A loop's record. -/
def recOf (fn : FuncId) (tmps : Array Value) (ps : Array Tmp) (x c : Code) (d : Nat) (st : LoopState) (pe : Option Code) : Obj := .loop { state := st, pending := pe, fn, tmps, params := ps, assign := x, body := c, defers := d }
theorem enter_run {ro : Option Nat} (hro : ∀ l, ro = some l → ∃ r, (l, Obj.loop r) ∈ w0.fix) (hR : Rel w0 ρ m D w) (fn : FuncId) (tmps : Array Value) (ps : Array Tmp) (x c : Code) :
    ∃ (l d : Nat) (mk : List Nat) (w1 : World) (fx : List (Nat × Obj)), (Instr.enterLoop fn tmps ps x c ro).run P w = .ok (l, mk.map dmark) w1 ∧ Below w.heap.size w w1 ∧
      Rel { w0 with fix := (l, recOf fn tmps ps x c d .ready none) :: (fx ++ w0.fix) } ρ m D w1 ∧ (∀ b ∈ mk, (b, Obj.deferred (some [])) ∈ fx) ∧ mk.Nodup ∧ (∀ b ∈ mk, ∀ p ∈ w0.fix, p.1 ≠ b) ∧ (∀ p ∈ fx ++ w0.fix, p.1 ≠ l) := by
  cases ro with
  | none =>
    have h1 := hR.fixNew (o := .deferred (some [])) (by intros; simp)
    have h2 := h1.fixNew (o := recOf fn tmps ps x c w.heap.size .ready none) (by intros; simp [recOf])
    refine ⟨w.heap.size + 1, w.heap.size, [w.heap.size], _, [(w.heap.size, .deferred (some []))], run_enterLoop_outer _ _ _ _ _, ?_, ?_, by simp, by simp, ?_, ?_⟩
    · exact (((Below.refl _ w).alloc (Nat.le_refl _) _).alloc (by simp) _)
    · have e : (w.alloc (.deferred (some []))).heap.size = w.heap.size + 1 := by simp
      rw [e] at h2
      exact h2
    · intro b hb p hp
      have := hR.fixlt hp
      simp at hb
      omega
    · intro p hp
      rcases List.mem_append.1 hp with hp | hp
      · simp at hp; subst hp; simp
      · have := hR.fixlt hp
        omega
  | some l0 =>
    obtain ⟨r, hr⟩ := hro l0 rfl
    have h2 := hR.fixNew (o := recOf fn tmps ps x c r.defers .ready none) (by intros; simp [recOf])
    refine ⟨w.heap.size, r.defers, [], _, [], run_enterLoop_inner (hR.fix _ hr).2.2.2 _ _ _ _ _, ?_, ?_, by simp, by simp, by simp, ?_⟩
    · exact ((Below.refl _ w).alloc (Nat.le_refl _) _)
    · exact h2
    · intro p hp
      have := hR.fixlt (by simpa using hp)
      omega

theorem range_call {g : Operand} {gf : FuncId} {lb : Array Value} (hg : a.eval g = .func (.func gf) #[] lb) (l : Nat) (w : World) :
    (resolve a.eval (rangeCall g l) 0).run P w = .ok { target := .fn (.func gf) lb, args := #[.func (.yield l) #[] #[]] } w := by
  simp only [resolve, hg]
  simp [go_sem]
theorem range_invoke {gf : FuncId} {lb : Array Value} (eg : ∀ args w, (callFunc gf args).run P w = .ok (.enter gf args) w) (l : Nat) (w : World) :
    (invoke (Target.fn (.func gf) lb) #[.func (.yield l) #[] #[]]).run P w = .ok (.enter gf (#[.func (.yield l) #[] #[]] ++ lb)) w := by
  simp [invoke, go_sem, eg]

theorem Ext.loops {r : Bool} {w0 w1 : Base} {d0 d1 : Frm} (h : Ext r w0 d0 w1 d1) {ro : Option Nat} (k : ∀ l, ro = some l → ∃ r, (l, Obj.loop r) ∈ w0.fix) : ∀ l, ro = some l → ∃ r, (l, Obj.loop r) ∈ w1.fix := by
  obtain ⟨fx, ms, rfl, rfl, _⟩ := h
  intro l hl
  obtain ⟨r, hr⟩ := k l hl
  exact ⟨r, List.mem_append.2 (.inr hr)⟩

theorem seqOf_inv {g : AV} {ob : List Prop} {N : Nat} {sq : Nat → List AV} (h : seqOf G g = some (ob, N, sq)) :
    ∃ f cs c k, g = .fn f cs ∧ cs.all (clean 3) = true ∧ ctxGet G (1000000 + f) = some c ∧ c cs = some (ob, .ro N k sq) := by
  unfold seqOf at h
  split at h
  · rename_i f cs
    split at h
    · rename_i hc
      split at h
      · rename_i c hg
        split at h
        · rename_i ob' N' k sq' he
          cases h
          exact ⟨f, cs, c, k, rfl, hc, hg, he⟩
        · cases h
      · cases h
    · cases h
  · cases h

/-- What is read alone, with what it holds. -/
noncomputable def keepAll (I : Nat → Prop) (w : World) : List (Nat × Obj) :=
  open Classical in (List.range w.heap.size).filterMap fun b => if I b then w.heap[b]?.map (b, ·) else none
theorem keepAll_mem {I : Nat → Prop} {p : Nat × Obj} (h : p ∈ keepAll I w) : I p.1 ∧ w.heap[p.1]? = some p.2 := by
  unfold keepAll at h
  obtain ⟨b, _, hb⟩ := List.mem_filterMap.1 h
  split at hb
  · rename_i hi
    obtain ⟨o, ho, rfl⟩ := Option.map_eq_some_iff.1 hb
    exact ⟨hi, ho⟩
  · cases hb
theorem keepAll_same {I : Nat → Prop} {w' : World} (hI : ∀ b, I b → b < w.heap.size) (h : ∀ p ∈ keepAll I w, w'.heap[p.1]? = some p.2) : Same I w w' := fun b hb => by
  have hlt := hI b hb
  have hm : (b, w.heap[b]) ∈ keepAll I w := by
    unfold keepAll
    exact List.mem_filterMap.2 ⟨b, List.mem_range.2 hlt, by rw [if_pos hb]; simp [hlt]⟩
  rw [h _ hm]
  simp [hlt]
theorem Rel.keepMore (h : Rel w0 ρ m D w) : Rel { w0 with kept := keepAll ρ.imm w ++ w0.kept } ρ m D w :=
  ⟨h.below, h.imm2, h.dom, h.key, fun r x f hx hg => ⟨(h.row r x f hx hg).1, (h.row r x f hx hg).2.n_le, (h.row r x f hx hg).2.blk, (h.row r x f hx hg).2.len, (h.row r x f hx hg).2.rel⟩, h.sep, h.fix, fun p hp => (List.mem_append.1 hp).elim keepAll_mem (h.kept p)⟩
theorem SR.dmark (h : SR w0 ρ t m D nt ds a w) (l : List Deferred) : SR w0 ρ t m D nt { ds with ds := l ++ ds.ds } { a with defers := l ++ a.defers } w :=
  ⟨h.rel, h.slots, h.size, by simp [h.defers], h.frame⟩
theorem slotsOf_other : ∀ (ps : List Nat) (as : List AV) (t : Slots) (j : Nat), j ∉ ps → slot (slotsOf ps as t) j = slot t j
  | [], as, t, j, _ => by cases as <;> simp [slotsOf]
  | p :: ps, [], t, j, _ => by simp [slotsOf]
  | p :: ps, a :: as, t, j, h => by
    simp only [List.mem_cons, not_or] at h
    simp only [slotsOf]
    rw [slotsOf_other ps as _ j h.2]
    simp only [slot]
    rw [if_neg (fun e => h.1 e.symm)]
/-- How a round is left. -/
def jumpOf : AEx → Option Code
  | .normal => none
  | .exit j => some (.exit j)
  | .ret => some .ret

/-- Code: what the evaluator says comes true. -/
theorem awp_sound {H : Hots} (hG : CtxOK P G) (hm : P.follows .mixedOrders = true) : ∀ (c : Code) (ro : Option Nat) (n : Nat) (s : St) (K : AEx → St → Prop) (w0 : Base) (ds : Frm) (ρ : Env) (a : Act) (w : World) (Q : Exit → Act → World → Prop),
    codeOK H nt c = true → (∀ l, ro = some l → ∃ r, (l, Obj.loop r) ∈ w0.fix) → (∀ k ∈ writes c, ds.W k) → awp P G H c s K → SR w0 ρ s.t s.m (· < s.nx) nt ds a w →
    (∀ e s' w1 ds1 ρ' a' w', Ext (ranges c) w0 ds w1 ds1 → K e s' → s.nx ≤ s'.nx → (∀ j, j ∉ writes c → slot s'.t j = slot s.t j) → SR w1 ρ' s'.t s'.m (· < s'.nx) nt ds1 a' w' → Q (conc e) a' w') →
    c.wpIn (Fw ro) n P Q a w := by
  intro c
  induction c with
  | skip =>
    intro ro n s K w0 ds ρ a w Q hok hro hW h hs hK
    exact wpIn_skip (hK .normal s w0 ds ρ a w (.refl _ _) h (Nat.le_refl _) (fun _ _ => rfl) hs)
  | region id ops draw =>
    intro ro n s K w0 ds ρ a w Q hok hro hW h hs hK
    simp only [awp] at h
    simp only [codeOK, Bool.and_eq_true, Bool.or_eq_true, Bool.not_eq_true'] at hok
    refine region_sound hG hm hok.2 (fun o ho k hk => ⟨fitsOps_mem hok.1 ho k hk, hW k (writesOps_mem ho hk)⟩) (regP_frame h) hs fun s' ρ' a' w' ⟨k1, k2, k3⟩ hs' => ?_
    refine hK .normal _ w0 ds ρ' a' w' (.refl _ _) k1 (by dsimp only; omega) (fun j hj => k3 j hj) hs'
  | seq x y ihx ihy =>
    intro ro n s K w0 ds ρ a w Q hok hro hW h hs hK
    simp only [codeOK, Bool.and_eq_true] at hok
    simp only [awp] at h
    have hWx : ∀ k ∈ writes x, ds.W k := fun k hk => hW k (by simp only [writes, List.mem_append]; exact .inl hk)
    have hWy : ∀ k ∈ writes y, ds.W k := fun k hk => hW k (by simp only [writes, List.mem_append]; exact .inr hk)
    refine wpIn_seq (ihx ro n s _ w0 ds ρ a w _ hok.1 hro hWx h hs fun e s' w1 ds1 ρ' a' w' k0 k1 k2 k3 k4 => ?_)
    cases e with
    | normal =>
      refine ihy ro n s' K w1 ds1 ρ' a' w' Q hok.2 (k0.loops hro) (by rw [k0.W]; exact hWy) k1 k4 fun e s2 w2 ds2 ρ2 a2 w2' l0 l1 l2 l3 l4 => hK e s2 w2 ds2 ρ2 a2 w2' ((k0.mono (fun h => by simp only [ranges, Bool.or_eq_false_iff] at h; exact h.1)).trans (l0.mono (fun h => by simp only [ranges, Bool.or_eq_false_iff] at h; exact h.2))) l1 (by omega) (fun j hj => ?_) l4
      simp only [writes, List.mem_append, not_or] at hj
      rw [l3 j hj.2, k3 j hj.1]
    | exit j => exact hK _ s' w1 ds1 ρ' a' w' (k0.mono (fun h => by simp only [ranges, Bool.or_eq_false_iff] at h; exact h.1)) k1 k2 (fun j hj => k3 j (by simp only [writes, List.mem_append, not_or] at hj; exact hj.1)) k4
    | ret => exact hK _ s' w1 ds1 ρ' a' w' (k0.mono (fun h => by simp only [ranges, Bool.or_eq_false_iff] at h; exact h.1)) k1 k2 (fun j hj => k3 j (by simp only [writes, List.mem_append, not_or] at hj; exact hj.1)) k4
  | cond c x y ihx ihy =>
    intro ro n s K w0 ds ρ a w Q hok hro hW h hs hK
    simp only [codeOK, Bool.and_eq_true] at hok
    simp only [awp, optK] at h
    have hWx : ∀ k ∈ writes x, ds.W k := fun k hk => hW k (by simp only [writes, List.mem_append]; exact .inl hk)
    have hWy : ∀ k ∈ writes y, ds.W k := fun k hk => hW k (by simp only [writes, List.mem_append]; exact .inr hk)
    split at h
    · rename_i b hb
      have hv := boolOf_sound (hs.opd c) hb
      refine wpIn_cond_split hv (fun hbt => ?_) (fun hbf => ?_)
      · exact ihx ro n s K w0 ds ρ a w Q hok.1 hro hWx (h.1 hbt) hs fun e s' w1 ds1 ρ' a' w' k0 k1 k2 k3 k4 => hK e s' w1 ds1 ρ' a' w' (k0.mono (fun h => by simp only [ranges, Bool.or_eq_false_iff] at h; exact h.1)) k1 k2 (fun j hj => k3 j (by simp only [writes, List.mem_append, not_or] at hj; exact hj.1)) k4
      · exact ihy ro n s K w0 ds ρ a w Q hok.2 hro hWy (h.2 hbf) hs fun e s' w1 ds1 ρ' a' w' k0 k1 k2 k3 k4 => hK e s' w1 ds1 ρ' a' w' (k0.mono (fun h => by simp only [ranges, Bool.or_eq_false_iff] at h; exact h.2)) k1 k2 (fun j hj => k3 j (by simp only [writes, List.mem_append, not_or] at hj; exact hj.2)) k4
    · exact h.elim
  | block id c ih =>
    intro ro n s K w0 ds ρ a w Q hok hro hW h hs hK
    simp only [codeOK] at hok
    simp only [awp] at h
    refine wpIn_block (ih ro n s _ w0 ds ρ a w _ hok hro hW h hs fun e s' w1 ds1 ρ' a' w' k0 k1 k2 k3 k4 => ?_)
    cases e with
    | normal => exact hK .normal s' w1 ds1 ρ' a' w' k0 k1 k2 k3 k4
    | exit j =>
      simp only [blockK] at k1
      simp only [conc, Exit.inBlock]
      split
      · rename_i e
        rw [if_pos e] at k1
        exact hK .normal s' w1 ds1 ρ' a' w' k0 k1 k2 k3 k4
      · rename_i e
        rw [if_neg e] at k1
        exact hK (.exit j) s' w1 ds1 ρ' a' w' k0 k1 k2 k3 k4
    | ret => exact hK .ret s' w1 ds1 ρ' a' w' k0 k1 k2 k3 k4
  | loop c ih =>
    intro ro n s K w0 ds ρ a w Q hok hro hW h hs hK
    simp only [codeOK] at hok
    simp only [awp, loopP] at h
    obtain ⟨X, I, ⟨x, hx, hfit⟩, hround⟩ := h
    have key : ∀ (k : Nat) (x : X) (w1 : Base) (ds1 : Frm) (ρ' : Env) (a' : Act) (w' : World), Ext (ranges c) w0 ds w1 ds1 → I.ok x → I.μ x < k → SR w1 ρ' (headSt I (writes c) s x).t (headSt I (writes c) s x).m (· < (headSt I (writes c) s x).nx) nt ds1 a' w' →
        (∀ j, j ∉ writes c → slot (headSt I (writes c) s x).t j = slot s.t j) → Code.roundsIn (Fw ro) n P c Q k a' w' := by
      intro k
      induction k with
      | zero => intro x w1 ds1 ρ' a' w' _ _ hk; omega
      | succ k ihk =>
        intro x w1 ds1 ρ' a' w' hE hx hk hs' hfr
        rw [roundsIn_succ]
        refine ih ro n _ _ w1 ds1 ρ' a' w' _ hok (hE.loops hro) (by rw [hE.W]; exact hW) (hround x hx) hs' fun e s2 w2 ds2 ρ2 a2 w2' k0 k1 k2 k3 k4 => ?_
        have hnx : s.nx ≤ s2.nx := Nat.le_trans (by simp [headSt]) k2
        have hfr2 : ∀ j, j ∉ writes c → slot s2.t j = slot s.t j := fun j hj => by rw [k3 j hj, hfr j hj]
        cases e with
        | normal =>
          obtain ⟨y, hy, hlt, hfy⟩ := k1
          obtain ⟨⟨ρ3, h3⟩, h4⟩ := head_sound hs k4 hfr2 hfy
          exact ihk y w2 ds2 ρ3 a2 w2' (hE.trans k0) hy (by omega) h3 h4
        | exit j => exact hK (.exit j) s2 w2 ds2 ρ2 a2 w2' (hE.trans k0) k1 hnx hfr2 k4
        | ret => exact hK .ret s2 w2 ds2 ρ2 a2 w2' (hE.trans k0) k1 hnx hfr2 k4
    obtain ⟨⟨ρ3, h3⟩, h4⟩ := head_sound hs hs (fun _ _ => rfl) hfit
    exact wpIn_loop_rounds (I.μ x + 1) (key (I.μ x + 1) x w0 ds ρ3 a w (.refl _ _) hx (by omega) h3 h4)
  | ret =>
    intro ro n s K w0 ds ρ a w Q hok hro hW h hs hK
    exact wpIn_ret (hK .ret s w0 ds ρ a w (.refl _ _) h (Nat.le_refl _) (fun _ _ => rfl) hs)
  | exit id =>
    intro ro n s K w0 ds ρ a w Q hok hro hW h hs hK
    exact wpIn_exit (hK (.exit id) s w0 ds ρ a w (.refl _ _) h (Nat.le_refl _) (fun _ _ => rfl) hs)
  | rangeFunc g ps x c ihx ihc =>
    intro ro n s K w0 ds ρ a w Q hok hro hW h hs hK
    simp only [codeOK, Bool.and_eq_true, List.all_eq_true, decide_eq_true_eq] at hok
    obtain ⟨⟨hps, hokx⟩, hokc⟩ := hok
    simp only [awp, optK] at h
    split at h
    · rename_i q hq
      obtain ⟨ob, N, sq⟩ := q
      obtain ⟨hob, hlen, X, I, cnt, hlive, ⟨x0, hok0, hcnt0, hfit0⟩, hround, hdone⟩ := conj_iff.1 h
      clear h
      dsimp only at hlen hob hround hdone
      obtain ⟨f, cs, cc, k, hg, hcl, hget, hcc⟩ := seqOf_inv hq
      have hseq := hG.range hget cs ob N k sq hcc hob
      generalize hWr : ps.toList ++ writes x ++ writes c = Wr at *
      have hWrx : ∀ j ∈ writes x, j ∈ Wr := fun j hj => by rw [← hWr]; simp [hj]
      have hWrc : ∀ j ∈ writes c, j ∈ Wr := fun j hj => by rw [← hWr]; simp [hj]
      have hWrp : ∀ j ∈ ps.toList, j ∈ Wr := fun j hj => by rw [← hWr]; simp only [List.mem_append]; exact .inl (.inl hj)
      -- the iterator and what it has captured
      have hgv := hs.opd g
      rw [hg] at hgv
      generalize hge : a.eval g = gv at hgv
      cases hgv with
      | @fn _ _ _ vs hl hvs =>
      have hcap : Rs w (.ext ρ.imm) cs vs := ⟨hl, fun i b y h1 h2 => clean_sound 3 (List.all_eq_true.1 hcl b (List.mem_of_getElem? h1)) (hvs i b y h1 h2)⟩
      refine wpIn_rangeFunc fun fn hfn => ?_
      obtain ⟨l, d, mk, w1, fx, henter, hbel, hrel1, hmk1, hmk2, hmk3, hfxl⟩ := enter_run (P := P) hro hs.rel fn a.tmps ps x c
      have himm : ∀ b, ρ.imm b → b < w.heap.size := hs.rel.imm
      have hsm1 : Same ρ.imm w w1 := Same.of_below hbel himm
      obtain ⟨wbS, hwbS⟩ : ∃ wbS : LoopState → Option Code → Base, wbS = fun st pe => { w0 with fix := (l, recOf fn a.tmps ps x c d st pe) :: (fx ++ w0.fix), kept := keepAll ρ.imm w1 ++ w0.kept } := ⟨_, rfl⟩
      have hmem : ∀ st pe, (l, recOf fn a.tmps ps x c d st pe) ∈ (wbS st pe).fix := fun st pe => by rw [hwbS]; exact List.mem_cons_self
      have hno : ∀ st pe c' ty fr, recOf fn a.tmps ps x c d st pe ≠ .cells c' ty fr := fun st pe c' ty fr => by simp [recOf]
      have hrel1' : Rel (wbS .ready none) ρ s.m (· < s.nx) w1 := by rw [hwbS]; exact hrel1.keepMore
      have hsr1 : SR (wbS .ready none) ρ s.t s.m (· < s.nx) nt ds a w1 := ⟨hrel1', fun j => (hs.slots j).mono (.refl _) hsm1, hs.size, hs.defers, hs.frame⟩
      have hkeep : ∀ {st pe ρ' m' D' W}, Rel (wbS st pe) ρ' m' D' W → Same ρ.imm w1 W := fun {st pe ρ' m' D' W} hr => by
        refine keepAll_same (fun b hb => Nat.lt_of_lt_of_le (himm b hb) hbel.size) fun p hp => (hr.kept p ?_).2
        rw [hwbS]; exact List.mem_append.2 (.inl hp)
      obtain ⟨J, hJ⟩ : ∃ J : Nat → World → Prop, J = fun i W => ∃ y ρ', I.ok y ∧ cnt y = i ∧ SR (wbS .ready none) ρ' (headSt I Wr s y).t (headSt I Wr s y).m (· < (headSt I Wr s y).nx) nt ds a W := ⟨_, rfl⟩
      obtain ⟨Jx, hJx⟩ : ∃ Jx : World → Prop, Jx = fun W => ∃ e s' ρ' jump, jumpOf e = some jump ∧ K e s' ∧ s.nx ≤ s'.nx ∧ (∀ j, j ∉ Wr → slot s'.t j = slot s.t j) ∧ SR (wbS .done (some jump)) ρ' s'.t s'.m (· < s'.nx) nt ds a W := ⟨_, rfl⟩
      have hcall := hseq ρ.imm w1 vs (n - 1) l J Jx (fun b hb => Nat.lt_of_lt_of_le (himm b hb) hbel.size) (hcap.mono (.refl _) hsm1)
        (fun i W W' hj hb => by
          rw [hJ] at hj ⊢
          obtain ⟨y, ρ', h1, h2, h3⟩ := hj
          exact ⟨y, ρ', h1, h2, h3.stay hb⟩)
        (fun W W' hj hb => by
          rw [hJx] at hj ⊢
          obtain ⟨e, s', ρ', jump, h1, h2, h3, h4, h5⟩ := hj
          exact ⟨e, s', ρ', jump, h1, h2, h3, h4, h5.stay hb⟩)
        (by
          rw [hJ]
          have hE : SR (wbS .ready none) ρ (havoc Wr s.t) s.m (· < s.nx) nt ds a w1 := ⟨hrel1', fun j => by
            rw [slot_havoc]
            split
            · exact .any
            · exact hsr1.slots j, hs.size, hs.defers, hs.frame⟩
          obtain ⟨⟨ρ3, h3⟩, _⟩ := head_sound (s' := { s with t := havoc Wr s.t }) hs hE (fun j hj => by rw [slot_havoc, if_neg hj]) hfit0
          exact ⟨x0, ρ3, hok0, hcnt0, h3⟩)
        (fun i W args hi hj hsame hargs => by
          rw [hJ] at hj
          obtain ⟨y, ρy, hoky, hcnt, hsr⟩ := hj
          obtain ⟨hl1, hl2⟩ := hlen i hi
          have hheap := (hsr.rel.fix _ (hmem .ready none)).2.2.2
          have hyield := run_yield (P := P) (args := args.toArray) hheap (by
            have := hargs.1
            simp only [List.size_toArray]
            rw [this, hl1]; simp)
          refine ⟨fn, _, x, c, hyield, roundIn_of_wpIn hfn ?_⟩
          rw [setAll_arr]
          have h0 := hround y hoky (show cnt y < N by omega)
          have hth : ∀ j, slot (headSt I Wr s y).t j = slot (havoc Wr s.t) j := fun j => by simp [headSt, hlive y]
          have hpl : ∀ (i' : Nat) (b : AV) (v : Value), (sq i)[i']? = some b → args[i']? = some v → R W ρy b v := fun i' b v h1 h2 => plain_sound 3 (List.all_eq_true.1 hl2 b (List.mem_of_getElem? h1)) (hargs.2 i' b v h1 h2)
          rw [hcnt] at h0
          refine ihx (some l) _ _ _ (wbS .ready none) ⟨[], (· ∈ Wr), a.tmps⟩ ρy _ W _ hokx (fun l' hl' => by cases hl'; exact ⟨_, hmem .ready none⟩) hWrx h0 ⟨hsr.rel, ?_, ?_, rfl, ?_⟩ ?_
          · exact slotsOf_R ps.toList (sq i) args (havoc Wr s.t) a.tmps hl1 hargs.1 (fun p hp => by rw [hs.size]; exact hps p hp) hpl (fun j => by rw [← hth j]; exact hsr.slots j)
          · exact (setAll_size _ _ _).trans hs.size
          · exact fun j hj => setAll_other _ _ _ _ (fun hm => hj (hWrp j hm))
          intro e s' w1' ds1 ρ' a' w' k0 k1 k2 k3 k4
          have hsl1 : ∀ j, j ∉ Wr → slot s'.t j = slot s.t j := fun j hj => by
            rw [k3 j (fun hm => hj (hWrx j hm))]
            show slot (slotsOf _ _ _) j = _
            rw [slotsOf_other _ _ _ _ (fun hm => hj (hWrp j hm)), slot_havoc, if_neg hj]
          cases e with
          | normal =>
            obtain ⟨fy, ms, rfl, rfl, _, _, _⟩ := k0
            have hl' : (l, recOf fn a.tmps ps x c d .ready none) ∈ fy ++ (wbS .ready none).fix := List.mem_append.2 (.inr (hmem _ _))
            refine ⟨_, run_beginRound (k4.rel.fix _ hl').2.2.2 rfl, ?_⟩
            have hsr2 : SR (wbS .busy none) ρ' s'.t s'.m (· < s'.nx) nt ⟨ms.map dmark ++ [], (· ∈ Wr), a.tmps⟩ a' (w'.putObj l (recOf fn a.tmps ps x c d .busy none)) := by
              have := k4.putObj (o' := recOf fn a.tmps ps x c d .busy none) hl' (fx := (wbS .busy none).fix) (fun p hp => by
                rw [hwbS] at hp
                rcases List.mem_cons.1 hp with rfl | hp
                · exact .inl ⟨rfl, hno _ _⟩
                · refine .inr ⟨List.mem_append.2 (.inr ?_), hfxl p hp⟩
                  rw [hwbS]; exact List.mem_cons_of_mem _ hp)
              rw [hwbS] at this ⊢
              exact this
            refine ihc (some l) _ s' _ (wbS .busy none) _ ρ' a' _ _ hokc (fun l' hl' => by cases hl'; exact ⟨_, hmem .busy none⟩) hWrc k1 hsr2 ?_
            intro e2 s2 w2 ds2 ρ2 a2 w2' l0 l1 l2 l3 l4
            obtain ⟨fz, ms2, rfl, rfl, _, _, _⟩ := l0
            have hlb : (l, recOf fn a.tmps ps x c d .busy none) ∈ fz ++ (wbS .busy none).fix := List.mem_append.2 (.inr (hmem _ _))
            have hrun := fun jump => run_endRound (P := P) jump (l4.rel.fix _ hlb).2.2.2
            have hsl : ∀ j, R w2' ρ2 (slot (havoc Wr s.t) j) (a.tmps.getD j undef) := fun j => by
              rw [slot_havoc]
              split
              · exact .any
              · rename_i hj
                have h1 := l4.slots j
                rw [l3 j (fun hm => hj (hWrc j hm)), hsl1 j hj, l4.frame j hj] at h1
                exact h1
            have hE : SR _ ρ2 (havoc Wr s.t) s2.m (· < s2.nx) nt ds a w2' := ⟨l4.rel, hsl, hs.size, hs.defers, hs.frame⟩
            have hE' : ∀ st pe, SR (wbS st pe) ρ2 (havoc Wr s.t) s2.m (· < s2.nx) nt ds a (w2'.putObj l (recOf fn a.tmps ps x c d st pe)) := fun st pe => by
              have := hE.putObj (o' := recOf fn a.tmps ps x c d st pe) hlb (fx := (wbS st pe).fix) (fun p hp => by
                rw [hwbS] at hp
                rcases List.mem_cons.1 hp with rfl | hp
                · exact .inl ⟨rfl, hno _ _⟩
                · refine .inr ⟨List.mem_append.2 (.inr ?_), hfxl p hp⟩
                  rw [hwbS]; exact List.mem_cons_of_mem _ hp)
              rw [hwbS] at this ⊢
              exact this
            have hnx : s.nx ≤ s2.nx := by
              have h1 : s.nx ≤ (headSt I Wr s y).nx := by simp [headSt]
              have h2 : (headSt I Wr s y).nx ≤ s'.nx := k2
              omega
            have hsame' : ∀ st pe, Same ρ.imm W (w2'.putObj l (recOf fn a.tmps ps x c d st pe)) := fun st pe b hb => by
              rw [hkeep (hE' st pe).rel b hb, hsame b hb]
            cases e2 with
            | normal =>
              obtain ⟨z, hz, hzc, hfit⟩ := l1
              refine ⟨_, _, hrun none, hsame' _ _, .inl ⟨rfl, ?_⟩⟩
              obtain ⟨⟨ρ3, h3⟩, _⟩ := head_sound (s' := { s2 with t := havoc Wr s.t }) hs (hE' .ready none) (fun j hj => by rw [slot_havoc, if_neg hj]) hfit
              rw [hJ]
              exact ⟨z, ρ3, hz, by omega, h3⟩
            | exit j =>
              refine ⟨_, _, hrun (some (.exit j)), hsame' _ _, .inr ⟨rfl, ?_⟩⟩
              rw [hJx]
              exact ⟨.exit j, _, ρ2, .exit j, rfl, l1, hnx, fun j hj => by rw [slot_havoc, if_neg hj], hE' .done (some (.exit j))⟩
            | ret =>
              refine ⟨_, _, hrun (some .ret), hsame' _ _, .inr ⟨rfl, ?_⟩⟩
              rw [hJx]
              exact ⟨.ret, _, ρ2, .ret, rfl, l1, hnx, fun j hj => by rw [slot_havoc, if_neg hj], hE' .done (some .ret)⟩
          | exit j => exact k1.elim
          | ret => exact k1.elim)
      obtain ⟨eg, hcall⟩ := hcall
      refine ⟨l, mk.map dmark, w1, _, w1, f, _, w1, henter, range_call hge l w1, fun _ _ => trivial, range_invoke eg l w1, fun hd => by simp [Fw, Fence.wide] at hd, ?_⟩
      refine CallsIn.mono (F := Fw ro) hcall ?_
      rintro e W ⟨⟨v, rfl⟩, hj | hj⟩
      · rw [hJ] at hj
        obtain ⟨y, ρy, hoky, hcnt, hsr⟩ := hj
        refine ⟨none, _, run_endLoop (hsr.rel.fix _ (hmem .ready none)).2.2.2 (by simp), ?_⟩
        have hsr2 := ((hsr.putObj (o' := recOf fn a.tmps ps x c d .exhausted none) (hmem .ready none) (fx := fx ++ w0.fix) (fun p hp => by
          refine .inr ⟨?_, hfxl p hp⟩
          rw [hwbS]; exact List.mem_cons_of_mem _ hp)).shrink (fx := fx ++ w0.fix) (kp := w0.kept) (fun p hp => hp) (fun p hp => by rw [hwbS]; exact List.mem_append.2 (.inr hp))).dmark (mk.map dmark)
        have hsr3 : SR { w0 with fix := fx ++ w0.fix } ρy (headSt I Wr s y).t (headSt I Wr s y).m (· < (headSt I Wr s y).nx) nt { ds with ds := mk.map dmark ++ ds.ds } { a with defers := mk.map dmark ++ a.defers } (W.putObj l (recOf fn a.tmps ps x c d .exhausted none)) := by
          rw [hwbS] at hsr2; exact hsr2
        exact hK .normal (headSt I Wr s y) _ _ ρy _ _ ⟨fx, mk, rfl, rfl, hmk1, hmk2, hmk3, fun e => by simp [ranges] at e⟩ (hdone y hoky hcnt) (by simp [headSt]) (fun j hj => by
          have e1 : slot (headSt I Wr s y).t j = slot (havoc Wr s.t) j := by simp [headSt, hlive y]
          rw [e1, slot_havoc, if_neg]
          rw [← hWr]; simpa [writes] using hj) hsr3
      · rw [hJx] at hj
        obtain ⟨e, s', ρ', jump, h1, h2, h3, h4, h5⟩ := hj
        refine ⟨some jump, _, run_endLoop (h5.rel.fix _ (hmem .done (some jump))).2.2.2 (by simp), ?_⟩
        have hsr2 := ((h5.putObj (o' := recOf fn a.tmps ps x c d .exhausted (some jump)) (hmem .done (some jump)) (fx := fx ++ w0.fix) (fun p hp => by
          refine .inr ⟨?_, hfxl p hp⟩
          rw [hwbS]; exact List.mem_cons_of_mem _ hp)).shrink (fx := fx ++ w0.fix) (kp := w0.kept) (fun p hp => hp) (fun p hp => by rw [hwbS]; exact List.mem_append.2 (.inr hp))).dmark (mk.map dmark)
        have hsr3 : SR { w0 with fix := fx ++ w0.fix } ρ' s'.t s'.m (· < s'.nx) nt { ds with ds := mk.map dmark ++ ds.ds } { a with defers := mk.map dmark ++ a.defers } (W.putObj l (recOf fn a.tmps ps x c d .exhausted (some jump))) := by
          rw [hwbS] at hsr2; exact hsr2
        have hfin := hK e s' _ _ ρ' _ _ ⟨fx, mk, rfl, rfl, hmk1, hmk2, hmk3, fun e => by simp [ranges] at e⟩ h2 h3 (fun j hj => h4 j (by rw [← hWr]; simpa [writes] using hj)) hsr3
        cases e with
        | normal => cases h1
        | exit j => cases h1; exact wpIn_exit hfin
        | ret => cases h1; exact wpIn_ret hfin
    · exact h.elim
  | _ => intro ro n s K w0 ds ρ a w Q hok hro hW h hs hK; exact (by simp only [awp] at h : False).elim

end
end Go.Ax
