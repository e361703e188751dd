/-
  Code: what the evaluator says comes true.
-/
import Derived.Test.YtdebekhncimenaaAxL
import Derived.LoopNIn
set_option linter.unusedSimpArgs false
set_option linter.unusedVariables false
namespace Go.Ax
open Go.RowKit

section
variable {P : Program} {G : Ctx} {w0 : Base} {w : World} {ρ : Env} {m : Mem} {D : Nat → Prop} {t : Slots} {nt : Nat} {ds : List Deferred} {a : Act} {ro : Option Nat} {n : Nat} {Q : Exit → Act → World → Prop}

def conc : AEx → Exit
  | .normal => .normal
  | .exit j => .exit j
  | .ret => .ret

/-- The checks that the text must pass. -/
def codeOK (H : Hots) (nt : Nat) : Code → Bool
  | .region id ops draw => fitsOps nt ops.toList && (!draw || drawOK (hotAt H id) ops)
  | .seq a b => codeOK H nt a && codeOK H nt b
  | .cond _ a b => codeOK H nt a && codeOK H nt b
  | .block _ c => codeOK H nt c
  | .loop c => codeOK H nt c
  | _ => true

/-! ### Names for rows -/

def Env.ren (ρ : Env) (N : Nat) (σ : Names) : Env where
  dom r := r < N ∧ match asg σ r with
    | some k => ρ.dom k
    | none => True
  blk r f := match asg σ r with
    | some k => ρ.blk k f
    | none => 0
  cap r f := match asg σ r with
    | some k => ρ.cap k f
    | none => 0
  imm := ρ.imm

theorem asg_low {N : Nat} : ∀ {σ : Names} {r : Nat}, (∀ p ∈ σ, N ≤ p.1) → r < N → asg σ r = some r
  | [], r, _, _ => rfl
  | (k, x) :: rest, r, h, hr => by
    simp only [asg]
    have hk := h (k, x) (by simp)
    dsimp only at hk
    rw [if_neg (by omega)]
    exact asg_low (fun p hp => h p (by simp [hp])) hr

/-- A value whose keys lie below N. -/
theorem R.ren_low {N N' : Nat} {σ : Names} (hσ : ∀ p ∈ σ, N ≤ p.1) (hN : N ≤ N') {x : Value} {ac : AV} (h : R w ρ ac x) : ∀ (d : Nat), kb d N ac → R w (ρ.ren N' σ) ac x := by
  have lo : ∀ r, r < N → ρ.dom r → (ρ.ren N' σ).dom r := fun r hr hd => by
    refine ⟨by omega, ?_⟩
    rw [asg_low hσ hr]; exact hd
  have bl : ∀ r f, r < N → (ρ.ren N' σ).blk r f = ρ.blk r f := fun r f hr => by simp only [Env.ren, asg_low hσ hr]
  have ca : ∀ r f, r < N → (ρ.ren N' σ).cap r f = ρ.cap r f := fun r f hr => by simp only [Env.ren, asg_low hσ hr]
  induction h with
  | v => exact fun _ _ => .v
  | any => exact fun _ _ => .any
  | agg hl h ih =>
    intro d hk
    cases d with
    | zero => simp [kb] at hk
    | succ d =>
      simp only [kb] at hk
      exact .agg hl fun i b x h1 h2 => ih i b x h1 h2 lo bl ca d (hk b (List.mem_of_getElem? h1))
  | tup hl h ih =>
    intro d hk
    cases d with
    | zero => simp [kb] at hk
    | succ d =>
      simp only [kb] at hk
      exact .tup hl fun i b x h1 h2 => ih i b x h1 h2 lo bl ca d (hk b (List.mem_of_getElem? h1))
  | fn hl h ih =>
    intro d hk
    cases d with
    | zero => simp [kb] at hk
    | succ d =>
      simp only [kb] at hk
      exact .fn hl fun i b x h1 h2 => ih i b x h1 h2 lo bl ca d (hk b (List.mem_of_getElem? h1))
  | iface h ih =>
    intro d hk
    cases d with
    | zero => simp [kb] at hk
    | succ d => simp only [kb] at hk; exact .iface (ih lo bl ca d hk)
  | yes h ih =>
    intro d hk
    cases d with
    | zero => simp [kb] at hk
    | succ d => simp only [kb] at hk; exact .yes (ih lo bl ca d hk)
  | no => exact fun _ _ => .no
  | ro b o hn ha hi hlen hex hr ih =>
    exact fun _ _ => .ro b o hn ha hi hlen hex hr
  | rop b o hi hex hr ih => exact fun _ _ => .rop b o hi hex hr
  | @bx ρ r k hd =>
    intro d hk
    have hk : r < N := by cases d <;> simpa [kb] using hk
    rw [← bl r 0 hk]
    exact .bx (lo r hk hd)
  | @ptr ρ r f i sz k hd =>
    intro d hk
    have hk : r < N := by cases d <;> simpa [kb] using hk
    rw [← bl r f hk]
    exact .ptr (lo r hk hd)
  | @own ρ r f nn sz aa hd hn ha =>
    intro d hk
    have hk : r < N := by cases d <;> simpa [kb] using hk
    rw [← ca r f hk]
    exact .own (lo r hk hd) (by rw [ca r f hk]; exact hn) (by rw [ca r f hk, bl r f hk]; exact ha)
  | @vw ρ r f l nn sz aa cap hd hn ha =>
    intro d hk
    have hk : r < N := by cases d <;> simpa [kb] using hk
    exact .vw (lo r hk hd) hn (by rw [bl r f hk]; exact ha)

/-- All keys in a value of the state lie below N: by what it stood for. -/
theorem R.low {x : Value} {ac : AV} {N N' : Nat} {σ : Names} (hσ : ∀ p ∈ σ, N ≤ p.1) (hN : N ≤ N') (h : R w ρ ac x) (hd : ∀ r, ρ.dom r → r < N) :
    ∀ {w' : World} {ρ' : Env} {x' : Value}, R w' ρ' ac x' → R w' (ρ'.ren N' σ) ac x' := by
  have lo : ∀ (ρ' : Env) r, r < N → ρ'.dom r → (ρ'.ren N' σ).dom r := fun ρ' r hr hd => by
    refine ⟨by omega, ?_⟩
    rw [asg_low hσ hr]; exact hd
  have bl : ∀ (ρ' : Env) r f, r < N → (ρ'.ren N' σ).blk r f = ρ'.blk r f := fun ρ' r f hr => by simp only [Env.ren, asg_low hσ hr]
  have ca : ∀ (ρ' : Env) r f, r < N → (ρ'.ren N' σ).cap r f = ρ'.cap r f := fun ρ' r f hr => by simp only [Env.ren, asg_low hσ hr]
  induction h with
  | v => intro w' ρ' x' h; cases h; exact .v
  | any => intro w' ρ' x' h; cases h; exact .any
  | @agg ρ cs vs hl h ih =>
    intro w' ρ' x' h'
    cases h' with
    | agg hl' h' =>
      refine .agg hl' fun i b x h1 h2 => ?_
      have hlt : i < vs.length := by
        have := (List.getElem?_eq_some_iff.1 h1).1
        omega
      exact ih i b vs[i] h1 (by simp) hd (h' i b x h1 h2)
  | @tup ρ cs vs hl h ih =>
    intro w' ρ' x' h'
    cases h' with
    | tup hl' h' =>
      refine .tup hl' fun i b x h1 h2 => ?_
      have hlt : i < vs.length := by
        have := (List.getElem?_eq_some_iff.1 h1).1
        omega
      exact ih i b vs[i] h1 (by simp) hd (h' i b x h1 h2)
  | @fn ρ f cs vs hl h ih =>
    intro w' ρ' x' h'
    cases h' with
    | fn hl' h' =>
      refine .fn hl' fun i b x h1 h2 => ?_
      have hlt : i < vs.length := by
        have := (List.getElem?_eq_some_iff.1 h1).1
        omega
      exact ih i b vs[i] h1 (by simp) hd (h' i b x h1 h2)
  | iface h ih => intro w' ρ' x' h'; cases h' with | iface h' => exact .iface (ih hd h')
  | yes h ih => intro w' ρ' x' h'; cases h' with | yes h' => exact .yes (ih hd h')
  | no => intro w' ρ' x' h'; cases h' with | no => exact .no
  | ro b o hn ha hi hlen hex hr ih =>
    intro w' ρ' x' h'
    cases h' with | ro b o hn ha hi hlen hex hr => exact .ro b o hn ha hi hlen hex hr
  | rop b o hi hex hr ih =>
    intro w' ρ' x' h'
    cases h' with | rop b o hi hex hr => exact .rop b o hi hex hr
  | @bx ρ r k hr =>
    intro w' ρ' x' h'
    cases h' with | bx hd' => 
    rw [← bl ρ' r 0 (hd r hr)]
    exact .bx (lo ρ' r (hd r hr) hd')
  | @ptr ρ r f i sz k hr =>
    intro w' ρ' x' h'
    cases h' with | ptr hd' =>
    rw [← bl ρ' r f (hd r hr)]
    exact .ptr (lo ρ' r (hd r hr) hd')
  | @own ρ r f nn sz aa hr hn ha =>
    intro w' ρ' x' h'
    cases h' with | own hd' hn' ha' =>
    have hk := hd r hr
    rw [← ca ρ' r f hk]
    exact .own (lo ρ' r hk hd') (by rw [ca ρ' r f hk]; exact hn') (by rw [ca ρ' r f hk, bl ρ' r f hk]; exact ha')
  | @vw ρ r f l nn sz aa cap hr hn ha =>
    intro w' ρ' x' h'
    cases h' with | vw hd' hn' ha' =>
    have hk := hd r hr
    exact .vw (lo ρ' r hk hd') hn' (by rw [bl ρ' r f hk]; exact ha')

theorem fit1_sound {N k : Nat} {σ : Names} (hσ : ∀ p ∈ σ, N ≤ p.1 ∧ p.1 < N + k) {new old : AV} (h : fit1 N (N + k) σ new old) {x : Value} (hR : R w ρ old x) : R w (ρ.ren (N + k) σ) new x := by
  unfold fit1 at h
  split at h
  · rename_i r f nn sz
    obtain ⟨hlt, h⟩ := h
    split at h
    · rename_i q hq
      subst h
      have e1 : (ρ.ren (N + k) σ).cap r f = ρ.cap q f := by simp only [Env.ren, hq]
      have e2 : (ρ.ren (N + k) σ).blk r f = ρ.blk q f := by simp only [Env.ren, hq]
      cases hR with
      | own hd hn ha =>
        rw [← e1]
        exact .own ⟨hlt, by rw [hq]; exact hd⟩ (by rw [e1]; exact hn) (by rw [e1, e2]; exact ha)
    · rename_i hq
      obtain ⟨rfl, rfl⟩ := h
      have e1 : (ρ.ren (N + k) σ).cap r f = 0 := by simp only [Env.ren, hq]
      cases hR
      have := R.own (w := w) (ρ := ρ.ren (N + k) σ) (r := r) (f := f) (n := 0) (sz := sz) (a := none) ⟨hlt, by rw [hq]; trivial⟩ (by omega) (by rw [e1]; simp)
      rw [e1] at this
      exact this
  · exact .any
  · obtain ⟨rfl, hk⟩ := h
    exact hR.ren_low (fun p hp => (hσ p hp).1) (by omega) 3 hk


theorem look_append {m m' : Mem} {r : Nat} : look (m ++ m') r = match look m r with | some x => some x | none => look m' r := by
  induction m with
  | nil => rfl
  | cons q m ih =>
    obtain ⟨k, x⟩ := q
    simp only [List.cons_append, look]
    split
    · rfl
    · exact ih

theorem look_kept {keep : List Nat} {r : Nat} {x : Fam} : ∀ {m : Mem}, look (keptRows keep m) r = some x → r ∈ keep ∧ look m r = some x
  | [], h => by simp [keptRows, look] at h
  | (k, y) :: rest, h => by
    unfold keptRows at h
    rw [List.filter_cons] at h
    split at h
    · rename_i hk
      simp only [look] at h ⊢
      split at h
      · rename_i e; subst e
        simp only [if_true]
        exact ⟨by simpa using hk, h⟩
      · rename_i e
        simp only [e, if_false]
        exact look_kept h
    · rename_i hk
      have h' := look_kept (m := rest) h
      refine ⟨h'.1, ?_⟩
      simp only [look]
      rw [if_neg]
      · exact h'.2
      · intro e; subst e
        simp only [List.contains_eq_mem, decide_eq_true_eq] at hk
        exact hk h'.1

theorem look_mem {r : Nat} {x : Fam} : ∀ {m : Mem}, look m r = some x → (r, x) ∈ m
  | (k, y) :: rest, h => by
    simp only [look] at h
    split at h
    · rename_i e; cases h; subst e; simp
    · exact List.mem_cons_of_mem _ (look_mem h)

theorem fitRows_mem {N M : Nat} {σ : Names} {m : Mem} : ∀ {rows : Mem}, fitRows N M σ m rows → ∀ r x, (r, x) ∈ rows →
    match asg σ r with
    | some k => ∃ y, look m k = some y ∧ ∀ f, fitRow N M σ (x f) (y f)
    | none => ∀ f, (x f).n = 0 ∧ (x f).g = none
  | [], _, r, x, h => by simp at h
  | (k, y) :: rest, h, r, x, hm => by
    simp only [fitRows] at h
    rcases List.mem_cons.1 hm with e | hm
    · cases e; exact h.1
    · exact fitRows_mem h.2 r x hm

theorem fitKeep_mem {m m' : Mem} : ∀ {keep : List Nat}, fitKeep m m' keep → ∀ r ∈ keep, look m' r = look m r
  | [], _, r, h => by simp at h
  | k :: rest, h, r, hm => by
    simp only [fitKeep] at h
    rcases List.mem_cons.1 hm with e | hm
    · subst e; exact h.1
    · exact fitKeep_mem h.2 r hm

theorem fitSlots_mem {N M : Nat} {σ : Names} {W : List Nat} {t : Slots} : ∀ {l : Slots}, fitSlots N M σ W t l → ∀ j b, (j, b) ∈ l → j ∈ W ∧ fit1 N M σ b (slot t j)
  | [], _, j, b, h => by simp at h
  | (k, y) :: rest, h, j, b, hm => by
    simp only [fitSlots] at h
    rcases List.mem_cons.1 hm with e | hm
    · cases e; exact ⟨h.1, h.2.1⟩
    · exact fitSlots_mem h.2.2 j b hm

theorem fitL_get {N M : Nat} {σ : Names} : ∀ {as bs : List AV}, fitL N M σ as bs → ∀ (i : Nat) (c : AV), as[i]? = some c → ∃ c', bs[i]? = some c' ∧ fit1 N M σ c c'
  | [], [], _, i, c, h => by simp at h
  | a :: as, b :: bs, h, 0, c, hc => by simp at hc; subst hc; exact ⟨b, by simp, h.1⟩
  | a :: as, b :: bs, h, i + 1, c, hc => by
    simp at hc
    simpa using fitL_get h.2 i c hc
  | [], _ :: _, h, _, _, _ => h.elim
  | _ :: _, [], h, _, _, _ => h.elim
theorem fitL_len {N M : Nat} {σ : Names} : ∀ {as bs : List AV}, fitL N M σ as bs → as.length = bs.length
  | [], [], _ => rfl
  | a :: as, b :: bs, h => by simp [fitL_len h.2]
  | [], _ :: _, h => h.elim
  | _ :: _, [], h => h.elim

theorem slot_append : ∀ {l t : Slots} {j : Nat}, (∃ b, (j, b) ∈ l ∧ slot (l ++ t) j = b) ∨ ((∀ b, (j, b) ∉ l) ∧ slot (l ++ t) j = slot t j)
  | [], t, j => .inr ⟨by simp, rfl⟩
  | (k, y) :: rest, t, j => by
    simp only [List.cons_append, slot]
    by_cases e : k = j
    · subst e
      exact .inl ⟨y, by simp, by simp⟩
    · simp only [e, if_false]
      rcases slot_append (l := rest) (t := t) (j := j) with ⟨b, h1, h2⟩ | ⟨h1, h2⟩
      · exact .inl ⟨b, by simp [h1], h2⟩
      · refine .inr ⟨fun b hb => ?_, h2⟩
        rcases List.mem_cons.1 hb with hb | hb
        · cases hb; exact e rfl
        · exact h1 b hb

theorem slot_anys {W : List Nat} {j : Nat} : slot (W.map fun j => (j, AV.any)) j = if j ∈ W then AV.any else .v undef := by
  induction W with
  | nil => simp [slot]
  | cons k W ih =>
    simp only [List.map_cons, slot, List.mem_cons]
    by_cases e : k = j
    · subst e; simp
    · have : ¬ j = k := fun h => e h.symm
      simp only [e, if_false, this, false_or]
      exact ih
theorem slot_havoc {W : List Nat} {t : Slots} {j : Nat} : slot (havoc W t) j = if j ∈ W then AV.any else slot t j := by
  unfold havoc
  induction t with
  | nil => exact slot_anys
  | cons q t ih =>
    obtain ⟨k, a⟩ := q
    simp only [dropW]
    by_cases hk : k ∈ W
    · rw [if_pos hk, ih]
      by_cases hj : j ∈ W
      · simp [hj]
      · have : ¬ k = j := fun e => hj (e ▸ hk)
        simp [hj, slot, this]
    · rw [if_neg hk]
      simp only [List.cons_append, slot]
      by_cases e : k = j
      · subst e; simp [hk]
      · simp only [e, if_false]
        exact ih

/-- Rows that the invariant speaks of. -/
theorem rows_of {X : Type} {I : Inv X} {W : List Nat} {s s' : St} {x : X} {ρe ρ : Env} {we : World} (he : Rel w0 ρe s.m (· < s.nx) we)
    (h : Rel w0 ρ s'.m D w) {σ : Names} (h2 : fitRows s.nx (s.nx + I.names) σ s'.m (I.rows x)) (h3 : fitKeep s.m s'.m I.keep) (h4 : goodNames s.nx I.names σ (I.rows x) I.keep) :
    Rel w0 (ρ.ren (s.nx + I.names) σ) (I.rows x ++ keptRows I.keep s.m) (· < s.nx + I.names) w := by
  obtain ⟨g1, g2, g3, g4⟩ := h4
  have hσ : ∀ p ∈ σ, s.nx ≤ p.1 := fun p hp => (g1 p hp).1
  have cases_ : ∀ r y, look (I.rows x ++ keptRows I.keep s.m) r = some y → ((r, y) ∈ I.rows x) ∨ (r ∈ I.keep ∧ look s.m r = some y ∧ look s'.m r = some y ∧ r < s.nx) := fun r y hy => by
    rw [look_append] at hy
    split at hy
    · rename_i z hz; cases hy; exact .inl (look_mem hz)
    · obtain ⟨k1, k2⟩ := look_kept hy
      exact .inr ⟨k1, k2, by rw [fitKeep_mem h3 r k1]; exact k2, he.key r y k2⟩
  -- what stands behind a row of the new memory
  have back : ∀ r y f, look (I.rows x ++ keptRows I.keep s.m) r = some y → (y f).g ≠ some false → 0 < (ρ.ren (s.nx + I.names) σ).cap r f →
      ∃ k z, asg σ r = some k ∧ look s'.m k = some z ∧ (z f).g ≠ some false ∧ ((r ∈ (I.rows x).map (·.1)) ∨ (r ∈ I.keep ∧ k = r)) := fun r y f hy hg hc => by
    rcases cases_ r y hy with hm | ⟨k1, k2, k3, k4⟩
    · have := fitRows_mem h2 r y hm
      split at this
      · rename_i k hk
        obtain ⟨z, hz, hf⟩ := this
        exact ⟨k, z, hk, hz, by rw [(hf f).2.2.2.1]; simp, .inl (List.mem_map.2 ⟨_, hm, rfl⟩)⟩
      · rename_i hk
        simp only [Env.ren, hk] at hc
        omega
    · exact ⟨r, y, asg_low hσ k4, k3, hg, .inr ⟨k1, rfl⟩⟩
  refine ⟨h.below, h.imm2, fun r hr => hr.1, fun r y hy => ?_, fun r y f hy hg => ?_, fun r y f r' y' f' hy hy' hg hg' hc hc' heq => ?_⟩
  · rcases cases_ r y hy with hm | ⟨k1, k2, k3, k4⟩
    · exact g4 _ hm
    · show r < s.nx + I.names
      omega
  · rcases cases_ r y hy with hm | ⟨k1, k2, k3, k4⟩
    · have hlt : r < s.nx + I.names := g4 _ hm
      have := fitRows_mem h2 r y hm
      split at this
      · rename_i k hk
        obtain ⟨z, hz, hf⟩ := this
        obtain ⟨f1, f2, f3, f4, f5, f6⟩ := hf f
        obtain ⟨d1, d2⟩ := h.row k z f hz (by rw [f4]; simp)
        have e1 : (ρ.ren (s.nx + I.names) σ).cap r f = ρ.cap k f := by simp only [Env.ren, hk]
        have e2 : (ρ.ren (s.nx + I.names) σ).blk r f = ρ.blk k f := by simp only [Env.ren, hk]
        refine ⟨⟨hlt, by rw [hk]; exact d1⟩, ⟨by rw [e1, f1]; exact d2.n_le, ?_, fun i hi => ?_, fun i q c v hi hc hv => ?_⟩⟩
        · rw [e1, e2, f2, f3]; exact d2.blk
        · rw [fitL_len (f6 i hi), f2]; exact d2.len i (by omega)
        · obtain ⟨c', hc', hfit⟩ := fitL_get (f6 i hi) q c hc
          rw [e2, f2] at hv
          exact fit1_sound g1 hfit (d2.rel i q c' v (by omega) hc' hv)
      · rename_i hk
        obtain ⟨f1, f2⟩ := this f
        have e1 : (ρ.ren (s.nx + I.names) σ).cap r f = 0 := by simp only [Env.ren, hk]
        exact ⟨⟨hlt, by rw [hk]; trivial⟩, ⟨by omega, fun hc => by omega, fun i hi => by omega, fun i q c v hi => by omega⟩⟩
    · obtain ⟨d1, d2⟩ := h.row r y f k3 hg
      obtain ⟨c1, c2⟩ := he.row r y f k2 hg
      have hk := asg_low hσ k4
      have e1 : (ρ.ren (s.nx + I.names) σ).cap r f = ρ.cap r f := by simp only [Env.ren, hk]
      have e2 : (ρ.ren (s.nx + I.names) σ).blk r f = ρ.blk r f := by simp only [Env.ren, hk]
      refine ⟨⟨by omega, by rw [hk]; exact d1⟩, ⟨by rw [e1]; exact d2.n_le, by rw [e1, e2]; exact d2.blk, d2.len, fun i q c v hi hc hv => ?_⟩⟩
      rw [e2] at hv
      have hR := d2.rel i q c v hi hc hv
      have hcap : 0 < ρe.cap r f := by have := c2.n_le; omega
      obtain ⟨b1, b2, cc, b3, b4⟩ := c2.blk hcap
      have hq : q < (y f).sz := by
        rw [← c2.len i hi]
        exact (List.getElem?_eq_some_iff.1 hc).1
      have hlt : i * (y f).sz + q < cc.size := by
        rw [b4]
        have h1 : (i + 1) * (y f).sz ≤ ρe.cap r f * (y f).sz := Nat.mul_le_mul_right _ (by have := c2.n_le; omega)
        rw [Nat.add_mul] at h1
        omega
      exact (c2.rel i q c cc[i * (y f).sz + q] hi hc (by unfold Has World.cell?; simp [b3, hlt])).low hσ (by omega) (fun r hr => he.dom r hr) hR
  · obtain ⟨k, z, a1, a2, a3, a4⟩ := back r y f hy hg hc
    obtain ⟨k', z', a1', a2', a3', a4'⟩ := back r' y' f' hy' hg' hc'
    simp only [Env.ren, a1] at hc heq
    simp only [Env.ren, a1'] at hc' heq
    obtain ⟨e1, e2⟩ := h.sep k z f k' z' f' a2 a2' a3 a3' hc hc' heq
    refine ⟨?_, e2⟩
    subst e1
    have inj : ∀ {l : Mem}, ((l.filterMap fun e => asg σ e.1)).Nodup → ∀ r r' k, r ∈ l.map (·.1) → r' ∈ l.map (·.1) → asg σ r = some k → asg σ r' = some k → r = r' := by
      intro l
      induction l with
      | nil => intro _ r r' k h; simp at h
      | cons q l ih =>
        intro hn r r' k hr hr' h1 h2
        rw [List.filterMap_cons] at hn
        have mem : ∀ r, r ∈ l.map (·.1) → asg σ r = some k → k ∈ l.filterMap fun e => asg σ e.1 := fun r hr h => by
          obtain ⟨e, he, rfl⟩ := List.mem_map.1 hr
          exact List.mem_filterMap.2 ⟨e, he, h⟩
        rcases List.mem_cons.1 hr with e | hr
        · rcases List.mem_cons.1 hr' with e' | hr'
          · rw [e, e']
          · subst e; rw [h1] at hn
            exact absurd (mem r' hr' h2) (List.nodup_cons.1 hn).1
        · rcases List.mem_cons.1 hr' with e' | hr'
          · subst e'; rw [h2] at hn
            exact absurd (mem r hr h1) (List.nodup_cons.1 hn).1
          · refine ih ?_ r r' k hr hr' h1 h2
            split at hn
            · exact hn
            · exact (List.nodup_cons.1 hn).2
    have dis : ∀ r k, r ∈ (I.rows x).map (·.1) → asg σ r = some k → k ∈ I.keep → False := fun r k hr h hk => by
      obtain ⟨e, he, rfl⟩ := List.mem_map.1 hr
      exact (List.nodup_append.1 g3).2.2 k (List.mem_filterMap.2 ⟨e, he, h⟩) k hk rfl
    rcases a4 with a4 | ⟨a4, e4⟩
    · rcases a4' with a4' | ⟨a4', e4'⟩
      · exact inj (List.nodup_append.1 g3).1 r r' k a4 a4' a1 a1'
      · exact (dis r k a4 a1 (e4' ▸ a4')).elim
    · rcases a4' with a4' | ⟨a4', e4'⟩
      · exact (dis r' k a4' a1' (e4 ▸ a4)).elim
      · rw [← e4, ← e4']


/-- A loop's head. -/
theorem head_sound {X : Type} {I : Inv X} {W : List Nat} {s s' : St} {x : X} {ρe : Env} {we : World} {ae : Act} (he : SR w0 ρe s.t s.m (· < s.nx) nt ds ae we)
    (h : SR w0 ρ s'.t s'.m D nt ds a w) (fr : ∀ j, j ∉ W → slot s'.t j = slot s.t j) (hf : fits I W s x s') :
    (∃ ρ', SR w0 ρ' (headSt I W s x).t (headSt I W s x).m (· < (headSt I W s x).nx) nt ds a w) ∧ ∀ j, j ∉ W → slot (headSt I W s x).t j = slot s.t j := by
  obtain ⟨σ, h1, h2, h3, h4⟩ := hf
  have hσ : ∀ p ∈ σ, s.nx ≤ p.1 := fun p hp => (h4.1 p hp).1
  refine ⟨⟨ρ.ren (s.nx + I.names) σ, rows_of (W := W) he.rel h.rel h2 h3 h4, fun j => ?_, h.size, h.defers⟩, fun j hj => ?_⟩
  · rcases slot_append (l := I.live x) (t := havoc W s.t) (j := j) with ⟨b, k1, k2⟩ | ⟨k1, k2⟩
    · show R w _ (slot (I.live x ++ havoc W s.t) j) _
      rw [k2]
      exact fit1_sound h4.1 (fitSlots_mem h1 j b k1).2 (h.slots j)
    · show R w _ (slot (I.live x ++ havoc W s.t) j) _
      rw [k2, slot_havoc]
      split
      · exact .any
      · rename_i hj
        exact (he.slots j).low hσ (by omega) (fun r hr => he.rel.dom r hr) (fr j hj ▸ h.slots j)
  · show slot (I.live x ++ havoc W s.t) j = _
    rcases slot_append (l := I.live x) (t := havoc W s.t) (j := j) with ⟨b, k1, k2⟩ | ⟨k1, k2⟩
    · exact absurd (fitSlots_mem h1 j b k1).1 hj
    · rw [k2, slot_havoc, if_neg hj]

/-- Code: what the evaluator says comes true. -/
theorem awp_sound {H : Hots} (hG : CtxOK P G) (hm : P.follows .mixedOrders = true) : ∀ (c : Code) (s : St) (K : AEx → St → Prop) (ρ : Env) (a : Act) (w : World) (Q : Exit → Act → World → Prop),
    codeOK H nt c = true → awp P G H c s K → SR w0 ρ s.t s.m (· < s.nx) nt ds a w →
    (∀ e s' ρ' a' w', K e s' → s.nx ≤ s'.nx → (∀ j, j ∉ writes c → slot s'.t j = slot s.t j) → SR w0 ρ' s'.t s'.m (· < s'.nx) nt ds a' w' → Q (conc e) a' w') →
    c.wpIn (Fw ro) n P Q a w := by
  intro c
  induction c with
  | skip =>
    intro s K ρ a w Q hok h hs hK
    exact wpIn_skip (hK .normal s ρ a w h (Nat.le_refl _) (fun _ _ => rfl) hs)
  | region id ops draw =>
    intro s K ρ a w Q hok h hs hK
    simp only [awp] at h
    simp only [codeOK, Bool.and_eq_true, Bool.or_eq_true, Bool.not_eq_true'] at hok
    refine region_sound hG hm hok.2 hok.1 (regP_frame h) hs fun s' ρ' a' w' ⟨k1, k2, k3⟩ hs' => ?_
    refine hK .normal _ ρ' a' w' k1 (by dsimp only; omega) (fun j hj => k3 j hj) hs'
  | seq x y ihx ihy =>
    intro s K ρ a w Q hok h hs hK
    simp only [codeOK, Bool.and_eq_true] at hok
    simp only [awp] at h
    refine wpIn_seq (ihx s _ ρ a w _ hok.1 h hs fun e s' ρ' a' w' k1 k2 k3 k4 => ?_)
    cases e with
    | normal =>
      refine ihy s' K ρ' a' w' Q hok.2 k1 k4 fun e s2 ρ2 a2 w2 l1 l2 l3 l4 => hK e s2 ρ2 a2 w2 l1 (by omega) (fun j hj => ?_) l4
      simp only [writes, List.mem_append, not_or] at hj
      rw [l3 j hj.2, k3 j hj.1]
    | exit j => exact hK _ s' ρ' a' w' k1 k2 (fun j hj => k3 j (by simp only [writes, List.mem_append, not_or] at hj; exact hj.1)) k4
    | ret => exact hK _ s' ρ' a' w' k1 k2 (fun j hj => k3 j (by simp only [writes, List.mem_append, not_or] at hj; exact hj.1)) k4
  | cond c x y ihx ihy =>
    intro s K ρ a w Q hok h hs hK
    simp only [codeOK, Bool.and_eq_true] at hok
    simp only [awp, optK] at h
    split at h
    · rename_i b hb
      have hv := boolOf_sound (hs.opd c) hb
      refine wpIn_cond_split hv (fun hbt => ?_) (fun hbf => ?_)
      · exact ihx s K ρ a w Q hok.1 (h.1 hbt) hs fun e s' ρ' a' w' k1 k2 k3 k4 => hK e s' ρ' a' w' k1 k2 (fun j hj => k3 j (by simp only [writes, List.mem_append, not_or] at hj; exact hj.1)) k4
      · exact ihy s K ρ a w Q hok.2 (h.2 hbf) hs fun e s' ρ' a' w' k1 k2 k3 k4 => hK e s' ρ' a' w' k1 k2 (fun j hj => k3 j (by simp only [writes, List.mem_append, not_or] at hj; exact hj.2)) k4
    · exact h.elim
  | block id c ih =>
    intro s K ρ a w Q hok h hs hK
    simp only [codeOK] at hok
    simp only [awp] at h
    refine wpIn_block (ih s _ ρ a w _ hok h hs fun e s' ρ' a' w' k1 k2 k3 k4 => ?_)
    cases e with
    | normal => exact hK .normal s' ρ' a' w' k1 k2 k3 k4
    | exit j =>
      simp only [blockK] at k1
      simp only [conc, Exit.inBlock]
      split
      · rename_i e
        rw [if_pos e] at k1
        exact hK .normal s' ρ' a' w' k1 k2 k3 k4
      · rename_i e
        rw [if_neg e] at k1
        exact hK (.exit j) s' ρ' a' w' k1 k2 k3 k4
    | ret => exact hK .ret s' ρ' a' w' k1 k2 k3 k4
  | loop c ih =>
    intro s K ρ a w Q hok h hs hK
    simp only [codeOK] at hok
    simp only [awp, loopP] at h
    obtain ⟨X, I, ⟨x, hx, hfit⟩, hround⟩ := h
    have key : ∀ (k : Nat) (x : X) (ρ' : Env) (a' : Act) (w' : World), I.ok x → I.μ x < k → SR w0 ρ' (headSt I (writes c) s x).t (headSt I (writes c) s x).m (· < (headSt I (writes c) s x).nx) nt ds a' w' →
        (∀ j, j ∉ writes c → slot (headSt I (writes c) s x).t j = slot s.t j) → Code.roundsIn (Fw ro) n P c Q k a' w' := by
      intro k
      induction k with
      | zero => intro x ρ' a' w' _ hk; omega
      | succ k ihk =>
        intro x ρ' a' w' hx hk hs' hfr
        rw [roundsIn_succ]
        refine ih _ _ ρ' a' w' _ hok (hround x hx) hs' fun e s2 ρ2 a2 w2 k1 k2 k3 k4 => ?_
        have hnx : s.nx ≤ s2.nx := Nat.le_trans (by simp [headSt]) k2
        have hfr2 : ∀ j, j ∉ writes c → slot s2.t j = slot s.t j := fun j hj => by rw [k3 j hj, hfr j hj]
        cases e with
        | normal =>
          obtain ⟨y, hy, hlt, hfy⟩ := k1
          obtain ⟨⟨ρ3, h3⟩, h4⟩ := head_sound hs k4 hfr2 hfy
          exact ihk y ρ3 a2 w2 hy (by omega) h3 h4
        | exit j => exact hK (.exit j) s2 ρ2 a2 w2 k1 hnx hfr2 k4
        | ret => exact hK .ret s2 ρ2 a2 w2 k1 hnx hfr2 k4
    obtain ⟨⟨ρ3, h3⟩, h4⟩ := head_sound hs hs (fun _ _ => rfl) hfit
    exact wpIn_loop_rounds (I.μ x + 1) (key (I.μ x + 1) x ρ3 a w hx (by omega) h3 h4)
  | ret =>
    intro s K ρ a w Q hok h hs hK
    exact wpIn_ret (hK .ret s ρ a w h (Nat.le_refl _) (fun _ _ => rfl) hs)
  | exit id =>
    intro s K ρ a w Q hok h hs hK
    exact wpIn_exit (hK (.exit id) s ρ a w h (Nat.le_refl _) (fun _ _ => rfl) hs)
  | _ => intro s K ρ a w Q hok h hs hK; exact (by simp only [awp] at h : False).elim

end
end Go.Ax
