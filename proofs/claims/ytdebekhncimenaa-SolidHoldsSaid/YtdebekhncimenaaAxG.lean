/-
  Calls of functions that only compute; the steps of a region.
-/
import Derived.Test.YtdebekhncimenaaAxF
import Derived.RangeFuncCalls
import Derived.RangeFuncSeq
set_option linter.unusedSimpArgs false
set_option linter.unusedVariables false
namespace Go.Ax
open Go.RowKit

/-- The fence of all code: it shuts nothing out; 'ro': the loop over a function of whose round the code is. -/
def Fw (ro : Option Nat) : Fence := { Fence.wide with round := ro }

/-- A function's call, made where the arguments stand: it comes back with a value. -/
def Invokes (P : Program) (f : FuncId) (vs : List Value) (w : World) (Q : Value → World → Prop) : Prop :=
  (∃ v w', (callFunc f vs.toArray).run P w = .ok (.value v) w' ∧ Q v w') ∨
  ((callFunc f vs.toArray).run P w = .ok (.enter f vs.toArray) w ∧ Calls P f vs.toArray w fun e w' => ∃ v, e = .returned v ∧ Q v w')

theorem Invokes.mono {P : Program} {f : FuncId} {vs : List Value} {w : World} {Q Q' : Value → World → Prop} (h : Invokes P f vs w Q) (hq : ∀ v w', Q v w' → Q' v w') : Invokes P f vs w Q' := by
  rcases h with ⟨v, w', h1, h2⟩ | ⟨h1, h2⟩
  · exact .inl ⟨v, w', h1, hq _ _ h2⟩
  · exact .inr ⟨h1, h2.mono fun e w' ⟨v, he, h⟩ => ⟨v, he, hq _ _ h⟩⟩

/-- What is new in w'. -/
def New (I : Nat → Prop) (w w' : World) : Nat → Prop := fun b => I b ∨ (w.heap.size ≤ b ∧ b < w'.heap.size)

/-- The function, called with such arguments, hands back such a result, and leaves all that was as it was. -/
def Pur (P : Program) (f : FuncId) (as : List AV) (r : AV) : Prop :=
  ∀ (I : Nat → Prop) (w : World) (vs : List Value), (∀ b, I b → b < w.heap.size) → Rs w (.ext I) as vs →
    Invokes P f vs w fun v w' => R w' (.ext (New I w w')) r v ∧ Below w.heap.size w w'

def ConOK (P : Program) (f : FuncId) (c : Con) : Prop := ∀ as ob r, c as = some (ob, r) → (∀ p ∈ ob, p) → Pur P f as r

/-- The iterator, called with such values captured, hands over N times, the i-th time such values; it reads what it was given, and changes nothing that was there. -/
def SeqPure (P : Program) (f : FuncId) (as : List AV) (N : Nat) (sq : Nat → List AV) : Prop :=
  ∀ (I : Nat → Prop) (w : World) (vs : List Value) (n l : Nat) (J : Nat → World → Prop) (Jx : World → Prop), (∀ b, I b → b < w.heap.size) → Rs w (.ext I) as vs →
    (∀ i W W', J i W → Below W.heap.size W W' → J i W') → (∀ W W', Jx W → Below W.heap.size W W' → Jx W') → J 0 w →
    (∀ i W args, i < N → J i W → Same I w W → Rs W (.ext I) (sq i) args → YieldAt Fence.wide (n - 1) P l args.toArray W fun e W' =>
      Same I W W' ∧ ((e = .returned (.bool true) ∧ J (i + 1) W') ∨ (e = .returned (.bool false) ∧ Jx W'))) →
    (∀ args w, (callFunc f args).run P w = .ok (.enter f args) w) ∧
    CallsIn Fence.wide n P f (#[.func (.yield l) #[] #[]] ++ vs.toArray) w fun e W' => (∃ v, e = .returned v) ∧ (J N W' ∨ Jx W')
def SeqOK (P : Program) (f : FuncId) (c : Con) : Prop := ∀ as ob N k sq, c as = some (ob, .ro N k sq) → (∀ p ∈ ob, p) → SeqPure P f as N sq
def CtxOK (P : Program) (G : Ctx) : Prop := ∀ f c, ctxGet G f = some c → (f < 1000000 → ConOK P f c) ∧ (1000000 ≤ f → SeqOK P (f - 1000000) c)

theorem CtxOK.nil {P : Program} : CtxOK P [] := fun _ _ h => by simp [ctxGet] at h
theorem CtxOK.cons {P : Program} {f : FuncId} {c : Con} {G : Ctx} (h : ConOK P f c) (hG : CtxOK P G) (hf : f < 1000000 := by decide) : CtxOK P ((f, c) :: G) := fun g d hg => by
  simp only [ctxGet] at hg
  split at hg
  · rename_i e; subst e; cases hg; exact ⟨fun _ => h, fun k => absurd hf (Nat.not_lt.2 k)⟩
  · exact hG g d hg
theorem CtxOK.seq {P : Program} {f : FuncId} {c : Con} {G : Ctx} (h : SeqOK P f c) (hG : CtxOK P G) : CtxOK P ((1000000 + f, c) :: G) := fun g d hg => by
  simp only [ctxGet] at hg
  split at hg
  · rename_i e; subst e; cases hg
    exact ⟨fun k => absurd (Nat.le_add_right 1000000 f) (Nat.not_le.2 k), fun _ => by rw [Nat.add_sub_cancel_left]; exact h⟩
  · exact hG g d hg
theorem CtxOK.call {P : Program} {G : Ctx} (hG : CtxOK P G) {f : FuncId} {c : Con} (h : ctxCall G f = some c) : ConOK P f c := by
  unfold ctxCall at h
  split at h
  · rename_i hf; exact (hG f c h).1 hf
  · cases h
theorem CtxOK.range {P : Program} {G : Ctx} (hG : CtxOK P G) {f : FuncId} {c : Con} (h : ctxGet G (1000000 + f) = some c) : SeqOK P f c := by
  have := (hG _ c h).2 (Nat.le_add_right _ _)
  rw [Nat.add_sub_cancel_left] at this
  exact this

section
variable {P : Program} {w0 : Base} {w : World} {ρ : Env} {m : Mem} {D : Nat → Prop} {key : Nat}

theorem clean_sound : ∀ (d : Nat) {a : AV} {v : Value}, clean d a = true → R w ρ a v → R w (.ext ρ.imm) a v
  | d, .v x, v, _, h => by cases h; exact .v
  | d, .any, v, _, h => .any
  | d, .ro n sz get, v, _, h => by cases h with | ro b o hn ha hi hlen hex hr => exact .ro b o hn ha hi hlen hex hr
  | d, .rop cs, v, _, h => by cases h with | rop b o hi hex hr => exact .rop b o hi hex hr
  | d + 1, .agg cs, v, hc, h => by
    simp only [clean, List.all_eq_true] at hc
    cases h with | agg hl hh => exact .agg hl fun i a x h1 h2 => clean_sound d (hc a (List.mem_of_getElem? h1)) (hh i a x h1 h2)
  | d + 1, .tup cs, v, hc, h => by
    simp only [clean, List.all_eq_true] at hc
    cases h with | tup hl hh => exact .tup hl fun i a x h1 h2 => clean_sound d (hc a (List.mem_of_getElem? h1)) (hh i a x h1 h2)
  | d + 1, .fn f cs, v, hc, h => by
    simp only [clean, List.all_eq_true] at hc
    cases h with | fn hl hh => exact .fn hl fun i a x h1 h2 => clean_sound d (hc a (List.mem_of_getElem? h1)) (hh i a x h1 h2)
  | d + 1, .iface t x, v, hc, h => by
    simp only [clean] at hc
    cases h with | iface h => exact .iface (clean_sound d hc h)
  | d + 1, .cond b x, v, hc, h => by
    simp only [clean] at hc
    cases h with
    | yes h => exact .yes (clean_sound d hc h)
    | no => exact .no
  | 0, .agg _, _, hc, _ => by simp [clean] at hc
  | 0, .tup _, _, hc, _ => by simp [clean] at hc
  | 0, .fn _ _, _, hc, _ => by simp [clean] at hc
  | 0, .iface _ _, _, hc, _ => by simp [clean] at hc
  | 0, .cond _ _, _, hc, _ => by simp [clean] at hc
  | 0, .bx _ _, _, hc, _ => by simp [clean] at hc
  | 0, .ptr _ _ _ _ _, _, hc, _ => by simp [clean] at hc
  | 0, .own _ _ _ _, _, hc, _ => by simp [clean] at hc
  | 0, .vw _ _ _ _ _, _, hc, _ => by simp [clean] at hc
  | d + 1, .bx _ _, _, hc, _ => by simp [clean] at hc
  | d + 1, .ptr _ _ _ _ _, _, hc, _ => by simp [clean] at hc
  | d + 1, .own _ _ _ _, _, hc, _ => by simp [clean] at hc
  | d + 1, .vw _ _ _ _ _, _, hc, _ => by simp [clean] at hc

theorem plain_sound {w' : World} {ρ' : Env} : ∀ (d : Nat) {a : AV} {v : Value}, plain d a = true → R w ρ a v → R w' ρ' a v
  | d, .v x, v, _, h => by cases h; exact .v
  | d, .any, v, _, h => .any
  | d + 1, .agg cs, v, hc, h => by
    simp only [plain, List.all_eq_true] at hc
    cases h with | agg hl hh => exact .agg hl fun i a x h1 h2 => plain_sound d (hc a (List.mem_of_getElem? h1)) (hh i a x h1 h2)
  | d + 1, .tup cs, v, hc, h => by
    simp only [plain, List.all_eq_true] at hc
    cases h with | tup hl hh => exact .tup hl fun i a x h1 h2 => plain_sound d (hc a (List.mem_of_getElem? h1)) (hh i a x h1 h2)
  | d + 1, .iface t x, v, hc, h => by
    simp only [plain] at hc
    cases h with | iface h => exact .iface (plain_sound d hc h)
  | 0, .agg _, _, hc, _ => by simp [plain] at hc
  | 0, .tup _, _, hc, _ => by simp [plain] at hc
  | 0, .iface _ _, _, hc, _ => by simp [plain] at hc
  | 0, .ro _ _ _, _, hc, _ => by simp [plain] at hc
  | 0, .rop _, _, hc, _ => by simp [plain] at hc
  | 0, .fn _ _, _, hc, _ => by simp [plain] at hc
  | 0, .cond _ _, _, hc, _ => by simp [plain] at hc
  | 0, .bx _ _, _, hc, _ => by simp [plain] at hc
  | 0, .ptr _ _ _ _ _, _, hc, _ => by simp [plain] at hc
  | 0, .own _ _ _ _, _, hc, _ => by simp [plain] at hc
  | 0, .vw _ _ _ _ _, _, hc, _ => by simp [plain] at hc
  | d + 1, .ro _ _ _, _, hc, _ => by simp [plain] at hc
  | d + 1, .rop _, _, hc, _ => by simp [plain] at hc
  | d + 1, .fn _ _, _, hc, _ => by simp [plain] at hc
  | d + 1, .cond _ _, _, hc, _ => by simp [plain] at hc
  | d + 1, .bx _ _, _, hc, _ => by simp [plain] at hc
  | d + 1, .ptr _ _ _ _ _, _, hc, _ => by simp [plain] at hc
  | d + 1, .own _ _ _ _, _, hc, _ => by simp [plain] at hc
  | d + 1, .vw _ _ _ _ _, _, hc, _ => by simp [plain] at hc

/-- What lies below the heap's end. -/
def All (w : World) : Nat → Prop := fun b => b < w.heap.size

theorem pur_map {f : AV → AV} {cs : List AV} {vs : List Value} {ρ' : Env} (hf : ∀ a x, R w ρ a x → R w ρ' (f a) x) (h : ∀ (i : Nat) (a : AV) (x : Value), cs[i]? = some a → vs[i]? = some x → R w ρ a x) :
    ∀ (i : Nat) (a : AV) (x : Value), (cs.map f)[i]? = some a → vs[i]? = some x → R w ρ' a x := fun i a x h1 h2 => by
  simp only [List.getElem?_map, Option.map_eq_some_iff] at h1
  obtain ⟨b, hb, rfl⟩ := h1
  exact hf b x (h i b x hb h2)

theorem ext_all {J : Nat → Prop} {a : AV} {x : Value} (hJ : ∀ b, ρ.imm b → J b) (h : R w (.ext ρ.imm) a x) : R w (.ext J) a x := h.mono (Env.le.ext hJ) (.refl _ _)

theorem guard_ne {g : Option Bool} {l : List Prop} (h : ∀ p ∈ gOb g l, p) : g ≠ some false := by
  cases g with
  | none => simp
  | some b => have := h (b = true) (by simp [gOb]); simp [this]
theorem guard_rest {g : Option Bool} {l : List Prop} (h : ∀ p ∈ gOb g l, p) : ∀ p ∈ l, p := by
  cases g with
  | none => exact h
  | some b => intro p hp; exact h p (by simp [gOb, hp])

section
variable {J : Nat → Prop} {fam : Fam} {r k f n sz lo : Nat} {F : AV → AV} {v : Value}
theorem bx_ext (hR : Rel w0 ρ m D w) (hN : ∀ b, b < w.heap.size → w0.heap.size ≤ b → J b) (hl : look m r = some fam) (hn : (fam 0).n = 1) (hgn : (fam 0).g ≠ some false)
    (ih : ∀ a ∈ ((fam 0).get 0).drop k, ∀ x, R w ρ a x → R w (.ext J) (F a) x) (h : R w ρ (.bx r k) v) : R w (.ext J) (.rop ((((fam 0).get 0).drop k).map F)) v := by
  obtain ⟨hd, hex, hr⟩ := row_cells hR hl hgn (i := 0) (by omega)
  have hok := (hR.row r fam 0 hl hgn).2
  have hc : 0 < ρ.cap r 0 := by have := hok.n_le; omega
  cases h with
  | bx _ =>
    refine .rop _ _ (hN _ (hR.lt hl hgn hc) (hok.blk hc).1) (fun j hj => ?_) (fun j c x h1 h2 => ?_)
    · simp at hj
      obtain ⟨x, hx⟩ := hex (k + j) (by omega)
      exact ⟨x, by simpa using hx⟩
    · simp only [List.getElem?_map, Option.map_eq_some_iff] at h1
      obtain ⟨b, hb, rfl⟩ := h1
      exact ih b (List.mem_of_getElem? hb) x (hr (k + j) b x (list_drop_get hb) (by simpa using h2))

theorem own_ext (hR : Rel w0 ρ m D w) (hN : ∀ b, b < w.heap.size → w0.heap.size ≤ b → J b) (hl : look m r = some fam) (hc : n ≤ (fam f).n ∧ sz = (fam f).sz) (hgn : (fam f).g ≠ some false)
    (ih : ∀ a x, R w ρ a x → R w (.ext J) (F a) x) (h : R w ρ (.own r f n sz) v) : R w (.ext J) (.ro n sz (fun i => ((fam f).get i).map F)) v := by
  have hok := (hR.row r fam f hl hgn).2
  cases h with
  | own hd hn ha =>
    refine .ro (ρ.blk r f) 0 hn (fun h => ha (by omega)) (fun h => hN _ (hR.lt hl hgn (by omega)) (hok.blk (by omega)).1) (fun i hi => ?_) (fun i k hi hk => ?_) (fun i k c x hi h1 h2 => ?_)
    · simp only [List.length_map]; rw [hok.len i (by omega), hc.2]
    · obtain ⟨_, hex, _⟩ := row_cells hR hl hgn (i := i) (by omega)
      rw [hok.len i (by omega)] at hex
      obtain ⟨x, hx⟩ := hex k (by omega)
      exact ⟨x, by rw [hc.2]; simpa using hx⟩
    · obtain ⟨_, _, hr⟩ := row_cells hR hl hgn (i := i) (by omega)
      simp only [List.getElem?_map, Option.map_eq_some_iff] at h1
      obtain ⟨b, hb, rfl⟩ := h1
      exact ih b x (hr k b x hb (by rw [hc.2] at h2; simpa using h2))

theorem vw_ext (hR : Rel w0 ρ m D w) (hN : ∀ b, b < w.heap.size → w0.heap.size ≤ b → J b) (hl : look m r = some fam) (hc : lo + n ≤ (fam f).n ∧ sz = (fam f).sz) (hgn : (fam f).g ≠ some false)
    (ih : ∀ a x, R w ρ a x → R w (.ext J) (F a) x) (h : R w ρ (.vw r f lo n sz) v) : R w (.ext J) (.ro n sz (fun i => ((fam f).get (lo + i)).map F)) v := by
  have hok := (hR.row r fam f hl hgn).2
  cases h with
  | vw hd hn ha =>
    refine .ro (ρ.blk r f) (lo * sz) hn ha (fun h => hN _ (hR.lt hl hgn (by have := hok.n_le; omega)) (hok.blk (by have := hok.n_le; omega)).1) (fun i hi => ?_) (fun i k hi hk => ?_) (fun i k c x hi h1 h2 => ?_)
    · simp only [List.length_map]; rw [hok.len _ (by omega), hc.2]
    · obtain ⟨_, hex, _⟩ := row_cells hR hl hgn (i := lo + i) (by omega)
      rw [hok.len _ (by omega)] at hex
      obtain ⟨x, hx⟩ := hex k (by omega)
      refine ⟨x, ?_⟩
      rw [← Nat.add_mul, hc.2]; exact hx
    · obtain ⟨_, _, hr⟩ := row_cells hR hl hgn (i := lo + i) (by omega)
      simp only [List.getElem?_map, Option.map_eq_some_iff] at h1
      obtain ⟨b, hb, rfl⟩ := h1
      exact ih b x (hr k b x hb (by rw [← Nat.add_mul, hc.2] at h2; exact h2))
end

/-- What an outsider sees. -/
theorem pur_sound {J : Nat → Prop} (hR : Rel w0 ρ m D w) (hJ : ∀ b, ρ.imm b → J b) (hN : ∀ b, b < w.heap.size → w0.heap.size ≤ b → J b) : ∀ (d : Nat) (a : AV) (v : Value), R w ρ a v → R w (.ext (J)) (pur d m a) v
  | 0, a, v, h => by
    cases a <;> simp only [pur] <;> first | exact .any | skip
    · cases h; exact .v
    · cases h with | ro b o hn ha hi hlen hex hr => exact .ro b o hn ha (fun h => hJ _ (hi h)) hlen hex fun i k c x h1 h2 h3 => ext_all hJ (hr i k c x h1 h2 h3)
    · cases h with | rop b o hi hex hr => exact .rop b o (hJ _ hi) hex fun k c x h1 h2 => ext_all hJ (hr k c x h1 h2)
  | d + 1, a, v, h => by
    have ih := pur_sound hR hJ hN d
    have ih' : ∀ a x, R w ρ a x → R w (.ext (J)) (pur d m a) x := fun a x h => ih a x h
    simp only [pur]
    split
    · cases h with | agg hl hh => exact .agg (by simpa using hl) (pur_map ih' hh)
    · cases h with | tup hl hh => exact .tup (by simpa using hl) (pur_map ih' hh)
    · rename_i r k
      split
      · rename_i fam hl
        split
        · rename_i hn hg
          exact bx_ext hR hN hl hn (by rw [hg]; simp) (fun a _ => ih a) h
        · exact .any
      · exact .any
    · rename_i r f n sz
      split
      · rename_i fam hl
        split
        · rename_i hg
          split
          · rename_i hc
            exact own_ext hR hN hl hc (by rw [hg]; simp) ih h
          · exact .any
        · exact .any
      · exact .any
    · rename_i r f lo n sz
      split
      · rename_i fam hl
        split
        · rename_i hg
          split
          · rename_i hc
            exact vw_ext hR hN hl hc (by rw [hg]; simp) ih h
          · exact .any
        · exact .any
      · exact .any
    · cases h with | fn hl hh => exact .fn (by simpa using hl) (pur_map ih' hh)
    · cases h with | iface h => exact .iface (ih _ _ h)
    · cases h with
      | yes h => exact .yes (ih _ _ h)
      | no => exact .no
    · exact .any
    · rename_i h1 h2 h3 h4 h5 h6 h7 h8 h9
      cases h with
      | v => exact .v
      | any => exact .any
      | ro b o hn ha hi hlen hex hr => exact .ro b o hn ha (fun h => hJ _ (hi h)) hlen hex fun i k c x h1 h2 h3 => ext_all hJ (hr i k c x h1 h2 h3)
      | rop b o hi hex hr => exact .rop b o (hJ _ hi) hex fun k c x h1 h2 => ext_all hJ (hr k c x h1 h2)
      | agg => exact absurd rfl (h1 _)
      | tup => exact absurd rfl (h2 _)
      | bx => exact absurd rfl (h3 _ _)
      | ptr => exact absurd rfl (h9 _ _ _ _ _)
      | own => exact absurd rfl (h4 _ _ _ _)
      | vw => exact absurd rfl (h5 _ _ _ _ _)
      | fn => exact absurd rfl (h6 _ _)
      | iface => exact absurd rfl (h7 _ _)
      | yes => exact absurd rfl (h8 _ _)
      | no => exact absurd rfl (h8 _ _)

theorem mapF {F : AV → AV} {cs : List AV} {vs : List Value} {ρ' : Env} (hf : ∀ a ∈ cs, ∀ x, R w ρ a x → R w ρ' (F a) x) (h : ∀ (i : Nat) (a : AV) (x : Value), cs[i]? = some a → vs[i]? = some x → R w ρ a x) :
    ∀ (i : Nat) (a : AV) (x : Value), (cs.map F)[i]? = some a → vs[i]? = some x → R w ρ' a x := fun i a x h1 h2 => by
  simp only [List.getElem?_map, Option.map_eq_some_iff] at h1
  obtain ⟨b, hb, rfl⟩ := h1
  exact hf b (List.mem_of_getElem? hb) x (h i b x hb h2)

theorem purU_sound {J : Nat → Prop} (hR : Rel w0 ρ m D w) (hJ : ∀ b, ρ.imm b → J b) (hN : ∀ b, b < w.heap.size → w0.heap.size ≤ b → J b) : ∀ (d : Nat) (a : AV) (v : Value), (∀ p ∈ pgs d m a, p) → R w ρ a v → R w (.ext J) (purU d m a) v
  | 0, a, v, _, h => by
    have := pur_sound hR hJ hN 0 a v h
    simpa only [purU] using this
  | d + 1, a, v, hp, h => by
    have ih := purU_sound hR hJ hN d
    have ihl : ∀ {l : List AV}, (∀ p ∈ l.flatMap (pgs d m), p) → ∀ a ∈ l, ∀ x, R w ρ a x → R w (.ext J) (purU d m a) x := fun hl a ha x hx => ih a x (fun p hp => hl p (List.mem_flatMap.2 ⟨a, ha, hp⟩)) hx
    have ps := pur_sound hR hJ hN
    simp only [purU]
    split
    · simp only [pgs] at hp; cases h with | agg hl hh => exact .agg (by simpa using hl) (mapF (ihl hp) hh)
    · simp only [pgs] at hp; cases h with | tup hl hh => exact .tup (by simpa using hl) (mapF (ihl hp) hh)
    · split
      · rename_i fam hl
        simp only [pgs, hl] at hp
        split
        · rename_i hn
          exact bx_ext hR hN hl hn (guard_ne hp) (ihl (guard_rest hp)) h
        · exact .any
      · exact .any
    · split
      · rename_i fam hl
        simp only [pgs, hl] at hp
        split
        · rename_i hc
          exact own_ext hR hN hl hc (guard_ne hp) (ps d) h
        · exact .any
      · exact .any
    · split
      · rename_i fam hl
        simp only [pgs, hl] at hp
        split
        · rename_i hc
          exact vw_ext hR hN hl hc (guard_ne hp) (ps d) h
        · exact .any
      · exact .any
    · simp only [pgs] at hp; cases h with | fn hl hh => exact .fn (by simpa using hl) (mapF (ihl hp) hh)
    · simp only [pgs] at hp; cases h with | iface h => exact .iface (ih _ _ hp h)
    · exact ps (d + 1) _ _ h

theorem purUs_sound {J : Nat → Prop} (hR : Rel w0 ρ m D w) (hJ : ∀ b, ρ.imm b → J b) (hN : ∀ b, b < w.heap.size → w0.heap.size ≤ b → J b) {d : Nat} {as : List AV} {vs : List Value} (hp : ∀ p ∈ as.flatMap (pgs d m), p) (h : Rs w ρ as vs) : Rs w (.ext J) (as.map (purU d m)) vs :=
  ⟨by simpa using h.1, mapF (fun a ha x hx => purU_sound hR hJ hN d a x (fun p hq => hp p (List.mem_flatMap.2 ⟨a, ha, hq⟩)) hx) h.2⟩

end
end Go.Ax
