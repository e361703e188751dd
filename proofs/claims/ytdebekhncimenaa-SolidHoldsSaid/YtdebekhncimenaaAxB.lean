/-
  What abstract values and rows say of a world; what keeps it.
-/
import Derived.Test.YtdebekhncimenaaAxA
import Derived.Below
namespace Go.Ax
open Go.RowKit

structure Env where
  dom : Nat → Prop
  blk : Nat → Nat → Nat
  cap : Nat → Nat → Nat
  imm : Nat → Prop

def Env.ext (I : Nat → Prop) : Env := ⟨fun _ => False, fun _ _ => 0, fun _ _ => 0, I⟩

def Has (w : World) (b o : Nat) (v : Value) : Prop := w.cell? ⟨b, o, none⟩ = some v

inductive R (w : World) : Env → AV → Value → Prop
  | v {ρ x} : R w ρ (.v x) x
  | any {ρ x} : R w ρ .any x
  | agg {ρ : Env} {cs : List AV} {vs : List Value} (hl : vs.length = cs.length) (h : ∀ (i : Nat) (a : AV) (x : Value), cs[i]? = some a → vs[i]? = some x → R w ρ a x) : R w ρ (.agg cs) (.agg vs.toArray)
  | tup {ρ : Env} {cs : List AV} {vs : List Value} (hl : vs.length = cs.length) (h : ∀ (i : Nat) (a : AV) (x : Value), cs[i]? = some a → vs[i]? = some x → R w ρ a x) : R w ρ (.tup cs) (.tuple vs.toArray)
  | ro {ρ : Env} {n sz : Nat} {get : Nat → List AV} {a : Option Addr} {cap : Nat} (b o : Nat) (hn : n ≤ cap) (ha : 0 < n → a = some ⟨b, o, none⟩) (hi : 0 < n → ρ.imm b)
      (hlen : ∀ i, i < n → (get i).length = sz) (hex : ∀ i k, i < n → k < sz → ∃ x, Has w b (o + i * sz + k) x)
      (hr : ∀ (i k : Nat) (c : AV) (x : Value), i < n → (get i)[k]? = some c → Has w b (o + i * sz + k) x → R w (.ext ρ.imm) c x) : R w ρ (.ro n sz get) (.slice a n cap)
  | rop {ρ : Env} {cs : List AV} (b o : Nat) (hi : ρ.imm b) (hex : ∀ k, k < cs.length → ∃ x, Has w b (o + k) x)
      (hr : ∀ (k : Nat) (c : AV) (x : Value), cs[k]? = some c → Has w b (o + k) x → R w (.ext ρ.imm) c x) : R w ρ (.rop cs) (.pointer (some ⟨b, o, none⟩))
  | bx {ρ r k} (hd : ρ.dom r) : R w ρ (.bx r k) (.pointer (some ⟨ρ.blk r 0, k, none⟩))
  | ptr {ρ r f i sz k} (hd : ρ.dom r) : R w ρ (.ptr r f i sz k) (.pointer (some ⟨ρ.blk r f, i * sz + k, none⟩))
  | own {ρ : Env} {r f n sz : Nat} {a : Option Addr} (hd : ρ.dom r) (hn : n ≤ ρ.cap r f) (ha : 0 < ρ.cap r f → a = some ⟨ρ.blk r f, 0, none⟩) : R w ρ (.own r f n sz) (.slice a n (ρ.cap r f))
  | vw {ρ : Env} {r f lo n sz : Nat} {a : Option Addr} {cap : Nat} (hd : ρ.dom r) (hn : n ≤ cap) (ha : 0 < n → a = some ⟨ρ.blk r f, lo * sz, none⟩) : R w ρ (.vw r f lo n sz) (.slice a n cap)
  | fn {ρ : Env} {f : FuncId} {cs : List AV} {vs : List Value} (hl : vs.length = cs.length) (h : ∀ (i : Nat) (a : AV) (x : Value), cs[i]? = some a → vs[i]? = some x → R w ρ a x) : R w ρ (.fn f cs) (.func (.func f) #[] vs.toArray)
  | iface {ρ t a x} (h : R w ρ a x) : R w ρ (.iface t a) (.iface t x)
  | yes {ρ a x} (h : R w ρ a x) : R w ρ (.cond true a) x
  | no {ρ a} : R w ρ (.cond false a) undef

def Rs (w : World) (ρ : Env) (as : List AV) (vs : List Value) : Prop :=
  vs.length = as.length ∧ ∀ (i : Nat) (a : AV) (x : Value), as[i]? = some a → vs[i]? = some x → R w ρ a x

structure Env.le (ρ ρ' : Env) : Prop where
  dom : ∀ r, ρ.dom r → ρ'.dom r
  blk : ∀ r f, ρ.dom r → ρ'.blk r f = ρ.blk r f
  cap : ∀ r f, ρ.dom r → ρ'.cap r f = ρ.cap r f
  imm : ∀ b, ρ.imm b → ρ'.imm b

theorem Env.le.refl (ρ : Env) : ρ.le ρ := ⟨fun _ h => h, fun _ _ _ => rfl, fun _ _ _ => rfl, fun _ h => h⟩
theorem Env.le.trans {a b c : Env} (h : a.le b) (k : b.le c) : a.le c :=
  ⟨fun r x => k.dom r (h.dom r x), fun r f x => (k.blk r f (h.dom r x)).trans (h.blk r f x), fun r f x => (k.cap r f (h.dom r x)).trans (h.cap r f x), fun b x => k.imm b (h.imm b x)⟩
theorem Env.le.ext {I J : Nat → Prop} (h : ∀ b, I b → J b) : (Env.ext I).le (Env.ext J) :=
  ⟨fun _ h => h.elim, fun _ _ h => h.elim, fun _ _ h => h.elim, h⟩

/-- The blocks of I hold what they held. -/
def Same (I : Nat → Prop) (w w' : World) : Prop := ∀ b, I b → w'.heap[b]? = w.heap[b]?
theorem Same.refl (I : Nat → Prop) (w : World) : Same I w w := fun _ _ => rfl
theorem Same.trans {I : Nat → Prop} {a b c : World} (h : Same I a b) (k : Same I b c) : Same I a c := fun x hx => (k x hx).trans (h x hx)
theorem Same.has {I : Nat → Prop} {w w' : World} (h : Same I w w') {b o : Nat} {v : Value} (hb : I b) : Has w' b o v ↔ Has w b o v := by
  unfold Has World.cell?
  simp only [h b hb]
theorem Same.mono {I J : Nat → Prop} {w w' : World} (h : Same J w w') (hi : ∀ b, I b → J b) : Same I w w' := fun b hb => h b (hi b hb)
theorem Same.of_below {I : Nat → Prop} {w w' : World} (h : Below w.heap.size w w') (hi : ∀ b, I b → b < w.heap.size) : Same I w w' := fun b hb => h.block b (hi b hb)

/-- A relation is kept by a greater environment, and by a world in which what nobody writes is as it was. -/
theorem R.mono {w w' : World} {ρ ρ' : Env} {a : AV} {x : Value} (h : R w ρ a x) (hle : ρ.le ρ') (hs : Same ρ.imm w w') : R w' ρ' a x := by
  induction h generalizing ρ' with
  | v => exact .v
  | any => exact .any
  | agg hl _ ih => exact .agg hl fun i a x h1 h2 => ih i a x h1 h2 hle hs
  | tup hl _ ih => exact .tup hl fun i a x h1 h2 => ih i a x h1 h2 hle hs
  | ro b o hn ha hi hlen hex hr ih =>
    refine .ro b o hn ha (fun h => hle.imm _ (hi h)) hlen (fun i k h1 h2 => ?_) (fun i k c x h1 h2 h3 => ?_)
    · obtain ⟨x, hx⟩ := hex i k h1 h2
      exact ⟨x, (hs.has (hi (by omega))).2 hx⟩
    · exact ih i k c x h1 h2 ((hs.has (hi (by omega))).1 h3) (Env.le.ext hle.imm) hs
  | rop b o hi hex hr ih =>
    refine .rop b o (hle.imm _ hi) (fun k h1 => ?_) (fun k c x h1 h2 => ?_)
    · obtain ⟨x, hx⟩ := hex k h1
      exact ⟨x, (hs.has hi).2 hx⟩
    · exact ih k c x h1 ((hs.has hi).1 h2) (Env.le.ext hle.imm) hs
  | bx hd => rw [← hle.blk _ _ hd]; exact .bx (hle.dom _ hd)
  | ptr hd => rw [← hle.blk _ _ hd]; exact .ptr (hle.dom _ hd)
  | own hd hn ha => rw [← hle.cap _ _ hd] at hn ha ⊢; rw [← hle.blk _ _ hd] at ha; exact .own (hle.dom _ hd) hn ha
  | vw hd hn ha => rw [← hle.blk _ _ hd] at ha; exact .vw (hle.dom _ hd) hn ha
  | fn hl _ ih => exact .fn hl fun i a x h1 h2 => ih i a x h1 h2 hle hs
  | iface _ ih => exact .iface (ih hle hs)
  | yes _ ih => exact .yes (ih hle hs)
  | no => exact .no

theorem Rs.mono {w w' : World} {ρ ρ' : Env} {as : List AV} {vs : List Value} (h : Rs w ρ as vs) (hle : ρ.le ρ') (hs : Same ρ.imm w w') : Rs w' ρ' as vs :=
  ⟨h.1, fun i a x h1 h2 => (h.2 i a x h1 h2).mono hle hs⟩

theorem Rs.nil {w : World} {ρ : Env} : Rs w ρ [] [] := ⟨rfl, fun i a x h => by simp at h⟩
theorem Rs.cons {w : World} {ρ : Env} {a : AV} {x : Value} {as : List AV} {vs : List Value} (h : R w ρ a x) (hs : Rs w ρ as vs) : Rs w ρ (a :: as) (x :: vs) :=
  ⟨by simp [hs.1], fun i b y h1 h2 => by
    cases i with
    | zero => simp at h1 h2; subst h1 h2; exact h
    | succ i => simp at h1 h2; exact hs.2 i b y h1 h2⟩
theorem Rs.inv {w : World} {ρ : Env} {a : AV} {as : List AV} {vs : List Value} (h : Rs w ρ (a :: as) vs) : ∃ x xs, vs = x :: xs ∧ R w ρ a x ∧ Rs w ρ as xs := by
  cases vs with
  | nil => have := h.1; simp at this
  | cons x xs =>
    refine ⟨x, xs, rfl, h.2 0 a x rfl rfl, by simpa using h.1, fun i b y h1 h2 => h.2 (i + 1) b y (by simpa using h1) (by simpa using h2)⟩
theorem Rs.append {w : World} {ρ : Env} {as bs : List AV} {vs us : List Value} (h : Rs w ρ as vs) (k : Rs w ρ bs us) : Rs w ρ (as ++ bs) (vs ++ us) := by
  refine ⟨by simp [h.1, k.1], fun i a x h1 h2 => ?_⟩
  by_cases hi : i < as.length
  · rw [List.getElem?_append_left hi] at h1
    rw [List.getElem?_append_left (by rw [h.1]; exact hi)] at h2
    exact h.2 i a x h1 h2
  · rw [List.getElem?_append_right (by omega)] at h1
    rw [List.getElem?_append_right (by rw [h.1]; omega)] at h2
    exact k.2 _ a x h1 (by rw [← h.1]; exact h2)

/-! ### Plain values -/

theorem R.flat1 {w : World} {ρ : Env} {a : AV} {x y : Value} (h : R w ρ a x) (hf : flat1 a = some y) : x = y := by
  cases a <;> simp [Ax.flat1] at hf
  subst hf; cases h; rfl

theorem Rs.flats {w : World} {ρ : Env} : ∀ {as : List AV} {vs ys : List Value}, Rs w ρ as vs → flats as = some ys → vs = ys
  | [], vs, ys, h, hf => by
    simp [Ax.flats] at hf; subst hf
    have := h.1; simpa using this
  | a :: as, vs, ys, h, hf => by
    obtain ⟨x, xs, rfl, h1, h2⟩ := h.inv
    simp only [Ax.flats] at hf
    split at hf
    · rename_i y hy
      split at hf
      · rename_i zs hz
        cases hf
        rw [h1.flat1 hy, Rs.flats h2 hz]
      · cases hf
    · cases hf

theorem R.flat {w : World} {ρ : Env} {a : AV} {x y : Value} (h : R w ρ a x) (hf : flat a = some y) : x = y := by
  cases a with
  | v z => simp [Ax.flat] at hf; subst hf; cases h; rfl
  | agg cs =>
    simp only [Ax.flat] at hf
    split at hf
    · rename_i xs hxs
      cases hf
      cases h with
      | agg hl hh => rw [Rs.flats (w := w) (ρ := ρ) ⟨hl, hh⟩ hxs]
    · cases hf
  | _ => simp [Ax.flat] at hf

theorem R_list {w : World} {ρ : Env} (l : List Value) : Rs w ρ (l.map .v) l :=
  ⟨by simp, fun i a x h1 h2 => by
    simp [List.getElem?_map, h2] at h1; subst h1; exact .v⟩

theorem R.ofVal1 {w : World} {ρ : Env} (x : Value) : R w ρ (ofVal1 x) x := by
  cases x <;> simp only [Ax.ofVal1] <;> first | exact .v | skip
  rename_i cs
  have := R_list (w := w) (ρ := ρ) cs.toList
  exact .agg (vs := cs.toList) this.1 this.2
theorem R.ofVal {w : World} {ρ : Env} (x : Value) : R w ρ (ofVal x) x := by
  cases x <;> simp only [Ax.ofVal] <;> first | exact .v | skip
  · rename_i cs
    have := R_list (w := w) (ρ := ρ) cs.toList
    exact .agg (vs := cs.toList) this.1 this.2
  · rename_i vs
    refine .tup (vs := vs.toList) (by simp) fun i a x h1 h2 => ?_
    simp only [List.getElem?_map, h2, Option.map_some, Option.some.injEq] at h1
    subst h1; exact R.ofVal1 x

theorem pureRun_sound {α : Type} {P : Program} {s : Sem α} {a : α} (h : pureRun P s = some a) (w : World) : s.run P w = .ok a w := by
  induction s with
  | pure b => simp [pureRun] at h; subst h; rfl
  | program k ih => exact ih P h
  | _ => simp [pureRun] at h

/-! ### Rows of our own -/

/-- The world that we began in, and what an outsider may point at there. -/
structure Base extends World where
  old : Nat → Prop
  /-- Blocks that are no cells, and stay as they are: what a range over a function lays. -/
  fix : List (Nat × Obj)
  /-- Blocks that are read alone, and stay as they are. -/
  kept : List (Nat × Obj)

structure RowOK (w0 : Base) (ρ : Env) (w : World) (r f : Nat) (o : Row) : Prop where
  n_le : o.n ≤ ρ.cap r f
  blk : 0 < ρ.cap r f → w0.heap.size ≤ ρ.blk r f ∧ ¬ ρ.imm (ρ.blk r f) ∧ ∃ c : Array Value, w.heap[ρ.blk r f]? = some (.cells c o.ty (0, 0)) ∧ c.size = ρ.cap r f * o.sz
  len : ∀ i, i < o.n → (o.get i).length = o.sz
  rel : ∀ (i k : Nat) (c : AV) (x : Value), i < o.n → (o.get i)[k]? = some c → Has w (ρ.blk r f) (i * o.sz + k) x → R w ρ c x

structure Rel (w0 : Base) (ρ : Env) (m : Mem) (D : Nat → Prop) (w : World) : Prop where
  below : Below w0.heap.size w0.toWorld w
  imm2 : ∀ b, ρ.imm b → b < w.heap.size ∧ (w0.old b ∨ w0.heap.size ≤ b)
  dom : ∀ r, ρ.dom r → D r
  key : ∀ r x, look m r = some x → D r
  row : ∀ r x f, look m r = some x → (x f).g ≠ some false → ρ.dom r ∧ RowOK w0 ρ w r f (x f)
  sep : ∀ r x f r' x' f', look m r = some x → look m r' = some x' → (x f).g ≠ some false → (x' f').g ≠ some false → 0 < ρ.cap r f → 0 < ρ.cap r' f' → ρ.blk r f = ρ.blk r' f' → r = r' ∧ f = f'
  fix : ∀ p ∈ w0.fix, w0.heap.size ≤ p.1 ∧ (∀ c ty fr, p.2 ≠ .cells c ty fr) ∧ ¬ ρ.imm p.1 ∧ w.heap[p.1]? = some p.2
  kept : ∀ p ∈ w0.kept, ρ.imm p.1 ∧ w.heap[p.1]? = some p.2

theorem look_ins {k : Nat} {x : Fam} : ∀ {m : Mem} {r : Nat}, look m k = none → look (insRow k x m) r = if k = r then some x else look m r
  | [], r, _ => by simp [insRow, look]
  | (k', y) :: rest, r, h => by
    have hne : k' ≠ k := by intro e; subst e; simp [look] at h
    have h' : look rest k = none := by simpa [look, hne] using h
    simp only [insRow]
    split
    · simp only [look]
    · simp only [look]
      rw [look_ins h']
      by_cases h1 : k' = r
      · subst h1; simp [Ne.symm hne]
      · simp [h1]
theorem look_set {r : Nat} {x : Fam} : ∀ {m : Mem} {q : Nat}, look (setRow r x m) q = if r = q ∧ (look m r).isSome then some x else look m q
  | [], q => by simp [setRow, look]
  | (k, y) :: rest, q => by
    simp only [setRow]
    by_cases hk : k = r
    · subst hk
      simp only [if_true, look, Option.isSome_some, and_true]
      by_cases h : k = q <;> simp [h]
    · simp only [hk, if_false, look]
      rw [look_set]
      by_cases h : k = q
      · subst h; simp [Ne.symm hk]
      · simp [h]
theorem look_drop {r : Nat} : ∀ {m : Mem} {q : Nat}, look (dropRow r m) q = if r = q then none else look m q
  | [], q => by simp [dropRow, look]
  | (k, y) :: rest, q => by
    simp only [dropRow]
    by_cases hk : k = r
    · subst hk
      simp only [if_true, look]
      rw [look_drop]
      by_cases h : k = q <;> simp [h]
    · simp only [hk, if_false, look]
      rw [look_drop]
      by_cases h : k = q
      · subst h; simp [Ne.symm hk]
      · simp [h]

/-- The cells that are not of our own rows stand while such rows are written. -/
theorem Rel.imm {w0 : Base} {ρ : Env} {m : Mem} {D : Nat → Prop} {w : World} (h : Rel w0 ρ m D w) (b : Nat) (hb : ρ.imm b) : b < w.heap.size := (h.imm2 b hb).1
theorem Rel.not_imm {w0 : Base} {ρ : Env} {m : Mem} {D : Nat → Prop} {w : World} (h : Rel w0 ρ m D w) {r f : Nat} {x : Fam} (hx : look m r = some x) (hg : (x f).g ≠ some false) (hc : 0 < ρ.cap r f) : ¬ ρ.imm (ρ.blk r f) :=
  ((h.row r x f hx hg).2.blk hc).2.1

theorem Rel.lt {w0 : Base} {ρ : Env} {m : Mem} {D : Nat → Prop} {w : World} (h : Rel w0 ρ m D w) {r f : Nat} {x : Fam} (hx : look m r = some x) (hg : (x f).g ≠ some false) (hc : 0 < ρ.cap r f) : ρ.blk r f < w.heap.size := by
  obtain ⟨_, _, c, hh, _⟩ := (h.row r x f hx hg).2.blk hc
  exact (Array.getElem?_eq_some_iff.1 hh).1

theorem Rel.fixlt {w0 : Base} {ρ : Env} {m : Mem} {D : Nat → Prop} {w : World} (h : Rel w0 ρ m D w) {p : Nat × Obj} (hp : p ∈ w0.fix) : p.1 < w.heap.size :=
  (Array.getElem?_eq_some_iff.1 (h.fix p hp).2.2.2).1
theorem Rel.keeps {w0 : Base} {ρ : Env} {m : Mem} {D : Nat → Prop} {w w' : World} (h : Rel w0 ρ m D w) (hs : Same ρ.imm w w') : ∀ p ∈ w0.kept, ρ.imm p.1 ∧ w'.heap[p.1]? = some p.2 :=
  fun p hp => ⟨(h.kept p hp).1, (hs _ (h.kept p hp).1).trans (h.kept p hp).2⟩
/-- What is fixed stays where it is untouched. -/
theorem Rel.fixed {w0 : Base} {ρ : Env} {m : Mem} {D : Nat → Prop} {w w' : World} (h : Rel w0 ρ m D w) (hs : ∀ p ∈ w0.fix, w'.heap[p.1]? = w.heap[p.1]?) : ∀ p ∈ w0.fix, w0.heap.size ≤ p.1 ∧ (∀ c ty fr, p.2 ≠ .cells c ty fr) ∧ ¬ ρ.imm p.1 ∧ w'.heap[p.1]? = some p.2 :=
  fun p hp => ⟨(h.fix p hp).1, (h.fix p hp).2.1, (h.fix p hp).2.2.1, (hs p hp).trans (h.fix p hp).2.2.2⟩
theorem Rel.fix_ne {w0 : Base} {ρ : Env} {m : Mem} {D : Nat → Prop} {w : World} (h : Rel w0 ρ m D w) {b : Nat} {c : Array Value} {ty : TypeId} {fr : Nat × Nat} (hb : w.heap[b]? = some (.cells c ty fr)) {p : Nat × Obj} (hp : p ∈ w0.fix) : p.1 ≠ b := fun e => by
  obtain ⟨_, h1, _, h2⟩ := h.fix p hp
  rw [e, hb] at h2
  exact h1 _ _ _ (Option.some.inj h2).symm

theorem Has_alloc {w : World} {o : Obj} {b k : Nat} {v : Value} (hb : b < w.heap.size) : Has (w.alloc o) b k v ↔ Has w b k v := by
  unfold Has World.cell?
  rw [Below.heap_alloc w o b hb]
theorem Has_block {w w' : World} {b k : Nat} {v : Value} (hb : w'.heap[b]? = w.heap[b]?) : Has w' b k v ↔ Has w b k v := by
  unfold Has World.cell?
  simp only [hb]

def Env.add (ρ : Env) (key b : Nat) (cap : Nat) : Env :=
  { dom := fun r => ρ.dom r ∨ r = key, blk := fun r f => if r = key then b else ρ.blk r f, cap := fun r f => if r = key then (if f = 0 then cap else 0) else ρ.cap r f, imm := ρ.imm }
theorem Env.le_add {ρ : Env} {key b cap : Nat} (h : ¬ ρ.dom key) : ρ.le (ρ.add key b cap) :=
  ⟨fun _ h => .inl h, fun r f hr => by have : r ≠ key := fun e => h (e ▸ hr); simp [Env.add, this], fun r f hr => by have : r ≠ key := fun e => h (e ▸ hr); simp [Env.add, this], fun _ h => h⟩

theorem RowOK.mono {w0 : Base} {w w' : World} {ρ ρ' : Env} {r f : Nat} {o : Row} (h : RowOK w0 ρ w r f o) (hd : ρ.dom r) (hle : ρ.le ρ') (himm : ∀ b, b < w.heap.size → ρ'.imm b → ρ.imm b) (hs : Same ρ.imm w w')
    (hb : 0 < ρ.cap r f → w'.heap[ρ.blk r f]? = w.heap[ρ.blk r f]?) : RowOK w0 ρ' w' r f o := by
  have e1 := hle.cap r f hd
  have e2 := hle.blk r f hd
  refine ⟨e1 ▸ h.n_le, fun hc => ?_, h.len, fun i k c x h1 h2 h3 => ?_⟩
  · rw [e1] at hc
    obtain ⟨a1, a2, c, a3, a4⟩ := h.blk hc
    rw [e2, e1, hb hc]
    exact ⟨a1, fun hi => a2 (himm _ (Array.getElem?_eq_some_iff.1 a3).1 hi), c, a3, a4⟩
  · have hc : 0 < ρ.cap r f := by have := h.n_le; omega
    rw [e2] at h3
    exact (h.rel i k c x h1 h2 ((Has_block (hb hc)).1 h3)).mono hle hs

/-- A new row. -/
theorem Rel.new {w0 : Base} {w : World} {ρ : Env} {m : Mem} {D : Nat → Prop} (h : Rel w0 ρ m D w) {key : Nat} (hk : ¬ D key) {x : Fam} {c : Array Value} {cap : Nat}
    (hsz : c.size = cap * (x 0).sz) (hn : (x 0).n ≤ cap) (hf : ∀ f, f ≠ 0 → (x f).n = 0) (hlen : ∀ i, i < (x 0).n → ((x 0).get i).length = (x 0).sz)
    (hrel : ∀ (i k : Nat) (a : AV) (v : Value), i < (x 0).n → ((x 0).get i)[k]? = some a → c[i * (x 0).sz + k]? = some v → R w ρ a v) :
    Rel w0 (ρ.add key w.heap.size cap) (insRow key x m) (fun r => D r ∨ r = key) (w.alloc (.cells c (x 0).ty)) ∧ ρ.le (ρ.add key w.heap.size cap) ∧ Same ρ.imm w (w.alloc (.cells c (x 0).ty)) := by
  have hkd : ¬ ρ.dom key := fun hd => hk (h.dom _ hd)
  have hkl : look m key = none := by
    cases hl : look m key with
    | none => rfl
    | some y => exact absurd (h.key _ _ hl) hk
  have hle : ρ.le (ρ.add key w.heap.size cap) := Env.le_add hkd
  have hs : Same ρ.imm w (w.alloc (.cells c (x 0).ty)) := fun b hb => Below.heap_alloc _ _ _ (h.imm b hb)
  refine ⟨⟨h.below.alloc h.below.size _, fun b hb => ?_, fun r hr => ?_, fun r y hy => ?_, fun r y f hy hg => ?_, fun r y f r' y' f' hy hy' hg hg' hc hc' he => ?_, h.fixed fun p hp => Below.heap_alloc _ _ _ (h.fixlt hp), h.keeps hs⟩, hle, hs⟩
  · have := h.imm2 b hb
    exact ⟨by simp; omega, this.2⟩
  · exact hr.imp (h.dom r) id
  · rw [look_ins hkl] at hy
    split at hy
    · rename_i e; exact .inr e.symm
    · exact .inl (h.key r y hy)
  · rw [look_ins hkl] at hy
    split at hy
    · rename_i e; subst e; cases hy
      refine ⟨.inr rfl, ?_⟩
      by_cases hf0 : f = 0
      · subst hf0
        refine ⟨by simp [Env.add]; exact hn, fun hc => ?_, hlen, fun i k a v h1 h2 h3 => ?_⟩
        · simp only [Env.add, if_true]
          refine ⟨h.below.size, fun hi => by have := h.imm _ hi; omega, c, Go.heap_alloc_new _ _, hsz⟩
        · simp only [Env.add, if_true] at h3
          have h3' : c[i * (x 0).sz + k]? = some v := by
            unfold Has World.cell? at h3
            rw [Go.heap_alloc_new] at h3
            simpa using h3
          exact (hrel i k a v h1 h2 h3').mono hle hs
      · have hn0 := hf f hf0
        refine ⟨by simp [Env.add, hf0, hn0], fun hc => ?_, fun i hi => by omega, fun i k a v hi => by omega⟩
        simp [Env.add, hf0] at hc
    · rename_i hne
      obtain ⟨hd, hr⟩ := h.row r y f hy hg
      refine ⟨.inl hd, hr.mono hd hle (fun b _ hb => hb) hs (fun hc => Below.heap_alloc _ _ _ (h.lt hy hg hc))⟩
  · rw [look_ins hkl] at hy hy'
    have cap0 : ∀ q f, ¬ key = q → (ρ.add key w.heap.size cap).cap q f = ρ.cap q f ∧ (ρ.add key w.heap.size cap).blk q f = ρ.blk q f := fun q f hq => by simp [Env.add, Ne.symm hq]
    have capk : ∀ f, 0 < (ρ.add key w.heap.size cap).cap key f → f = 0 := fun f hc => by
      simp only [Env.add, if_true] at hc
      split at hc
      · assumption
      · omega
    by_cases e1 : key = r <;> by_cases e2 : key = r'
    · subst e1 e2
      exact ⟨rfl, (capk f hc).trans (capk f' hc').symm⟩
    · subst e1
      simp only [e2, if_false] at hy'
      rw [(cap0 r' f' e2).1] at hc'
      rw [(cap0 r' f' e2).2] at he
      have := h.lt hy' hg' hc'
      simp [Env.add] at he; omega
    · subst e2
      simp only [e1, if_false] at hy
      rw [(cap0 r f e1).1] at hc
      rw [(cap0 r f e1).2] at he
      have := h.lt hy hg hc
      simp [Env.add] at he; omega
    · simp only [e1, if_false] at hy
      simp only [e2, if_false] at hy'
      rw [(cap0 r f e1).1] at hc
      rw [(cap0 r' f' e2).1] at hc'
      rw [(cap0 r f e1).2, (cap0 r' f' e2).2] at he
      exact h.sep r y f r' y' f' hy hy' hg hg' hc hc' he

/-- Behind a step that leaves all that was as it was. -/
def Env.grow (ρ : Env) (w w' : World) : Env := { ρ with imm := fun b => ρ.imm b ∨ (w.heap.size ≤ b ∧ b < w'.heap.size) }
theorem Env.le_grow (ρ : Env) (w w' : World) : ρ.le (ρ.grow w w') := ⟨fun _ h => h, fun _ _ _ => rfl, fun _ _ _ => rfl, fun _ h => .inl h⟩
theorem Rel.grow {w0 : Base} {w w' : World} {ρ : Env} {m : Mem} {D : Nat → Prop} (h : Rel w0 ρ m D w) (hb : Below w.heap.size w w') : Rel w0 (ρ.grow w w') m D w' := by
  have hs : Same ρ.imm w w' := Same.of_below hb h.imm
  refine ⟨h.below.trans (hb.mono h.below.size), fun b hi => ?_, h.dom, h.key, fun r x f hx hg => ?_, fun r x f r' x' f' hx hx' hg hg' hc hc' he => h.sep r x f r' x' f' hx hx' hg hg' hc hc' he, fun p hp => ⟨(h.fix p hp).1, (h.fix p hp).2.1, fun hi => hi.elim (h.fix p hp).2.2.1 (fun hi => by have := h.fixlt hp; omega), (hb.block _ (h.fixlt hp)).trans (h.fix p hp).2.2.2⟩, fun p hp => ⟨.inl (h.kept p hp).1, (h.keeps hs p hp).2⟩⟩
  · rcases hi with hi | hi
    · exact ⟨Nat.lt_of_lt_of_le (h.imm b hi) hb.size, (h.imm2 b hi).2⟩
    · exact ⟨hi.2, .inr (Nat.le_trans h.below.size hi.1)⟩
  · obtain ⟨hd, hr⟩ := h.row r x f hx hg
    exact ⟨hd, hr.mono hd (Env.le_grow ρ w w') (fun b hlt hi => hi.resolve_right (by omega)) hs (fun hc => hb.block _ (h.lt hx hg hc))⟩

/-- Fewer rows. -/
theorem Rel.sub {w0 : Base} {w : World} {ρ : Env} {m m' : Mem} {D D' : Nat → Prop} (h : Rel w0 ρ m D w) (hm : ∀ r x, look m' r = some x → look m r = some x) (hD : ∀ r, D r → D' r) : Rel w0 ρ m' D' w :=
  ⟨h.below, h.imm2, fun r hr => hD r (h.dom r hr), fun r x hx => hD r (h.key r x (hm r x hx)), fun r x f hx hg => h.row r x f (hm r x hx) hg,
    fun r x f r' x' f' hx hx' => h.sep r x f r' x' f' (hm r x hx) (hm r' x' hx'), h.fix, h.kept⟩

end Go.Ax
