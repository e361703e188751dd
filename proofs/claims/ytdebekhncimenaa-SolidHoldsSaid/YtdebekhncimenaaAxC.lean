/-
  Each operation by itself: what the model does is what the evaluator says.
-/
import Derived.Test.YtdebekhncimenaaAxB
namespace Go.Ax
open Go.RowKit

/-- The operation yields a value in a world of which Q holds. -/
def Gives (P : Program) (ev : Operand → Value) (o : Oper) (w : World) (Q : Value → World → Prop) : Prop :=
  ∃ v w', ((execOp ev o).run P w = .ok (.value v) w' ∨ ((execOp ev o).run P w = .ok .skip w' ∧ v = undef)) ∧ Q v w'

/-- What stands behind an operation. -/
def Post (w0 : Base) (ρ : Env) (m : Mem) (D : Nat → Prop) (key : Nat) (e : Eff) (w : World) (v : Value) (w' : World) : Prop :=
  ∃ ρ', R w' ρ' e.val v ∧ Rel w0 ρ' (e.u.app key m) (fun r => D r ∨ r = key) w' ∧ ρ.le ρ' ∧ Same ρ.imm w w'

section
variable {P : Program} {w0 : Base} {w : World} {ρ : Env} {m : Mem} {D : Nat → Prop} {key : Nat} {ev : Operand → Value} {ρ0 : Operand → AV} {o : Oper}

theorem Post.still (hR : Rel w0 ρ m D w) {a : AV} {v : Value} (h : R w ρ a v) {ob : List Prop} : Post w0 ρ m D key ⟨ob, a, .none⟩ w v w :=
  ⟨ρ, h, hR.sub (fun _ _ h => h) (fun _ h => .inl h), .refl _, .refl _ _⟩

theorem run_value {s : Sem Value} {v : Value} {w' : World} (h : s.run P w = .ok v w') : (do pure (Next.value (← s)) : Sem Next).run P w = .ok (.value v) w' := by
  simp [h]
theorem run_skip {s : Sem Unit} {w' : World} (h : s.run P w = .ok () w') : (do s; pure Next.skip : Sem Next).run P w = .ok .skip w' := by
  simp [h]

theorem conj_map_imp {l : List Prop} {q : Prop} (h : ∀ p ∈ l.map (q → ·), p) (hq : q) : ∀ p ∈ l, p := fun p hp => h (q → p) (List.mem_map.2 ⟨p, hp, rfl⟩) hq

theorem strip_sound {a : AV} {v : Value} (h : R w ρ a v) (hn : ∀ p ∈ needs [a], p) : R w ρ (strip a) v := by
  cases a <;> simp only [strip] <;> first | exact h | skip
  rename_i b x
  have hb : b = true := hn _ (by simp [needs])
  subst hb
  cases h; assumption

theorem needs_mem {as : List AV} (h : ∀ p ∈ needs as, p) {a : AV} (ha : a ∈ as) : ∀ p ∈ needs [a], p := by
  induction as with
  | nil => cases ha
  | cons b bs ih =>
    intro p hp
    cases ha with
    | head =>
      cases a <;> simp only [needs] at hp h <;> first | (cases hp; done) | skip
      exact h p (by
        cases hp with
        | head => exact List.mem_cons_self
        | tail _ h => cases h)
    | tail _ ha =>
      refine ih ?_ ha p hp
      intro q hq
      cases b <;> simp only [needs] at h <;> first | exact h q hq | exact h q (List.mem_cons_of_mem _ hq)

theorem boolOf_sound {a : AV} {v : Value} {b : Bool} (h : R w ρ a v) (hb : boolOf a = some b) : v = .bool b := by
  unfold boolOf at hb
  split at hb
  · cases hb; cases h; rfl
  · cases hb
theorem intOfA_sound {a : AV} {v : Value} {n : Int} (h : R w ρ a v) (hb : intOfA a = some n) : ∃ k, v = .int k n := by
  unfold intOfA at hb
  split at hb
  · cases hb; cases h; exact ⟨_, rfl⟩
  · cases hb

theorem flatAll_mem : ∀ {as : List AV}, flatAll as = true → ∀ a ∈ as, ∃ x, flat a = some x
  | [], _, _, h => by cases h
  | b :: bs, h, a, ha => by
    simp only [flatAll] at h
    split at h
    · rename_i y hy
      cases ha with
      | head => exact ⟨y, hy⟩
      | tail _ ha => exact flatAll_mem h a ha
    · cases h

/-- The pure rule. -/
theorem aPure_sound (hsel : ∀ cs b, o.op ≠ .select cs b) {f : Operand → AV} {a : AV} (h : aPure P f o = some a) (hv : ∀ x ∈ o.op.operands, R w ρ (f x) (ev x)) :
    ∃ v, (execOp ev o).run P w = .ok (.value v) w ∧ R w ρ a v := by
  unfold aPure at h
  split at h
  · rename_i hfl
    have he : execOp ev o = execOp (fun x => (flat (f x)).getD undef) o := execOp_congr o hsel fun x hx => by
      obtain ⟨y, hy⟩ := flatAll_mem hfl (f x) (List.mem_map.2 ⟨x, by simpa using hx, rfl⟩)
      simp only [hy, Option.getD_some]
      exact (hv x hx).flat hy
    split at h
    · rename_i v hp
      cases h
      rw [he]
      exact ⟨v, pureRun_sound hp w, R.ofVal v⟩
    · cases h
  · cases h

/-! ### Allocation -/

theorem allCells_mem : ∀ {as : List AV}, allCells as = true → ∀ a ∈ as, isCell a = true
  | [], _, _, h => by cases h
  | b :: bs, h, a, ha => by
    simp only [allCells] at h
    split at h
    · rename_i y
      cases ha with
      | head => exact y
      | tail _ ha => exact allCells_mem h a ha
    · cases h

theorem isCell_sound {a : AV} {v : Value} (h : R w ρ a v) (hc : isCell a = true) : v.oneCell' = true ∧ v.cells = #[v] := by
  cases h with
  | v => cases v <;> simp [isCell] at hc <;> simp [Value.oneCell', Value.cells]
  | ro => simp [Value.oneCell', Value.cells]
  | rop => simp [Value.oneCell', Value.cells]
  | bx => simp [Value.oneCell', Value.cells]
  | ptr => simp [Value.oneCell', Value.cells]
  | own => simp [Value.oneCell', Value.cells]
  | vw => simp [Value.oneCell', Value.cells]
  | fn => simp [Value.oneCell', Value.cells]
  | iface => simp [Value.oneCell', Value.cells]
  | _ => simp [isCell] at hc

theorem cellsOf_sound {a : AV} {v : Value} {cs : List AV} (h : R w ρ a v) (hc : cellsOf a = some cs) : Rs w ρ cs v.cells.toList ∧ ∀ x ∈ v.cells.toList, x.oneCell' = true := by
  unfold cellsOf at hc
  split at hc
  · rename_i ds
    split at hc
    · rename_i hall
      cases hc
      cases h with
      | agg hl hh =>
        simp only [Value.cells]
        refine ⟨⟨hl, hh⟩, fun x hx => ?_⟩
        obtain ⟨i, hi, rfl⟩ := List.mem_iff_getElem.1 hx
        have hi' : i < cs.length := by rw [← hl]; simpa using hi
        exact (isCell_sound (hh i cs[i] _ (List.getElem?_eq_getElem hi') (by simp)) (allCells_mem hall _ (List.getElem_mem _))).1
    · cases hc
  · split at hc
    · rename_i hcell
      cases hc
      obtain ⟨h1, h2⟩ := isCell_sound h hcell
      rw [h2]
      exact ⟨.cons h .nil, fun x hx => by simp at hx; subst hx; exact h1⟩
    · cases hc

theorem aAlloc_post (hR : Rel w0 ρ m D w) (hk : ¬ D key) {ty : TypeId} {cs : List AV} {vs : List Value} (hs : Rs w ρ cs vs) (g : Option Bool) :
    Post w0 ρ m D key (aAlloc key ty cs g) w (.pointer (some ⟨w.heap.size, 0, none⟩)) (w.alloc (.cells vs.toArray ty)) := by
  obtain ⟨h1, h2, h3⟩ := hR.new hk (x := fun f => if f = 0 then ⟨1, cs.length, ty, fun _ => cs, g⟩ else ⟨0, cs.length, ty, fun _ => [], g⟩) (c := vs.toArray) (cap := 1)
    (by simp [hs.1]) (by simp) (fun f hf => by simp [hf]) (fun i _ => by simp)
    (fun i k a v hi ha hv => by
      simp at hi ha hv
      subst hi
      simp at hv
      exact hs.2 k a v ha hv)
  simp only [if_true] at h1 h3
  refine ⟨_, ?_, h1, h2, h3⟩
  have : (ρ.add key w.heap.size 1).blk key 0 = w.heap.size := by simp [Env.add]
  simp only [aAlloc]
  have hb := R.bx (w := w.alloc (.cells vs.toArray ty)) (ρ := ρ.add key w.heap.size 1) (r := key) (k := 0) (.inr rfl)
  rw [this] at hb
  exact hb

theorem run_newVar (t : TypeId) (v : Value) : (newVar t v).run P w = .ok ⟨w.heap.size, 0, none⟩ (w.alloc (.cells v.cells t)) := by
  simp [newVar, newRow]

theorem box_sound (hR : Rel w0 ρ m D w) (hk : ¬ D key) {t : TypeId} {x : Operand} {g : Option Bool} {cs : List AV} {a : AV} (ho : o.op = .box t x) (hv : R w ρ a (ev x)) (hc : cellsOf a = some cs) :
    Gives P ev o w (Post w0 ρ m D key (aAlloc key t cs g) w) := by
  obtain ⟨hs, _⟩ := cellsOf_sound hv hc
  refine ⟨_, _, .inl ?_, by simpa using aAlloc_post hR hk (ty := t) hs g⟩
  unfold execOp
  simp only [ho]
  exact run_value (by simp [Instr.box, run_newVar])

theorem zeroT_run {t : TypeId} {z : Value} (h : zeroT P t = some z) : (zeroValue t).run P w = .ok z w := by
  unfold zeroT at h
  split at h
  · rename_i i hi
    simp [zeroValue, typeInfo, hi, h]
  · cases h

theorem alloc_sound (hR : Rel w0 ρ m D w) (hk : ¬ D key) {t : TypeId} {g : Option Bool} {z : Value} (ho : o.op = .alloc t) (hz : zeroT P t = some z) :
    Gives P ev o w (Post w0 ρ m D key (aAlloc key t (z.cells.toList.map .v) g) w) := by
  refine ⟨_, _, .inl ?_, by simpa using aAlloc_post hR hk (ty := t) (R_list (w := w) (ρ := ρ) z.cells.toList) g⟩
  unfold execOp
  simp only [ho]
  exact run_value (by simp [Instr.alloc, zeroT_run hz, run_newVar])

/-! ### Loads -/

theorem add_eq (b o k : Nat) : (⟨b, o, none⟩ : Addr).add k = ⟨b, o + k, none⟩ := by unfold Addr.add; split <;> simp_all

theorem layT_run {t : TypeId} {b : Bool} {n : Nat} (h : layT P t = some (b, n)) : (isAgg t).run P w = .ok b w ∧ (sizeOf t).run P w = .ok n w := by
  unfold layT at h
  split at h
  · rename_i d hd
    split at h
    · rename_i i hi
      cases h
      refine ⟨?_, by simp [sizeOf, typeInfo, hi]⟩
      simp only [isAgg, Sem.run_bind, run_underlying hd, Result.andThen_ok]
      cases d <;> simp [isAggD]
    · cases h
  · cases h

theorem loadVar_sound {t : TypeId} {cs : List AV} {a : AV} {b o : Nat} (h : ofCells P t cs = some a)
    (hex : ∀ k, k < cs.length → ∃ x, Has w b (o + k) x) (hr : ∀ (k : Nat) (c : AV) (x : Value), cs[k]? = some c → Has w b (o + k) x → R w ρ c x) :
    ∃ v, (loadVar t ⟨b, o, none⟩).run P w = .ok v w ∧ R w ρ a v := by
  unfold ofCells at h
  split at h
  · rename_i n hlay
    obtain ⟨h1, h2⟩ := layT_run (w := w) hlay
    split at h
    rotate_left
    · cases h
    rename_i hl
    cases h
    have hx : ∀ j, j < n → w.cell? ((⟨b, o, none⟩ : Addr).add j) = some ((w.cell? ⟨b, o + j, none⟩).getD undef) := fun j hj => by
      obtain ⟨x, hx⟩ := hex j (by omega)
      unfold Has at hx
      rw [add_eq, hx]; rfl
    have hld := run_loadCells (P := P) w ⟨b, o, none⟩ n (fun j => (w.cell? ⟨b, o + j, none⟩).getD undef) hx
    refine ⟨_, by simp [loadVar, h1, h2, hld]; rfl, .agg (by simp; omega) fun k c x h1 h2 => ?_⟩
    rw [List.getElem?_take] at h1
    split at h1
    · rename_i hk
      simp only [List.getElem?_map, List.getElem?_range hk, Option.map_some, Option.some.injEq] at h2
      obtain ⟨y, hy⟩ := hex k (by omega)
      have hy' := hy
      unfold Has at hy
      rw [hy] at h2
      simp at h2
      subst h2
      exact hr k c y h1 hy'
    · cases h1
  · rename_i n hlay
    obtain ⟨h1, h2⟩ := layT_run (w := w) hlay
    split at h
    · rename_i c rest
      cases h
      obtain ⟨x, hx⟩ := hex 0 (by simp)
      refine ⟨x, ?_, hr 0 a x rfl hx⟩
      unfold Has at hx
      simp only [Nat.add_zero] at hx
      simp [loadVar, h1, load, Sem.run, hx]
    · cases h
  · cases h

/-- The cells of an element of a row of our own. -/
theorem row_cells (hR : Rel w0 ρ m D w) {r f : Nat} {x : Fam} (hx : look m r = some x) (hg : (x f).g ≠ some false) {i : Nat} (hi : i < (x f).n) :
    ρ.dom r ∧ (∀ k, k < ((x f).get i).length → ∃ v, Has w (ρ.blk r f) (i * (x f).sz + k) v) ∧
    ∀ (k : Nat) (c : AV) (v : Value), ((x f).get i)[k]? = some c → Has w (ρ.blk r f) (i * (x f).sz + k) v → R w ρ c v := by
  obtain ⟨hd, hr⟩ := hR.row r x f hx hg
  have hc : 0 < ρ.cap r f := by have := hr.n_le; omega
  obtain ⟨_, _, c, hb, hsz⟩ := hr.blk hc
  refine ⟨hd, fun k hk => ?_, fun k a v h1 h2 => hr.rel i k a v hi h1 h2⟩
  rw [hr.len i hi] at hk
  have hlt : i * (x f).sz + k < c.size := by
    rw [hsz]
    have h1 : (i + 1) * (x f).sz ≤ ρ.cap r f * (x f).sz := Nat.mul_le_mul_right _ (by have := hr.n_le; omega)
    rw [Nat.add_mul] at h1
    omega
  exact ⟨c[i * (x f).sz + k], by unfold Has World.cell?; simp [hb, hlt]⟩

theorem gOb_true {g : Option Bool} (h : ∀ p ∈ gOb g [], p) : g ≠ some false := by
  intro e
  subst e
  have := h (false = true) (by simp [gOb])
  cases this

/-- The R of what lies in memory that nobody writes, for our own use. -/
theorem R.of_ext {a : AV} {x : Value} (h : R w (.ext ρ.imm) a x) : R w ρ a x := h.mono ⟨fun _ h => h.elim, fun _ _ h => h.elim, fun _ _ h => h.elim, fun _ h => h⟩ (.refl _ _)

theorem list_drop_get {α : Type} {l : List α} {k j : Nat} {a : α} (h : (l.drop k)[j]? = some a) : l[k + j]? = some a := by
  rw [List.getElem?_drop] at h; exact h

theorem aLoad_sound (hR : Rel w0 ρ m D w) {t : TypeId} {p a : AV} {ob : List Prop} {v : Value} (h : aLoad P t p m = some (ob, a)) (hob : ∀ q ∈ ob, q) (hp : R w ρ p v) :
    ∃ x, (Instr.loadAt t v).run P w = .ok x w ∧ R w ρ a x := by
  unfold aLoad at h
  split at h
  · rename_i r k
    split at h
    · rename_i fam hl
      split at h
      · rename_i hn
        split at h
        · rename_i a' hc
          cases h
          obtain ⟨hd, hex, hr⟩ := row_cells hR hl (f := 0) (gOb_true hob) (i := 0) (by omega)
          cases hp with
          | bx _ =>
            obtain ⟨x, h1, h2⟩ := loadVar_sound (P := P) (b := ρ.blk r 0) (o := k) hc (fun j hj => by
                simp at hj
                obtain ⟨v, hv⟩ := hex (k + j) (by omega)
                exact ⟨v, by simpa using hv⟩)
              (fun j c x h1 h2 => hr (k + j) c x (list_drop_get h1) (by simpa using h2))
            exact ⟨x, by simp [Instr.loadAt, Instr.sureAddr, h1], h2⟩
        · cases h
      · cases h
    · cases h
  · rename_i r f i sz k
    split at h
    · rename_i fam hl
      split at h
      · rename_i a' hc
        cases h
        have hi : i < (fam f).n := hob _ (by simp)
        have hsz : sz = (fam f).sz := hob _ (by simp)
        obtain ⟨hd, hex, hr⟩ := row_cells hR hl (f := f) (gOb_true fun q hq => hob q (by simp [hq])) hi
        cases hp with
        | ptr _ =>
          obtain ⟨x, h1, h2⟩ := loadVar_sound (P := P) (b := ρ.blk r f) (o := i * sz + k) hc (fun j hj => by
              simp at hj
              obtain ⟨v, hv⟩ := hex (k + j) (by omega)
              exact ⟨v, by rw [hsz]; rw [Nat.add_assoc]; exact hv⟩)
            (fun j c x h1 h2 => hr (k + j) c x (list_drop_get h1) (by rw [hsz, Nat.add_assoc] at h2; exact h2))
          exact ⟨x, by simp [Instr.loadAt, Instr.sureAddr, h1], h2⟩
      · cases h
    · cases h
  · rename_i cs
    split at h
    · rename_i a' hc
      cases h
      cases hp with
      | rop b o hi hex hr =>
        obtain ⟨x, h1, h2⟩ := loadVar_sound (P := P) (ρ := ρ) hc hex (fun j c x h1 h2 => (hr j c x h1 h2).of_ext)
        exact ⟨x, by simp [Instr.loadAt, Instr.sureAddr, h1], h2⟩
    · cases h
  · cases h

end
end Go.Ax
