/-
  Functions that write a slice of one's own; all else that they are handed they see ars memory to read.
-/
import Derived.Test.YtfpgjkeelegdpaaGreatCM5
import Derived.Calls
import Derived.Shelf.SlSortCmp.NoneTotal
import Derived.Ground.SlsfProg
section
set_option linter.unusedSimpArgs false
set_option linter.unusedVariables false
namespace Go.Ax
/-- Nothing in it lies in memory that is only read. -/
def nro : Nat → AV → Prop
  | _, .v _ => True
  | _, .any => True
  | _, .bx _ _ => True
  | _, .ptr _ _ _ _ _ => True
  | _, .own _ _ _ _ => True
  | _, .mp _ _ => True
  | d + 1, .agg cs => ∀ c ∈ cs, nro d c
  | d + 1, .tup cs => ∀ c ∈ cs, nro d c
  | _, _ => False
def famNro (y : Fam) : Prop := ∀ f, ∀ j, j < (y f).n → ∀ c ∈ (y f).get j, nro 1 c
def Env.im (ρ : Env) (J : Nat → Prop) : Env := { ρ with imm := J }
theorem R.nro {w : World} {ρ : Env} {J : Nat → Prop} : ∀ (d : Nat) {a : AV} {x : Value}, nro d a → R w ρ a x → R w (ρ.im J) a x
  | d, .v y, x, _, h => by cases h; exact .v
  | d, .any, x, _, h => .any
  | d, .bx r k, x, _, h => by cases h with | bx hd => exact .bx (ρ := ρ.im J) hd
  | d, .ptr r f i sz k, x, _, h => by cases h with | ptr hd => exact .ptr (ρ := ρ.im J) hd
  | d, .own r f n sz, x, _, h => by cases h with | own hd hn ha => exact .own (ρ := ρ.im J) hd hn ha
  | d, .mp r f, x, _, h => by cases h with | mp hd hc => exact .mp (ρ := ρ.im J) hd hc
  | d + 1, .agg cs, x, hk, h => by
    cases h with | agg hl hh => exact .agg hl fun i a y h1 h2 => R.nro d (hk a (List.mem_of_getElem? h1)) (hh i a y h1 h2)
  | d + 1, .tup cs, x, hk, h => by
    cases h with | tup hl hh => exact .tup hl fun i a y h1 h2 => R.nro d (hk a (List.mem_of_getElem? h1)) (hh i a y h1 h2)
  | 0, .agg _, _, hk, _ => hk.elim
  | 0, .tup _, _, hk, _ => hk.elim
  | 0, .ro _ _ _, _, hk, _ => hk.elim
  | 0, .rop _, _, hk, _ => hk.elim
  | 0, .vw _ _ _ _ _, _, hk, _ => hk.elim
  | 0, .fn _ _, _, hk, _ => hk.elim
  | 0, .iface _ _, _, hk, _ => hk.elim
  | 0, .cond _ _, _, hk, _ => hk.elim
  | 0, .rm _ _, _, hk, _ => hk.elim
  | d + 1, .ro _ _ _, _, hk, _ => hk.elim
  | d + 1, .rop _, _, hk, _ => hk.elim
  | d + 1, .vw _ _ _ _ _, _, hk, _ => hk.elim
  | d + 1, .fn _ _, _, hk, _ => hk.elim
  | d + 1, .iface _ _, _, hk, _ => hk.elim
  | d + 1, .cond _ _, _, hk, _ => hk.elim
  | d + 1, .rm _ _, _, hk, _ => hk.elim
/-- What such a function may lean on: all rows but the one. -/
def vwR (ρ : Env) (m : Mem) (r : Nat) (b : Nat) : Prop := ρ.imm b ∨ ∃ q x f, q ≠ r ∧ look m q = some x ∧ (x f).g ≠ some false ∧ 0 < ρ.cap q f ∧ b = ρ.blk q f
theorem viewR_le {ρ : Env} {m : Mem} {r : Nat} : ρ.le (ρ.im (vwR ρ m r)) := ⟨fun _ h => h, fun _ _ _ => rfl, fun _ _ _ => rfl, fun b hb => .inl hb⟩
section
variable {w0 : Base} {w w' : World} {ρ : Env} {m : Mem} {D : Nat → Prop} {key r : Nat} {x : Fam}
theorem viewR_rel (hR : Rel w0 ρ m D w) (hl : look m r = some x) : Rel w0 (ρ.im (vwR ρ m r)) [(r, x)] D w := by
  have lk : ∀ q y, look [(r, x)] q = some y → q = r ∧ y = x := fun q y hy => by
    simp only [look] at hy
    split at hy
    · rename_i e; cases hy; exact ⟨e.symm, rfl⟩
    · cases hy
  refine ⟨hR.below, fun b hb => ?_, hR.dom, fun q y hy => ?_, fun q y f hy hg => ?_, fun q y f q' y' f' hy hy' hg hg' hc hc' e => ?_, fun p hp => ?_, fun p hp => ⟨.inl (hR.kept p hp).1, (hR.kept p hp).2⟩⟩
  · have hb : vwR ρ m r b := hb
    rcases hb with hb | ⟨q, y, f, hq, h1, h2, h3, hbe⟩
    · exact hR.imm2 b hb
    · rw [hbe]; exact ⟨hR.lt h1 h2 h3, .inr ((hR.row q y f h1 h2).2.blk h3).1⟩
  · obtain ⟨rfl, rfl⟩ := lk q y hy
    exact hR.key _ _ hl
  · obtain ⟨rfl, rfl⟩ := lk q y hy
    obtain ⟨h1, h2⟩ := hR.row _ _ f hl hg
    refine ⟨h1, h2.n_le, fun hc => ?_, h2.len, fun i k c v hi h3 h4 => (h2.rel i k c v hi h3 h4).mono viewR_le (fun _ _ => rfl)⟩
    obtain ⟨b1, b2, o, b3, b4⟩ := h2.blk hc
    refine ⟨b1, fun hb => ?_, o, b3, b4⟩
    have hb : vwR ρ m q (ρ.blk q f) := hb
    rcases hb with hb | ⟨q', y', f', hq, h3, h4, h5, hbe⟩
    · exact b2 hb
    · exact hq (hR.sep q y f q' y' f' hl h3 hg h4 hc h5 hbe).1.symm
  · obtain ⟨rfl, rfl⟩ := lk q y hy
    obtain ⟨rfl, rfl⟩ := lk q' y' hy'
    exact hR.sep _ _ f _ _ f' hl hl hg hg' hc hc' e
  · obtain ⟨p1, p2, p3, p4⟩ := hR.fix p hp
    refine ⟨p1, fun q y f hy hg hc => ?_, fun hb => ?_, p4⟩
    · obtain ⟨rfl, rfl⟩ := lk q y hy
      exact p2 _ _ f hl hg hc
    · have hb : vwR ρ m r p.1 := hb
      rcases hb with hb | ⟨q, y, f, _, h1, h2, h3, e⟩
      · exact p3 hb
      · exact p2 q y f h1 h2 h3 e.symm
theorem viewR_post {v : AV} {y : Fam} {ob ob' : List Prop} {val : Value} (hR : Rel w0 ρ m D w) (hl : look m r = some x) (hk : ¬ D key) (hnv : nro 3 v) (hny : famNro y)
    (hp : Post w0 (ρ.im (vwR ρ m r)) [(r, x)] D key ⟨ob, v, .many [(r, y)] none⟩ w val w') : Post w0 ρ m D key ⟨ob', v, .many [(r, y)] none⟩ w val w' := by
  obtain ⟨ρ3, r1, r2, r3, r4⟩ := hp
  have hlt : ∀ q z f, look m q = some z → (z f).g ≠ some false → 0 < ρ.cap q f → q ≠ r → vwR ρ m r (ρ.blk q f) := fun q z f h1 h2 h3 hq => .inr ⟨q, z, f, hq, h1, h2, h3, rfl⟩
  have hle : ρ.le (ρ3.im ρ.imm) := ⟨fun q hq => r3.dom q hq, fun q f hq => r3.blk q f hq, fun q f hq => r3.cap q f hq, fun b hb => hb⟩
  have hsame : Same ρ.imm w w' := fun b hb => r4 b (.inl hb)
  have j3 : ∀ b, vwR ρ m r b → ρ3.imm b := fun b hb => r3.imm b hb
  have hlook : ∀ q z, look (Upd.app key m (.many [(r, y)] none)) q = some z → (q = r ∧ z = y) ∨ (q ≠ r ∧ look m q = some z) := fun q z hz => by
    have hz : look (setRow r y m) q = some z := hz
    rw [look_set, hl] at hz
    by_cases e : r = q
    · subst e; simp at hz; exact .inl ⟨rfl, hz.symm⟩
    · simp [e] at hz; exact .inr ⟨Ne.symm e, hz⟩
  have hl3 : look (Upd.app key [(r, x)] (.many [(r, y)] none)) r = some y := by
    show look (setRow r y [(r, x)]) r = some y
    simp [setRow, look]
  refine ⟨ρ3.im ρ.imm, r1.nro 3 hnv, ⟨r2.below, fun b hb => ?_, fun q hq => r2.dom q hq, fun q z hz => ?_, fun q z f hz hg => ?_, fun q z f q' z' f' hz hz' hg hg' hc hc' e => ?_, fun p hp => ?_, fun p hp => ?_⟩, hle, hsame⟩
  · exact ⟨(r2.imm2 b (j3 b (.inl hb))).1, (hR.imm2 b hb).2⟩
  · rcases hlook q z hz with ⟨rfl, _⟩ | ⟨_, h⟩
    · exact .inl (hR.key _ _ hl)
    · exact .inl (hR.key _ _ h)
  · rcases hlook q z hz with ⟨e, rfl⟩ | ⟨hne, h⟩
    · subst e
      obtain ⟨q1, q2⟩ := r2.row _ _ f hl3 hg
      refine ⟨q1, q2.n_le, fun hc => ?_, q2.len, fun i k c v h1 h2 h3 => (q2.rel i k c v h1 h2 h3).nro 1 (hny f i h1 c (List.mem_of_getElem? h2))⟩
      obtain ⟨b1, b2, o, b3, b4⟩ := q2.blk hc
      exact ⟨b1, fun hb => b2 (j3 _ (.inl hb)), o, b3, b4⟩
    · obtain ⟨hd, q2⟩ := hR.row q z f h hg
      exact ⟨hle.dom q hd, q2.mono hd hle (fun b _ hb => hb) hsame (fun hc => r4 _ (hlt q z f h hg hc hne))⟩
  · have cq : ∀ q z f, look m q = some z → (z f).g ≠ some false → 0 < (ρ3.im ρ.imm).cap q f → 0 < ρ.cap q f ∧ (ρ3.im ρ.imm).blk q f = ρ.blk q f := fun q z f h1 h2 h3 => by
      have hd := (hR.row q z f h1 h2).1
      have e1 : ρ3.cap q f = ρ.cap q f := r3.cap q f hd
      have e2 : ρ3.blk q f = ρ.blk q f := r3.blk q f hd
      exact ⟨by have h3 : 0 < ρ3.cap q f := h3; omega, e2⟩
    rcases hlook q z hz with ⟨e1, e1'⟩ | ⟨hne, h1⟩ <;> rcases hlook q' z' hz' with ⟨e2, e2'⟩ | ⟨hne', h1'⟩
    · subst e1; subst e2; subst e1'; subst e2'
      exact r2.sep _ _ f _ _ f' hl3 hl3 hg hg' hc hc' e
    · exfalso
      subst e1; subst e1'
      obtain ⟨c1, c2⟩ := cq q' z' f' h1' hg' hc'
      refine r2.not_imm hl3 hg hc ?_
      have e : ρ3.blk q f = (ρ3.im ρ.imm).blk q' f' := e
      rw [e, c2]
      exact j3 _ (hlt q' z' f' h1' hg' c1 hne')
    · exfalso
      subst e2; subst e2'
      obtain ⟨c1, c2⟩ := cq q z f h1 hg hc
      refine r2.not_imm hl3 hg' hc' ?_
      have e : (ρ3.im ρ.imm).blk q f = ρ3.blk q' f' := e
      rw [← e, c2]
      exact j3 _ (hlt q z f h1 hg c1 hne)
    · obtain ⟨c1, c2⟩ := cq q z f h1 hg hc
      obtain ⟨c1', c2'⟩ := cq q' z' f' h1' hg' hc'
      rw [c2, c2'] at e
      exact hR.sep q z f q' z' f' h1 h1' hg hg' c1 c1' e
  · obtain ⟨p1, p2, p3, p4⟩ := hR.fix p hp
    obtain ⟨q1, q2, q3, q4⟩ := r2.fix p hp
    refine ⟨p1, fun q z f hz hg hc e => ?_, p3, q4⟩
    rcases hlook q z hz with ⟨e1, e1'⟩ | ⟨hne, h1⟩
    · subst e1; subst e1'
      exact q2 _ _ f hl3 hg hc e
    · have hd := (hR.row q z f h1 hg).1
      have e2 : ρ3.blk q f = ρ.blk q f := r3.blk q f hd
      have e1 : ρ3.cap q f = ρ.cap q f := r3.cap q f hd
      exact p2 q z f h1 hg (by have hc : 0 < ρ3.cap q f := hc; omega) (by rw [← e2]; exact e)
  · exact ⟨(hR.kept p hp).1, (r2.kept p hp).2⟩
end
/-- The other rows. -/
def rmR (r : Nat) : Mem → Mem
  | [] => []
  | (k, y) :: l => if k = r then rmR r l else (k, y) :: rmR r l
theorem look_rmR {r q : Nat} {z : Fam} : ∀ {m : Mem}, look (rmR r m) q = some z → q ≠ r ∧ look m q = some z
  | [], h => by simp [rmR, look] at h
  | (k, y) :: l, h => by
    simp only [rmR] at h
    split at h
    · rename_i e
      obtain ⟨h1, h2⟩ := look_rmR h
      refine ⟨h1, ?_⟩
      simp only [look]
      rw [if_neg (by rw [e]; exact Ne.symm h1)]
      exact h2
    · rename_i e
      simp only [look] at h ⊢
      split at h
      · rename_i e2
        cases h
        exact ⟨fun e3 => e (e2.trans e3), if_pos e2⟩
      · rename_i e2
        obtain ⟨h1, h2⟩ := look_rmR h
        exact ⟨h1, by rw [if_neg e2]; exact h2⟩
abbrev SRF := Nat → (Nat → List AV) → List AV → Option (List Prop × (Nat → AV) × Nat × (Nat → List AV))
def mcSRf (sz : Nat) (ty : TypeId) (r : Nat) (ps : List Prop) : Option (List Prop × (Nat → AV) × Nat × (Nat → List AV)) → Option Eff
  | some (ob, v, N', get') => some ⟨ps ++ nro 3 (v r) :: famNro (famN N' sz ty get' none) :: ob, v r, .many [(r, famN N' sz ty get' none)] none⟩
  | none => none
def mcSRe (sz : Nat) (ty : TypeId) (can : (Nat → List AV) → Nat → List AV) (F : SRF) (r N : Nat) (ps : List Prop) (rest : List AV) : Option Fam → Option Eff
  | some fam => mcSRf sz ty r (ps ++ [fam = famN N sz ty (fam 0).get none, ∀ i, i < N → (fam 0).get i = can (fam 0).get i]) (F N (can (fam 0).get) rest)
  | none => none
noncomputable def mcSR (sz : Nat) (ty : TypeId) (can : (Nat → List AV) → Nat → List AV) (F : SRF) : MCon := fun key m es => match es with
  | .own r 0 N s :: rest => if s = sz then mcSRe sz ty can F r N (rest.flatMap (pgs 3 (rmR r m))) (rest.map (purU 3 (rmR r m))) (look m r) else none
  | _ => none
/-- What the function does to such a slice. -/
def SRSem (P : Program) (f : FuncId) (sz : Nat) (ty : TypeId) (can : (Nat → List AV) → Nat → List AV) (F : SRF) : Prop :=
  ∀ N get rest ob v N' get', F N (can get) rest = some (ob, v, N', get') → (∀ p ∈ ob, p) → ∀ (w0 : Base) (ρ : Env) (D : Nat → Prop) (w : World) (key r : Nat) (vs : List Value), Rel w0 ρ [(r, famN N sz ty (can get) none)] D w → ¬ D key → D r → Rs w ρ [.own r 0 N sz] [vs.headD default] → Rs w (.ext ρ.imm) rest vs.tail → vs.length = rest.length + 1 →
    Invokes P f vs w fun val w' => Post w0 ρ [(r, famN N sz ty (can get) none)] D key ⟨ob, v r, .many [(r, famN N' sz ty get' none)] none⟩ w val w'
theorem MConOK.mcSR {P : Program} {f : FuncId} {sz : Nat} {ty : TypeId} {can : (Nat → List AV) → Nat → List AV} {F : SRF} (h : SRSem P f sz ty can F) : MConOK P f (Ax.mcSR sz ty can F) := by
  intro w0 ρ m m' D w key aas vs e hR hk hm hRs hc hob _
  unfold Ax.mcSR at hc
  split at hc
  · rename_i r N s rest
    split at hc
    · rename_i hsz
      subst hsz
      unfold mcSRe at hc
      split at hc
      · rename_i fam hl0
        unfold mcSRf at hc
        split at hc
        · rename_i ob v N' get' hF
          cases hc
          have hl := hm _ _ hl0
          have hfam : fam = famN N s ty (fam 0).get none := hob _ (by simp)
          have hcan : ∀ i, i < N → (fam 0).get i = can (fam 0).get i := hob _ (by simp)
          have hnv : nro 3 (v r) := hob _ (by simp)
          have hny : famNro (famN N' s ty get' none) := hob _ (by simp)
          have hobr : ∀ p ∈ ob, p := fun p hp => hob p (by simp [hp])
          have hrel := viewR_rel hR hl
          have hrel2 : Rel w0 (ρ.im (vwR ρ m r)) [(r, famN N s ty (can (fam 0).get) none)] D w := by
            have h1 : Rel w0 (ρ.im (vwR ρ m r)) (setRow r fam [(r, fam)]) D w := by
              have e : setRow r fam [(r, fam)] = [(r, fam)] := by simp [setRow]
              rw [e]; exact hrel
            have h2 := h1.alike (y := famN N s ty (can (fam 0).get) none) (fun f => by
              rw [hfam]
              by_cases hf : f = 0
              · subst hf
                refine ⟨rfl, rfl, rfl, rfl, fun i hi => ?_⟩
                have hi : i < N := hi
                exact (hcan i hi).symm
              · simp [famN, hf])
            have e : setRow r (famN N s ty (can (fam 0).get) none) [(r, fam)] = [(r, famN N s ty (can (fam 0).get) none)] := by simp [setRow]
            rw [e] at h2
            exact h2
          obtain ⟨y, ys, rfl, k1, k2⟩ := hRs.inv
          have hDr : D r := hR.key _ _ hl
          have k1' : Rs w (ρ.im (vwR ρ m r)) [.own r 0 N s] [y] := .cons (k1.mono viewR_le (fun _ _ => rfl)) .nil
          have hsub : Rel w0 ρ (rmR r m') D w := hR.sub (fun q z hq => hm q z (look_rmR hq).2) fun _ h => h
          have k2' : Rs w (.ext (vwR ρ m r)) (rest.map (purU 3 (rmR r m'))) ys := purUs_sound (J := vwR ρ m r) hsub (fun b hb => .inl hb) (fun q z f h1 h2 h3 => .inr ⟨q, z, f, (look_rmR h1).1, hm _ _ (look_rmR h1).2, h2, h3, rfl⟩) (fun p hp => hob p (by simp only [List.mem_append]; exact .inl (.inl hp))) k2
          have hlen : (y :: ys).length = (rest.map (purU 3 (rmR r m'))).length + 1 := by rw [List.length_cons, k2'.1]
          refine (h N (fam 0).get _ ob v N' get' hF hobr w0 (ρ.im (vwR ρ m r)) D w key r (y :: ys) hrel2 hk hDr k1' k2' hlen).mono fun val w' hp => ?_
          refine viewR_post hR hl hk hnv hny (ob := ob) ?_
          obtain ⟨ρ3, r1, r2, r3, r4⟩ := hp
          refine ⟨ρ3, r1, ?_, r3, r4⟩
          have e : ∀ z, Upd.app key [(r, z)] (.many [(r, famN N' s ty get' none)] none) = [(r, famN N' s ty get' none)] := fun z => by
            show setRow r _ [(r, z)] = _
            simp [setRow]
          show Rel w0 ρ3 (Upd.app key [(r, fam)] _) _ w'
          have r2 : Rel w0 ρ3 (Upd.app key [(r, famN N s ty (can (fam 0).get) none)] (.many [(r, famN N' s ty get' none)] none)) (fun q => D q ∨ q = key) w' := r2
          rw [e] at r2 ⊢
          exact r2
        · cases hc
      · cases hc
    · cases hc
  · cases hc
section
variable {P : Program} {G : Ctx} {H : Hots} {f : FuncId} {fn : Func}
open Classical in
/-- By a walk of its body. -/
theorem SRSem.of (hG : CtxOK P G) (hf : P.funcs[f]? = some fn) {sz : Nat} {ty : TypeId} {can : (Nat → List AV) → Nat → List AV} {F : SRF}
    (h : ∀ N get rest ob v N' get', F N (can get) rest = some (ob, v, N', get') → (∀ p ∈ ob, p) → ∃ rest0 v0, (∀ w I vs, Rs w (.ext I) rest vs → Rs w (.ext I) rest0 vs) ∧ (∀ a ∈ rest0, clean 3 a = true) ∧ (∀ i, i < N → cleanCs (can get i) = true) ∧ (∀ i, i < N' → cleanCs (get' i) = true) ∧ funcOK P H fn (rest0.length + 1) = true ∧
      (∀ θ r, θ 0 0 = (r, 0) → v r = renA θ 3 v0) ∧ (∀ (g : Nat → Nat → Prop) (B : Nat → Prop), g 0 0 → B 0 → kg g B 3 v0) ∧
      bodyM P G H fn (.own 0 0 N sz :: rest0) [(0, famN N sz ty (can get) none)] 1 fun a m1 => a = v0 ∧ ∃ g'', look m1 0 = some (famN N' sz ty g'' none) ∧ ∀ j, j < N' → g'' j = get' j) : SRSem P f sz ty can F := by
  intro N get rest ob v N' get' hF hob w0 ρ D w key r vs hR hk hDr k1 k2 hlen
  obtain ⟨rest0, v0, hcv, hcl, hc1, hc2, hfn, hv, hkg, hb⟩ := h N get rest ob v N' get' hF hob
  obtain ⟨c, hcdef⟩ : ∃ c : MCon, c = fun key m es => if es = .own r 0 N sz :: rest0 ∧ look m r = some (famN N sz ty (can get) none) then some ⟨[], v r, .many [(r, famN N' sz ty get' none)] none⟩ else none := ⟨_, rfl⟩
  have hok : MConOK P f c := by
    refine MConOK.of (H := H) hG hf fun key m es e hc _ => ?_
    rw [hcdef] at hc
    dsimp only at hc
    split at hc
    · rename_i hh
      obtain ⟨rfl, hl⟩ := hh
      cases hc
      obtain ⟨a1, a2⟩ := cleans_ren (θ := thE [r]) (g := lowG 1) (B := lowB 1) hcl
      have hcl1 : ∀ (n : Nat) (g : Nat → List AV), (∀ i, i < n → cleanCs (g i) = true) → ∀ f j, j < (famN n sz ty g none f).n → ∀ c ∈ (famN n sz ty g none f).get j, cleanC c = true := fun n g hg f j hj c hc => by
        by_cases hf : f = 0
        · subst hf
          exact cleanCs_mem (hg j hj) c hc
        · simp [famN, hf] at hj
      refine ⟨[r], [(0, famN N sz ty (can get) none)], .own 0 0 N sz :: rest0, ⟨by simp, by rw [List.map_cons, a1]; rfl, fun a ha => ?_, fun j hj => ?_, fun q z hq => ?_⟩, hfn, hb.mono fun a m1 ⟨q1, g'', q2, q3⟩ => ?_⟩
      · rcases List.mem_cons.1 ha with rfl | ha
        · exact Nat.zero_lt_one
        · exact a2 a ha
      · have : j = 0 := by simp at hj; omega
        subst this
        exact ⟨_, _, look_one, hl, fun f => ⟨by unfold famN; split <;> rfl, rowRen_clean' (.refl _) (hcl1 N _ hc1 f)⟩⟩
      · by_cases e : q = 0
        · subst e; simp
        · simp [look, Ne.symm e] at hq
      · refine ⟨fun _ => none, fun _ _ => 0, [famN N' sz ty get' none], none, rfl, ⟨fun f r g h => by simp at h, by rw [q1]; exact hv _ _ (by simp [thL]), by rw [q1]; exact hkg _ _ (.inl Nat.zero_lt_one) (.inl Nat.zero_lt_one), rfl, fun j hj => ?_, fun _ => rfl⟩⟩
        have : j = 0 := by simp at hj; omega
        subst this
        refine .inr ⟨_, _, q2, rfl, fun f => ⟨rowRen_clean' ?_ (hcl1 N' _ (fun i hi => by rw [q3 i hi]; exact hc2 i hi) f), by unfold famN; split <;> simp⟩⟩
        refine ⟨by unfold famN; split <;> rfl, by unfold famN; split <;> rfl, by unfold famN; split <;> rfl, by unfold famN; split <;> rfl, fun j hj => ?_⟩
        by_cases hf : f = 0
        · subst hf
          exact (q3 j hj).symm
        · simp [famN, hf]
    · cases hc
  match vs, hlen, k1, k2 with
  | y :: ys, hlen, k1, k2 =>
    have hrs : Rs w ρ (.own r 0 N sz :: rest0) (y :: ys) := by
      obtain ⟨y', ys', e, j1, j2⟩ := k1.inv
      cases e
      exact .cons j1 ((hcv _ _ _ k2).mono ⟨fun _ h => h.elim, fun _ _ h => h.elim, fun _ _ h => h.elim, fun _ h => h⟩ (fun _ _ => rfl))
    refine (hok w0 ρ [(r, famN N sz ty (can get) none)] [(r, famN N sz ty (can get) none)] D w key _ _ ⟨[], v r, .many [(r, famN N' sz ty get' none)] none⟩ hR hk (fun _ _ h => h) hrs (by rw [hcdef]; exact if_pos ⟨rfl, by simp [look]⟩) (fun p hp => by simp at hp) ⟨_, _, rfl⟩).mono fun val w' hp => hp
end
/-! ### For the evaluator -/
section
variable {sz r N key : Nat} {ty : TypeId} {can : (Nat → List AV) → Nat → List AV} {F : SRF} {m : Mem} {rest : List AV} {ps ob : List Prop} {get get' : Nat → List AV} {v : Nat → AV} {N' : Nat}
theorem mcSR_eq : mcSR sz ty can F key m (.own r 0 N sz :: rest) = mcSRe sz ty can F r N (pgsL 3 (rmR r m) rest) (purUL 3 (rmR r m) rest) (look m r) := by
  rw [← purUL_eq, ← pgsL_eq]
  exact if_pos rfl
theorem mcSRe_N : mcSRe sz ty can F r N ps rest (some (famN N sz ty get none)) = mcSRf sz ty r (ps ++ [True, ∀ i, i < N → get i = can get i]) (F N (can get) rest) := by
  show mcSRf sz ty r (ps ++ [famN N sz ty get none = famN N sz ty get none, ∀ i, i < N → get i = can get i]) (F N (can get) rest) = _
  rw [eq_self]
theorem mcSRf_some : mcSRf sz ty r ps (some (ob, v, N', get')) = some ⟨ps ++ nro 3 (v r) :: famNro (famN N' sz ty get' none) :: ob, v r, .many [(r, famN N' sz ty get' none)] none⟩ := (rfl)
theorem rmR_nil : rmR r [] = [] := (rfl)
theorem rmR_cons {k : Nat} {y : Fam} : rmR r ((k, y) :: m) = if k = r then rmR r m else (k, y) :: rmR r m := (rfl)
end
end Go.Ax
end

section
/-
  Deleting from a slice by a closure.
-/
set_option linter.unusedVariables false
set_option linter.unusedSimpArgs false
set_option maxHeartbeats 4000000
set_option maxRecDepth 100000
namespace Go.Ax
open Go.Proofs
attribute [go_sem] rmR_nil rmR_cons Option.toList_none Option.toList_some
def prdf (L : Ents) : Option (Prop × (Int → Int → Int → Int → Bool)) → Option (List Prop × (Int → Bool))
  | some (o, p) => some ([selIn L, o], fun k => !p (selAt (memSel L k) 0) (selAt (memSel L k) 1) (selAt (memSel L k) 2) (selAt (memSel L k) 3))
  | none => none
/-- What a closure says of a number. -/
def prd : AV → Option (List Prop × (Int → Bool))
  | .fn 71 [.rop [.rop [.rm 4 L]], .rop (.v (.int .i64 a) :: l)] => some ([], fun k => decide (selAt (memSel L k) 2 < a))
  | .fn 116 [.rop [B], .rop [.rop [.rm 4 L]]] => prdf L (bpr B)
  | _ => none
def ixS (p : Int → Bool) (n : Nat) (X : Nat → Int) : Int := if lst (fun j => p (X j)) n < n then (lst (fun j => p (X j)) n : Nat) else -1
theorem ix_yes {p : Int → Bool} {n : Nat} {X : Nat → Int} {i : Nat} (hj : ∀ j, j < i → p (X j) = false) (h : (i : Int) < n) (hp : p (X i) = true) : (i : Int) = ixS p n X := by
  have hl : lst (fun j => p (X j)) n = i := lst_eq hj (by omega) hp
  unfold ixS
  rw [hl, if_pos (by omega)]
theorem ix_no {p : Int → Bool} {n : Nat} {X : Nat → Int} {i : Nat} (hi : i ≤ n) (hj : ∀ j, j < i → p (X j) = false) (h : ¬ (i : Int) < n) : -1 = ixS p n X := by
  have hl : lst (fun j => p (X j)) n = n := lst_full fun j h2 => hj j (by omega)
  unfold ixS
  rw [hl, if_neg (by omega)]
theorem ix_next {p : Int → Bool} {X : Nat → Int} {i : Nat} (hj : ∀ j, j < i → p (X j) = false) (hf : p (X i) = false) : ∀ j, j < i + 1 → p (X j) = false := fun j h => by
  by_cases e : j = i
  · rw [e]; exact hf
  · exact hj j (by omega)
def c114f (n : Nat) (X : Nat → Int) (g : Nat → List AV) : Option (List Prop × (Int → Bool)) → Option (List Prop × AV)
  | some (ob, p) => some (ints n g :: (n ≤ 1000) :: ob, i64 (ixS p n X))
  | none => none
def c114 : Con
  | [.ro n 1 g, F] => c114f n (gx g 0) g (prd F)
  | _ => none
theorem con114 : ConOK Tryz.prog 114 c114 := ConOK.go (G := [(71, c71), (116, c116)]) (H := []) (.cons con71 (.cons con116 .nil)) Tryz.func114 fun l ob rr hc hob => by
  unfold c114 at hc
  split at hc
  · rename_i n g F
    unfold c114f at hc
    split at hc
    · rename_i obp p hp
      cases hc
      have h1 : ints n g := hob _ (by simp)
      have h2 : n ≤ 1000 := hob _ (by simp)
      refine ⟨[.ro n 1 fun i => [i64 (gx g 0 i)], F], fun w I vs hR => ?_, by kernel_rfl, fnVC_go (rs := [.tmp 4]) rfl rfl ?_⟩
      · obtain ⟨y, ys, rfl, k1, k2⟩ := hR.inv
        exact .cons (ro_alike (fun i hi => h1 i hi) k1) k2
      obtain ⟨X, hX⟩ : ∃ X : Nat → Int, X = gx g 0 := ⟨_, rfl⟩
      rw [← hX]
      have hob : ∀ x ∈ obp, x := fun x hx => hob x (by simp [hx])
      unfold prd at hp
      split at hp
      · rename_i L a l
        cases hp
        simp only [go_sem]
        obtain ⟨p, hpd⟩ : ∃ p : Int → Bool, p = fun k => decide (selAt (memSel L k) 2 < a) := ⟨_, rfl⟩
        rw [← hpd]
        refine loopN_go (fun (i : Nat) => i ≤ n ∧ ∀ j, j < i → p (X j) = false) (fun i => n - i) (fun i => [(8, i64 i)]) (fun i => []) [] [9, 10, 5, 11, 12, 13, 14, 15, 16, 17, 4, 18, 8] 0 0 (by kernel_rfl) ⟨Nat.zero_le _, fun j hj => by omega⟩ ⟨[], ?_, ?_, ?_, ?_⟩ ?_
        · simp only [go_sem]
        · simp only [go_sem]
        · simp only [go_sem]
        · simp [goodNames, asg]
        rintro i ⟨hi, hj⟩
        simp only [go_sem, c71]
        refine ⟨fun h => ⟨by omega, h, fun z hz => ?_⟩, fun h => ix_no hi hj h⟩
        have hz : z = p (X i) := by rw [hz, hpd]
        refine ⟨fun ht => ix_yes hj h (by rw [← hz]; exact ht), fun hf z1 k1 => ⟨i + 1, ⟨by omega, ix_next hj (by rw [← hz]; exact hf)⟩, by omega, [], by rw [k1, wrap_in (by unfold inR; omega)]; omega, by simp [goodNames, asg]⟩⟩
      · rename_i B L
        unfold prdf at hp
        split at hp
        case h_2 => cases hp
        rename_i o q hB
        cases hp
        have o1 : selIn L := hob _ (by simp)
        have o2 : o := hob _ (by simp)
        simp only [go_sem]
        obtain ⟨p, hpd⟩ : ∃ p : Int → Bool, p = fun k => !q (selAt (memSel L k) 0) (selAt (memSel L k) 1) (selAt (memSel L k) 2) (selAt (memSel L k) 3) := ⟨_, rfl⟩
        rw [← hpd]
        refine loopN_go (fun (i : Nat) => i ≤ n ∧ ∀ j, j < i → p (X j) = false) (fun i => n - i) (fun i => [(8, i64 i)]) (fun i => []) [] [9, 10, 5, 11, 12, 13, 14, 15, 16, 17, 4, 18, 8] 0 0 (by kernel_rfl) ⟨Nat.zero_le _, fun j hj => by omega⟩ ⟨[], ?_, ?_, ?_, ?_⟩ ?_
        · simp only [go_sem]
        · simp only [go_sem]
        · simp only [go_sem]
        · simp [goodNames, asg]
        rintro i ⟨hi, hj⟩
        simp only [go_sem, c71, hB, o1, o2]
        refine ⟨fun h => ⟨by omega, h, fun z hz => ?_⟩, fun h => ix_no hi hj h⟩
        have hz : z = p (X i) := by rw [hz, hpd]
        refine ⟨fun ht => ix_yes hj h (by rw [← hz]; exact ht), fun hf z1 k1 => ⟨i + 1, ⟨by omega, ix_next hj (by rw [← hz]; exact hf)⟩, by omega, [], by rw [k1, wrap_in (by unfold inR; omega)]; omega, by simp [goodNames, asg]⟩⟩
      · cases hp
    · cases hc
  · cases hc
theorem prd_71 {L : Ents} {a : Int} {l : List AV} : prd (.fn 71 [.rop [.rop [.rm 4 L]], .rop (.v (.int .i64 a) :: l)]) = some ([], fun k => decide (selAt (memSel L k) 2 < a)) := (rfl)
theorem prd_116 {L : Ents} {B : AV} : prd (.fn 116 [.rop [B], .rop [.rop [.rm 4 L]]]) = prdf L (bpr B) := (rfl)
theorem prdf_some {L : Ents} {o : Prop} {p : Int → Int → Int → Int → Bool} : prdf L (some (o, p)) = some ([selIn L, o], fun k => !p (selAt (memSel L k) 0) (selAt (memSel L k) 1) (selAt (memSel L k) 2) (selAt (memSel L k) 3)) := (rfl)
theorem c114_eq {n : Nat} {g : Nat → List AV} {F : AV} : c114 [.ro n 1 g, F] = c114f n (gx g 0) g (prd F) := (rfl)
theorem c114f_some {n : Nat} {X : Nat → Int} {g : Nat → List AV} {ob : List Prop} {p : Int → Bool} : c114f n X g (some (ob, p)) = some (ints n g :: (n ≤ 1000) :: ob, i64 (ixS p n X)) := (rfl)
attribute [go_sem] prd_71 prd_116 prdf_some c114_eq c114f_some
/-- What is left of the first i. -/
def flt (p : Int → Bool) (X : Nat → Int) : Nat → List Int
  | 0 => []
  | i + 1 => flt p X i ++ (if p (X i) = true then [] else [X i])
theorem flt_le {p : Int → Bool} {X : Nat → Int} : ∀ i, (flt p X i).length ≤ i
  | 0 => Nat.le_refl _
  | i + 1 => by
    simp only [flt, List.length_append]
    have := flt_le (p := p) (X := X) i
    split <;> simp <;> omega
theorem flt_all {p : Int → Bool} {X : Nat → Int} : ∀ i, (∀ j, j < i → p (X j) = false) → flt p X i = (List.range i).map X
  | 0, _ => rfl
  | i + 1, h => by
    rw [flt, flt_all i fun j hj => h j (by omega), h i (by omega), List.range_succ, List.map_append]
    rfl
def flX (p : Int → Bool) (X : Nat → Int) (N j : Nat) : Int := (flt p X N).getD j 0
theorem flt_len_all {p : Int → Bool} {X : Nat → Int} {i : Nat} (h : ∀ j, j < i → p (X j) = false) : (flt p X i).length = i := by rw [flt_all i h]; simp
theorem flt_get_all {p : Int → Bool} {X : Nat → Int} {i j : Nat} (h : ∀ j, j < i → p (X j) = false) (hj : j < i) : (flt p X i).getD j 0 = X j := by
  rw [flt_all i h, List.getD_eq_getElem?_getD, List.getElem?_map, List.getElem?_range hj]
  rfl
/-- How far the deleting is. -/
def dlOK (p : Int → Bool) (X : Nat → Int) (N : Nat) (x : Nat × (Nat → Int)) : Prop := x.1 ≤ N ∧ (∀ j, j < (flt p X x.1).length → x.2 j = (flt p X x.1).getD j 0) ∧ ∀ j, x.1 ≤ j → x.2 j = X j
theorem dl_first {p : Int → Bool} {X : Nat → Int} {N : Nat} (h : lst (fun j => p (X j)) N < N) : dlOK p X N (lst (fun j => p (X j)) N + 1, X) ∧ (flt p X (lst (fun j => p (X j)) N + 1)).length = lst (fun j => p (X j)) N := by
  have hno : ∀ j, j < lst (fun j => p (X j)) N → p (X j) = false := fun j hj => lst_no (p := fun j => p (X j)) hj
  have hyes : p (X (lst (fun j => p (X j)) N)) = true := lst_yes (p := fun j => p (X j)) h
  have e : flt p X (lst (fun j => p (X j)) N + 1) = flt p X (lst (fun j => p (X j)) N) := by
    rw [flt, hyes]; simp
  refine ⟨⟨h, fun j hj => ?_, fun j hj => rfl⟩, by rw [e, flt_len_all hno]⟩
  rw [e, flt_len_all hno] at hj
  rw [e, flt_get_all hno hj]
theorem dl_skip {p : Int → Bool} {X : Nat → Int} {N i : Nat} {Y : Nat → Int} (h : dlOK p X N (i, Y)) (hi : i < N) (hp : p (X i) = true) : dlOK p X N (i + 1, Y) ∧ (flt p X (i + 1)).length = (flt p X i).length := by
  have e : flt p X (i + 1) = flt p X i := by rw [flt, hp]; simp
  obtain ⟨h1, h2, h3⟩ := h
  exact ⟨⟨hi, by dsimp only; rw [e]; exact h2, fun j hj => h3 j (by have hj : i + 1 ≤ j := hj; show i ≤ j; omega)⟩, by rw [e]⟩
theorem dl_keep {p : Int → Bool} {X : Nat → Int} {N i : Nat} {Y : Nat → Int} (h : dlOK p X N (i, Y)) (hi : i < N) (hp : p (X i) = false) : dlOK p X N (i + 1, fun j => if j = (flt p X i).length then X i else Y j) ∧ (flt p X (i + 1)).length = (flt p X i).length + 1 := by
  have e : flt p X (i + 1) = flt p X i ++ [X i] := by rw [flt, hp]; simp
  obtain ⟨h1, h2, h3⟩ := h
  have hle := flt_le (p := p) (X := X) i
  refine ⟨⟨hi, fun j hj => ?_, fun j hj => ?_⟩, by rw [e]; simp⟩
  · dsimp only at hj ⊢
    rw [e, List.length_append, List.length_singleton] at hj
    rw [e, List.getD_eq_getElem?_getD]
    split
    · rename_i e2
      rw [e2]; simp
    · have h2' := h2 j (show j < (flt p X i).length from by omega)
      dsimp only at h2'
      rw [h2', List.getD_eq_getElem?_getD, List.getElem?_append_left (by omega)]
  · have hj : i + 1 ≤ j := hj
    dsimp only
    rw [if_neg (by omega)]
    exact h3 j (by show i ≤ j; omega)
def canI (g : Nat → List AV) (i : Nat) : List AV := [i64 (gx g 0 i)]
def F70 : SRF := fun N get rest => match rest with
  | [F] => match prd F with
    | some (ob, p) => some ((N ≤ 1000) :: ob, fun r => .own r 0 (flt p (gx get 0) N).length 1, N, fun j => [i64 (flX p (gx get 0) N j)])
    | none => none
  | _ => none
noncomputable def m70 : MCon := mcSR 1 3 canI F70
theorem mon70 : MConOK Tryz.prog 70 m70 := MConOK.mcSR (SRSem.of (G := [(114, c114), (71, c71), (116, c116)]) (H := []) (.cons con114 (.cons con71 (.cons con116 .nil))) Tryz.func70 fun N get rest ob v N' get' hF hob => by
  unfold F70 at hF
  split at hF
  · rename_i F
    split at hF
    · rename_i obp p hp
      cases hF
      have h2 : N ≤ 1000 := hob _ (by simp)
      have hob : ∀ x ∈ obp, x := fun x hx => hob x (by simp [hx])
      obtain ⟨X, hX⟩ : ∃ X : Nat → Int, X = gx get 0 := ⟨_, rfl⟩
      have hcan : gx (canI get) 0 = X := hX.symm
      have hcan2 : canI get = fun i => [i64 (X i)] := by rw [hX]; rfl
      have hcl : clean 3 F = true := by
        unfold prd at hp
        split at hp <;> first | rfl | (simp [clean]; done) | (cases hp)
      rw [hcan, hcan2]
      refine ⟨[F], .own 0 0 (flt p X N).length 1, fun w I vs hR => hR, by simpa using hcl, fun i _ => rfl, fun i _ => rfl, by kernel_rfl, fun θ r h => by simp only [renA, h], fun g B h1 h2 => h1, bodyM_go (rs := [.tmp 4]) rfl rfl ?_⟩
      unfold prd at hp
      split at hp
      · rename_i L a l
        cases hp
        simp only [go_sem, ints_can, gx_int, h2]
        obtain ⟨p, hpd⟩ : ∃ p : Int → Bool, p = fun k => decide (selAt (memSel L k) 2 < a) := ⟨_, rfl⟩
        rw [← hpd]
        intro z hz
        refine ⟨fun h1 => ?_, fun h0 z1 k1 => ?_⟩
        · have hn : ∀ j, j < N → p (X j) = false := fun j hj => by
            have hl : ¬ lst (fun j => p (X j)) N < N := fun hl => by
              have h1 : z = -1 := by simpa using h1
              rw [h1] at hz; unfold ixS at hz; rw [if_pos hl] at hz; omega
            have := lst_le (p := fun j => p (X j)) N
            exact lst_no (p := fun j => p (X j)) (n := N) (by omega)
          rw [flt_len_all hn]
          exact ⟨rfl, _, rfl, fun j hj => by unfold flX; rw [flt_get_all hn hj]⟩
        have hl : lst (fun j => p (X j)) N < N := Classical.byContradiction fun hl => by
          unfold ixS at hz; rw [if_neg hl] at hz
          rw [hz] at h0; cases h0
        obtain ⟨d1, d2⟩ := dl_first hl
        have hz : z = (lst (fun j => p (X j)) N : Nat) := by unfold ixS at hz; rw [if_pos hl] at hz; exact hz
        have k1 : z1 = ((lst (fun j => p (X j)) N + 1 : Nat) : Int) := by rw [k1, hz, wrap_in (by unfold inR; omega)]; omega
        subst k1
        rw [← d2] at hz
        subst hz
        clear h0
        generalize lst (fun j => p (X j)) N + 1 = i0 at d1 d2
        refine loopN_go (dlOK p X N) (fun x => N - x.1) (fun x => [(6, i64 (x.1 : Int)), (5, i64 ((flt p X x.1).length : Int))]) (fun x => [(0, famN N 1 3 (fun j => [i64 (x.2 j)]) none)]) [] [16, 17, 18, 19, 22, 23, 24, 25, 7, 26, 27, 28, 29, 30, 31, 32, 33, 34, 35, 5, 20, 21, 6] 0 (i0, X) (by kernel_rfl) d1 ⟨[], ?_, ?_, ?_, ?_⟩ ?_
        · simp only [go_sem]
        · simp only [go_sem]; exact fun _ _ => trivial
        · simp only [go_sem]
        · simp [goodNames, asg]
        rintro ⟨i, Y⟩ hx
        obtain ⟨g1, g2, g3⟩ := hx
        have hle := flt_le (p := p) (X := X) i
        have g3' := g3 i (Nat.le_refl _)
        dsimp only at g1 g2 g3 g3' ⊢
        simp only [go_sem, c71, ints_can, gx_int, h2, g3']
        refine ⟨fun h => ⟨by omega, h, by omega, fun z hz => ?_⟩, fun h => ?_⟩
        · have hz : z = p (X i) := by rw [hz, hpd]
          refine ⟨fun hf => ⟨by omega, by omega, by omega, fun z1 k1 z2 k2 => ?_⟩, fun ht z1 k1 => ?_⟩
          · obtain ⟨d3, d4⟩ := dl_keep (N := N) ⟨g1, g2, g3⟩ (by omega) (by rw [← hz]; exact hf)
            refine ⟨_, d3, by show N - (i + 1) < N - i; omega, [], ⟨?_, ?_⟩, ?_, ?_⟩
            · rw [k2, wrap_in (by unfold inR; omega)]; show (i : Int) + 1 = ((i + 1 : Nat) : Int); omega
            · rw [k1, wrap_in (by unfold inR; omega)]; show _ = (((flt p X (i + 1)).length : Nat) : Int); rw [d4]; omega
            · simp only [go_sem]
              intro q hq
              split <;> simp only [go_sem]
            · simp [goodNames, asg]
          · obtain ⟨d3, d4⟩ := dl_skip (N := N) ⟨g1, g2, g3⟩ (by omega) (by rw [← hz]; exact ht)
            refine ⟨_, d3, by show N - (i + 1) < N - i; omega, [], ⟨?_, ?_⟩, ?_, ?_⟩
            · rw [k1, wrap_in (by unfold inR; omega)]; show (i : Int) + 1 = ((i + 1 : Nat) : Int); omega
            · show _ = (((flt p X (i + 1)).length : Nat) : Int); rw [d4]
            · simp only [go_sem]
              exact fun _ _ => trivial
            · simp [goodNames, asg]
        · have e : i = N := by omega
          subst e
          refine ⟨by omega, by omega, by omega, by omega, by omega, ?_, _, rfl, fun j hj => ?_⟩
          · rw [show ((flt p X i).length - 0 : Int).toNat = (flt p X i).length by omega]
          · unfold flX
            by_cases hlt : j < (flt p X i).length
            · rw [if_neg (by omega), g2 j hlt]
            · rw [if_pos (by omega), List.getD_eq_getElem?_getD, List.getElem?_eq_none (by omega)]
              rfl
      · rename_i B L
        unfold prdf at hp
        split at hp
        case h_2 => cases hp
        rename_i o q hB
        cases hp
        have o1 : selIn L := hob _ (by simp)
        have o2 : o := hob _ (by simp)
        simp only [go_sem, hB, o1, o2, ints_can, gx_int, h2]
        obtain ⟨p, hpd⟩ : ∃ p : Int → Bool, p = fun k => !q (selAt (memSel L k) 0) (selAt (memSel L k) 1) (selAt (memSel L k) 2) (selAt (memSel L k) 3) := ⟨_, rfl⟩
        rw [← hpd]
        intro z hz
        refine ⟨fun h1 => ?_, fun h0 z1 k1 => ?_⟩
        · have hn : ∀ j, j < N → p (X j) = false := fun j hj => by
            have hl : ¬ lst (fun j => p (X j)) N < N := fun hl => by
              have h1 : z = -1 := by simpa using h1
              rw [h1] at hz; unfold ixS at hz; rw [if_pos hl] at hz; omega
            have := lst_le (p := fun j => p (X j)) N
            exact lst_no (p := fun j => p (X j)) (n := N) (by omega)
          rw [flt_len_all hn]
          exact ⟨rfl, _, rfl, fun j hj => by unfold flX; rw [flt_get_all hn hj]⟩
        have hl : lst (fun j => p (X j)) N < N := Classical.byContradiction fun hl => by
          unfold ixS at hz; rw [if_neg hl] at hz
          rw [hz] at h0; cases h0
        obtain ⟨d1, d2⟩ := dl_first hl
        have hz : z = (lst (fun j => p (X j)) N : Nat) := by unfold ixS at hz; rw [if_pos hl] at hz; exact hz
        have k1 : z1 = ((lst (fun j => p (X j)) N + 1 : Nat) : Int) := by rw [k1, hz, wrap_in (by unfold inR; omega)]; omega
        subst k1
        rw [← d2] at hz
        subst hz
        clear h0
        generalize lst (fun j => p (X j)) N + 1 = i0 at d1 d2
        refine loopN_go (dlOK p X N) (fun x => N - x.1) (fun x => [(6, i64 (x.1 : Int)), (5, i64 ((flt p X x.1).length : Int))]) (fun x => [(0, famN N 1 3 (fun j => [i64 (x.2 j)]) none)]) [] [16, 17, 18, 19, 22, 23, 24, 25, 7, 26, 27, 28, 29, 30, 31, 32, 33, 34, 35, 5, 20, 21, 6] 0 (i0, X) (by kernel_rfl) d1 ⟨[], ?_, ?_, ?_, ?_⟩ ?_
        · simp only [go_sem]
        · simp only [go_sem]; exact fun _ _ => trivial
        · simp only [go_sem]
        · simp [goodNames, asg]
        rintro ⟨i, Y⟩ hx
        obtain ⟨g1, g2, g3⟩ := hx
        have hle := flt_le (p := p) (X := X) i
        have g3' := g3 i (Nat.le_refl _)
        dsimp only at g1 g2 g3 g3' ⊢
        simp only [go_sem, c71, hB, ints_can, gx_int, h2, g3', o1, o2]
        refine ⟨fun h => ⟨by omega, h, by omega, fun z hz => ?_⟩, fun h => ?_⟩
        · have hz : z = p (X i) := by rw [hz, hpd]
          refine ⟨fun hf => ⟨by omega, by omega, by omega, fun z1 k1 z2 k2 => ?_⟩, fun ht z1 k1 => ?_⟩
          · obtain ⟨d3, d4⟩ := dl_keep (N := N) ⟨g1, g2, g3⟩ (by omega) (by rw [← hz]; exact hf)
            refine ⟨_, d3, by show N - (i + 1) < N - i; omega, [], ⟨?_, ?_⟩, ?_, ?_⟩
            · rw [k2, wrap_in (by unfold inR; omega)]; show (i : Int) + 1 = ((i + 1 : Nat) : Int); omega
            · rw [k1, wrap_in (by unfold inR; omega)]; show _ = (((flt p X (i + 1)).length : Nat) : Int); rw [d4]; omega
            · simp only [go_sem]
              intro q hq
              split <;> simp only [go_sem]
            · simp [goodNames, asg]
          · obtain ⟨d3, d4⟩ := dl_skip (N := N) ⟨g1, g2, g3⟩ (by omega) (by rw [← hz]; exact ht)
            refine ⟨_, d3, by show N - (i + 1) < N - i; omega, [], ⟨?_, ?_⟩, ?_, ?_⟩
            · rw [k1, wrap_in (by unfold inR; omega)]; show (i : Int) + 1 = ((i + 1 : Nat) : Int); omega
            · show _ = (((flt p X (i + 1)).length : Nat) : Int); rw [d4]
            · simp only [go_sem]
              exact fun _ _ => trivial
            · simp [goodNames, asg]
        · have e : i = N := by omega
          subst e
          refine ⟨by omega, by omega, by omega, by omega, by omega, ?_, _, rfl, fun j hj => ?_⟩
          · rw [show ((flt p X i).length - 0 : Int).toNat = (flt p X i).length by omega]
          · unfold flX
            by_cases hlt : j < (flt p X i).length
            · rw [if_neg (by omega), g2 j hlt]
            · rw [if_pos (by omega), List.getD_eq_getElem?_getD, List.getElem?_eq_none (by omega)]
              rfl
      · cases hp
    · cases hF
  · cases hF)
end Go.Ax
end

section
/-
  The sweep's queries.
-/
set_option linter.unusedVariables false
set_option linter.unusedSimpArgs false
set_option maxHeartbeats 4000000
set_option maxRecDepth 100000
namespace Go.Ax
open Go.Proofs
theorem flt_filter {p : Int → Bool} {l : List Int} : ∀ i, i ≤ l.length → flt p (fun j => l.getD j 0) i = (l.take i).filter fun k => !p k
  | 0, _ => by simp [flt]
  | i + 1, h => by
    rw [flt, flt_filter i (by omega), List.take_add_one, List.filter_append, List.getElem?_eq_getElem (by omega)]
    congr 1
    have e : l.getD i 0 = l[i] := by rw [List.getD_eq_getElem?_getD, List.getElem?_eq_getElem (by omega)]; rfl
    rw [e]
    cases hp : p l[i] <;> simp [hp]
theorem flt_len {p : Int → Bool} {l : List Int} : flt p (fun j => l.getD j 0) l.length = l.filter fun k => !p k := by
  rw [flt_filter _ (Nat.le_refl _), List.take_length]
/-- The ids whose boxes are seen. -/
def seenL (L : Ents) (p : Int → Int → Int → Int → Bool) : List Int := (srtK L).filter fun k => p (selAt (memSel L k) 0) (selAt (memSel L k) 1) (selAt (memSel L k) 2) (selAt (memSel L k) 3)
theorem famNro_ints {n : Nat} {ty : TypeId} {X : Nat → Int} {g : Option Bool} : famNro (famN n 1 ty (fun j => [i64 (X j)]) g) = True := eq_true fun f j hj c hc => by
  match f with
  | 0 =>
    have hc : c ∈ [i64 (X j)] := hc
    simp only [List.mem_cons, List.not_mem_nil, or_false] at hc
    subst hc; trivial
  | f + 1 => have hj : j < 0 := hj; omega
theorem nro_own {d r f n sz : Nat} : nro d (.own r f n sz) = True := by cases d <;> rfl
theorem canI_eq {X : Nat → Int} : canI (fun i => [i64 (X i)]) = fun i => [i64 (X i)] := (rfl)
def F70f (N : Nat) (X : Nat → Int) : Option (List Prop × (Int → Bool)) → Option (List Prop × (Nat → AV) × Nat × (Nat → List AV))
  | some (ob, p) => some ((N ≤ 1000) :: ob, fun r => .own r 0 (flt p X N).length 1, N, fun j => [i64 (flX p X N j)])
  | none => none
theorem F70_some {N : Nat} {X : Nat → Int} {F : AV} : F70 N (fun i => [i64 (X i)]) [F] = F70f N X (prd F) := by
  unfold F70 F70f
  dsimp only
  cases prd F <;> rfl
theorem F70f_some {N : Nat} {X : Nat → Int} {ob : List Prop} {p : Int → Bool} : F70f N X (some (ob, p)) = some ((N ≤ 1000) :: ob, fun r => .own r 0 (flt p X N).length 1, N, fun j => [i64 (flX p X N j)]) := (rfl)
attribute [go_sem] famNro_ints nro_own canI_eq F70_some F70f_some mcSR_eq mcSRe_N mcSRf_some
theorem fltS {L : Ents} {p : Int → Int → Int → Int → Bool} : flt (fun k => !p (selAt (memSel L k) 0) (selAt (memSel L k) 1) (selAt (memSel L k) 2) (selAt (memSel L k) 3)) (fun i => (srtK L).getD i 0) L.length = seenL L p := by
  rw [← srtK_len, flt_len]
  unfold seenL
  congr 1
  funext k
  exact Bool.not_not _
theorem flXS {L : Ents} {p : Int → Int → Int → Int → Bool} {j : Nat} : flX (fun k => !p (selAt (memSel L k) 0) (selAt (memSel L k) 1) (selAt (memSel L k) 2) (selAt (memSel L k) 3)) (fun i => (srtK L).getD i 0) L.length j = (seenL L p).getD j 0 := by
  unfold flX; rw [fltS]
theorem seenL_le {L : Ents} {p : Int → Int → Int → Int → Bool} : (seenL L p).length ≤ L.length := by
  rw [← srtK_len]
  exact List.length_filter_le _ _
theorem newN2 {key N r n n' sz : Nat} {ty : TypeId} {get get' : Nat → List AV} {m1 : Mem} (h : look m1 r = some (famN n sz ty get none)) (hN : N ≤ r) (hc : ∀ j, j < n → get' j = get j ∧ ∀ c ∈ get j, clean 3 c = true) : NewP key N (.own r 0 n' sz) m1 (.own key 0 n' sz) (some (famN n sz ty get' none)) := by
  refine newP_list [(r, 0)] (by simp) (by simp [hN]) (.inr (by simp [ixP, sgP])) (fun ks hks => ?_) (fun ks hks f r' g hf => ?_) (fun f hf => ?_)
  · show AV.own key 0 n' sz = AV.own (thL ks key (ixP [(r, 0)]) r 0).1 (thL ks key (ixP [(r, 0)]) r 0).2 n' sz
    simp only [thL]
    rw [if_neg (by omega)]
    simp [ixP]
  · match f, hf with
    | 0, hf =>
      cases hf
      refine ⟨_, h, ⟨rfl, rfl, rfl, rfl, fun j hj => ?_⟩, by simp [famN]⟩
      obtain ⟨h1, h2⟩ := hc j hj
      obtain ⟨k1, k2⟩ := cleans_ren (θ := thL ks key (ixP [(r, 0)])) (g := newG N (sgP [(r, 0)]) (ixP [(r, 0)])) (B := newB N (sgP [(r, 0)])) h2
      exact ⟨by show get' j = (get j).map _; rw [h1, k1], k2⟩
    | f + 1, hf => simp at hf
  · match f, hf with
    | f + 1, _ => rfl
theorem int_clean {z : Int} : ∀ c ∈ [i64 z], clean 3 c = true := fun c hc => by
  simp only [List.mem_cons, List.not_mem_nil, or_false] at hc
  subst hc; rfl
def F76f (L : Ents) : Option (Prop × (Int → Int → Int → Int → Bool)) → Option (List Prop × (Nat → AV) × (Nat → Option Fam))
  | some (o, p) => some ([selIn L, L.length ≤ 1000, o], fun k => .own k 0 (seenL L p).length 1, fun k => some (famN L.length 1 3 (fun j => [i64 ((seenL L p).getD j 0)]) none))
  | none => none
def F76 : List AV → Option (List Prop × (Nat → AV) × (Nat → Option Fam))
  | [.rop [.rm 4 L], B] => F76f L (bpr B)
  | _ => none
noncomputable def mN76 : MCon := mcKU F76
theorem mN76_eq : mN76 = mcKU F76 := (rfl)
theorem F76_eq {L : Ents} {B : AV} : F76 [.rop [.rm 4 L], B] = F76f L (bpr B) := (rfl)
theorem F76f_some {L : Ents} {o : Prop} {p : Int → Int → Int → Int → Bool} : F76f L (some (o, p)) = some ([selIn L, L.length ≤ 1000, o], fun k => .own k 0 (seenL L p).length 1, fun k => some (famN L.length 1 3 (fun j => [i64 ((seenL L p).getD j 0)]) none)) := (rfl)
attribute [go_sem] mN76_eq F76_eq F76f_some
theorem mon76 : MConOK Tryz.prog 76 mN76 := MConOK.mkU (G := [(59, .wr mN59), (116, c116), (70, .wr m70)]) (H := []) (.mcons mon59 (.cons con116 (.mcons mon70 .nil))) Tryz.func76 fun es ob v nw hF hob => by
  unfold F76 at hF
  split at hF
  · rename_i L B
    unfold F76f at hF
    split at hF
    · rename_i o p hp
      cases hF
      have h1 : selIn L := hob _ (by simp)
      have h2 : L.length ≤ 1000 := hob _ (by simp)
      have ho : o := hob _ (by simp)
      unfold bpr at hp
      split at hp
      · cases hp
        obtain ⟨o2, o3, o4, o5⟩ := ho
        rename_i a b c d
        refine ⟨_, fun w I vs hR => hR, by simp [clean], by kernel_rfl, fun key => bodyM_go (rs := [.tmp 4]) rfl rfl ?_⟩
        simp only [go_sem, c116, m70, m70, h1, h2, o2, o3, o4, o5]
        rw [fltS (p := fun x y z t => meetsS x y z t a b c d)]
        refine ⟨fun _ _ => trivial, newN2 rfl (Nat.zero_le _) fun i hi => ⟨?_, int_clean⟩⟩
        rw [flXS (p := fun x y z t => meetsS x y z t a b c d)]
      · cases hp
        obtain ⟨o2, o3, o4, o5⟩ := ho
        rename_i a b c d
        refine ⟨_, fun w I vs hR => hR, by simp [clean], by kernel_rfl, fun key => bodyM_go (rs := [.tmp 4]) rfl rfl ?_⟩
        simp only [go_sem, c116, m70, m70, h1, h2, o2, o3, o4, o5]
        rw [fltS (p := fun x y z t => alS x y z t a b c d)]
        refine ⟨fun _ _ => trivial, newN2 rfl (Nat.zero_le _) fun i hi => ⟨?_, int_clean⟩⟩
        rw [flXS (p := fun x y z t => alS x y z t a b c d)]
      · cases hp
    · cases hF
  · cases hF
def F50 : List AV → Option (List Prop × (Nat → AV) × (Nat → Option Fam))
  | [.rop [.rm 4 L], .agg [.v (.int .i64 a), .v (.int .i64 b), .v (.int .i64 c), .v (.int .i64 d)]] => some ([selIn L, L.length ≤ 1000, inR a, inR b, inR c, inR d], fun k => .own k 0 (seenL L fun x y z t => meetsS x y z t a b c d).length 1, fun k => some (famN L.length 1 3 (fun j => [i64 ((seenL L fun x y z t => meetsS x y z t a b c d).getD j 0)]) none))
  | _ => none
noncomputable def mN50 : MCon := mcKU F50
theorem mN50_eq : mN50 = mcKU F50 := (rfl)
theorem F50_eq {L : Ents} {a b c d : Int} : F50 [.rop [.rm 4 L], .agg [.v (.int .i64 a), .v (.int .i64 b), .v (.int .i64 c), .v (.int .i64 d)]] = some ([selIn L, L.length ≤ 1000, inR a, inR b, inR c, inR d], fun k => .own k 0 (seenL L fun x y z t => meetsS x y z t a b c d).length 1, fun k => some (famN L.length 1 3 (fun j => [i64 ((seenL L fun x y z t => meetsS x y z t a b c d).getD j 0)]) none)) := (rfl)
attribute [go_sem] mN50_eq F50_eq
theorem mon50 : MConOK Tryz.prog 50 mN50 := MConOK.mkU (G := [(102, c102), (76, .wr mN76)]) (H := []) (.cons con102 (.mcons mon76 .nil)) Tryz.func50 fun es ob v nw hF hob => by
  unfold F50 at hF
  split at hF
  · rename_i L a b c d
    cases hF
    have h1 : selIn L := hob _ (by simp)
    have h2 : L.length ≤ 1000 := hob _ (by simp)
    have o2 : inR a := hob _ (by simp)
    have o3 : inR b := hob _ (by simp)
    have o4 : inR c := hob _ (by simp)
    have o5 : inR d := hob _ (by simp)
    refine ⟨_, fun w I vs hR => hR, by simp [clean], by kernel_rfl, fun key => bodyM_go (rs := [.tmp 4]) rfl rfl ?_⟩
    simp only [go_sem, c102, h1, h2, o2, o3, o4, o5]
    exact newN2 rfl (Nat.zero_le _) fun i hi => ⟨rfl, int_clean⟩
  · cases hF
def F24 : List AV → Option (List Prop × (Nat → AV) × (Nat → Option Fam))
  | [.rop [.rm 4 L], .agg [.v (.int .i64 a), .v (.int .i64 b)], .agg [.v (.int .i64 c), .v (.int .i64 d)]] => some ([selIn L, L.length ≤ 1000, inR a, inR b, inR c, inR d], fun k => .own k 0 (seenL L fun x y z t => alS x y z t a b c d).length 1, fun k => some (famN L.length 1 3 (fun j => [i64 ((seenL L fun x y z t => alS x y z t a b c d).getD j 0)]) none))
  | _ => none
noncomputable def mN24 : MCon := mcKU F24
theorem mN24_eq : mN24 = mcKU F24 := (rfl)
theorem F24_eq {L : Ents} {a b c d : Int} : F24 [.rop [.rm 4 L], .agg [.v (.int .i64 a), .v (.int .i64 b)], .agg [.v (.int .i64 c), .v (.int .i64 d)]] = some ([selIn L, L.length ≤ 1000, inR a, inR b, inR c, inR d], fun k => .own k 0 (seenL L fun x y z t => alS x y z t a b c d).length 1, fun k => some (famN L.length 1 3 (fun j => [i64 ((seenL L fun x y z t => alS x y z t a b c d).getD j 0)]) none)) := (rfl)
attribute [go_sem] mN24_eq F24_eq
theorem mon24 : MConOK Tryz.prog 24 mN24 := MConOK.mkU (G := [(77, c77), (76, .wr mN76)]) (H := []) (.cons con77 (.mcons mon76 .nil)) Tryz.func24 fun es ob v nw hF hob => by
  unfold F24 at hF
  split at hF
  · rename_i L a b c d
    cases hF
    have h1 : selIn L := hob _ (by simp)
    have h2 : L.length ≤ 1000 := hob _ (by simp)
    have o2 : inR a := hob _ (by simp)
    have o3 : inR b := hob _ (by simp)
    have o4 : inR c := hob _ (by simp)
    have o5 : inR d := hob _ (by simp)
    refine ⟨_, fun w I vs hR => hR, by simp [clean], by kernel_rfl, fun key => bodyM_go (rs := [.tmp 6]) rfl rfl ?_⟩
    simp only [go_sem, c77, h1, h2, o2, o3, o4, o5]
    exact newN2 rfl (Nat.zero_le _) fun i hi => ⟨rfl, int_clean⟩
  · cases hF
end Go.Ax
end

section
/-
  Along a run of the machine the number of draws does not fall.
-/
set_option linter.unusedSimpArgs false
set_option linter.unusedVariables false
namespace Go.Mono
open Go
def RLe {α : Type} (d : Nat) : Result α → Prop
  | .ok _ w => d ≤ w.drawn
  | .halt _ w => d ≤ w.drawn
theorem RLe.mono {α : Type} {d d' : Nat} {r : Result α} (h : RLe d' r) (hd : d ≤ d') : RLe d r := by
  cases r <;> exact Nat.le_trans hd h
theorem ask_le {α : Type} : ∀ (a : Ask α) (w : World), w.drawn ≤ (w.ask a).2.drawn
  | .done a, w => Nat.le_refl _
  | .ask what range k, w => by
    unfold World.ask
    dsimp only
    split
    · exact ask_le _ w
    · exact Nat.le_trans (Nat.le_succ _) (ask_le _ { w with drawn := w.drawn + 1 })
theorem sys_le (w : World) (c : Sys) : w.drawn ≤ (w.sys c).2.drawn := by
  unfold World.sys
  have h := ask_le (Kernel.perform c w.os) w
  split
  · exact Nat.le_refl _
  · rename_i h2; rw [h2] at h; exact h
theorem viewStore_dr {p : Program} {w w' : World} {at_ : Addr} {u : TypeId} {k : Addr} {v : Value} {atomic : Bool} {l : List Addr} (h : w.viewStore p at_ u k v atomic = .ok (w', l)) : w'.drawn = w.drawn := by
  unfold World.viewStore at h
  simp only [bind, Except.bind, pure, Except.pure, throw, throwThe, MonadExceptOf.throw] at h
  repeat' split at h
  all_goals first | (cases h; rfl) | (cases h)
theorem farStore_dr {p : Program} {w w' : World} {a : Addr} {v : Value} {atomic : Bool} {l : List Addr} (h : w.farStore p a v atomic = .ok (w', l)) : w'.drawn = w.drawn := by
  unfold World.farStore at h
  split at h
  · split at h
    · rename_i r h2; cases h; exact viewStore_dr h2
    · cases h
  · cases h
theorem freeze_dr (w : World) (a : Addr) (n : Nat) : (w.freeze a n).drawn = w.drawn := by
  unfold World.freeze; split <;> rfl
theorem run_le {α : Type} (p : Program) : ∀ (s : Sem α) (w : World), RLe w.drawn (s.run p w)
  | .pure a, w => Nat.le_refl _
  | .load m a k, w => by
    unfold Sem.run
    split
    · exact run_le p _ w
    · split
      · exact run_le p _ w
      · exact Nat.le_refl _
  | .store m a v k, w => by
    cases v
    all_goals first
      | exact Nat.le_refl _
      | (simp only [Sem.run]
         split
         · split
           · exact Nat.le_refl _
           · exact run_le p k (w.setCell a _)
         · split
           · rename_i w' l h
             exact (run_le p k w').mono (by rw [farStore_dr h]; exact Nat.le_refl _)
           · exact Nat.le_refl _)
  | .new o k, w => by
    unfold Sem.run
    exact run_le p _ { w with heap := w.heap.push o }
  | .shape r k, w => by
    unfold Sem.run
    exact run_le p _ w
  | .freeze a n k, w => by
    unfold Sem.run
    exact (run_le p k (w.freeze a n)).mono (by rw [freeze_dr]; exact Nat.le_refl _)
  | .frozen a k, w => by
    unfold Sem.run
    exact run_le p _ w
  | .getObj r k, w => by
    unfold Sem.run
    split
    · exact Nat.le_refl _
    · exact run_le p _ w
    · exact Nat.le_refl _
  | .setObj r o k, w => by
    unfold Sem.run
    split
    · exact Nat.le_refl _
    · exact run_le p k { w with heap := w.heap.setIfInBounds r o }
    · exact Nat.le_refl _
  | .choose q k, w => by
    unfold Sem.run
    split
    · exact run_le p _ w
    · exact (run_le p _ { w with drawn := w.drawn + 1 }).mono (Nat.le_succ _)
  | .sys c k, w => by
    unfold Sem.run
    exact (run_le p _ (w.sys c).2).mono (sys_le w c)
  | .program k, w => by
    unfold Sem.run
    exact run_le p _ w
  | .mark m k, w => by
    unfold Sem.run
    exact run_le p k w
  | .halt h, w => Nat.le_refl _
theorem runT_le {α : Type} (p : Program) : ∀ (s : Sem α) (w : World) (es : Array Event), RLe w.drawn (s.runT p w es).1
  | .pure a, w, es => Nat.le_refl _
  | .load m a k, w, es => by
    unfold Sem.runT
    split
    · exact runT_le p _ w _
    · split
      · exact runT_le p _ w _
      · exact Nat.le_refl _
  | .store m a v k, w, es => by
    cases v
    all_goals first
      | exact Nat.le_refl _
      | (simp only [Sem.runT]
         split
         · split
           · exact Nat.le_refl _
           · exact runT_le p k (w.setCell a _) _
         · split
           · rename_i w' l h
             exact (runT_le p k w' _).mono (by rw [farStore_dr h]; exact Nat.le_refl _)
           · exact Nat.le_refl _)
  | .new o k, w, es => by
    unfold Sem.runT
    exact runT_le p _ { w with heap := w.heap.push o } _
  | .shape r k, w, es => by
    unfold Sem.runT
    exact runT_le p _ w _
  | .freeze a n k, w, es => by
    unfold Sem.runT
    exact (runT_le p k (w.freeze a n) _).mono (by rw [freeze_dr]; exact Nat.le_refl _)
  | .frozen a k, w, es => by
    unfold Sem.runT
    exact runT_le p _ w _
  | .getObj r k, w, es => by
    unfold Sem.runT
    split
    · exact Nat.le_refl _
    · exact runT_le p _ w _
    · exact Nat.le_refl _
  | .setObj r o k, w, es => by
    unfold Sem.runT
    split
    · exact Nat.le_refl _
    · exact runT_le p k { w with heap := w.heap.setIfInBounds r o } _
    · exact Nat.le_refl _
  | .choose q k, w, es => by
    unfold Sem.runT
    split
    · exact runT_le p _ w _
    · exact (runT_le p _ { w with drawn := w.drawn + 1 } _).mono (Nat.le_succ _)
  | .sys c k, w, es => by
    unfold Sem.runT
    exact (runT_le p _ (w.sys c).2 _).mono (sys_le w c)
  | .program k, w, es => by
    unfold Sem.runT
    exact runT_le p _ w _
  | .mark m k, w, es => by
    unfold Sem.runT
    exact runT_le p k w _
  | .halt h, w, es => Nat.le_refl _
theorem run_ok {α : Type} {p : Program} {s : Sem α} {w w' : World} {v : α} (h : s.run p w = .ok v w') : w.drawn ≤ w'.drawn := by
  have := run_le p s w; rw [h] at this; exact this
theorem run_halt {α : Type} {p : Program} {s : Sem α} {w w' : World} {v : Halt} (h : s.run p w = .halt v w') : w.drawn ≤ w'.drawn := by
  have := run_le p s w; rw [h] at this; exact this
def GLe (d : Nat) : GStep → Prop
  | .go _ w _ => d ≤ w.drawn
  | .comm _ _ _ _ w _ => d ≤ w.drawn
  | .spawn _ _ w _ => d ≤ w.drawn
  | .count _ w _ => d ≤ w.drawn
  | .timer _ _ w _ => d ≤ w.drawn
  | .alone _ _ w _ => d ≤ w.drawn
  | .newcoro _ _ _ w _ => d ≤ w.drawn
  | .coroswitch _ _ _ w _ => d ≤ w.drawn
  | .collect _ w _ => d ≤ w.drawn
  | .watch _ w _ => d ≤ w.drawn
  | .ended _ _ _ => True
theorem GLe.after {d : Nat} {es : Array Event} {g : GStep} (h : GLe d g) : GLe d (GStep.after es g) := by
  cases g <;> exact h
theorem GLe.mono {d d' : Nat} {g : GStep} (h : GLe d' g) (hd : d ≤ d') : GLe d g := by
  cases g <;> first | exact trivial | exact Nat.le_trans hd h
theorem endWith_le {w : World} {fd : Nat} {t : ByteArray} {o : Outcome} {d : Nat} : GLe d (endWith w fd t o) := by
  unfold endWith
  dsimp only
  repeat' split
  all_goals exact trivial
theorem dieOf_le {fr : Frame} {l : List ByteArray} {m : String} {b : Bool} {w : World} : GLe w.drawn (dieOf fr l m b w) := Nat.le_refl _
theorem endThrow_le {fr : Frame} {m : String} {w : World} : GLe w.drawn (endThrow fr m w) := Nat.le_refl _
theorem endPrinting_le {p : Program} {fr : Frame} {v : Value} {w : World} : GLe w.drawn (endPrinting p fr v w) := by
  unfold endPrinting
  dsimp only
  split
  · exact endThrow_le
  · exact trivial
theorem endFatal_le {p : Program} {fr : Frame} {cs : List Frame} {dy : Option Dying} {m : String} {w : World} : GLe w.drawn (endFatal p fr cs dy m w) := by
  unfold endFatal
  dsimp only
  split
  · rename_i h
    exact dieOf_le.mono (run_ok h)
  · exact trivial
  · exact trivial
theorem runT_ok {α : Type} {p : Program} {s : Sem α} {w w' : World} {v : α} {es es' : Array Event} (h : s.runT p w es = (.ok v w', es')) : w.drawn ≤ w'.drawn := by
  have := runT_le p s w es; rw [h] at this; exact this
theorem runT_halt {α : Type} {p : Program} {s : Sem α} {w w' : World} {v : Halt} {es es' : Array Event} (h : s.runT p w es = (.halt v w', es')) : w.drawn ≤ w'.drawn := by
  have := runT_le p s w es; rw [h] at this; exact this
theorem runT_ok1 {α : Type} {p : Program} {s : Sem α} {w w' : World} {v : α} {es : Array Event} (h : (s.runT p w es).1 = .ok v w') : w.drawn ≤ w'.drawn := by
  have := runT_le p s w es; rw [h] at this; exact this
theorem runT_halt1 {α : Type} {p : Program} {s : Sem α} {w w' : World} {v : Halt} {es : Array Event} (h : (s.runT p w es).1 = .halt v w') : w.drawn ≤ w'.drawn := by
  have := runT_le p s w es; rw [h] at this; exact this
theorem writeOn_le {p : Program} {fr : Frame} {d : Dying} {f : Fatal} {w : World} : GLe w.drawn (writeOn p fr d f w) := by
  unfold writeOn
  dsimp only
  split
  · exact trivial
  · split
    · rename_i h; exact runT_ok h
    · rename_i h; exact runT_halt h
    · exact trivial
    · exact trivial
theorem die_le {p : Program} {fr : Frame} {d : Dying} {w : World} : GLe w.drawn (die p fr d w) := by
  unfold die
  split
  · exact writeOn_le
  · split
    · split
      · exact Nat.le_refl _
      · exact endWith_le
    · dsimp only
      split
      · exact Nat.le_refl _
      · split
        · rename_i h; exact run_ok h
        · exact trivial
      · refine GLe.after ?_
        split
        · rename_i h; exact runT_ok1 h
        · rename_i h; exact runT_ok1 h
        · exact trivial
        · rename_i h; exact endPrinting_le.mono (runT_halt1 h)
        · exact trivial
      · exact trivial
theorem doReturn_le {p : Program} {main : Bool} {fr : Frame} {cs : List Frame} {dy : Option Dying} {v : Value} {w : World} : GLe w.drawn (doReturn p main fr cs dy v w) := by
  unfold doReturn
  repeat' split
  all_goals first | exact Nat.le_refl _ | exact trivial
theorem callDeferred_le {p : Program} {fr : Frame} {cs : List Frame} {dy : Option Dying} {d : Deferred} {w : World} : GLe w.drawn (callDeferred p fr cs dy d w) := by
  unfold callDeferred
  repeat' (first | exact trivial | exact Nat.le_refl _ | exact runT_ok (by assumption) | exact runT_ok1 (by assumption) | exact runT_halt (by assumption) | exact runT_halt1 (by assumption) | exact run_ok (by assumption) | exact endThrow_le | exact endFatal_le | exact doReturn_le | exact endPrinting_le | exact endFatal_le.mono (runT_halt1 (by assumption)) | exact endThrow_le.mono (runT_halt1 (by assumption)) | exact endFatal_le.mono (runT_halt (by assumption)) | exact endThrow_le.mono (runT_halt (by assumption)) | exact doReturn_le.mono (runT_ok (by assumption)) | exact doReturn_le.mono (runT_ok1 (by assumption)) | exact run_halt (by assumption) | exact endFatal_le.mono (run_halt (by assumption)) | exact endThrow_le.mono (run_halt (by assumption)) | (dsimp only [GLe]; first | exact run_ok (by assumption) | exact run_halt (by assumption)) | apply GLe.after | split)
theorem unwind_le {p : Program} {main : Bool} {fr : Frame} {cs : List Frame} {dy : Option Dying} {w : World} : GLe w.drawn (unwind p main fr cs dy w) := by
  unfold unwind
  repeat' (first | exact callDeferred_le | exact trivial | split)
  all_goals (repeat' (first | exact trivial | exact Nat.le_refl _ | exact runT_ok (by assumption) | exact runT_ok1 (by assumption) | exact runT_halt (by assumption) | exact runT_halt1 (by assumption) | exact run_ok (by assumption) | exact endThrow_le | exact endFatal_le | exact doReturn_le | exact endPrinting_le | exact endFatal_le.mono (runT_halt1 (by assumption)) | exact endThrow_le.mono (runT_halt1 (by assumption)) | exact endFatal_le.mono (runT_halt (by assumption)) | exact endThrow_le.mono (runT_halt (by assumption)) | exact doReturn_le.mono (runT_ok (by assumption)) | exact doReturn_le.mono (runT_ok1 (by assumption)) | exact run_halt (by assumption) | exact endFatal_le.mono (run_halt (by assumption)) | exact endThrow_le.mono (run_halt (by assumption)) | (dsimp only [GLe]; first | exact run_ok (by assumption) | exact run_halt (by assumption)) | apply GLe.after | split))
theorem early_le {p : Program} {fr : Frame} {cs : List Frame} {dy : Option Dying} {g : Nat} {w : World} : GLe w.drawn (early p fr cs dy g w) := by
  unfold early
  dsimp only
  repeat' (first | exact trivial | exact Nat.le_refl _ | exact runT_ok (by assumption) | exact runT_ok1 (by assumption) | exact runT_halt (by assumption) | exact runT_halt1 (by assumption) | exact run_ok (by assumption) | exact endThrow_le | exact endFatal_le | exact doReturn_le | exact endPrinting_le | exact endFatal_le.mono (runT_halt1 (by assumption)) | exact endThrow_le.mono (runT_halt1 (by assumption)) | exact endFatal_le.mono (runT_halt (by assumption)) | exact endThrow_le.mono (runT_halt (by assumption)) | exact doReturn_le.mono (runT_ok (by assumption)) | exact doReturn_le.mono (runT_ok1 (by assumption)) | exact run_halt (by assumption) | exact endFatal_le.mono (run_halt (by assumption)) | exact endThrow_le.mono (run_halt (by assumption)) | (dsimp only [GLe]; first | exact run_ok (by assumption) | exact run_halt (by assumption)) | apply GLe.after | split)
theorem apply_le {p : Program} {listen : Bool} {fr : Frame} {cs : List Frame} {dy : Option Dying} {s : Sem Next} {w : World} : GLe w.drawn (stepG.apply p listen fr cs dy s w) := by
  cases listen <;> unfold stepG.apply <;> simp only [if_true, if_false, Bool.false_eq_true] <;> repeat' (first | exact early_le.mono (run_halt (by assumption)) | exact early_le.mono (runT_halt1 (by assumption)) | exact early_le.mono (runT_halt (by assumption)) | exact trivial | exact Nat.le_refl _ | exact runT_ok (by assumption) | exact runT_ok1 (by assumption) | exact runT_halt (by assumption) | exact runT_halt1 (by assumption) | exact run_ok (by assumption) | exact run_halt (by assumption) | exact endFatal_le.mono (runT_halt1 (by assumption)) | exact endThrow_le.mono (runT_halt1 (by assumption)) | exact endFatal_le.mono (run_halt (by assumption)) | exact endThrow_le.mono (run_halt (by assumption)) | apply GLe.after | split)
theorem oper_le {p : Program} {listen : Bool} {fr : Frame} {cs : List Frame} {dy : Option Dying} {w : World} : GLe w.drawn (stepG.oper p listen fr cs dy w) := by
  unfold stepG.oper
  repeat' (first | exact apply_le | exact trivial | split)
theorem elim_le {α : Type} {d : Nat} {o : Option α} {a : GStep} {f : α → GStep} (h1 : GLe d a) (h2 : ∀ x, GLe d (f x)) : GLe d (o.elim a f) := by
  cases o
  · exact h1
  · exact h2 _
theorem exec_le {p : Program} {main listen : Bool} {fr : Frame} {cs : List Frame} {dy : Option Dying} {w : World} : GLe w.drawn (stepG.exec p main listen fr cs dy w) := by
  unfold stepG.exec
  dsimp only
  repeat' (first | exact apply_le | exact oper_le | exact trivial | exact Nat.le_refl _ | exact apply_le.mono (runT_ok1 (by assumption)) | exact apply_le.mono (runT_ok (by assumption)) | exact run_ok (by assumption) | exact runT_ok1 (by assumption) | exact runT_halt1 (by assumption) | exact doReturn_le.mono (runT_ok1 (by assumption)) | apply GLe.after | refine elim_le ?_ (fun _ => ?_) | split)
theorem stepG_le {p : Program} {main listen : Bool} {g : Goroutine} {w : World} : GLe w.drawn (stepG p main g w listen) := by
  unfold stepG
  dsimp only
  repeat' (first | exact exec_le | exact unwind_le | exact die_le | split)
/-! ### The machine -/
def SLe (d : Nat) : Stepped → Prop
  | .next m => d ≤ m.world.drawn
  | .ended _ _ => True
theorem SLe.mono {d d' : Nat} {s : Stepped} (h : SLe d' s) (hd : d ≤ d') : SLe d s := by
  cases s <;> first | exact trivial | exact Nat.le_trans hd h
theorem look_le {p : Program} {gs : Array Goroutine} {rest : Rest} {w : World} : SLe w.drawn (look p gs rest w) := by
  unfold look
  dsimp only
  repeat' (first | exact trivial | (dsimp only [SLe]; exact run_ok (by assumption)) | split)
theorem waitingAt_dr {rest : Rest} {cs : Array CommCase} {w w' : World} (h : waitingAt rest cs w = some w') : w.drawn ≤ w'.drawn := by
  unfold waitingAt at h
  repeat' split at h
  all_goals first | (cases h; exact Nat.le_refl _) | cases h
theorem communicate_le {p : Program} {rest : Rest} {gs : Array Goroutine} {i : Nat} {g : Goroutine} {cases' : Array CommCase} {b : Bool} {sh : CommShape} {w : World} : SLe w.drawn (communicate p rest gs i g cases' b sh w).1 := by
  unfold communicate
  dsimp only
  repeat' (first | exact trivial | exact Nat.le_refl _ | exact waitingAt_dr (by assumption) | (dsimp only [SLe]; first | exact run_ok (by assumption) | exact Nat.le_trans (run_ok (by assumption)) (run_ok (by assumption)) | exact Nat.le_trans (run_ok (by assumption)) (run_halt (by assumption))) | split)
theorem serve_le {p : Program} {m : Machine} {k : Nat} : SLe m.world.drawn (serve p m k) := by
  unfold serve
  dsimp only
  repeat' (first | exact trivial | exact Nat.le_refl _ | split)
theorem drain_dr (w : World) (c : Nat) : (drain w c).2.drawn = w.drawn := by
  unfold drain
  split <;> rfl
theorem retime_dr (m : Machine) (k : Nat) (t : Timer) (a b : Nat) : (retime m k t a b).2.world.drawn = m.world.drawn := by
  unfold retime
  dsimp only
  cases t.chan with
  | none => rfl
  | some c => exact drain_dr _ _
theorem opened_dr {m m' : Machine} {v : Addr} (h : timerOp.opened m v = some m') : m'.world.drawn = m.world.drawn := by
  unfold timerOp.opened at h
  repeat' split at h
  all_goals first | (cases h; rfl) | cases h
theorem named_dr {m m' : Machine} {a : Addr} {f : Nat → Timer → Value × Machine} {d : Nat} {v : Value} (hf : ∀ k t, (f k t).2.world.drawn = d) (h : timerOp.named m a f = .ok (v, m')) : m'.world.drawn = d := by
  unfold timerOp.named at h
  split at h
  · rename_i k _
    have h2 : f k (m.rest.timers.getD k default) = (v, m') := Except.ok.inj h
    have := hf k (m.rest.timers.getD k default)
    rw [h2] at this
    exact this
  · cases h
theorem timerOp_dr {m m' : Machine} {op : TimerOp} {v : Value} (h : timerOp m op = .ok (v, m')) : m'.world.drawn = m.world.drawn := by
  unfold timerOp at h
  split at h
  · split at h
    · cases h; rfl
    · split at h
      · split at h
        · cases h
        · cases h; rfl
      · cases h
  · exact named_dr (fun k t => retime_dr _ _ _ _ _) h
  · split at h
    · rename_i h2
      exact named_dr (fun k t => (retime_dr _ _ _ _ _).trans (opened_dr h2)) h
    · cases h
  · cases h; rfl
theorem endThrow_go {fr : Frame} {s : String} {w w' : World} {g : Goroutine} {es : Array Event} (h : endThrow fr s w = .go g w' es) : w.drawn ≤ w'.drawn := by
  cases h
  exact Nat.le_refl _
theorem runM_le {p : Program} {m : Machine} {i : Nat} {listen : Bool} : SLe m.world.drawn (Go.runT p m i listen).1 := by
  unfold Go.runT
  have h := fun (g : Goroutine) => stepG_le (p := p) (main := i == 0) (g := g) (w := m.world) (listen := listen)
  dsimp only
  have h1 := h (m.gs.swapAt! i { (default : Goroutine) with status := .finished }).1
  split
  all_goals rename_i heq
  all_goals rw [heq] at h1
  · exact trivial
  · exact communicate_le.mono h1
  · exact h1
  · exact h1
  · split
    · exact trivial
    · exact h1
  · exact h1
  · exact look_le.mono h1
  · exact h1
  · exact h1
  · have h1 : m.world.drawn ≤ _ := h1
    repeat' (first | exact trivial | exact h1 | split)
    all_goals exact Nat.le_trans h1 (endThrow_go (by assumption))
  · have h1 : m.world.drawn ≤ _ := h1
    split
    · rename_i h2
      exact Nat.le_trans h1 (by rw [timerOp_dr h2]; exact Nat.le_refl _)
    · split
      · rename_i h2
        exact Nat.le_trans h1 (endThrow_go h2)
      · exact trivial
    · exact trivial
    · exact trivial
def MLe (p : Program) (d : Nat) : Move → Prop
  | .goroutine m _ => d ≤ m.world.drawn
  | .machine s _ => SLe d s
theorem MLe.mono {p : Program} {d d' : Nat} {s : Move} (h : MLe p d' s) (hd : d ≤ d') : MLe p d s := by
  cases s
  · exact Nat.le_trans hd h
  · exact SLe.mono h hd
theorem adv_dr (m : Machine) (t : Nat) : (m.advanceTo t).world.drawn = m.world.drawn := (rfl)
theorem askOn_le {p : Program} {m : Machine} : MLe p m.world.drawn (askOn p m) := by
  unfold askOn
  dsimp only
  split
  · exact trivial
  · rename_i k w1 h1
    have l1 := run_ok h1
    split
    · exact SLe.mono serve_le l1
    · split
      · split
        · exact l1
        · split
          · exact l1
          · split <;> exact trivial
      · split
        · skip
          split
          · exact trivial
          · rename_i h2
            have l2 := Nat.le_trans l1 (run_ok h2)
            split
            · exact l2
            · split
              · exact trivial
              · rename_i h3
                have l3 := Nat.le_trans l2 (run_ok h3)
                (try split)
                all_goals exact l3
        · split
          · exact trivial
          · rename_i h4
            have l4 := Nat.le_trans l1 (run_ok h4)
            split
            · exact trivial
            · rename_i h2
              have l2 := Nat.le_trans l4 (run_ok h2)
              split
              · exact l2
              · split
                · exact trivial
                · rename_i h3
                  have l3 := Nat.le_trans l2 (run_ok h3)
                  (try split)
                  all_goals exact l3
          · rename_i h4
            have l4 := Nat.le_trans l1 (run_ok h4)
            exact l4
          · rename_i h4
            have l4 := Nat.le_trans l1 (run_ok h4)
            split
            · exact trivial
            · rename_i h2
              have hh := run_ok h2
              rw [adv_dr] at hh
              have l2 := Nat.le_trans l4 hh
              split
              · exact l2
              · split
                · exact trivial
                · rename_i h3
                  have l3 := Nat.le_trans l2 (run_ok h3)
                  (try split)
                  all_goals exact l3
theorem ask_move_le {p : Program} {m : Machine} : MLe p m.world.drawn (Go.ask p m) := by
  unfold Go.ask
  split
  · split
    · exact trivial
    · rename_i w1 h1
      have l1 := run_ok h1
      split
      · rename_i h2
        have l2 := look_le (p := p) (gs := m.gs) (rest := m.rest) (w := w1)
        rw [h2] at l2
        exact askOn_le.mono (Nat.le_trans l1 l2)
      · rename_i h2
        exact SLe.mono look_le l1
    · rename_i h1
      exact MLe.mono (p := p) (d' := _) askOn_le (run_ok h1)
  · exact askOn_le
theorem move_le {p : Program} {m : Machine} : MLe p m.world.drawn (move p m) := by
  unfold move
  repeat' (first | exact trivial | exact Nat.le_refl _ | exact ask_move_le (m := m) | exact ask_move_le (m := { m with rest := { m.rest with slice := none } }) | split)
theorem step_le {p : Program} {m m' : Machine} (h : step p m = .next m') : m.world.drawn ≤ m'.world.drawn := by
  have h1 := move_le (p := p) (m := m)
  unfold step stepT at h
  split at h
  · rename_i m1 i hm
    rw [hm] at h1
    have h2 := runM_le (p := p) (m := m1) (i := i) (listen := true)
    rw [h] at h2
    exact Nat.le_trans h1 h2
  · rename_i s ops hm
    rw [hm] at h1
    have h1 : SLe m.world.drawn s := h1
    have h : s = .next m' := h
    rw [h] at h1
    exact h1
theorem runN_le {p : Program} : ∀ (n : Nat) {m m' : Machine}, runN p n m = .next m' → m.world.drawn ≤ m'.world.drawn
  | 0, m, m', h => by cases h; exact Nat.le_refl _
  | n + 1, m, m', h => by
    unfold runN at h
    split at h
    · rename_i m1 h1
      exact Nat.le_trans (step_le h1) (runN_le n h)
    · rename_i h1
      exact absurd h (h1 m')
/-- A call's draws. -/
theorem calls_mono {P : Program} {f : FuncId} {args : Array Value} {w : World} {R : Ending → World → Prop} (h : Calls P f args w fun e w' => R e w' ∧ e ≠ .outgrown) : Calls P f args w fun e w' => R e w' ∧ w.drawn ≤ w'.drawn := fun cs => by
  obtain ⟨e, w', fr, ⟨h1, h2⟩, h3, h4, h5⟩ := h cs
  refine ⟨e, w', fr, ⟨h1, ?_⟩, h3, h4, h5⟩
  cases e with
  | returned v => obtain ⟨n, h3⟩ := h3; exact runN_le n h3
  | panicked c => obtain ⟨n, h3⟩ := h3; exact runN_le n h3
  | outgrown => exact absurd rfl h2
end Go.Mono
end

section
/-
  slices.SortFunc, by the shelf.
-/
set_option linter.unusedVariables false
set_option linter.unusedSimpArgs false
set_option maxHeartbeats 4000000
set_option maxRecDepth 100000
namespace Go.Proofs
open Go.Shelf Go.RowKit Go.Lib Go.Sort
end Go.Proofs
namespace Go.Ax
open Go.Proofs Go.RowKit
theorem below_grow {W w' : World} (h : Go.RowKit.Below W.heap.size W w') (hd : W.drawn ≤ w'.drawn) : ∃ q os', w' = Go.Sort.grow (W.drewN q) os' := by
  refine ⟨w'.drawn - W.drawn, w'.heap.extract W.heap.size w'.heap.size, ?_⟩
  have h1 : w'.heap = W.heap ++ w'.heap.extract W.heap.size w'.heap.size := by
    apply Array.ext_getElem?
    intro k
    have hs := h.size
    by_cases hk : k < W.heap.size
    · rw [Array.getElem?_append_left hk, h.block k hk]
    · rw [Array.getElem?_append_right (by omega), Array.getElem?_extract]
      by_cases hk2 : k < w'.heap.size
      · rw [if_pos (by omega)]
        congr 1
        omega
      · rw [Array.getElem?_eq_none (by omega)]
        split
        · omega
        · rfl
  have h2 : w'.tape = W.tape := h.tape
  have h3 : w'.os = W.os := h.os
  have h4 : w'.output = W.output := h.output
  cases w' with
  | mk hp tp dr os out =>
    simp only at h1 h2 h3 h4 hd
    subst h2 h3 h4
    unfold Go.Sort.grow World.drewN
    dsimp only
    rw [← h1]
    congr 1
    omega
theorem putRow_set {α : Type} [Inhabited α] {enc : α → Value} {w : World} {blk : Nat} {d : Array α} {c : Array Value} {ty : TypeId} (h : w.heap[blk]? = some (.cells c ty (0, 0))) : Go.Sort.putRow enc w blk 0 d = w.setRow blk (Go.Sort.putCells enc 0 d c) := by
  unfold Go.Sort.putRow
  rw [Go.Sort.mapBlock_congr w blk _ (fun _ => Go.Sort.putCells enc 0 d c) (fun c' e fr h' => by rw [h] at h'; cases h'; rfl)]
  unfold Go.Sort.mapBlock World.setRow Go.Sort.onCells
  rfl
/-- The world behind a sort. -/
theorem sort_post {α : Type} [Inhabited α] {enc : α → Value} {d : Array α} {w0 : Base} {ρ : Env} {D : Nat → Prop} {w : World} {r key N sz n : Nat} {ty : TypeId} {get get' : Nat → List AV} {os : Array Go.Obj} {c : Array Value} {ob : List Prop}
    (hR : Rel w0 ρ [(r, famN N sz ty get none)] D w) (hN : 0 < N) (hc : w.heap[ρ.blk r 0]? = some (.cells c ty (0, 0))) (hd : d.size = N * sz) (hlen : ∀ i, i < N → (get' i).length = sz)
    (hget : ∀ i k a, i < N → k < sz → (get' i)[k]? = some a → ∃ v, enc d[i * sz + k]! = v ∧ a = .v v) :
    Post w0 ρ [(r, famN N sz ty get none)] D key ⟨ob, .tup [], .many [(r, famN N sz ty get' none)] none⟩ w (.tuple #[]) (Go.Sort.grow (Go.Sort.putRow enc (Go.Sort.ahead w n) (ρ.blk r 0) 0 d) os) := by
  have hl : look [(r, famN N sz ty get none)] r = some (famN N sz ty get none) := by simp [look]
  have hb1 : Go.RowKit.Below w.heap.size w (Go.Sort.ahead w n) := ⟨rfl, rfl, rfl, Nat.le_refl _, fun _ _ => rfl⟩
  have hR1 := hR.stay hb1
  obtain ⟨hd0, hrow⟩ := hR.row r _ 0 hl (by simp [famN])
  have hNle : N ≤ ρ.cap r 0 := hrow.n_le
  have hcs : c.size = ρ.cap r 0 * sz := by
    obtain ⟨_, _, cc, h1, h2⟩ := hrow.cells hN
    rw [hc] at h1
    cases h1
    exact h2
  have hc1 : (Go.Sort.ahead w n).heap[ρ.blk r 0]? = some (.cells c ty (0, 0)) := hc
  have hle : N * sz ≤ c.size := by rw [hcs]; exact Nat.mul_le_mul_right _ hNle
  obtain ⟨k1, k2⟩ := Rel.put hR1 hl (by simp [famN]) (c := c) (c' := Go.Sort.putCells enc 0 d c) (ty := ty) (by omega) hc1 (by simp [Go.Sort.putCells]) (x := ⟨N, sz, ty, get', none⟩) rfl rfl rfl hNle hlen (fun i k a v hi h1 h2 => by
    have hi : i < N := hi
    have hk : k < sz := by
      have := (List.getElem?_eq_some_iff.1 h1).1
      rw [hlen i hi] at this
      exact this
    obtain ⟨v', h3, rfl⟩ := hget i k a hi hk h1
    have hlt : i * sz + k < N * sz := by
      have := Nat.mul_le_mul_right sz (show i + 1 ≤ N by omega)
      rw [Nat.add_mul] at this
      omega
    have h2 : (Go.Sort.putCells enc 0 d c)[i * sz + k]? = some v := h2
    unfold Go.Sort.putCells at h2
    rw [Array.getElem?_mapIdx, Array.getElem?_eq_getElem (by omega)] at h2
    simp only [Option.map_some, Nat.zero_le, Nat.zero_add, true_and, Nat.sub_zero, Option.some.injEq] at h2
    rw [if_pos (by omega), h3] at h2
    subst h2
    exact .v)
  rw [putRow_set hc1]
  have hb2 : Go.RowKit.Below ((Go.Sort.ahead w n).setRow (ρ.blk r 0) (Go.Sort.putCells enc 0 d c)).heap.size ((Go.Sort.ahead w n).setRow (ρ.blk r 0) (Go.Sort.putCells enc 0 d c)) (Go.Sort.grow ((Go.Sort.ahead w n).setRow (ρ.blk r 0) (Go.Sort.putCells enc 0 d c)) os) :=
    ⟨rfl, rfl, rfl, by simp [Go.Sort.grow], fun k hk => by simp [Go.Sort.grow, Array.getElem?_append_left hk]⟩
  have k3 := k1.stay hb2
  have efam : (fun f => if f = 0 then (⟨N, sz, ty, get', none⟩ : Row) else famN N sz ty get none f) = famN N sz ty get' none := by
    funext f
    by_cases hf : f = 0 <;> simp [famN, hf]
  rw [efam] at k3
  refine ⟨ρ, .tup rfl (fun i a x h => by simp at h), k3.sub (fun _ _ h => h) (fun _ h => .inl h), .refl _, fun b hb => ?_⟩
  have h4 := k2 b hb
  have hlt : b < ((Go.Sort.ahead w n).setRow (ρ.blk r 0) (Go.Sort.putCells enc 0 d c)).heap.size := by
    have := (hR.imm2 b hb).1
    simpa [World.setRow, Go.Sort.ahead] using this
  rw [hb2.block b hlt, h4]
  rfl
/-- A comparator's contract, for the shelf. -/
theorem cmp_calls {P : Program} {g : FuncId} {c : Con} {aas cs' : List AV} {xs : List Value} {cb : Array Value} {z : Int} {ob : List Prop} {J : Nat → Prop} {W : World} (hcon : ConOK P g c) (hc : c (aas ++ cs') = some (ob, i64 z)) (hob : ∀ p ∈ ob, p) (eg : ∀ args w, (callFunc g args).run P w = .ok (.enter g args) w)
    (hJ : ∀ b, J b → b < W.heap.size) (hxs : Rs W (.ext J) aas xs) (hcb : Rs W (.ext J) cs' cb.toList) : Calls P g (xs.toArray ++ cb) W fun e w' => e = .returned (.int .i64 z) ∧ ∃ q os', w' = Go.Sort.grow (W.drewN q) os' := by
  have hrs : Rs W (.ext J) (aas ++ cs') (xs ++ cb.toList) := by
    refine ⟨by rw [List.length_append, List.length_append, hxs.1, hcb.1], fun i a x h1 h2 => ?_⟩
    by_cases hi : i < aas.length
    · rw [List.getElem?_append_left hi] at h1
      rw [List.getElem?_append_left (by rw [hxs.1]; exact hi)] at h2
      exact hxs.2 i a x h1 h2
    · rw [List.getElem?_append_right (by omega)] at h1
      rw [List.getElem?_append_right (by rw [hxs.1]; omega), hxs.1] at h2
      exact hcb.2 _ a x h1 h2
  have harr : (xs ++ cb.toList).toArray = xs.toArray ++ cb := by simp
  have hinv := hcon _ _ _ hc hob J W _ hJ hrs
  rw [Invokes, harr] at hinv
  rcases hinv with ⟨v, w', h1, _⟩ | ⟨_, h2⟩
  · rw [eg] at h1
    cases h1
  · have h3 : Calls P g (xs.toArray ++ cb) W fun e w' => ((∃ v, e = .returned v ∧ R w' (.ext (New J W w')) (i64 z) v ∧ Go.RowKit.Below W.heap.size W w')) ∧ e ≠ .outgrown := h2.mono fun e w' ⟨v, he, hh⟩ => ⟨⟨v, he, hh⟩, by rw [he]; exact fun h => by cases h⟩
    refine (Mono.calls_mono h3).mono fun e w' ⟨⟨v, he, hv, hb⟩, hd⟩ => ?_
    have hv : v = .int .i64 z := by cases hv; rfl
    exact ⟨by rw [he, hv], below_grow hb hd⟩
theorem sw_same {α : Type} [Inhabited α] {enc : α → Value} {w : World} {blk m : Nat} {dk : Array α} {os : Array Go.Obj} {J : Nat → Prop} (hJ : ∀ b, J b → b < w.heap.size ∧ b ≠ blk) : Same J w (Go.Sort.grow (Go.Sort.putRow enc (Go.Sort.ahead w m) blk 0 dk) os) ∧ ∀ b, J b → b < (Go.Sort.grow (Go.Sort.putRow enc (Go.Sort.ahead w m) blk 0 dk) os).heap.size := by
  have hsz : (Go.Sort.putRow enc (Go.Sort.ahead w m) blk 0 dk).heap.size = w.heap.size := by simp [Go.Sort.putRow, Go.Sort.mapBlock, Go.Sort.ahead]
  refine ⟨fun b hb => ?_, fun b hb => ?_⟩
  · obtain ⟨h1, h2⟩ := hJ b hb
    show ((Go.Sort.putRow enc (Go.Sort.ahead w m) blk 0 dk).heap ++ os)[b]? = _
    rw [Array.getElem?_append_left (by omega)]
    unfold Go.Sort.putRow Go.Sort.mapBlock
    show ((Go.Sort.ahead w m).heap.modify blk _)[b]? = _
    rw [Array.getElem?_modify, if_neg (Ne.symm h2)]
    rfl
  · show b < ((Go.Sort.putRow enc (Go.Sort.ahead w m) blk 0 dk).heap ++ os).size
    rw [Array.size_append]
    have := (hJ b hb).1
    omega
/-- The order of ids by the left ends of their boxes. -/
def cfL (L : Ents) (a b : Int) : Int := if cmpS (selAt (memSel L a) 0) (selAt (memSel L b) 0) ≠ 0 then cmpS (selAt (memSel L a) 0) (selAt (memSel L b) 0) else cmpS a b
theorem cmpS_lt {x y : Int} : cmpS x y < 0 ↔ x < y := by
  unfold cmpS
  by_cases h : x < y
  · rw [if_pos h]; omega
  · rw [if_neg h]; split <;> omega
theorem cmpS_ne {x y : Int} : cmpS x y ≠ 0 ↔ x ≠ y := by
  unfold cmpS
  by_cases h : x < y
  · rw [if_pos h]; omega
  · rw [if_neg h]; split <;> omega
theorem cfL_lt {L : Ents} {a b : Int} : Go.Proofs.ltOf (cfL L) a b = decide (selAt (memSel L a) 0 < selAt (memSel L b) 0 ∨ selAt (memSel L a) 0 = selAt (memSel L b) 0 ∧ a < b) := by
  unfold Go.Proofs.ltOf cfL
  rw [decide_eq_decide]
  by_cases h : selAt (memSel L a) 0 = selAt (memSel L b) 0
  · rw [if_neg (by rw [cmpS_ne]; simpa using h), cmpS_lt]; omega
  · rw [if_pos (cmpS_ne.2 h), cmpS_lt]; omega
theorem cfL_swo {L : Ents} : Go.Sort.SWO (Go.Proofs.ltOf (cfL L)) where
  irrefl x := by rw [cfL_lt]; simp
  trans x y z h1 h2 := by rw [cfL_lt] at *; simp at *; omega
  ntrans x y z h1 h2 := by rw [cfL_lt] at *; simp at *; omega
theorem cfL_tot {L : Ents} {x y : Int} (h1 : Go.Proofs.ltOf (cfL L) x y = false) (h2 : Go.Proofs.ltOf (cfL L) y x = false) : x = y := by
  rw [cfL_lt] at *; simp at *; omega
def srtX (L : Ents) (l : List Int) : List Int := l.mergeSort fun x y => !Go.Proofs.ltOf (cfL L) y x
def lX (N : Nat) (X : Nat → Int) : List Int := (List.range N).map X
def F65 : SRF := fun N get rest => match rest with
  | [.fn 66 [.rop [.rop [.rm 4 L]]]] => some ([N ≤ 1000], fun _ => .tup [], N, fun j => [i64 ((srtX L (lX N (gx get 0))).getD j 0)])
  | _ => none
theorem sem65 : SRSem Tryz.prog 65 1 3 canI F65 := by
  intro N get rest ob v N' get' hF hob w0 ρ D w key r vs hR hk hDr k1 k2 hlen
  unfold F65 at hF
  split at hF
  · rename_i L
    cases hF
    have hN : N ≤ 1000 := hob _ (by simp)
    match vs, hlen, k1, k2 with
    | [y, f], _, k1, k2 =>
      obtain ⟨y', ys, e, hy, _⟩ := k1.inv
      cases e
      obtain ⟨f', fs, e, hf, _⟩ := k2.inv
      cases e
      have hl : look [(r, famN N 1 3 (canI get) none)] r = some (famN N 1 3 (canI get) none) := by simp [look]
      obtain ⟨X, hX⟩ : ∃ X : Nat → Int, X = gx get 0 := ⟨_, rfl⟩
      have hcan : canI get = fun i => [i64 (X i)] := by rw [hX]; rfl
      have hgx : gx (canI get) 0 = X := hX.symm
      rw [hgx]
      cases hf with
      | @fn _ _ _ cbl hcl hcv =>
        have hcb : Rs w (.ext ρ.imm) [.rop [.rop [.rm 4 L]]] cbl := ⟨hcl, hcv⟩
        cases hy with
        | @own _ _ _ _ _ ad hd hn ha =>
          refine .inr ⟨enters_of Tryz.func65 (by kernel_rfl) rfl _ _, ?_⟩
          obtain ⟨_, hrow⟩ := hR.row r _ 0 hl (by simp [famN])
          by_cases h0 : N = 0
          · subst h0
            have hc := AnyF.slices_SortFunc_none (P := Tryz.prog) (ρ := Tryz.sortF_ren) { Tryz.sortF with } ad (ρ.cap r 0) (.func (.func 66) #[] cbl.toArray) w
            refine hc.mono fun e w' ⟨h1, h2⟩ => ⟨.tuple #[], h1, ?_⟩
            subst h2
            refine ⟨ρ, .tup rfl (fun i a x h => by simp at h), ?_, .refl _, fun _ _ => rfl⟩
            have e1 : ∀ z z', Ax.setRow r z [(r, z')] = [(r, z)] := fun z z' => by simp [Ax.setRow]
            have h3 : Rel w0 ρ (Ax.setRow r (famN 0 1 3 (canI get) none) [(r, famN 0 1 3 (canI get) none)]) D w' := by rw [e1]; exact hR
            have h4 := h3.alike (y := famN 0 1 3 (fun j => [i64 ((srtX L (lX 0 X)).getD j 0)]) none) (fun f => by
              by_cases hf : f = 0
              · subst hf; exact ⟨rfl, rfl, rfl, rfl, fun i hi => by have hi : i < 0 := hi; omega⟩
              · simp [famN, hf])
            exact h4.sub (fun _ _ h => h) (fun _ h => .inl h)
          · have hN0 : 0 < N := by omega
            have hNle : N ≤ ρ.cap r 0 := hrow.n_le
            obtain ⟨b1, b2, c, b3, b4⟩ := hrow.cells hN0
            have b3 : w.heap[ρ.blk r 0]? = some (.cells c 3 (0, 0)) := b3
            have b4 : c.size = ρ.cap r 0 * 1 := b4
            have hblt : ρ.blk r 0 < w.heap.size := (Array.getElem?_eq_some_iff.1 b3).1
            rw [ha (by omega)]
            have hcell : ∀ j, j < N → w.cell? ⟨ρ.blk r 0, 0 + j, none⟩ = some (.int .i64 (X j)) := fun j hj => by
              have hjc : j < c.size := by omega
              have hHas : Has w (ρ.blk r 0) (j * 1 + 0) c[j] := by
                unfold Has World.cell?
                simp [b3, hjc]
              have := hrow.rel j 0 (i64 (X j)) c[j] hj (by show (canI get j)[0]? = _; rw [hcan]; rfl) hHas
              have e2 : c[j] = .int .i64 (X j) := R_vv this
              unfold World.cell?
              simp [b3, hjc, e2]
            have hH : Go.Sort.Holds (Value.int .i64) w (ρ.blk r 0) 0 (lX N X).toArray := fun j hj => by
              have hj : j < N := by simpa [lX] using hj
              have e3 : (lX N X).toArray[j]! = X j := by simp [lX, hj]
              rw [e3]
              refine ⟨hcell j hj, ?_⟩
              unfold World.frozen?
              simp [b3]
            have eg : ∀ args w, (callFunc 66 args).run Tryz.prog w = .ok (.enter 66 args) w := enters_of Tryz.func66 (by kernel_rfl) rfl
            have hJ : ∀ b, ρ.imm b → b < w.heap.size ∧ b ≠ ρ.blk r 0 := fun b hb => ⟨(hR.imm2 b hb).1, fun e => b2 (e ▸ hb)⟩
            have hcmp : CmpLays1 Tryz.prog 66 cbl.toArray (Value.int .i64) (cfL L) (ρ.blk r 0) 0 (lX N X).toArray.size w := fun m os dk hs x y => by
              obtain ⟨s1, s2⟩ := sw_same (enc := Value.int .i64) (m := m) (dk := dk) (os := os) hJ
              exact cmp_calls (xs := [.int .i64 x, .int .i64 y]) (J := ρ.imm) con66 (aas := [i64 x, i64 y]) (cs' := [.rop [.rop [.rm 4 L]]]) (ob := []) rfl (fun p hp => by simp at hp) eg s2 (.cons .v (.cons .v .nil)) (hcb.mono (.refl _) s1)
            have hsz : (lX N X).toArray.size = N := by simp [lX]
            have hc := Any.slices_SortFunc_total Tryz.sortF (Value.int .i64) (fun _ => rfl) (cfL L) cfL_swo 66 cbl.toArray (ρ.blk r 0) 0 (ρ.cap r 0) (lX N X).toArray w eg hcmp hH hblt (by rw [hsz]; omega) (fun x y => cfL_tot)
            rw [hsz] at hc
            refine hc.mono fun e w' hh => ?_
            obtain ⟨h1, n, os, h2⟩ := hh
            refine ⟨.tuple #[], h1, ?_⟩
            rw [h2]
            refine sort_post (sz := 1) hR hN0 b3 (by simp [lX]) (fun i hi => rfl) fun i k a hi hk h3 => ?_
            obtain rfl : k = 0 := by omega
            cases h3
            refine ⟨_, rfl, ?_⟩
            have hlt : i < (srtX L (lX N X)).length := by simp [srtX, lX, hi]
            simp only [Nat.mul_one, Nat.add_zero]
            congr 2
            rw [List.getD_eq_getElem?_getD, List.getElem?_eq_getElem hlt]
            unfold srtX at hlt ⊢
            simp [hlt]
            rw [List.getElem?_eq_getElem hlt]
            rfl
  · cases hF
end Go.Ax
end

section
/-
  slices.SortFunc at pairs, by the shelf.
-/
set_option linter.unusedVariables false
set_option linter.unusedSimpArgs false
set_option maxHeartbeats 4000000
set_option maxRecDepth 100000
namespace Go.Ax
open Go.Proofs Go.RowKit Go.Sort
def cfP (p q : Int × Int) : Int := if cmpS p.1 q.1 ≠ 0 then cmpS p.1 q.1 else cmpS p.2 q.2
theorem cfP_lt {p q : Int × Int} : Go.Proofs.ltOf cfP p q = decide (p.1 < q.1 ∨ p.1 = q.1 ∧ p.2 < q.2) := by
  unfold Go.Proofs.ltOf cfP
  rw [decide_eq_decide]
  by_cases h : p.1 = q.1
  · rw [if_neg (by rw [cmpS_ne]; simpa using h), cmpS_lt]; omega
  · rw [if_pos (cmpS_ne.2 h), cmpS_lt]; omega
theorem cfP_swo : Go.Sort.SWO (Go.Proofs.ltOf cfP) where
  irrefl x := by rw [cfP_lt]; simp
  trans x y z h1 h2 := by rw [cfP_lt] at *; simp at *; omega
  ntrans x y z h1 h2 := by rw [cfP_lt] at *; simp at *; omega
theorem cfP_tot {x y : Int × Int} (h1 : Go.Proofs.ltOf cfP x y = false) (h2 : Go.Proofs.ltOf cfP y x = false) : x = y := by
  rw [cfP_lt] at *
  obtain ⟨a, b⟩ := x
  obtain ⟨c, d⟩ := y
  simp at *
  omega
def srtP (l : List (Int × Int)) : List (Int × Int) := l.mergeSort fun x y => !Go.Proofs.ltOf cfP y x
def lP (N : Nat) (X : Nat → Int × Int) : List (Int × Int) := (List.range N).map X
def canP (g : Nat → List AV) (i : Nat) : List AV := [i64 (gx g 0 i), i64 (gx g 1 i)]
def gxP (g : Nat → List AV) (i : Nat) : Int × Int := (gx g 0 i, gx g 1 i)
def encP (p : Int × Int) : List Value := [.int .i64 p.1, .int .i64 p.2]
def F73 : SRF := fun N get rest => match rest with
  | [.fn 74 []] => some ([N ≤ 100000], fun _ => .tup [], N, fun j => lsF (srtP (lP N (gxP get))) j)
  | _ => none
theorem R_pair (W : World) (J : Nat → Prop) (p : Int × Int) : R W (.ext J) (.agg [i64 p.1, i64 p.2]) (.agg (encP p).toArray) := .agg rfl fun i a x h1 h2 => by
  match i, h1, h2 with
  | 0, h1, h2 => cases h1; cases h2; exact .v
  | 1, h1, h2 => cases h1; cases h2; exact .v
  | i + 2, h1, h2 => simp at h1
theorem sem73 : SRSem Tryz.prog 73 2 95 canP F73 := by
  intro N get rest ob v N' get' hF hob w0 ρ D w key r vs hR hk hDr k1 k2 hlen
  unfold F73 at hF
  split at hF
  · cases hF
    have hN : N ≤ 100000 := hob _ (by simp)
    match vs, hlen, k1, k2 with
    | [y, f], _, k1, k2 =>
      obtain ⟨y', ys, e, hy, _⟩ := k1.inv
      cases e
      obtain ⟨f', fs, e, hf, _⟩ := k2.inv
      cases e
      have hl : look [(r, famN N 2 95 (canP get) none)] r = some (famN N 2 95 (canP get) none) := by simp [look]
      obtain ⟨X, hX⟩ : ∃ X : Nat → Int × Int, X = gxP get := ⟨_, rfl⟩
      have hcan : canP get = fun i => [i64 (X i).1, i64 (X i).2] := by rw [hX]; rfl
      have hgx : gxP (canP get) = X := hX.symm
      rw [hgx]
      cases hf with
      | @fn _ _ _ cbl hcl hcv =>
        have hcb : Rs w (.ext ρ.imm) [] cbl := ⟨hcl, hcv⟩
        cases hy with
        | @own _ _ _ _ _ ad hd hn ha =>
          refine .inr ⟨enters_of Tryz.func73 (by kernel_rfl) rfl _ _, ?_⟩
          obtain ⟨_, hrow⟩ := hR.row r _ 0 hl (by simp [famN])
          by_cases h0 : N = 0
          · subst h0
            have hc := AnyF.slices_SortFunc_none (P := Tryz.prog) (ρ := Tryz.sortP_ren) { Tryz.sortP with } ad (ρ.cap r 0) (.func (.func 74) #[] cbl.toArray) w
            refine hc.mono fun e w' ⟨h1, h2⟩ => ⟨.tuple #[], h1, ?_⟩
            subst h2
            refine ⟨ρ, .tup rfl (fun i a x h => by simp at h), ?_, .refl _, fun _ _ => rfl⟩
            have e1 : ∀ z z', Ax.setRow r z [(r, z')] = [(r, z)] := fun z z' => by simp [Ax.setRow]
            have h3 : Rel w0 ρ (Ax.setRow r (famN 0 2 95 (canP get) none) [(r, famN 0 2 95 (canP get) none)]) D w' := by rw [e1]; exact hR
            have h4 := h3.alike (y := famN 0 2 95 (fun j => lsF (srtP (lP 0 X)) j) none) (fun f => by
              by_cases hf : f = 0
              · subst hf; exact ⟨rfl, rfl, rfl, rfl, fun i hi => by have hi : i < 0 := hi; omega⟩
              · simp [famN, hf])
            exact h4.sub (fun _ _ h => h) (fun _ h => .inl h)
          · have hN0 : 0 < N := by omega
            have hNle : N ≤ ρ.cap r 0 := hrow.n_le
            obtain ⟨b1, b2, c, b3, b4⟩ := hrow.cells hN0
            have b3 : w.heap[ρ.blk r 0]? = some (.cells c 95 (0, 0)) := b3
            have b4 : c.size = ρ.cap r 0 * 2 := b4
            have hblt : ρ.blk r 0 < w.heap.size := (Array.getElem?_eq_some_iff.1 b3).1
            rw [ha (by omega)]
            have hcell : ∀ j q, j < N → q < 2 → w.cell? ⟨ρ.blk r 0, 0 + (j * 2 + q), none⟩ = (encP (X j))[q]? := fun j q hj hq => by
              have hjc : j * 2 + q < c.size := by omega
              have hHas : Has w (ρ.blk r 0) (j * 2 + q) c[j * 2 + q] := by
                unfold Has World.cell?
                simp [b3, hjc]
              have e2 : (encP (X j))[q]? = some c[j * 2 + q] := by
                match q, hq with
                | 0, _ =>
                  have := hrow.rel j 0 (i64 (X j).1) c[j * 2 + 0] hj (by show (canP get j)[0]? = _; rw [hcan]; rfl) hHas
                  rw [R_vv this]; rfl
                | 1, _ =>
                  have := hrow.rel j 1 (i64 (X j).2) c[j * 2 + 1] hj (by show (canP get j)[1]? = _; rw [hcan]; rfl) hHas
                  rw [R_vv this]; rfl
              rw [e2]
              unfold World.cell?
              simp [b3, hjc]
            have hlen2 : ∀ x : Int × Int, (encP x).length = 2 := fun _ => rfl
            have hsz : (lP N X).toArray.size = N := by simp [lP]
            have hH : HoldsK encP 2 w (ρ.blk r 0) 0 (lP N X).toArray := fun t ht => by
              have ht : t < N * 2 := by rw [size_flatK, hsz] at ht; exact ht
              rw [get_flatK _ _ _ _ (by rw [hsz]; exact ht)]
              have hj : t / 2 < N := by omega
              have e3 : (lP N X).toArray[t / 2]! = X (t / 2) := by simp [lP, hj]
              rw [e3]
              refine ⟨?_, by unfold World.frozen?; simp [b3]⟩
              have h5 := hcell (t / 2) (t % 2) hj (by omega)
              rw [show t / 2 * 2 + t % 2 = t by omega] at h5
              rw [h5, List.getElem?_eq_getElem (by rw [hlen2]; omega), getElem!_pos (encP (X (t / 2))) (t % 2) (by rw [hlen2]; omega)]
              rfl
            have eg : ∀ args w, (callFunc 74 args).run Tryz.prog w = .ok (.enter 74 args) w := enters_of Tryz.func74 (by kernel_rfl) rfl
            have hJ : ∀ b, ρ.imm b → b < w.heap.size ∧ b ≠ ρ.blk r 0 := fun b hb => ⟨(hR.imm2 b hb).1, fun e => b2 (e ▸ hb)⟩
            have hcmp : CmpLays Tryz.prog 74 cbl.toArray encP 2 cfP (ρ.blk r 0) 0 (lP N X).toArray.size w := fun m os dk hs x y => by
              obtain ⟨s1, s2⟩ := sw_same (enc := id) (m := m) (dk := flatK encP 2 dk) (os := os) hJ
              exact cmp_calls (xs := [.agg (encP x).toArray, .agg (encP y).toArray]) (J := ρ.imm) con74 (aas := [.agg [i64 x.1, i64 x.2], .agg [i64 y.1, i64 y.2]]) (cs' := []) (ob := []) rfl (fun p hp => by simp at hp) eg s2 (.cons (R_pair _ _ _) (.cons (R_pair _ _ _) .nil)) (hcb.mono (.refl _) s1)
            have hc := AnyQ.slices_SortFunc_total Tryz.sortP 2 (fun w => (layT_run (P := Tryz.prog) (w := w) Tryz.lay95).1) (fun w => (layT_run (P := Tryz.prog) (w := w) Tryz.lay95).2) encP hlen2 (fun x v hv => by simp [encP] at hv; rcases hv with rfl | rfl <;> rfl) cfP cfP_swo 74 cbl.toArray (ρ.blk r 0) 0 (ρ.cap r 0) (lP N X).toArray w eg hcmp hH hblt (by rw [hsz]; omega) (fun x y => cfP_tot)
            rw [hsz] at hc
            refine hc.mono fun e w' hh => ?_
            obtain ⟨h1, n, os, h2⟩ := hh
            refine ⟨.tuple #[], h1, ?_⟩
            rw [h2]
            have hS : (srtP (lP N X)).length = N := by simp [srtP, lP]
            refine sort_post (enc := id) (d := flatK encP 2 (srtP (lP N X)).toArray) (sz := 2) hR hN0 b3 (by rw [size_flatK]; simp [hS]) (fun i hi => rfl) fun i k a hi hk h3 => ?_
            rw [get_flatK _ _ _ _ (by simp [hS]; omega)]
            have e4 : (i * 2 + k) / 2 = i := by omega
            have e5 : (i * 2 + k) % 2 = k := by omega
            rw [e4, e5]
            have e6 : (srtP (lP N X)).toArray[i]! = (srtP (lP N X)).getD i (0, 0) := by
              rw [List.getD_eq_getElem?_getD, List.getElem?_eq_getElem (by omega)]
              simp [hS, hi]
            rw [e6]
            match k, hk with
            | 0, _ => cases h3; exact ⟨_, rfl, rfl⟩
            | 1, _ => cases h3; exact ⟨_, rfl, rfl⟩
  · cases hF
end Go.Ax
end

section
/-
  The sweep's pairs.
-/
set_option linter.unusedVariables false
set_option linter.unusedSimpArgs false
set_option maxHeartbeats 4000000
set_option maxRecDepth 100000
namespace Go.Ax
open Go.Proofs
noncomputable def m65 : MCon := mcSR 1 3 canI F65
theorem mon65 : MConOK Tryz.prog 65 m65 := MConOK.mcSR sem65
noncomputable def m73 : MCon := mcSR 2 95 canP F73
theorem mon73 : MConOK Tryz.prog 73 m73 := MConOK.mcSR sem73
theorem F65_eq {N : Nat} {X : Nat → Int} {L : Ents} : F65 N (fun i => [i64 (X i)]) [.fn 66 [.rop [.rop [.rm 4 L]]]] = some ([N ≤ 1000], fun _ => .tup [], N, fun j => [i64 ((srtX L (lX N X)).getD j 0)]) := (rfl)
theorem lP_ls {l : List (Int × Int)} : lP l.length (gxP (lsF l)) = l := by
  apply List.ext_getElem
  · simp [lP]
  · intro i h1 h2
    simp [lP, gxP, lsF, gx, h2]
    rfl
theorem F73_eq {l : List (Int × Int)} : F73 l.length (lsF l) [.fn 74 []] = some ([l.length ≤ 100000], fun _ => .tup [], l.length, lsF (srtP l)) := by
  show some ([l.length ≤ 100000], _, l.length, fun j => lsF (srtP (lP l.length (gxP (lsF l)))) j) = _
  rw [lP_ls]
theorem canP_ls {l : List (Int × Int)} : canP (lsF l) = lsF l := (rfl)
theorem nro_tup0 {d : Nat} : nro (d + 1) (.tup []) = True := eq_true fun c hc => by cases hc
theorem famNro_ls {n : Nat} {l : List (Int × Int)} {ty : TypeId} {g : Option Bool} : famNro (famN n 2 ty (lsF l) g) = True := eq_true fun f j hj c hc => by
  match f with
  | 0 =>
    have hc : c ∈ lsF l j := hc
    simp only [lsF, List.mem_cons, List.not_mem_nil, or_false] at hc
    rcases hc with rfl | rfl <;> trivial
  | f + 1 => have hj : j < 0 := hj; omega
attribute [go_sem] F65_eq F73_eq canP_ls nro_tup0 famNro_ls
theorem fitRow_N {N M n n' sz : Nat} {ty : TypeId} {σ : Names} {g g' : Nat → List AV} (hn : n = n') (h : ∀ q, q < n → fitL N M σ (g q) (g' q)) (f : Nat) : fitRow N M σ (famN n sz ty g none f) (famN n' sz ty g' none f) := by
  subst hn
  by_cases hf : f = 0
  · subst hf
    exact ⟨rfl, rfl, rfl, rfl, rfl, h⟩
  · unfold famN
    rw [if_neg hf, if_neg hf]
    exact ⟨rfl, rfl, rfl, rfl, rfl, fun i hi => by have hi : i < 0 := hi; omega⟩
theorem fitRow_0 {sz : Nat} {ty : TypeId} {g : Nat → List AV} (f : Nat) : (famN 0 sz ty g none f).n = 0 ∧ (famN 0 sz ty g none f).g = none := by
  unfold famN
  split <;> exact ⟨rfl, rfl⟩
/-- What the sweep from the left has found, and what has not ended. -/
def pwStep (L : Ents) (s : List (Int × Int) × List Int) (id : Int) : List (Int × Int) × List Int :=
  let live := s.2.filter fun k => !decide (selAt (memSel L k) 2 < selAt (memSel L id) 0)
  (s.1 ++ (live.filter fun k => meetsS (selAt (memSel L k) 0) (selAt (memSel L k) 1) (selAt (memSel L k) 2) (selAt (memSel L k) 3) (selAt (memSel L id) 0) (selAt (memSel L id) 1) (selAt (memSel L id) 2) (selAt (memSel L id) 3)).map fun k => (min id k, max id k), live ++ [id])
def pw (L : Ents) (o : List Int) : List (Int × Int) × List Int := o.foldl (pwStep L) ([], [])
def ordL (L : Ents) : List Int := srtX L (srtK L)
def pairsL (L : Ents) : List (Int × Int) := srtP (pw L (ordL L)).1
theorem lX_srt {L : Ents} : lX L.length (fun i => (srtK L).getD i 0) = srtK L := by
  apply List.ext_getElem
  · simp [lX, srtK_len]
  · intro i h1 h2
    simp [lX, h2]
def pwN (L : Ents) (o : List Int) : Nat → List (Int × Int) × List Int
  | 0 => ([], [])
  | i + 1 => pwStep L (pwN L o i) (o.getD i 0)
theorem pwN_take {L : Ents} {o : List Int} : ∀ i, i ≤ o.length → pwN L o i = pw L (o.take i)
  | 0, _ => rfl
  | i + 1, h => by
    unfold pw
    rw [pwN, pwN_take i (by omega), List.take_add_one, List.foldl_append, List.getElem?_eq_getElem (by omega), List.getD_eq_getElem?_getD, List.getElem?_eq_getElem (by omega)]
    rfl
theorem pwN_all {L : Ents} {o : List Int} : pwN L o o.length = pw L o := by rw [pwN_take _ (Nat.le_refl _), List.take_length]
theorem ordL_len {L : Ents} : (ordL L).length = L.length := by simp [ordL, srtX, srtK_len]
theorem live_le {L : Ents} {o : List Int} : ∀ i, (pwN L o i).2.length ≤ i
  | 0 => Nat.le_refl _
  | i + 1 => by
    have h := live_le (L := L) (o := o) i
    unfold pwN pwStep
    simp only [List.length_append, List.length_singleton]
    have := List.length_filter_le (fun k => !decide (selAt (memSel L k) 2 < selAt (memSel L (o.getD i 0)) 0)) (pwN L o i).2
    omega
theorem out_le {L : Ents} {o : List Int} : ∀ i, (pwN L o i).1.length ≤ i * i
  | 0 => Nat.le_refl _
  | i + 1 => by
    have h := out_le (L := L) (o := o) i
    have h2 := live_le (L := L) (o := o) i
    unfold pwN pwStep
    simp only [List.length_append, List.length_map]
    have h3 := List.length_filter_le (fun k => meetsS (selAt (memSel L k) 0) (selAt (memSel L k) 1) (selAt (memSel L k) 2) (selAt (memSel L k) 3) (selAt (memSel L (o.getD i 0)) 0) (selAt (memSel L (o.getD i 0)) 1) (selAt (memSel L (o.getD i 0)) 2) (selAt (memSel L (o.getD i 0)) 3)) ((pwN L o i).2.filter fun k => !decide (selAt (memSel L k) 2 < selAt (memSel L (o.getD i 0)) 0))
    have h4 := List.length_filter_le (fun k => !decide (selAt (memSel L k) 2 < selAt (memSel L (o.getD i 0)) 0)) (pwN L o i).2
    have h5 : (i + 1) * (i + 1) = i * i + i + i + 1 := by rw [Nat.add_mul, Nat.mul_add]; omega
    omega
def mtK (L : Ents) (a b : Int) : Bool := meetsS (selAt (memSel L a) 0) (selAt (memSel L a) 1) (selAt (memSel L a) 2) (selAt (memSel L a) 3) (selAt (memSel L b) 0) (selAt (memSel L b) 1) (selAt (memSel L b) 2) (selAt (memSel L b) 3)
/-- The pairs of one box with the first of some. -/
def inN (L : Ents) (id : Int) (l : List Int) : Nat → List (Int × Int)
  | 0 => []
  | j + 1 => inN L id l j ++ (if mtK L (l.getD j 0) id = true then [(min id (l.getD j 0), max id (l.getD j 0))] else [])
theorem inN_take {L : Ents} {id : Int} {l : List Int} : ∀ j, j ≤ l.length → inN L id l j = ((l.take j).filter fun k => mtK L k id).map fun k => (min id k, max id k)
  | 0, _ => rfl
  | j + 1, h => by
    rw [inN, inN_take j (by omega), List.take_add_one, List.filter_append, List.map_append, List.getElem?_eq_getElem (by omega), List.getD_eq_getElem?_getD, List.getElem?_eq_getElem (by omega)]
    congr 1
    show (if mtK L l[j] id = true then _ else _) = List.map _ (List.filter _ [l[j]])
    by_cases hm : mtK L l[j] id = true
    · rw [if_pos hm]; simp [hm]
    · rw [if_neg hm]; simp [hm]
theorem inN_all {L : Ents} {id : Int} {l : List Int} : inN L id l l.length = (l.filter fun k => mtK L k id).map fun k => (min id k, max id k) := by rw [inN_take _ (Nat.le_refl _), List.take_length]
theorem inN_le {L : Ents} {id : Int} {l : List Int} : ∀ j, (inN L id l j).length ≤ j
  | 0 => Nat.le_refl _
  | j + 1 => by
    have := inN_le (L := L) (id := id) (l := l) j
    simp only [inN, List.length_append]
    split <;> simp <;> omega
/-- Those that have not ended. -/
def stay (L : Ents) (id : Int) (l : List Int) : List Int := l.filter fun k => !decide (selAt (memSel L k) 2 < selAt (memSel L id) 0)
theorem stay_flt {L : Ents} {id : Int} {l : List Int} : flt (fun k => decide (selAt (memSel L k) 2 < selAt (memSel L id) 0)) (fun j => l.getD j 0) l.length = stay L id l := flt_len
theorem pwN_step {L : Ents} {o : List Int} {i : Nat} : pwN L o (i + 1) = ((pwN L o i).1 ++ inN L (o.getD i 0) (stay L (o.getD i 0) (pwN L o i).2) (stay L (o.getD i 0) (pwN L o i).2).length, stay L (o.getD i 0) (pwN L o i).2 ++ [o.getD i 0]) := by
  rw [inN_all]; rfl
noncomputable def F21 : List AV → Option (List Prop × (Nat → AV) × (Nat → Option Fam))
  | [.rop [.rm 4 L]] => some ([selIn L, L.length ≤ 256], fun k => .own k 0 (pairsL L).length 2, fun k => some (famN (pairsL L).length 2 95 (lsF (pairsL L)) none))
  | _ => none
noncomputable def mN21 : MCon := mcKU F21
theorem mN21_eq : mN21 = mcKU F21 := (rfl)
theorem mon21 : MConOK Tryz.prog 21 mN21 := MConOK.mkU (G := [(59, .wr mN59), (66, c66), (65, .wr m65), (71, c71), (70, .wr m70), (72, c72), (73, .wr m73), (74, c74)]) (H := []) (.mcons mon59 (.cons con66 (.mcons mon65 (.cons con71 (.mcons mon70 (.cons con72 (.mcons mon73 (.cons con74 .nil)))))))) Tryz.func21 fun es ob v nw hF hob => by
  unfold F21 at hF
  split at hF
  · rename_i L
    cases hF
    have h1 : selIn L := hob _ (by simp)
    have h2 : L.length ≤ 256 := hob _ (by simp)
    have h3 : L.length ≤ 1000 := by omega
    refine ⟨_, fun w I vs hR => hR, by simp [clean], by kernel_rfl, fun key => bodyM_go (rs := [.tmp 2]) rfl rfl ?_⟩
    simp only [go_sem, c66, m65, c71, m70, c72, m73, c74, m65, m70, h1, h3]
    rw [lX_srt]
    refine ⟨fun _ _ => trivial, ?_⟩
    refine loopN_go (fun (i : Nat) => i ≤ L.length) (fun i => L.length - i) (fun i => [(18, i64 i), (4, .own 13 0 (pwN L (ordL L) i).1.length 2), (5, .own 14 0 (pwN L (ordL L) i).2.length 1)])
      (fun i => [(13, famN (pwN L (ordL L) i).1.length 2 95 (lsF (pwN L (ordL L) i).1) none), (14, famN (pwN L (ordL L) i).2.length 1 3 (fun j => [i64 ((pwN L (ordL L) i).2.getD j 0)]) none)]) [0, 3] [19, 20, 21, 7, 22, 23, 24, 25, 26, 27, 8, 28, 29, 30, 5, 31, 32, 33, 34, 35, 36, 10, 37, 38, 39, 40, 41, 42, 43, 44, 45, 46, 47, 48, 49, 50, 51, 52, 53, 54, 4, 55, 33, 56, 57, 58, 59, 5, 60, 18] 2 0 (by kernel_rfl) (Nat.zero_le _) ⟨[(13, none), (14, none)], ?_, ?_, ?_, ?_⟩ ?_
    · simp only [go_sem, pwN, List.length_nil]
      simp [fit1, asg]
    · simp only [go_sem, pwN, List.length_nil]
      have e13 : asg [(13, none), (14, none)] 13 = none := by simp [asg]
      have e14 : asg [(13, none), (14, none)] 14 = none := by simp [asg]
      simp only [fitRows, e13, e14]
      exact ⟨fitRow_0, fitRow_0, trivial⟩
    · simp only [go_sem]
    · simp [goodNames, asg]
    intro i hi
    have l1 := live_le (L := L) (o := ordL L) i
    have l2 : (pwN L (ordL L) i).2.length ≤ 1000 := by omega
    simp only [go_sem, c66, m65, c71, m70, c72, m73, c74, m70, h1, h3, l2]
    have l3 := out_le (L := L) (o := ordL L) i
    have hst := pwN_step (L := L) (o := ordL L) (i := i)
    refine ⟨fun h => ⟨by omega, h, by omega, fun _ _ => trivial, ?_⟩, fun h => ?_⟩
    · have eo : srtX L (srtK L) = ordL L := rfl
      simp only [eo, stay_flt, flX]
      generalize (ordL L).getD i 0 = id at hst ⊢
      have i1 : ∀ k, inR (selAt (memSel L id) k) := fun k => h1 id k
      have hSV : (stay L id (pwN L (ordL L) i).2).length ≤ (pwN L (ordL L) i).2.length := List.length_filter_le _ _
      generalize hSd : stay L id (pwN L (ordL L) i).2 = S at hst hSV ⊢
      generalize hOd : (pwN L (ordL L) i).1 = O at hst l3 ⊢
      generalize (pwN L (ordL L) i).2 = V at l1 l2 hSV ⊢
      refine loopN_go (fun (j : Nat) => j ≤ S.length) (fun j => S.length - j) (fun j => [(33, i64 j), (4, .own 34 0 (O ++ inN L id S j).length 2)])
        (fun j => [(34, famN (O ++ inN L id S j).length 2 95 (lsF (O ++ inN L id S j)) none)]) [25, 14, 3, 0] [34, 35, 36, 10, 37, 38, 39, 40, 41, 42, 43, 44, 45, 46, 47, 48, 49, 50, 51, 52, 53, 54, 4, 55, 33] 1 0 (by kernel_rfl) (Nat.zero_le _) ⟨[(34, some 13)], ?_, ?_, ?_, ?_⟩ ?_
      · simp only [go_sem, inN, List.append_nil]
      · simp only [go_sem, inN, List.append_nil]
        intro q hq
        exact fitL_clean rfl
      · simp only [go_sem]
      · simp [goodNames, asg]
      intro j hj
      simp only [go_sem, c66, m65, c71, m70, c72, m73, c74, m70, h1, i1, h1 _ _]
      have hb : bytesT Tryz.prog 95 = 16 := by kernel_rfl
      have n1 := inN_le (L := L) (id := id) (l := S) j
      have hii : i * i ≤ 256 * 256 := Nat.mul_le_mul (by omega) (by omega)
      refine ⟨fun hlt => ⟨by omega, hlt, by omega, fun z hz => ⟨fun ht z1 k1 z2 k2 => ⟨?_, ?_, fun z3 k3 => ⟨j + 1, by omega, by omega, [(34, some 56)], ?_⟩⟩, fun hf z1 k1 => ⟨j + 1, by omega, by omega, [(34, some 34)], ?_⟩⟩⟩, fun hge => ?_⟩
      · rw [hb, List.length_append]; omega
      · rw [List.length_append]; omega
      · have e : O ++ inN L id S (j + 1) = (O ++ inN L id S j) ++ [(min id (S.getD j 0), max id (S.getD j 0))] := by
          rw [inN, if_pos (by unfold mtK; rw [← hz]; exact ht), List.append_assoc]
        rw [e, List.length_append, List.length_singleton]
        subst k1 k2
        simp only [go_sem]
        refine ⟨by rw [k3, wrap_in (by unfold inR; omega)]; omega, fun q hq => ?_, by simp [goodNames, asg]⟩
        rw [lsF_push hq]
        exact fitL_clean rfl
      · have e : O ++ inN L id S (j + 1) = O ++ inN L id S j := by
          rw [inN, if_neg (by unfold mtK; rw [← hz, hf]; decide), List.append_nil]
        rw [e]
        simp only [go_sem]
        exact ⟨by rw [k1, wrap_in (by unfold inR; omega)]; omega, fun q hq => fitL_clean rfl, by simp [goodNames, asg]⟩
      · have ej : j = S.length := by omega
        subst ej
        have hb3 : bytesT Tryz.prog 3 = 8 := by kernel_rfl
        refine ⟨hSV, by rw [hb3]; omega, by omega, fun z hz => ⟨i + 1, by omega, by omega, [(13, some 34), (14, some 39)], ⟨?_, ?_, ?_⟩, ?_, ?_⟩⟩
        · rw [hz, wrap_in (by unfold inR; omega)]; omega
        · rw [hst]; simp [fit1, asg]
        · rw [hst]; simp [fit1, asg]
        · rw [hst]
          have e13 : asg [(13, some 34), (14, some 39)] 13 = some 34 := by simp [asg]
          have e14 : asg [(13, some 34), (14, some 39)] 14 = some 39 := by simp [asg]
          simp only [fitRows, e13, e14]
          refine ⟨⟨_, rfl, fitRow_N rfl fun q hq => fitL_clean rfl⟩, ⟨_, rfl, fitRow_N (by simp) fun q hq => ?_⟩, trivial⟩
          have hq : q < S.length + 1 := by simpa using hq
          have e : (if q < S.length then [i64 (S.getD q 0)] else List.take 1 (List.drop ((q - S.length) * 1) [i64 id])) = [i64 ((S ++ [id]).getD q 0)] := by
            split
            · rename_i hlt
              simp [List.getD_eq_getElem?_getD, List.getElem?_append_left hlt]
            · have : q = S.length := by omega
              subst this
              simp
          rw [e]
          exact fitL_clean rfl
        · rw [hst]; simp [goodNames, asg]
    · have e : i = L.length := by omega
      subst e
      have hO : (pwN L (ordL L) L.length).1 = (pw L (ordL L)).1 := by
        have := pwN_all (L := L) (o := ordL L)
        rw [ordL_len] at this
        rw [this]
      have hP : srtP (pwN L (ordL L) L.length).1 = pairsL L := by rw [hO]; rfl
      have hPl : (pairsL L).length = (pwN L (ordL L) L.length).1.length := by rw [← hP]; simp [srtP]
      have hii : L.length * L.length ≤ 256 * 256 := Nat.mul_le_mul (by omega) (by omega)
      rw [hP, hPl]
      exact ⟨fun _ _ => trivial, by omega, newN rfl (Nat.zero_le _) fun q hq => ⟨rfl, fun c hc => by
        simp only [lsF, List.mem_cons, List.not_mem_nil, or_false] at hc
        rcases hc with rfl | rfl <;> rfl⟩⟩
  · cases hF
end Go.Ax
end

section
/-
  What the laws ask of lists.
-/
set_option linter.unusedVariables false
set_option linter.unusedSimpArgs false
set_option maxHeartbeats 4000000
set_option maxRecDepth 100000
namespace Go.Ax
open Go.Proofs
def c25 : Con
  | [.v (.int .i64 a), .v (.int .i64 b), .v (.int .i64 c), .v (.int .i64 d)] => some ([], .agg [i64 a, i64 b, i64 c, i64 d])
  | _ => none
theorem con25 : ConOK Tryz.prog 25 c25 := ConOK.of (G := []) (H := []) .nil Tryz.func25 fun l ob rr hc hob => by
  unfold c25 at hc
  split at hc
  · rename_i a b c d
    cases hc
    refine ⟨by kernel_rfl, fnVC_go (rs := [.cell 8 32]) rfl rfl ?_⟩
    simp only [go_sem]
    skip
  · cases hc
/-- Whole numbers in a slice, or none. -/
def roI : AV → Option (List Prop × Nat × (Nat → Int))
  | .ro n 1 g => some ([ints n g], n, gx g 0)
  | .v (.slice none 0 0) => some ([], 0, fun _ => 0)
  | _ => none
def roP : AV → Option (List Prop × Nat × (Nat → Int × Int))
  | .ro n 2 g => some ([∀ i, i < n → g i = canP g i], n, gxP g)
  | .v (.slice none 0 0) => some ([], 0, fun _ => (0, 0))
  | _ => none
theorem R_nil {w : World} {ρ : Env} {v : Value} {sz : Nat} {f : Nat → List AV} (h : R w ρ (.v (.slice none 0 0)) v) : R w ρ (.ro 0 sz f) v := by
  cases h
  exact .ro 0 0 (Nat.le_refl _) (fun h => absurd h (by omega)) (fun h => absurd h (by omega)) (fun i h => absurd h (by omega)) (fun i k h => absurd h (by omega)) (fun i k c x h => absurd h (by omega))
theorem roI_sound {a : AV} {ob : List Prop} {n : Nat} {X : Nat → Int} {w : World} {ρ : Env} {v : Value} (h : roI a = some (ob, n, X)) (hob : ∀ p ∈ ob, p) (hR : R w ρ a v) : R w ρ (.ro n 1 fun i => [i64 (X i)]) v := by
  unfold roI at h
  split at h
  · rename_i n g
    cases h
    have h1 : ints n g := hob _ (by simp)
    exact ro_alike (fun i hi => h1 i hi) hR
  · cases h; exact R_nil hR
  · cases h
theorem roP_sound {a : AV} {ob : List Prop} {n : Nat} {X : Nat → Int × Int} {w : World} {ρ : Env} {v : Value} (h : roP a = some (ob, n, X)) (hob : ∀ p ∈ ob, p) (hR : R w ρ a v) : R w ρ (.ro n 2 fun i => [i64 (X i).1, i64 (X i).2]) v := by
  unfold roP at h
  split at h
  · rename_i n g
    cases h
    have h1 : ∀ i, i < n → g i = canP g i := hob _ (by simp)
    exact ro_alike (fun i hi => h1 i hi) hR
  · cases h; exact R_nil hR
  · cases h
theorem roI_ro {n : Nat} {g : Nat → List AV} : roI (.ro n 1 g) = some ([ints n g], n, gx g 0) := (rfl)
theorem roI_nil : roI (.v (.slice none 0 0)) = some ([], 0, fun _ => 0) := (rfl)
theorem roP_ro {n : Nat} {g : Nat → List AV} : roP (.ro n 2 g) = some ([∀ i, i < n → g i = canP g i], n, gxP g) := (rfl)
theorem roP_nil : roP (.v (.slice none 0 0)) = some ([], 0, fun _ => (0, 0)) := (rfl)
def c49f : Option (List Prop × Nat × (Nat → Int)) → Option (List Prop × Nat × (Nat → Int)) → Option (List Prop × AV)
  | some (o1, n, X), some (o2, m, Y) => some ((n ≤ 100000) :: (o1 ++ o2), bo (decide (lX n X = lX m Y)))
  | _, _ => none
def c49 : Con
  | [a, b] => c49f (roI a) (roI b)
  | _ => none
theorem lX_eq {n m : Nat} {X Y : Nat → Int} : lX n X = lX m Y ↔ n = m ∧ ∀ i, i < n → X i = Y i := by
  constructor
  · intro h
    have h1 : n = m := by have := congrArg List.length h; simpa [lX] using this
    subst h1
    refine ⟨rfl, fun i hi => ?_⟩
    have := congrArg (fun l => l[i]?) h
    simpa [lX, hi] using this
  · rintro ⟨rfl, h⟩
    unfold lX
    exact List.map_congr_left fun i hi => h i (by simpa using hi)
theorem con49 : ConOK Tryz.prog 49 c49 := ConOK.go (G := []) (H := []) .nil Tryz.func49 fun l ob rr hc hob => by
  unfold c49 at hc
  split at hc
  · rename_i a b
    unfold c49f at hc
    split at hc
    · rename_i o1 n X o2 m Y ha hb
      cases hc
      have hn : n ≤ 100000 := hob _ (by simp)
      refine ⟨[.ro n 1 fun i => [i64 (X i)], .ro m 1 fun i => [i64 (Y i)]], fun w I vs hR => ?_, by kernel_rfl, fnVC_go (rs := [.tmp 4]) rfl rfl ?_⟩
      · obtain ⟨y, ys, rfl, k1, k2⟩ := hR.inv
        obtain ⟨y2, ys2, rfl, k3, k4⟩ := k2.inv
        exact .cons (roI_sound ha (fun p hp => hob p (by simp [hp])) k1) (.cons (roI_sound hb (fun p hp => hob p (by simp [hp])) k3) k4)
      simp only [go_sem]
      refine ⟨fun h => ?_, fun h => ?_⟩
      · have hne : n ≠ m := fun e => by subst e; simp at h
        symm
        rw [decide_eq_false_iff_not, lX_eq]
        exact fun e => hne e.1
      have hnm' : (n : Int) = m := by simpa using h
      have hnm : n = m := by omega
      clear hnm'
      subst hnm
      refine loopN_go (fun (i : Nat) => i ≤ n ∧ ∀ j, j < i → X j = Y j) (fun i => n - i) (fun i => [(5, i64 i)]) (fun i => []) [] [11, 12, 13, 14, 17, 18, 19, 20, 21, 22, 23, 24, 25, 4, 15, 16, 5] 0 0 (by kernel_rfl) ⟨Nat.zero_le _, fun j hj => by omega⟩ ⟨[], ?_, ?_, ?_, ?_⟩ ?_
      · simp only [go_sem]
      · simp only [go_sem]
      · simp only [go_sem]
      · simp [goodNames, asg]
      rintro i ⟨hi, hj⟩
      simp only [go_sem]
      refine ⟨fun h => ⟨by omega, h, by omega, h, fun hne => ?_, fun he z hz => ⟨i + 1, ⟨by omega, fun j h2 => ?_⟩, by omega, [], by rw [hz, wrap_in (by unfold inR; omega)]; omega, by simp [goodNames, asg]⟩⟩, fun h => ?_⟩
      · symm
        rw [decide_eq_false_iff_not, lX_eq]
        intro e
        rw [e.2 i (by omega)] at hne
        simp at hne
      · by_cases e : j = i
        · subst e; simpa using he
        · exact hj j (by omega)
      · symm
        rw [decide_eq_true_iff, lX_eq]
        exact ⟨rfl, fun j h2 => hj j (by omega)⟩
    · cases hc
  · cases hc
end Go.Ax
end

section
/-
  What the laws ask of lists of pairs.
-/
set_option linter.unusedVariables false
set_option linter.unusedSimpArgs false
set_option maxHeartbeats 4000000
set_option maxRecDepth 100000
namespace Go.Ax
open Go.Proofs
theorem lP_eq {n m : Nat} {X Y : Nat → Int × Int} : lP n X = lP m Y ↔ n = m ∧ ∀ i, i < n → X i = Y i := by
  constructor
  · intro h
    have h1 : n = m := by have := congrArg List.length h; simpa [lP] using this
    subst h1
    refine ⟨rfl, fun i hi => ?_⟩
    have := congrArg (fun l => l[i]?) h
    simpa [lP, hi] using this
  · rintro ⟨rfl, h⟩
    unfold lP
    exact List.map_congr_left fun i hi => h i (by simpa using hi)
def c20f : Option (List Prop × Nat × (Nat → Int × Int)) → Option (List Prop × Nat × (Nat → Int × Int)) → Option (List Prop × AV)
  | some (o1, n, X), some (o2, m, Y) => some ((n ≤ 100000) :: (o1 ++ o2), bo (decide (lP n X = lP m Y)))
  | _, _ => none
def c20 : Con
  | [a, b] => c20f (roP a) (roP b)
  | _ => none
theorem con20 : ConOK Tryz.prog 20 c20 := ConOK.go (G := []) (H := []) .nil Tryz.func20 fun l ob rr hc hob => by
  unfold c20 at hc
  split at hc
  · rename_i a b
    unfold c20f at hc
    split at hc
    · rename_i o1 n X o2 m Y ha hb
      cases hc
      have hn : n ≤ 100000 := hob _ (by simp)
      refine ⟨[.ro n 2 fun i => [i64 (X i).1, i64 (X i).2], .ro m 2 fun i => [i64 (Y i).1, i64 (Y i).2]], fun w I vs hR => ?_, by kernel_rfl, fnVC_go (rs := [.tmp 4]) rfl rfl ?_⟩
      · obtain ⟨y, ys, rfl, k1, k2⟩ := hR.inv
        obtain ⟨y2, ys2, rfl, k3, k4⟩ := k2.inv
        exact .cons (roP_sound ha (fun p hp => hob p (by simp [hp])) k1) (.cons (roP_sound hb (fun p hp => hob p (by simp [hp])) k3) k4)
      simp only [go_sem]
      refine ⟨fun h => ?_, fun h => ?_⟩
      · have hne : n ≠ m := fun e => by subst e; simp at h
        symm
        rw [decide_eq_false_iff_not, lP_eq]
        exact fun e => hne e.1
      have hnm' : (n : Int) = m := by simpa using h
      have hnm : n = m := by omega
      clear hnm'
      subst hnm
      refine loopN_go (fun (i : Nat) => i ≤ n ∧ ∀ j, j < i → X j = Y j) (fun i => n - i) (fun i => [(5, i64 i)]) (fun i => []) [] [11, 12, 13, 14, 17, 18, 19, 20, 21, 22, 23, 24, 25, 4, 15, 16, 5] 0 0 (by kernel_rfl) ⟨Nat.zero_le _, fun j hj => by omega⟩ ⟨[], ?_, ?_, ?_, ?_⟩ ?_
      · simp only [go_sem]
      · simp only [go_sem]
      · simp only [go_sem]
      · simp [goodNames, asg]
      rintro i ⟨hi, hj⟩
      simp only [go_sem]
      refine ⟨fun h => ⟨by omega, h, by omega, h, fun hne => ?_, fun he z hz => ⟨i + 1, ⟨by omega, fun j h2 => ?_⟩, by omega, [], by rw [hz, wrap_in (by unfold inR; omega)]; omega, by simp [goodNames, asg]⟩⟩, fun h => ?_⟩
      · symm
        rw [decide_eq_false_iff_not, lP_eq]
        intro e
        rw [e.2 i (by omega)] at hne
        simp at hne
      · by_cases e : j = i
        · subst e; have h3 : (X j).1 = (Y j).1 ∧ (X j).2 = (Y j).2 := by simpa using he
          exact Prod.ext h3.1 h3.2
        · exact hj j (by omega)
      · symm
        rw [decide_eq_true_iff, lP_eq]
        exact ⟨rfl, fun j h2 => hj j (by omega)⟩
    · cases hc
  · cases hc
end Go.Ax
end

section
/-
  The chapter's examples: a sweep.
-/
set_option linter.unusedVariables false
set_option linter.unusedSimpArgs false
set_option maxHeartbeats 4000000
set_option maxRecDepth 100000
namespace Go.Ax
open Go.Proofs
def shL : Ents := [(5, [0, 0, 10, 10]), (2, [10, 5, 20, 8]), (9, [11, 0, 12, 4])]
noncomputable def F57 : List AV → Option (List Prop × (Nat → AV) × (Nat → Option Fam))
  | [] => some ([], fun k => .bx k 0, fun k => some (swF k ⟨shL, noRows⟩))
  | _ => none
noncomputable def mN57 : MCon := mcKU F57
theorem mN57_eq : mN57 = mcKU F57 := (rfl)
theorem F57_eq : F57 [] = some ([], fun k => .bx k 0, fun k => some (swF k ⟨shL, noRows⟩)) := (rfl)
theorem F28_eq : F28 [] = some ([], fun k => .bx k 0, fun k => some (swF k ⟨[], noRows⟩)) := (rfl)
attribute [go_sem] mN57_eq F57_eq F28_eq
theorem swF_eq {K : Nat} {s : SwS} : swF K s = famR [⟨1, 1, 103, fun _ => [.mp K 1], none⟩, mapR 4 s.L] s.tl := (rfl)
theorem famNK_W' {key : Nat} {L : Ents} : famNK key (famR [⟨1, 1, 103, fun _ => [.mp key 1], none⟩, mapR 4 L] noRows) = True := famNK_W
theorem inR_l {z : Int} (h : -9223372036854775808 ≤ z ∧ z ≤ 9223372036854775807) : inR z = True := eq_true (by unfold inR; omega)
theorem put_1 : putE [] 5 0 0 10 10 = 0 := by decide +kernel
theorem put_2 : putE [(5, [0, 0, 10, 10])] 2 10 5 20 8 = 0 := by decide +kernel
theorem put_3 : putE [(5, [0, 0, 10, 10]), (2, [10, 5, 20, 8])] 9 11 0 12 4 = 0 := by decide +kernel
theorem putw_1 : putW ⟨[], noRows⟩ 5 0 0 10 10 = ⟨[(5, [0, 0, 10, 10])], noRows⟩ := by unfold putW; dsimp only; rw [put_1]; rfl
theorem putw_2 : putW ⟨[(5, [0, 0, 10, 10])], noRows⟩ 2 10 5 20 8 = ⟨[(5, [0, 0, 10, 10]), (2, [10, 5, 20, 8])], noRows⟩ := by unfold putW; dsimp only; rw [put_2]; rfl
theorem putw_3 : putW ⟨[(5, [0, 0, 10, 10]), (2, [10, 5, 20, 8])], noRows⟩ 9 11 0 12 4 = ⟨shL, noRows⟩ := by unfold putW; dsimp only; rw [put_3]; rfl
theorem inR_0 : inR 0 = True := inR_l (by decide)
theorem inR_4 : inR 4 = True := inR_l (by decide)
theorem inR_5 : inR 5 = True := inR_l (by decide)
theorem inR_8 : inR 8 = True := inR_l (by decide)
theorem inR_10 : inR 10 = True := inR_l (by decide)
theorem inR_11 : inR 11 = True := inR_l (by decide)
theorem inR_12 : inR 12 = True := inR_l (by decide)
theorem inR_20 : inR 20 = True := inR_l (by decide)
/-- A sweep that is handed on. -/
theorem newOW {key N r : Nat} {L : Ents} {m1 : Mem} {v : Nat → AV} (hv : ∀ θ r, renA θ 3 (v r) = v (θ r 0).1) (hk : ∀ G B r, B r → kg G B 3 (v r)) (h : look m1 r = some (swF r ⟨L, noRows⟩)) (hN : N ≤ r) : NewP key N (v r) m1 (v key) (some (swF key ⟨L, noRows⟩)) := by
  have ix1 : ixP [(r, 0), (r, 1)] r 0 = 0 := by simp [ixP]
  have ix2 : ixP [(r, 0), (r, 1)] r 1 = 1 := by simp [ixP]
  refine newP_list [(r, 0), (r, 1)] (by simp) (by simp [hN]) (hk _ _ _ (.inr rfl)) (fun ks hks => ?_) (fun ks hks f r' g hf => ?_) (fun f hf => ?_)
  · rw [hv]
    simp only [thL]
    rw [if_neg (by omega)]
  · match f, hf with
    | 0, hf =>
      cases hf
      refine ⟨_, h, ⟨rfl, rfl, rfl, rfl, fun j hj => ⟨?_, fun c hc => ?_⟩⟩, by simp [swF, famR_0]⟩
      · show [AV.mp key 1] = [AV.mp (thL ks key (ixP [(r, 0), (r, 1)]) r 1).1 (thL ks key (ixP [(r, 0), (r, 1)]) r 1).2]
        simp only [thL]
        rw [if_neg (by omega), ix2]
      · have hc : c ∈ [AV.mp r 1] := hc
        simp only [List.mem_cons, List.not_mem_nil, or_false] at hc
        subst hc
        exact .inr (by rw [ix2]; rfl)
    | 1, hf =>
      cases hf
      exact ⟨_, h, ⟨rfl, rfl, rfl, rfl, fun j hj => by have hj : j < 0 := hj; omega⟩, by simp [swF, famR_1, mapR]⟩
    | f + 2, hf => simp at hf
  · match f, hf with
    | f + 2, _ => rfl
theorem mon57 : MConOK Tryz.prog 57 mN57 := MConOK.mkU (G := [(28, .wr mN28), (25, c25), (19, .wr m19)]) (H := []) (.mcons mon28 (.cons con25 (.mcons mon19 .nil))) Tryz.func57 fun es ob v nw hF hob => by
  unfold F57 at hF
  split at hF
  · cases hF
    refine ⟨_, fun w I vs hR => hR, by simp, by kernel_rfl, fun key => bodyM_go (rs := [.tmp 0]) rfl rfl ?_⟩
    simp only [go_sem, c25, m19, swF_eq, F19, put_1, put_2, put_3, putw_1, putw_2, putw_3, famNK_W', inR_0, inR_4, inR_5, inR_8, inR_10, inR_11, inR_12, inR_20]
    have b0 : ((0 : Int) != 0) = false := by decide
    simp only [forall_eq, b0, false_or, or_false, Bool.false_eq_true, false_imp_iff, true_imp_iff, true_and, and_true, not_true, eq_self, not_false_iff, imp_false]
    exact ⟨newOW (v := fun k => .bx k 0) (L := shL) (m1 := [(1, swF 1 ⟨shL, noRows⟩)]) (fun _ _ => rfl) (fun _ _ _ h => h) rfl (Nat.zero_le _), fun h => (by cases h)⟩
  · cases hF
end Go.Ax
end
