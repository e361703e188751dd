/-
  Makers that are handed rows of our own: they see them ars memory to read.
-/
import Derived.Test.YtfpgjkeelegdpaaGreatCM4
import Derived.Shelf.SlIterI.Nil
import Derived.Shelf.SortM.Plain
import Derived.Shelf.SortM.SortNone
import Derived.Shelf.SlSortCmp.NoneTotal
import Derived.Ground.GgzProg
import Derived.Ground.SlgmProg
import Derived.Ground.SlsfProg
import Derived.Test.YtfpgjkeelegdpaaGreatProg
import Derived.Laws.Externs
import Derived.Lib.Mul64
section
set_option linter.unusedSimpArgs false
set_option linter.unusedVariables false
namespace Go.Ax

/-- All rows in it are those of one key; nothing else of memory is in it. -/
def nk (key : Nat) : Nat → AV → Prop
  | _, .v _ => True
  | _, .any => True
  | _, .bx r _ => r = key
  | _, .ptr r _ _ _ _ => r = key
  | _, .own r _ _ _ => r = key
  | _, .mp r _ => r = key
  | d + 1, .agg cs => ∀ c ∈ cs, nk key d c
  | d + 1, .tup cs => ∀ c ∈ cs, nk key d c
  | _, _ => False
def famNK (key : Nat) (y : Fam) : Prop := ∀ f, ∀ j, j < (y f).n → ∀ c ∈ (y f).get j, nk key 1 c
def okN (key : Nat) : Option Fam → Prop
  | some y => famNK key y
  | none => True
theorem R.nk {w : World} {ρ ρ' : Env} {key : Nat} (hd : ρ'.dom key) (hb : ∀ f, ρ'.blk key f = ρ.blk key f) (hc : ∀ f, ρ'.cap key f = ρ.cap key f) : ∀ (d : Nat) {a : AV} {x : Value}, nk key d a → R w ρ a x → R w ρ' a x
  | d, .v y, x, _, h => by cases h; exact .v
  | d, .any, x, _, h => .any
  | d, .bx r k, x, hk, h => by
    obtain rfl : r = key := by cases d <;> exact hk
    cases h with | bx _ => rw [← hb]; exact .bx hd
  | d, .ptr r f i sz k, x, hk, h => by
    obtain rfl : r = key := by cases d <;> exact hk
    cases h with | ptr _ => rw [← hb]; exact .ptr hd
  | d, .own r f n sz, x, hk, h => by
    obtain rfl : r = key := by cases d <;> exact hk
    cases h with | own _ hn ha => rw [← hc] at hn ha ⊢; rw [← hb] at ha; exact .own hd hn ha
  | d, .mp r f, x, hk, h => by
    obtain rfl : r = key := by cases d <;> exact hk
    cases h with | mp _ hcap => rw [← hb]; exact .mp hd (by rw [hc]; exact hcap)
  | d + 1, .agg cs, x, hk, h => by
    cases h with | agg hl hh => exact .agg hl fun i a y h1 h2 => R.nk hd hb hc d (hk a (List.mem_of_getElem? h1)) (hh i a y h1 h2)
  | d + 1, .tup cs, x, hk, h => by
    cases h with | tup hl hh => exact .tup hl fun i a y h1 h2 => R.nk hd hb hc d (hk a (List.mem_of_getElem? h1)) (hh i a y h1 h2)
  | 0, .agg _, _, hk, _ => hk.elim
  | 0, .tup _, _, hk, _ => hk.elim
  | 0, .ro _ _ _, _, hk, _ => hk.elim
  | 0, .rop _, _, hk, _ => hk.elim
  | 0, .vw _ _ _ _ _, _, hk, _ => hk.elim
  | 0, .fn _ _, _, hk, _ => hk.elim
  | 0, .iface _ _, _, hk, _ => hk.elim
  | 0, .cond _ _, _, hk, _ => hk.elim
  | 0, .rm _ _, _, hk, _ => hk.elim
  | d + 1, .ro _ _ _, _, hk, _ => hk.elim
  | d + 1, .rop _, _, hk, _ => hk.elim
  | d + 1, .vw _ _ _ _ _, _, hk, _ => hk.elim
  | d + 1, .fn _ _, _, hk, _ => hk.elim
  | d + 1, .iface _ _, _, hk, _ => hk.elim
  | d + 1, .cond _ _, _, hk, _ => hk.elim
  | d + 1, .rm _ _, _, hk, _ => hk.elim

section
variable {P : Program} {f : FuncId}
noncomputable def mcKU (F : List AV → Option (List Prop × (Nat → AV) × (Nat → Option Fam))) : MCon := fun key m es => match F (es.map (purU 3 m)) with
  | some (ob, v, nw) => some ⟨es.flatMap (pgs 3 m) ++ nk key 3 (v key) :: okN key (nw key) :: ob, v key, .many [] (nw key)⟩
  | none => none
/-- What a maker may lean on of what its caller has. -/
def vwJ (ρ : Env) (m : Mem) (b : Nat) : Prop := ρ.imm b ∨ ∃ r x f, look m r = some x ∧ (x f).g ≠ some false ∧ 0 < ρ.cap r f ∧ b = ρ.blk r f
theorem view_rel {w0 : Base} {w : World} {ρ : Env} {m : Mem} {D : Nat → Prop} (hR : Rel w0 ρ m D w) : Rel w0 (.ext (vwJ ρ m)) [] (fun _ => False) w := by
  refine ⟨hR.below, fun b hb => ?_, fun r hr => hr.elim, fun r x hx => by simp [look] at hx, fun r x f hx => by simp [look] at hx, fun r x f r' x' f' hx => by simp [look] at hx, fun p hp => ?_, fun p hp => ⟨.inl (hR.kept p hp).1, (hR.kept p hp).2⟩⟩
  · have hb : vwJ ρ m b := hb
    rcases hb with hb | ⟨r, x, f, h1, h2, h3, hbe⟩
    · exact hR.imm2 b hb
    · rw [hbe]; exact ⟨hR.lt h1 h2 h3, .inr ((hR.row r x f h1 h2).2.blk h3).1⟩
  · obtain ⟨p1, p2, p3, p4⟩ := hR.fix p hp
    refine ⟨p1, fun r x f hx => by simp [look] at hx, fun hb => ?_, p4⟩
    have hb : vwJ ρ m p.1 := hb
    rcases hb with hb | ⟨r, x, f, h1, h2, h3, e⟩
    · exact p3 hb
    · exact p2 r x f h1 h2 h3 e.symm
theorem view_post {w0 : Base} {w w' : World} {ρ : Env} {m : Mem} {D : Nat → Prop} {key : Nat} {v : AV} {nw : Option Fam} {ob ob' : List Prop} {val : Value} (hR : Rel w0 ρ m D w) (hk : ¬ D key) (hnv : nk key 3 v) (hny : okN key nw)
    (hp : Post w0 (.ext (vwJ ρ m)) [] (fun _ => False) key ⟨ob, v, .many [] nw⟩ w val w') : Post w0 ρ m D key ⟨ob', v, .many [] nw⟩ w val w' := by
  obtain ⟨J, hJ⟩ : ∃ J : Nat → Prop, J = vwJ ρ m := ⟨_, rfl⟩
  rw [← hJ] at hp
  obtain ⟨ρ3, r1, r2, r3, r4⟩ := hp
  have hJi : ∀ b, ρ.imm b → J b := fun b hb => by rw [hJ]; exact .inl hb
  have hJr : ∀ r x f, look m r = some x → (x f).g ≠ some false → 0 < ρ.cap r f → J (ρ.blk r f) := fun r x f h1 h2 h3 => by rw [hJ]; exact .inr ⟨r, x, f, h1, h2, h3, rfl⟩
  have hkd : ¬ ρ.dom key := fun hd => hk (hR.dom _ hd)
  have hkl : look m key = none := by
    cases hl : look m key with
    | none => rfl
    | some y => exact absurd (hR.key _ _ hl) hk
  obtain ⟨ρ4, h4⟩ : ∃ ρ4 : Env, ρ4 = { dom := fun r => ρ.dom r ∨ r = key, blk := fun r f => if r = key then ρ3.blk key f else ρ.blk r f, cap := fun r f => if r = key then ρ3.cap key f else ρ.cap r f, imm := ρ.imm } := ⟨_, rfl⟩
  have kd : ρ4.dom key := by rw [h4]; exact .inr rfl
  have kb : ∀ f, ρ4.blk key f = ρ3.blk key f := fun f => by rw [h4]; simp
  have kc : ∀ f, ρ4.cap key f = ρ3.cap key f := fun f => by rw [h4]; simp
  have ob_ : ∀ r f, r ≠ key → ρ4.blk r f = ρ.blk r f := fun r f hr => by rw [h4]; simp [hr]
  have oc : ∀ r f, r ≠ key → ρ4.cap r f = ρ.cap r f := fun r f hr => by rw [h4]; simp [hr]
  have im : ρ4.imm = ρ.imm := by rw [h4]
  have hle : ρ.le ρ4 := ⟨fun r hr => by rw [h4]; exact .inl hr, fun r f hr => ob_ r f (fun e => hkd (e ▸ hr)), fun r f hr => oc r f (fun e => hkd (e ▸ hr)), fun b hb => by rw [im]; exact hb⟩
  have hsame : Same ρ.imm w w' := fun b hb => r4 b (hJi b hb)
  have j3 : ∀ b, J b → ρ3.imm b := fun b hb => r3.imm b hb
  have hlook : ∀ r x, look (Upd.app key m (.many [] nw)) r = some x → (r = key ∧ nw = some x) ∨ (r ≠ key ∧ look m r = some x) := fun r x hx => by
    unfold Upd.app at hx
    cases hn : nw with
    | none =>
      rw [hn] at hx
      have hx : look m r = some x := hx
      exact .inr ⟨fun e => (by rw [e, hkl] at hx; cases hx), hx⟩
    | some y =>
      rw [hn] at hx
      have hx : look (insRow key y m) r = some x := hx
      rw [look_ins hkl] at hx
      split at hx
      · rename_i e; cases hx; exact .inl ⟨e.symm, rfl⟩
      · rename_i e; exact .inr ⟨Ne.symm e, hx⟩
  have hl3 : ∀ y, nw = some y → look (Upd.app key [] (.many [] nw)) key = some y := fun y hy => by
    rw [hy]
    show look (insRow key y []) key = some y
    simp [insRow, look]
  refine ⟨ρ4, r1.nk kd kb kc 3 hnv, ⟨r2.below, fun b hb => ?_, fun r hr => ?_, fun r x hx => ?_, fun r x f hx hg => ?_, fun r x f r' x' f' hx hx' hg hg' hc hc' e => ?_, fun p hp => ?_, fun p hp => ?_⟩, hle, hsame⟩
  · rw [im] at hb
    exact ⟨(r2.imm2 b (j3 b (hJi b hb))).1, (hR.imm2 b hb).2⟩
  · rw [h4] at hr
    exact hr.imp (hR.dom r) id
  · rcases hlook r x hx with ⟨e, _⟩ | ⟨_, h⟩
    · exact .inr e
    · exact .inl (hR.key r x h)
  · rcases hlook r x hx with ⟨e, hy⟩ | ⟨hne, h⟩
    · subst e
      obtain ⟨_, q⟩ := r2.row r x f (hl3 x hy) hg
      rw [hy] at hny
      refine ⟨kd, by rw [kc]; exact q.n_le, fun hc => ?_, q.len, fun i k c v h1 h2 h3 => ?_⟩
      · rw [kc] at hc
        obtain ⟨b1, b2, o, b3, b4⟩ := q.blk hc
        rw [kb, kc, im]
        exact ⟨b1, fun hb => b2 (j3 _ (hJi _ hb)), o, b3, b4⟩
      · rw [kb] at h3
        exact (q.rel i k c v h1 h2 h3).nk kd kb kc 1 (hny f i h1 c (List.mem_of_getElem? h2))
    · obtain ⟨hd, q⟩ := hR.row r x f h hg
      exact ⟨hle.dom r hd, q.mono hd hle (fun b _ hb => by rw [im] at hb; exact hb) hsame (fun hc => r4 _ (hJr r x f h hg hc))⟩
  · rcases hlook r x hx with ⟨e1, hy⟩ | ⟨hne, h1⟩ <;> rcases hlook r' x' hx' with ⟨e2, hy'⟩ | ⟨hne', h1'⟩
    · subst e1; subst e2
      rw [kc] at hc hc'
      rw [kb, kb] at e
      exact r2.sep r' x f r' x' f' (hl3 x hy) (hl3 x' hy') hg hg' hc hc' e
    · exfalso
      subst e1
      rw [kc] at hc
      rw [oc _ _ hne'] at hc'
      rw [kb, ob_ _ _ hne'] at e
      refine r2.not_imm (hl3 x hy) hg hc ?_
      rw [e]
      exact j3 _ (hJr r' x' f' h1' hg' hc')
    · exfalso
      subst e2
      rw [kc] at hc'
      rw [oc _ _ hne] at hc
      rw [kb, ob_ _ _ hne] at e
      refine r2.not_imm (hl3 x' hy') hg' hc' ?_
      rw [← e]
      exact j3 _ (hJr r x f h1 hg hc)
    · rw [oc _ _ hne] at hc
      rw [oc _ _ hne'] at hc'
      rw [ob_ _ _ hne, ob_ _ _ hne'] at e
      exact hR.sep r x f r' x' f' h1 h1' hg hg' hc hc' e
  · obtain ⟨p1, p2, p3, p4⟩ := hR.fix p hp
    obtain ⟨q1, q2, q3, q4⟩ := r2.fix p hp
    refine ⟨p1, fun r x f hx hg hc e => ?_, by rw [im]; exact p3, q4⟩
    rcases hlook r x hx with ⟨e1, hy⟩ | ⟨hne, h1⟩
    · subst e1
      rw [kc] at hc
      rw [kb] at e
      exact q2 r x f (hl3 x hy) hg hc e
    · rw [oc _ _ hne] at hc
      rw [ob_ _ _ hne] at e
      exact p2 r x f h1 hg hc e
  · rw [im]
    exact ⟨(hR.kept p hp).1, (r2.kept p hp).2⟩
theorem view_conv {F0 : List AV → Option (List Prop × (Nat → AV) × (Nat → Option Fam))} (h : ∀ es ob v nw, F0 es = some (ob, v, nw) → (∀ p ∈ ob, p) → ∃ F es' ob', MConOK P f (mcK F) ∧ (∀ w I vs, Rs w (.ext I) es vs → Rs w (.ext I) es' vs) ∧ F es' = some (ob', v, nw) ∧ ∀ p ∈ ob', p) : MConOK P f (mcKU F0) := by
  intro w0 ρ m m' D w key aas vs e hR hk hm hRs hc hob _
  unfold Ax.mcKU at hc
  split at hc
  · rename_i ob v nw hF
    cases hc
    have hs' : Rs w (.ext (vwJ ρ m)) (aas.map (purU 3 m')) vs := purUs_sound (J := vwJ ρ m) (hR.sub hm fun _ h => h) (fun b hb => .inl hb) (fun r x f h1 h2 h3 => .inr ⟨r, x, f, hm _ _ h1, h2, h3, rfl⟩) (fun p hp => hob p (List.mem_append_left _ hp)) hRs
    obtain ⟨F, es', ob', h, hcv, hFe, hob'⟩ := h _ _ _ _ hF fun p hp => hob p (List.mem_append_right _ (by simp [hp]))
    have hnv : nk key 3 (v key) := hob _ (List.mem_append_right _ (by simp))
    have hny : okN key (nw key) := hob _ (List.mem_append_right _ (by simp))
    exact (h w0 (.ext (vwJ ρ m)) [] [] (fun _ => False) w key es' vs ⟨ob', v key, .many [] (nw key)⟩ (view_rel hR) (fun h => h) (fun _ _ h => h) (hcv _ _ _ hs') (by unfold Ax.mcK; rw [hFe]) hob' ⟨_, _, rfl⟩).mono fun val w' hp => view_post hR hk hnv hny hp
  · cases hc
variable {G : Ctx} {H : Hots} {fn : Func}
open Classical in
/-- The body is walked on other names of the same values. -/
theorem MConOK.mkU (hG : CtxOK P G) (hf : P.funcs[f]? = some fn) {F0 : List AV → Option (List Prop × (Nat → AV) × (Nat → Option Fam))} (h : ∀ es ob v nw, F0 es = some (ob, v, nw) → (∀ p ∈ ob, p) → ∃ es', (∀ w I vs, Rs w (.ext I) es vs → Rs w (.ext I) es' vs) ∧ (∀ a ∈ es', clean 3 a = true) ∧ funcOK P H fn es'.length = true ∧ ∀ key, bodyM P G H fn es' [] 0 fun a m1 => NewP key 0 a m1 (v key) (nw key)) : MConOK P f (Ax.mcKU F0) := by
  refine view_conv fun es ob v nw hF hob => ?_
  obtain ⟨es', h1, h2, h3, h4⟩ := h es ob v nw hF hob
  refine ⟨fun l => if l = es' then some ([], v, nw) else none, es', [], MConOK.mcK (H := H) hG hf fun l ob2 v2 nw2 h5 _ => ?_, h1, if_pos rfl, fun p hp => by simp at hp⟩
  split at h5
  · rename_i e
    subst e
    cases h5
    exact ⟨h2, h3, h4⟩
  · cases h5
end
end Go.Ax
end

section
/-
  The program's table of slots: Copy.
-/
set_option linter.unusedVariables false
set_option linter.unusedSimpArgs false
set_option maxHeartbeats 4000000
set_option maxRecDepth 100000
namespace Go.Ax
open Go.Proofs
def mcUf (key : Nat) (ps : List Prop) : Option (List Prop × (Nat → AV) × (Nat → Option Fam)) → Option Eff
  | some (ob, v, nw) => some ⟨ps ++ nk key 3 (v key) :: okN key (nw key) :: ob, v key, .many [] (nw key)⟩
  | none => none
theorem mcKU_eq {F : List AV → Option (List Prop × (Nat → AV) × (Nat → Option Fam))} {key : Nat} {m : Mem} {es : List AV} : mcKU F key m es = mcUf key (pgsL 3 m es) (F (purUL 3 m es)) := by
  rw [← purUL_eq, ← pgsL_eq]
  unfold mcKU mcUf
  split <;> rename_i h <;> first | rw [h] | rfl
theorem mcUf_some {key : Nat} {ps ob : List Prop} {v : Nat → AV} {nw : Nat → Option Fam} : mcUf key ps (some (ob, v, nw)) = some ⟨ps ++ nk key 3 (v key) :: okN key (nw key) :: ob, v key, .many [] (nw key)⟩ := (rfl)
theorem okN_some {key : Nat} {y : Fam} : okN key (some y) = famNK key y := (rfl)
theorem okN_none {key : Nat} : okN key none = True := (rfl)
theorem nk_v {key d : Nat} {x : Value} : nk key d (.v x) = True := by cases d <;> rfl
theorem nk_bx {key d r k : Nat} : nk key d (.bx r k) = (r = key) := by cases d <;> rfl
theorem nk_own {key d r f n sz : Nat} : nk key d (.own r f n sz) = (r = key) := by cases d <;> rfl
def nkL (key d : Nat) : List AV → Prop
  | [] => True
  | a :: l => nk key d a ∧ nkL key d l
theorem nkL_eq {key d : Nat} : ∀ {l : List AV}, (∀ c ∈ l, nk key d c) = nkL key d l
  | [] => by simp [nkL]
  | a :: l => by rw [nkL, ← nkL_eq]; simp
theorem nkL_nil {key d : Nat} : nkL key d [] = True := (rfl)
theorem nkL_cons {key d : Nat} {a : AV} {l : List AV} : nkL key d (a :: l) = (nk key d a ∧ nkL key d l) := (rfl)
theorem nk_tup {key d : Nat} {l : List AV} : nk key (d + 1) (.tup l) = nkL key d l := by rw [← nkL_eq]; rfl
theorem nk_agg {key d : Nat} {l : List AV} : nk key (d + 1) (.agg l) = nkL key d l := by rw [← nkL_eq]; rfl
theorem famNK_ints {key n sz : Nat} {ty : TypeId} {X : Nat → Int} {g : Option Bool} : famNK key (famN n sz ty (fun i => [i64 (X i)]) g) = True := eq_true fun f j hj c hc => by
  match f with
  | 0 =>
    have hc : c ∈ [i64 (X j)] := hc
    simp only [List.mem_cons, List.not_mem_nil, or_false] at hc
    subst hc; trivial
  | f + 1 => have hj : j < 0 := hj; omega
theorem famNK_S {key : Nat} {x : Int} {n : Nat} {X : Nat → Int} : famNK key (slF key ⟨x, n, X, noRows⟩) = True := eq_true fun f j hj c hc => by
  match f with
  | 0 =>
    have hc : c ∈ [u64 x, .own key 1 n 1] := hc
    simp only [List.mem_cons, List.not_mem_nil, or_false] at hc
    rcases hc with rfl | rfl
    · trivial
    · rfl
  | 1 =>
    have hc : c ∈ [i64 (X j)] := hc
    simp only [List.mem_cons, List.not_mem_nil, or_false] at hc
    subst hc; trivial
  | f + 2 => have hj : j < 0 := hj; omega
attribute [go_sem] mcKU_eq mcUf_some okN_some okN_none nk_v nk_bx nk_own nkL_nil nkL_cons nk_tup nk_agg famNK_ints famNK_S
theorem newN {key N r n sz : Nat} {ty : TypeId} {get get' : Nat → List AV} {m1 : Mem} (h : look m1 r = some (famN n sz ty get none)) (hN : N ≤ r) (hc : ∀ j, j < n → get' j = get j ∧ ∀ c ∈ get j, clean 3 c = true) : NewP key N (.own r 0 n sz) m1 (.own key 0 n sz) (some (famN n sz ty get' none)) := by
  refine newP_list [(r, 0)] (by simp) (by simp [hN]) (.inr (by simp [ixP, sgP])) (fun ks hks => ?_) (fun ks hks f r' g hf => ?_) (fun f hf => ?_)
  · show AV.own key 0 n sz = AV.own (thL ks key (ixP [(r, 0)]) r 0).1 (thL ks key (ixP [(r, 0)]) r 0).2 n sz
    simp only [thL]
    rw [if_neg (by omega)]
    simp [ixP]
  · match f, hf with
    | 0, hf =>
      cases hf
      refine ⟨_, h, ⟨rfl, rfl, rfl, rfl, fun j hj => ?_⟩, by simp [famN]⟩
      obtain ⟨h1, h2⟩ := hc j hj
      obtain ⟨k1, k2⟩ := cleans_ren (θ := thL ks key (ixP [(r, 0)])) (g := newG N (sgP [(r, 0)]) (ixP [(r, 0)])) (B := newB N (sgP [(r, 0)])) h2
      exact ⟨by show get' j = (get j).map _; rw [h1, k1], k2⟩
    | f + 1, hf => simp at hf
  · match f, hf with
    | f + 1, _ => rfl
def F91 : List AV → Option (List Prop × (Nat → AV) × (Nat → Option Fam))
  | [.ro n 1 g] => some ([0 < n, n ≤ 64, ints n g], fun k => .own k 0 n 1, fun k => some (famN n 1 3 (fun i => [i64 (gx g 0 i)]) none))
  | _ => none
noncomputable def mN91 : MCon := mcKU F91
theorem mN91_eq : mN91 = mcKU F91 := (rfl)
attribute [go_sem] mN91_eq
def F42 : List AV → Option (List Prop × (Nat → AV) × (Nat → Option Fam))
  | [.rop [.v (.int .u64 x), .ro n 1 g]] => some ([0 < n, n ≤ 64, ints n g], fun k => .bx k 0, fun k => some (slF k ⟨x, n, gx g 0, noRows⟩))
  | _ => none
noncomputable def mN42 : MCon := mcKU F42
theorem mN42_eq : mN42 = mcKU F42 := (rfl)
attribute [go_sem] mN42_eq
end Go.Ax
end

section
/-
  The program's sweep, ars an object; what writes it.
-/
set_option linter.unusedVariables false
set_option linter.unusedSimpArgs false
set_option maxHeartbeats 4000000
set_option maxRecDepth 100000
namespace Go.Ax
open Go.Proofs
structure SwS where
  L : Ents
  tl : Fam
noncomputable def swF (K : Nat) (s : SwS) : Fam := famR [⟨1, 1, 103, fun _ => [.mp K 1], none⟩, mapR 4 s.L] s.tl
theorem swF_inj {K : Nat} {s t : SwS} (h : swF K s = swF K t) : s = t := by
  obtain ⟨L, tl⟩ := s
  obtain ⟨L', tl'⟩ := t
  have h1 := congrFun h 1
  simp only [swF, famR_1, mapR, Row.mk.injEq, true_and, and_true] at h1
  obtain rfl := mapTy_inj h1
  have e2 : tl = tl' := by
    funext f
    exact congrFun h (f + 2)
  rw [e2]
theorem swF_ren {s : SwS} (h : tlOK s.tl) {θ : Nat → Nat → Nat × Nat} {g : Nat → Nat → Prop} {B : Nat → Prop} {i K : Nat} (hθ : ∀ f, θ i f = (K, f)) (hg : ∀ f, g i f) (f : Nat) : rowRen θ g B (swF i s f) (swF K s f) := by
  match f with
  | 0 =>
    refine ⟨rfl, rfl, rfl, rfl, fun j hj => ⟨?_, fun c hc => ?_⟩⟩
    · show [AV.mp K 1] = [AV.mp (θ i 1).1 (θ i 1).2]
      rw [hθ]
    · have hc : c ∈ [AV.mp i 1] := hc
      simp only [List.mem_cons, List.not_mem_nil, or_false] at hc
      subst hc
      exact hg 1
  | 1 => exact ⟨rfl, rfl, rfl, rfl, fun j hj => by have hj : j < 0 := hj; omega⟩
  | f + 2 => exact rowRen_tl h f
noncomputable def oW : Obj SwS where
  fm := swF
  ok s := tlOK s.tl
  inj _ _ _ h := swF_inj h
  ren _ h _ _ _ _ _ h1 h2 f := swF_ren h h1 h2 f
  gn K s h f := match f with
    | 0 => rfl
    | 1 => rfl
    | f + 2 => (h f).1
theorem oW_fm {K : Nat} {s : SwS} : oW.fm K s = swF K s := (rfl)
theorem at_W {K : Nat} {m : Mem} {x : SwS} : oW.at K m (some x) = (look m K = some (swF K x)) := (rfl)
theorem mcOe_W {F : OFun SwS} {K key : Nat} {rest : List AV} {L : Ents} {tl : Fam} : mcOe oW F K key rest (some (famR [⟨1, 1, 103, fun _ => [.mp K 1], none⟩, mapR 4 L] tl)) = mcOf oW K key ⟨L, tl⟩ (F ⟨L, tl⟩ rest) := mcOe_fm (O := oW) (x := ⟨L, tl⟩)
theorem fam_W {K : Nat} {s : SwS} : oW.fam K (some s) = famR [⟨1, 1, 103, fun _ => [.mp K 1], none⟩, mapR 4 s.L] s.tl := (rfl)
theorem ok_W {s : SwS} : oW.ok s = tlOK s.tl := (rfl)
theorem okO_W {s : SwS} : oW.okO (some s) = tlOK s.tl := (rfl)
attribute [go_sem] mcOe_W fam_W ok_W okO_W tlOK_no
def putE (L : Ents) (i a b c d : Int) : Int := if i < 0 ∨ 2147483647 < i then 3 else if checkBoxS a b c d ≠ 0 then checkBoxS a b c d else if (memSel L i).isSome = true then 11 else if 256 ≤ (L.length : Int) then 10 else 0
def movE (L : Ents) (i a b c d : Int) : Int := if i < 0 ∨ 2147483647 < i then 3 else if checkBoxS a b c d ≠ 0 then checkBoxS a b c d else if (memSel L i).isSome = true then 0 else 9
def drpE (L : Ents) (i : Int) : Int := if i < 0 ∨ 2147483647 < i then 3 else if (memSel L i).isSome = true then 0 else 9
def putW (s : SwS) (i a b c d : Int) : SwS := if putE s.L i a b c d = 0 then ⟨memPut s.L i [a, b, c, d], s.tl⟩ else s
def movW (s : SwS) (i a b c d : Int) : SwS := if movE s.L i a b c d = 0 then ⟨memPut s.L i [a, b, c, d], s.tl⟩ else s
def drpW (s : SwS) (i : Int) : SwS := if drpE s.L i = 0 then ⟨memDel s.L i, s.tl⟩ else s
def F19 : OFun SwS := fun s rest => match rest with
  | [.v (.int .i64 i), .agg [.v (.int .i64 a), .v (.int .i64 b), .v (.int .i64 c), .v (.int .i64 d)]] => some ([inR a, inR b, inR c, inR d], fun _ => i64 (putE s.L i a b c d), some (putW s i a b c d), fun _ => none)
  | _ => none
noncomputable def m19 : MCon := mcO oW F19
theorem mon19 : MConOK Tryz.prog 19 m19 := MConOK.mcO (G := [(63, c63), (64, c64)]) (H := []) (.cons con63 (.cons con64 .nil)) Tryz.func19 fun s rest ob v x' nw hF hok hok' hob => by
  unfold F19 at hF
  split at hF
  · rename_i i a b c d
    cases hF
    have ha : inR a := hob _ (by simp)
    have hb : inR b := hob _ (by simp)
    have hc : inR c := hob _ (by simp)
    have hd : inR d := hob _ (by simp)
    clear hok' hob
    refine ⟨by simp [clean, cleanCs, cleanC], by kernel_rfl, fun key => bodyM_go (rs := [.tmp 6]) rfl rfl ?_⟩
    obtain ⟨L, tl⟩ := s
    have htl : tlOK tl := hok
    simp only [oW_fm, swF, go_sem, c63, c64, ha, hb, hc, hd]
    have fin : ∀ (e : Int) (m1 : Mem), putE L i a b c d = e → look m1 0 = some (swF 0 ⟨if e = 0 then memPut L i [a, b, c, d] else L, tl⟩) → oW.at 0 m1 (some (putW ⟨L, tl⟩ i a b c d)) ∧ NewP key 1 (i64 e) m1 (i64 (putE L i a b c d)) none := fun e m1 he hl => by
      refine ⟨?_, by rw [he]; exact newP_none rfl⟩
      rw [at_W, hl]
      unfold putW
      dsimp only
      rw [he]
      split <;> rfl
    intro z hz
    refine ⟨fun hn => ?_, fun h0 => ?_⟩
    · have hn : z ≠ 0 := by simpa using hn
      have hr : i < 0 ∨ 2147483647 < i := Classical.byContradiction fun h => hn (by rw [hz, if_neg h])
      refine fin z _ (by unfold putE; rw [if_pos hr, hz, if_pos hr]) ?_
      rw [if_neg hn]; rfl
    have h0 : z = 0 := by simpa using h0
    have hr : ¬ (i < 0 ∨ 2147483647 < i) := fun h => by rw [hz, if_pos h] at h0; cases h0
    intro z2 hz2
    refine ⟨fun hn => ?_, fun h2 => ?_⟩
    · have hn : z2 ≠ 0 := by simpa using hn
      refine fin z2 _ (by unfold putE; rw [if_neg hr, if_pos (by rw [← hz2]; exact hn), hz2]) ?_
      rw [if_neg hn]; rfl
    have h2 : ¬ checkBoxS a b c d ≠ 0 := fun h => by
      rw [← hz2] at h
      exact h (by simpa using h2)
    refine ⟨fun h3 => fin 11 _ (by unfold putE; rw [if_neg hr, if_neg h2, if_pos h3]) rfl, fun h3 => ?_⟩
    have h3 : ¬ (memSel L i).isSome = true := by rw [h3]; decide
    refine ⟨fun h4 => fin 10 _ (by unfold putE; rw [if_neg hr, if_neg h2, if_neg h3, if_pos h4]) rfl, fun h4 => ?_⟩
    refine ⟨by omega, by omega, fin 0 _ (by unfold putE; rw [if_neg hr, if_neg h2, if_neg h3, if_neg h4]) rfl⟩
  · cases hF
def F17 : OFun SwS := fun s rest => match rest with
  | [.v (.int .i64 i), .agg [.v (.int .i64 a), .v (.int .i64 b), .v (.int .i64 c), .v (.int .i64 d)]] => some ([inR a, inR b, inR c, inR d], fun _ => i64 (movE s.L i a b c d), some (movW s i a b c d), fun _ => none)
  | _ => none
noncomputable def m17 : MCon := mcO oW F17
theorem mon17 : MConOK Tryz.prog 17 m17 := MConOK.mcO (G := [(63, c63), (64, c64)]) (H := []) (.cons con63 (.cons con64 .nil)) Tryz.func17 fun s rest ob v x' nw hF hok hok' hob => by
  unfold F17 at hF
  split at hF
  · rename_i i a b c d
    cases hF
    have ha : inR a := hob _ (by simp)
    have hb : inR b := hob _ (by simp)
    have hc : inR c := hob _ (by simp)
    have hd : inR d := hob _ (by simp)
    clear hok' hob
    refine ⟨by simp [clean, cleanCs, cleanC], by kernel_rfl, fun key => bodyM_go (rs := [.tmp 6]) rfl rfl ?_⟩
    obtain ⟨L, tl⟩ := s
    have htl : tlOK tl := hok
    simp only [oW_fm, swF, go_sem, c63, c64, ha, hb, hc, hd]
    have fin : ∀ (e : Int) (m1 : Mem), movE L i a b c d = e → look m1 0 = some (swF 0 ⟨if e = 0 then memPut L i [a, b, c, d] else L, tl⟩) → oW.at 0 m1 (some (movW ⟨L, tl⟩ i a b c d)) ∧ NewP key 1 (i64 e) m1 (i64 (movE L i a b c d)) none := fun e m1 he hl => by
      refine ⟨?_, by rw [he]; exact newP_none rfl⟩
      rw [at_W, hl]
      unfold movW
      dsimp only
      rw [he]
      split <;> rfl
    intro z hz
    refine ⟨fun hn => ?_, fun h0 => ?_⟩
    · have hn : z ≠ 0 := by simpa using hn
      have hr : i < 0 ∨ 2147483647 < i := Classical.byContradiction fun h => hn (by rw [hz, if_neg h])
      refine fin z _ (by unfold movE; rw [if_pos hr, hz, if_pos hr]) ?_
      rw [if_neg hn]; rfl
    have h0 : z = 0 := by simpa using h0
    have hr : ¬ (i < 0 ∨ 2147483647 < i) := fun h => by rw [hz, if_pos h] at h0; cases h0
    intro z2 hz2
    refine ⟨fun hn => ?_, fun h2 => ?_⟩
    · have hn : z2 ≠ 0 := by simpa using hn
      refine fin z2 _ (by unfold movE; rw [if_neg hr, if_pos (by rw [← hz2]; exact hn), hz2]) ?_
      rw [if_neg hn]; rfl
    have h2 : ¬ checkBoxS a b c d ≠ 0 := fun h => by
      rw [← hz2] at h
      exact h (by simpa using h2)
    refine ⟨fun h3 => ?_, fun h3 => ?_⟩
    · have h3 : ¬ (memSel L i).isSome = true := by rw [h3]; decide
      exact fin 9 _ (by unfold movE; rw [if_neg hr, if_neg h2, if_neg h3]) rfl
    · exact ⟨by omega, by omega, fin 0 _ (by unfold movE; rw [if_neg hr, if_neg h2, if_pos h3]) rfl⟩
  · cases hF
def F18 : OFun SwS := fun s rest => match rest with
  | [.v (.int .i64 i)] => some ([], fun _ => i64 (drpE s.L i), some (drpW s i), fun _ => none)
  | _ => none
noncomputable def m18 : MCon := mcO oW F18
theorem mon18 : MConOK Tryz.prog 18 m18 := MConOK.mcO (G := [(63, c63)]) (H := []) (.cons con63 .nil) Tryz.func18 fun s rest ob v x' nw hF hok hok' hob => by
  unfold F18 at hF
  split at hF
  · rename_i i
    cases hF
    clear hok' hob
    refine ⟨by simp [clean, cleanCs, cleanC], by kernel_rfl, fun key => bodyM_go (rs := [.tmp 4]) rfl rfl ?_⟩
    obtain ⟨L, tl⟩ := s
    have htl : tlOK tl := hok
    simp only [oW_fm, swF, go_sem, c63]
    have fin : ∀ (e : Int) (m1 : Mem), drpE L i = e → look m1 0 = some (swF 0 ⟨if e = 0 then memDel L i else L, tl⟩) → oW.at 0 m1 (some (drpW ⟨L, tl⟩ i)) ∧ NewP key 1 (i64 e) m1 (i64 (drpE L i)) none := fun e m1 he hl => by
      refine ⟨?_, by rw [he]; exact newP_none rfl⟩
      rw [at_W, hl]
      unfold drpW
      dsimp only
      rw [he]
      split <;> rfl
    intro z hz
    refine ⟨fun hn => ?_, fun h0 => ?_⟩
    · have hn : z ≠ 0 := by simpa using hn
      have hr : i < 0 ∨ 2147483647 < i := Classical.byContradiction fun h => hn (by rw [hz, if_neg h])
      refine fin z _ (by unfold drpE; rw [if_pos hr, hz, if_pos hr]) ?_
      rw [if_neg hn]; rfl
    have h0 : z = 0 := by simpa using h0
    have hr : ¬ (i < 0 ∨ 2147483647 < i) := fun h => by rw [hz, if_pos h] at h0; cases h0
    refine ⟨fun h3 => ?_, fun h3 => ?_⟩
    · have h3 : ¬ (memSel L i).isSome = true := by rw [h3]; decide
      exact fin 9 _ (by unfold drpE; rw [if_neg hr, if_neg h3]) rfl
    · exact fin 0 _ (by unfold drpE; rw [if_neg hr, if_pos h3]) rfl
  · cases hF
theorem famNK_W {key : Nat} {L : Ents} : famNK key (swF key ⟨L, noRows⟩) = True := eq_true fun f j hj c hc => by
  match f with
  | 0 =>
    have hc : c ∈ [AV.mp key 1] := hc
    simp only [List.mem_cons, List.not_mem_nil, or_false] at hc
    subst hc; rfl
  | 1 => have hj : j < 0 := hj; omega
  | f + 2 => have hj : j < 0 := hj; omega
attribute [go_sem] famNK_W
theorem newW {key N r1 r2 : Nat} {L : Ents} {m1 : Mem} {v : Nat → AV} (hv : ∀ θ r, renA θ 3 (v r) = v (θ r 0).1) (hk : ∀ G B r, B r → kg G B 3 (v r)) (h1 : look m1 r1 = some (fam1 103 1 [.mp r2 0] none)) (h2 : look m1 r2 = some (famMap 4 L none)) (hne : r1 ≠ r2) (N1 : N ≤ r1) (N2 : N ≤ r2) : NewP key N (v r1) m1 (v key) (some (swF key ⟨L, noRows⟩)) := by
  have ix1 : ixP [(r1, 0), (r2, 0)] r1 0 = 0 := by simp [ixP]
  have ix2 : ixP [(r1, 0), (r2, 0)] r2 0 = 1 := by simp [ixP, hne]
  refine newP_list [(r1, 0), (r2, 0)] (by simp [hne]) (by simp [N1, N2]) (hk _ _ _ (.inr rfl)) (fun ks hks => ?_) (fun ks hks f r g hf => ?_) (fun f hf => ?_)
  · rw [hv]
    simp only [thL]
    rw [if_neg (by omega)]
  · match f, hf with
    | 0, hf =>
      cases hf
      refine ⟨_, h1, ⟨rfl, rfl, rfl, rfl, fun j hj => ⟨?_, fun c hc => ?_⟩⟩, by simp [fam1]⟩
      · show [AV.mp key 1] = [AV.mp (thL ks key (ixP [(r1, 0), (r2, 0)]) r2 0).1 (thL ks key (ixP [(r1, 0), (r2, 0)]) r2 0).2]
        simp only [thL]
        rw [if_neg (by omega), ix2]
      · have hc : c ∈ [AV.mp r2 0] := hc
        simp only [List.mem_cons, List.not_mem_nil, or_false] at hc
        subst hc
        exact .inr (by rw [ix2]; rfl)
    | 1, hf =>
      cases hf
      exact ⟨_, h2, ⟨rfl, rfl, rfl, rfl, fun j hj => by have hj : j < 0 := hj; omega⟩, by simp [famMap]⟩
    | f + 2, hf => simp at hf
  · match f, hf with
    | f + 2, _ => rfl
noncomputable def F28 : List AV → Option (List Prop × (Nat → AV) × (Nat → Option Fam))
  | [] => some ([], fun k => .bx k 0, fun k => some (swF k ⟨[], noRows⟩))
  | _ => none
noncomputable def mN28 : MCon := mcKU F28
theorem mN28_eq : mN28 = mcKU F28 := (rfl)
attribute [go_sem] mN28_eq
theorem mon28 : MConOK Tryz.prog 28 mN28 := MConOK.mkU (G := []) (H := []) .nil Tryz.func28 fun es ob v nw hF hob => by
  unfold F28 at hF
  split at hF
  · cases hF
    refine ⟨[], fun w I vs hR => hR, by simp, by kernel_rfl, fun key => bodyM_go (rs := [.tmp 0]) rfl rfl ?_⟩
    simp only [go_sem]
    exact newW (v := fun k => .bx k 0) (r2 := 1) (fun _ _ => rfl) (fun G B r hr => hr) rfl rfl (by decide) (Nat.zero_le _) (Nat.zero_le _)
  · cases hF
end Go.Ax
end

section
/-
  The shelf's contracts at this program, in plain words (written by a tool of the kit's).
-/
namespace Go.Proofs
open Go.Shelf
def Tryz.keysA_ren : Go.Shelf.Ren := ⟨fun | 7 => 108 | 10 => 131 | n => n, fun | 23 => 101 | 26 => 3 | 3 => 32 | 28 => 134 | 0 => 0 | 27 => 133 | 33 => 113 | 4 => 4 | n => n, fun | n => n⟩
theorem Tryz.keysA : Go.Proofs.SlLaysZI.n7 Tryz.prog Tryz.keysA_ren := {
  mixed := by kernel_rfl
  f7 := ⟨Tryz.f108.name, by decide, Tryz.func108.trans (congrArg some (by kernel_rfl))⟩
  f10 := ⟨Tryz.f131.name, by decide, Tryz.func131.trans (congrArg some (by kernel_rfl))⟩
  t0 := Tryz.underlying0
  a0 := Tryz.isAgg0
  z0 := Tryz.sizeOf0
  v0 := Tryz.zeroValue0
  t4 := Tryz.underlying4
  a4 := Tryz.isAgg4
  z4 := Tryz.sizeOf4
  v4 := Tryz.zeroValue4
  t23 := Tryz.underlying101
  a23 := Tryz.isAgg101
  z23 := Tryz.sizeOf101
  v23 := Tryz.zeroValue101
  t26 := Tryz.underlying3
  a26 := Tryz.isAgg3
  z26 := Tryz.sizeOf3
  v26 := Tryz.zeroValue3
  t27 := Tryz.underlying133
  a27 := Tryz.isAgg133
  z27 := Tryz.sizeOf133
  v27 := Tryz.zeroValue133
  t28 := Tryz.underlying134
  a28 := Tryz.isAgg134
  z28 := Tryz.sizeOf134
  v28 := Tryz.zeroValue134
  t33 := Tryz.underlying113
  a33 := Tryz.isAgg113
  z33 := Tryz.sizeOf113
  v33 := Tryz.zeroValue113 }
def Tryz.sortedA_ren : Go.Shelf.Ren := ⟨fun | 6 => 107 | 8 => 129 | 9 => 130 | 11 => 154 | 13 => 111 | 12 => 155 | 23 => 140 | 24 => 141 | 14 => 164 | 15 => 165 | 16 => 166 | 17 => 167 | 18 => 168 | 19 => 169 | 20 => 170 | 21 => 171 | 22 => 172 | 25 => 175 | 26 => 157 | 27 => 158 | 28 => 176 | 29 => 177 | 30 => 113 | 31 => 178 | n => n, fun | 26 => 3 | 28 => 134 | 24 => 22 | 0 => 0 | 3 => 3 | 37 => 139 | 48 => 163 | 50 => 96 | 4 => 4 | 40 => 156 | 39 => 155 | 45 => 160 | 5 => 5 | 9 => 9 | 51 => 173 | 55 => 177 | 57 => 187 | 58 => 188 | 33 => 113 | n => n, fun | n => n⟩
theorem Tryz.sortedA : Go.Proofs.SlLaysZI.n6 Tryz.prog Tryz.sortedA_ren := {
  mixed := by kernel_rfl
  f6 := ⟨Tryz.f107.name, by decide, Tryz.func107.trans (congrArg some (by kernel_rfl))⟩
  f8 := ⟨Tryz.f129.name, by decide, Tryz.func129.trans (congrArg some (by kernel_rfl))⟩
  f11 := ⟨Tryz.f154.name, by decide, Tryz.func154.trans (congrArg some (by kernel_rfl))⟩
  t0 := Tryz.underlying0
  a0 := Tryz.isAgg0
  z0 := Tryz.sizeOf0
  v0 := Tryz.zeroValue0
  t24 := Tryz.underlying22
  a24 := Tryz.isAgg22
  z24 := Tryz.sizeOf22
  v24 := Tryz.zeroValue22
  t26 := Tryz.underlying3
  a26 := Tryz.isAgg3
  z26 := Tryz.sizeOf3
  v26 := Tryz.zeroValue3
  t28 := Tryz.underlying134
  a28 := Tryz.isAgg134
  z28 := Tryz.sizeOf134
  v28 := Tryz.zeroValue134
  i26 := by kernel_rfl }
def Tryz.sortA_ren : Go.Shelf.Ren := ⟨fun | 5 => 130 | 8 => 111 | 7 => 155 | 19 => 140 | 20 => 141 | 10 => 164 | 11 => 165 | 12 => 166 | 13 => 167 | 14 => 168 | 15 => 169 | 16 => 170 | 17 => 171 | 18 => 172 | 30 => 175 | 31 => 157 | 32 => 158 | 33 => 176 | 34 => 177 | 35 => 113 | 40 => 178 | n => n, fun | 23 => 22 | 25 => 3 | 3 => 3 | 32 => 139 | 22 => 22 | 0 => 0 | 44 => 163 | 46 => 96 | 4 => 4 | 36 => 156 | 35 => 155 | 41 => 160 | 5 => 5 | 9 => 9 | 53 => 173 | 57 => 177 | 63 => 187 | 64 => 188 | n => n, fun | n => n⟩
theorem Tryz.sortA : Go.Proofs.SlLaysM.n5 Tryz.prog Tryz.sortA_ren := {
  mixed := by kernel_rfl
  f5 := ⟨Tryz.f130.name, by decide, Tryz.func130.trans (congrArg some (by kernel_rfl))⟩
  f7 := ⟨Tryz.f155.name, by decide, Tryz.func155.trans (congrArg some (by kernel_rfl))⟩
  f8 := Tryz.func111.trans (congrArg some (by kernel_rfl))
  f10 := ⟨Tryz.f164.name, by decide, Tryz.func164.trans (congrArg some (by kernel_rfl))⟩
  f11 := ⟨Tryz.f165.name, by decide, Tryz.func165.trans (congrArg some (by kernel_rfl))⟩
  f12 := ⟨Tryz.f166.name, by decide, Tryz.func166.trans (congrArg some (by kernel_rfl))⟩
  f13 := ⟨Tryz.f167.name, by decide, Tryz.func167.trans (congrArg some (by kernel_rfl))⟩
  f14 := ⟨Tryz.f168.name, by decide, Tryz.func168.trans (congrArg some (by kernel_rfl))⟩
  f15 := ⟨Tryz.f169.name, by decide, Tryz.func169.trans (congrArg some (by kernel_rfl))⟩
  f16 := ⟨Tryz.f170.name, by decide, Tryz.func170.trans (congrArg some (by kernel_rfl))⟩
  f17 := ⟨Tryz.f171.name, by decide, Tryz.func171.trans (congrArg some (by kernel_rfl))⟩
  f18 := ⟨Tryz.f172.name, by decide, Tryz.func172.trans (congrArg some (by kernel_rfl))⟩
  f19 := Tryz.func140.trans (congrArg some (by kernel_rfl))
  f20 := Tryz.func141.trans (congrArg some (by kernel_rfl))
  f30 := ⟨Tryz.f175.name, by decide, Tryz.func175.trans (congrArg some (by kernel_rfl))⟩
  f31 := Tryz.func157.trans (congrArg some (by kernel_rfl))
  f32 := Tryz.func158.trans (congrArg some (by kernel_rfl))
  f33 := ⟨Tryz.f176.name, by decide, Tryz.func176.trans (congrArg some (by kernel_rfl))⟩
  f34 := ⟨Tryz.f177.name, by decide, Tryz.func177.trans (congrArg some (by kernel_rfl))⟩
  f35 := ⟨Tryz.f113.name, by decide, Tryz.func113.trans (congrArg some (by kernel_rfl))⟩
  f40 := ⟨Tryz.f178.name, by decide, Tryz.func178.trans (congrArg some (by kernel_rfl))⟩
  t0 := Tryz.underlying0
  a0 := Tryz.isAgg0
  z0 := Tryz.sizeOf0
  v0 := Tryz.zeroValue0
  t3 := Tryz.underlying3
  a3 := Tryz.isAgg3
  z3 := Tryz.sizeOf3
  v3 := Tryz.zeroValue3
  t4 := Tryz.underlying4
  a4 := Tryz.isAgg4
  z4 := Tryz.sizeOf4
  v4 := Tryz.zeroValue4
  t5 := Tryz.underlying5
  a5 := Tryz.isAgg5
  z5 := Tryz.sizeOf5
  v5 := Tryz.zeroValue5
  t9 := Tryz.underlying9
  a9 := Tryz.isAgg9
  z9 := Tryz.sizeOf9
  v9 := Tryz.zeroValue9
  t22 := Tryz.underlying22
  a22 := Tryz.isAgg22
  z22 := Tryz.sizeOf22
  v22 := Tryz.zeroValue22
  t23 := Tryz.underlying22
  a23 := Tryz.isAgg22
  z23 := Tryz.sizeOf22
  v23 := Tryz.zeroValue22
  t25 := Tryz.underlying3
  a25 := Tryz.isAgg3
  z25 := Tryz.sizeOf3
  v25 := Tryz.zeroValue3
  t32 := Tryz.underlying139
  a32 := Tryz.isAgg139
  z32 := Tryz.sizeOf139
  v32 := Tryz.zeroValue139
  t35 := Tryz.underlying155
  a35 := Tryz.isAgg155
  z35 := Tryz.sizeOf155
  v35 := Tryz.zeroValue155
  t36 := Tryz.underlying156
  a36 := Tryz.isAgg156
  z36 := Tryz.sizeOf156
  v36 := Tryz.zeroValue156
  t41 := Tryz.underlying160
  a41 := Tryz.isAgg160
  z41 := Tryz.sizeOf160
  v41 := Tryz.zeroValue160
  t44 := Tryz.underlying163
  a44 := Tryz.isAgg163
  z44 := Tryz.sizeOf163
  v44 := Tryz.zeroValue163
  t46 := Tryz.underlying96
  a46 := Tryz.isAgg96
  z46 := Tryz.sizeOf96
  v46 := Tryz.zeroValue96
  t53 := Tryz.underlying173
  a53 := Tryz.isAgg173
  z53 := Tryz.sizeOf173
  v53 := Tryz.zeroValue173
  t57 := Tryz.underlying177
  a57 := Tryz.isAgg177
  z57 := Tryz.sizeOf177
  v57 := Tryz.zeroValue177
  t63 := Tryz.underlying187
  a63 := Tryz.isAgg187
  z63 := Tryz.sizeOf187
  v63 := Tryz.zeroValue187
  t64 := Tryz.underlying188
  a64 := Tryz.isAgg188
  z64 := Tryz.sizeOf188
  v64 := Tryz.zeroValue188 }
def Tryz.sortF_ren : Go.Shelf.Ren := ⟨fun | 6 => 65 | 15 => 111 | 14 => 110 | 28 => 140 | 29 => 141 | 20 => 132 | 21 => 133 | 22 => 134 | 23 => 135 | 24 => 136 | 25 => 137 | 26 => 138 | 27 => 139 | 46 => 156 | 47 => 157 | 48 => 158 | 49 => 159 | 50 => 160 | 57 => 173 | n => n, fun | 22 => 22 | 24 => 3 | 25 => 28 | 3 => 3 | 39 => 139 | 0 => 0 | 53 => 163 | 55 => 96 | 4 => 4 | 46 => 156 | 45 => 155 | 50 => 160 | 5 => 5 | 9 => 9 | 66 => 173 | 70 => 177 | 76 => 187 | 77 => 188 | n => n, fun | n => n⟩
theorem Tryz.sortF : Go.Proofs.SlLaysF.n6 Tryz.prog Tryz.sortF_ren := {
  mixed := by kernel_rfl
  f6 := ⟨Tryz.f65.name, by decide, Tryz.func65.trans (congrArg some (by kernel_rfl))⟩
  f14 := ⟨Tryz.f110.name, by decide, Tryz.func110.trans (congrArg some (by kernel_rfl))⟩
  f15 := Tryz.func111.trans (congrArg some (by kernel_rfl))
  f20 := ⟨Tryz.f132.name, by decide, Tryz.func132.trans (congrArg some (by kernel_rfl))⟩
  f21 := ⟨Tryz.f133.name, by decide, Tryz.func133.trans (congrArg some (by kernel_rfl))⟩
  f22 := ⟨Tryz.f134.name, by decide, Tryz.func134.trans (congrArg some (by kernel_rfl))⟩
  f23 := ⟨Tryz.f135.name, by decide, Tryz.func135.trans (congrArg some (by kernel_rfl))⟩
  f24 := ⟨Tryz.f136.name, by decide, Tryz.func136.trans (congrArg some (by kernel_rfl))⟩
  f25 := ⟨Tryz.f137.name, by decide, Tryz.func137.trans (congrArg some (by kernel_rfl))⟩
  f26 := ⟨Tryz.f138.name, by decide, Tryz.func138.trans (congrArg some (by kernel_rfl))⟩
  f27 := ⟨Tryz.f139.name, by decide, Tryz.func139.trans (congrArg some (by kernel_rfl))⟩
  f28 := Tryz.func140.trans (congrArg some (by kernel_rfl))
  f29 := Tryz.func141.trans (congrArg some (by kernel_rfl))
  f46 := ⟨Tryz.f156.name, by decide, Tryz.func156.trans (congrArg some (by kernel_rfl))⟩
  f47 := Tryz.func157.trans (congrArg some (by kernel_rfl))
  f48 := Tryz.func158.trans (congrArg some (by kernel_rfl))
  f49 := ⟨Tryz.f159.name, by decide, Tryz.func159.trans (congrArg some (by kernel_rfl))⟩
  f50 := ⟨Tryz.f160.name, by decide, Tryz.func160.trans (congrArg some (by kernel_rfl))⟩
  f57 := ⟨Tryz.f173.name, by decide, Tryz.func173.trans (congrArg some (by kernel_rfl))⟩
  t0 := Tryz.underlying0
  a0 := Tryz.isAgg0
  z0 := Tryz.sizeOf0
  v0 := Tryz.zeroValue0
  t3 := Tryz.underlying3
  a3 := Tryz.isAgg3
  z3 := Tryz.sizeOf3
  v3 := Tryz.zeroValue3
  t4 := Tryz.underlying4
  a4 := Tryz.isAgg4
  z4 := Tryz.sizeOf4
  v4 := Tryz.zeroValue4
  t5 := Tryz.underlying5
  a5 := Tryz.isAgg5
  z5 := Tryz.sizeOf5
  v5 := Tryz.zeroValue5
  t9 := Tryz.underlying9
  a9 := Tryz.isAgg9
  z9 := Tryz.sizeOf9
  v9 := Tryz.zeroValue9
  t22 := Tryz.underlying22
  a22 := Tryz.isAgg22
  z22 := Tryz.sizeOf22
  v22 := Tryz.zeroValue22
  a24 := Tryz.isAgg3
  z24 := Tryz.sizeOf3
  t25 := Tryz.underlying28
  a25 := Tryz.isAgg28
  z25 := Tryz.sizeOf28
  v25 := Tryz.zeroValue28
  t39 := Tryz.underlying139
  a39 := Tryz.isAgg139
  z39 := Tryz.sizeOf139
  v39 := Tryz.zeroValue139
  t45 := Tryz.underlying155
  a45 := Tryz.isAgg155
  z45 := Tryz.sizeOf155
  v45 := Tryz.zeroValue155
  t46 := Tryz.underlying156
  a46 := Tryz.isAgg156
  z46 := Tryz.sizeOf156
  v46 := Tryz.zeroValue156
  t50 := Tryz.underlying160
  a50 := Tryz.isAgg160
  z50 := Tryz.sizeOf160
  v50 := Tryz.zeroValue160
  t53 := Tryz.underlying163
  a53 := Tryz.isAgg163
  z53 := Tryz.sizeOf163
  v53 := Tryz.zeroValue163
  t55 := Tryz.underlying96
  a55 := Tryz.isAgg96
  z55 := Tryz.sizeOf96
  v55 := Tryz.zeroValue96
  t66 := Tryz.underlying173
  a66 := Tryz.isAgg173
  z66 := Tryz.sizeOf173
  v66 := Tryz.zeroValue173
  t70 := Tryz.underlying177
  a70 := Tryz.isAgg177
  z70 := Tryz.sizeOf177
  v70 := Tryz.zeroValue177
  t76 := Tryz.underlying187
  a76 := Tryz.isAgg187
  z76 := Tryz.sizeOf187
  v76 := Tryz.zeroValue187
  t77 := Tryz.underlying188
  a77 := Tryz.isAgg188
  z77 := Tryz.sizeOf188
  v77 := Tryz.zeroValue188 }
def Tryz.sortP_ren : Go.Shelf.Ren := ⟨fun | 6 => 73 | 15 => 111 | 14 => 115 | 28 => 140 | 29 => 141 | 20 => 142 | 21 => 143 | 22 => 144 | 23 => 145 | 24 => 146 | 25 => 147 | 26 => 148 | 27 => 149 | 46 => 161 | 47 => 157 | 48 => 158 | 49 => 162 | 50 => 163 | 57 => 174 | n => n, fun | 22 => 35 | 24 => 95 | 25 => 115 | 3 => 3 | 39 => 139 | 0 => 0 | 53 => 163 | 55 => 96 | 4 => 4 | 46 => 156 | 45 => 155 | 50 => 160 | 5 => 5 | 9 => 9 | 66 => 173 | 70 => 177 | 76 => 187 | 77 => 188 | n => n, fun | n => n⟩
theorem Tryz.sortP : Go.Proofs.SlLaysF0.n6 Tryz.prog Tryz.sortP_ren := {
  mixed := by kernel_rfl
  f6 := ⟨Tryz.f73.name, by decide, Tryz.func73.trans (congrArg some (by kernel_rfl))⟩
  f14 := ⟨Tryz.f115.name, by decide, Tryz.func115.trans (congrArg some (by kernel_rfl))⟩
  f15 := Tryz.func111.trans (congrArg some (by kernel_rfl))
  f20 := ⟨Tryz.f142.name, by decide, Tryz.func142.trans (congrArg some (by kernel_rfl))⟩
  f21 := ⟨Tryz.f143.name, by decide, Tryz.func143.trans (congrArg some (by kernel_rfl))⟩
  f22 := ⟨Tryz.f144.name, by decide, Tryz.func144.trans (congrArg some (by kernel_rfl))⟩
  f23 := ⟨Tryz.f145.name, by decide, Tryz.func145.trans (congrArg some (by kernel_rfl))⟩
  f24 := ⟨Tryz.f146.name, by decide, Tryz.func146.trans (congrArg some (by kernel_rfl))⟩
  f25 := ⟨Tryz.f147.name, by decide, Tryz.func147.trans (congrArg some (by kernel_rfl))⟩
  f26 := ⟨Tryz.f148.name, by decide, Tryz.func148.trans (congrArg some (by kernel_rfl))⟩
  f27 := ⟨Tryz.f149.name, by decide, Tryz.func149.trans (congrArg some (by kernel_rfl))⟩
  f28 := Tryz.func140.trans (congrArg some (by kernel_rfl))
  f29 := Tryz.func141.trans (congrArg some (by kernel_rfl))
  f46 := ⟨Tryz.f161.name, by decide, Tryz.func161.trans (congrArg some (by kernel_rfl))⟩
  f47 := Tryz.func157.trans (congrArg some (by kernel_rfl))
  f48 := Tryz.func158.trans (congrArg some (by kernel_rfl))
  f49 := ⟨Tryz.f162.name, by decide, Tryz.func162.trans (congrArg some (by kernel_rfl))⟩
  f50 := ⟨Tryz.f163.name, by decide, Tryz.func163.trans (congrArg some (by kernel_rfl))⟩
  f57 := ⟨Tryz.f174.name, by decide, Tryz.func174.trans (congrArg some (by kernel_rfl))⟩
  t0 := Tryz.underlying0
  a0 := Tryz.isAgg0
  z0 := Tryz.sizeOf0
  v0 := Tryz.zeroValue0
  t3 := Tryz.underlying3
  a3 := Tryz.isAgg3
  z3 := Tryz.sizeOf3
  v3 := Tryz.zeroValue3
  t4 := Tryz.underlying4
  a4 := Tryz.isAgg4
  z4 := Tryz.sizeOf4
  v4 := Tryz.zeroValue4
  t5 := Tryz.underlying5
  a5 := Tryz.isAgg5
  z5 := Tryz.sizeOf5
  v5 := Tryz.zeroValue5
  t9 := Tryz.underlying9
  a9 := Tryz.isAgg9
  z9 := Tryz.sizeOf9
  v9 := Tryz.zeroValue9
  t22 := Tryz.underlying35
  a22 := Tryz.isAgg35
  z22 := Tryz.sizeOf35
  v22 := Tryz.zeroValue35
  t25 := Tryz.underlying115
  a25 := Tryz.isAgg115
  z25 := Tryz.sizeOf115
  v25 := Tryz.zeroValue115
  t39 := Tryz.underlying139
  a39 := Tryz.isAgg139
  z39 := Tryz.sizeOf139
  v39 := Tryz.zeroValue139
  t45 := Tryz.underlying155
  a45 := Tryz.isAgg155
  z45 := Tryz.sizeOf155
  v45 := Tryz.zeroValue155
  t46 := Tryz.underlying156
  a46 := Tryz.isAgg156
  z46 := Tryz.sizeOf156
  v46 := Tryz.zeroValue156
  t50 := Tryz.underlying160
  a50 := Tryz.isAgg160
  z50 := Tryz.sizeOf160
  v50 := Tryz.zeroValue160
  t53 := Tryz.underlying163
  a53 := Tryz.isAgg163
  z53 := Tryz.sizeOf163
  v53 := Tryz.zeroValue163
  t55 := Tryz.underlying96
  a55 := Tryz.isAgg96
  z55 := Tryz.sizeOf96
  v55 := Tryz.zeroValue96
  t66 := Tryz.underlying173
  a66 := Tryz.isAgg173
  z66 := Tryz.sizeOf173
  v66 := Tryz.zeroValue173
  t70 := Tryz.underlying177
  a70 := Tryz.isAgg177
  z70 := Tryz.sizeOf177
  v70 := Tryz.zeroValue177
  t76 := Tryz.underlying187
  a76 := Tryz.isAgg187
  z76 := Tryz.sizeOf187
  v76 := Tryz.zeroValue187
  t77 := Tryz.underlying188
  a77 := Tryz.isAgg188
  z77 := Tryz.sizeOf188
  v77 := Tryz.zeroValue188 }
end Go.Proofs
end

section
/-
  The ids of a map, sorted, ars a new slice: the shelf's contracts, laid here.
-/
set_option linter.unusedVariables false
set_option linter.unusedSimpArgs false
set_option maxHeartbeats 4000000
set_option maxRecDepth 100000
namespace Go.Proofs
open Go.RowKit Go.Maps Go.Sort Go.Shelf
/-- slices.Sort's two contracts here. -/
theorem Tryz.sortsA (m : Nat) : AnyZI.SortsIn Tryz.prog Tryz.sortedA_ren Fence.wide m :=
  ⟨fun blk off cap ss W hH hblk hsz => callsIn_wide.2 (AnyM.slices_Sort_int Tryz.sortA blk off cap ss W hH hblk hsz),
   fun p cap W => callsIn_wide.2 (AnyM.slices_Sort_int_none Tryz.sortA p cap W)⟩
theorem Tryz.sorted_keys {H : Type} (Bm b nn : Nat) (D0 : DataW H) (R : Value → Option (DataW H × List MemPlace)) (w : World) (hBm : Bm < w.heap.size) (hm : w.cell? ⟨Bm, 0, none⟩ = some (.map (some b)))
    (hown : w.ownsMap Tryz.prog 3 R b nn D0) (hmax : Maps.size D0 ≤ maxLen) (hbytes : Maps.size D0 * 8 ≤ 140737488355328) :
    Calls Tryz.prog 107 #[.func (.func 131) #[] #[.pointer (some ⟨Bm, 0, none⟩)]] w fun e w' => ∃ (v : Value) (ss : List Int), e = .returned v ∧ ss.Perm (intKeys D0) ∧
      w'.ownsRow w.heap.size 3 1 v ss.length ((ss.mergeSort (fun x y => decide (x ≤ y))).map encZ) ∧ (v = .slice none 0 0 ↔ ss = []) ∧ Below w.heap.size w w' := by
  refine (callsIn_wide (n := 5)).1 ?_
  have hseq : SeqGives Fence.wide 2 Tryz.prog 131 #[.pointer (some ⟨Bm, 0, none⟩)] encZ (fun ss => ss.Perm (intKeys D0)) (Maps.size D0) w :=
    AnyZI.keys_gives (ρ := Tryz.keysA_ren) { Tryz.keysA with } Fence.wide _ trivial rfl (by omega) Bm b nn D0 _ hBm hm hown
  have cS := AnyZI.sorted_in Tryz.sortedA Fence.wide 5 trivial trivial trivial trivial rfl (by omega) (Tryz.sortsA _) (enters_of Tryz.func130 (by kernel_rfl) rfl) 131 #[.pointer (some ⟨Bm, 0, none⟩)] trivial (enters_of Tryz.func131 (by kernel_rfl) rfl) _ _ hmax hbytes _ hseq
  exact cS
end Go.Proofs
namespace Go.Ax
open Go.Proofs Go.Maps Go.MapKept Go.RowKit
/-- A slice that lies in a block of its own, new since a world. -/
theorem slice_post {w0 : Base} {J : Nat → Prop} {w w' : World} {key n sz : Nat} {ty : TypeId} {get : Nat → List AV} {v : Value} {xs : List Value} {ob : List Prop} (hty : ty < 1000000) (hR : Rel w0 (.ext J) [] (fun _ => False) w) (hb : Below w.heap.size w w') (hrow : w'.ownsRow w.heap.size ty sz v n xs)
    (hlen : ∀ i, i < n → (get i).length = sz) (hget : ∀ i k c x, i < n → (get i)[k]? = some c → xs[i * sz + k]? = some x → R w' (.ext J) c x) : Post w0 (.ext J) [] (fun _ => False) key ⟨ob, .own key 0 n sz, .many [] (some (famN n sz ty get none))⟩ w v w' := by
  have hR' := hR.stay hb
  have hsame : Same J w w' := fun b hb' => hb.block b (hR.imm2 b hb').1
  have main : ∀ gb cap : Nat, w.heap.size ≤ gb → n ≤ cap → (0 < cap → ∃ c : Array Value, w'.heap[gb]? = some (.cells c ty (0, 0)) ∧ c.size = cap * sz ∧ c.toList.take (n * sz) = xs) →
      Rel w0 (Env.add (.ext J) key gb cap) (insRow key (famN n sz ty get none) []) (fun r => False ∨ r = key) w' := fun gb cap hg hn hc => by
    have bk : ∀ f, (Env.add (.ext J) key gb cap).blk key f = gb := fun f => by simp [Env.add]
    have cp : ∀ f, (Env.add (.ext J) key gb cap).cap key f = if f = 0 then cap else 0 := fun f => by simp [Env.add]
    have lk : ∀ r x, look (insRow key (famN n sz ty get none) []) r = some x → r = key ∧ x = famN n sz ty get none := fun r x hx => by
      simp only [insRow, look] at hx
      split at hx
      · rename_i e; cases hx; exact ⟨e.symm, rfl⟩
      · cases hx
    have hnJ : ¬ J gb := fun h => by have := (hR.imm2 gb h).1; omega
    have hw0 : w0.heap.size ≤ w.heap.size := hR.below.size
    refine ⟨hR'.below, fun b hb => hR'.imm2 b hb, fun r hr => ?_, fun r x hx => .inr (lk r x hx).1, fun r x f hx hg' => ?_, fun r x f r' x' f' hx hx' hg1 hg2 hc1 hc2 e => ?_, fun p hp => ?_, fun p hp => hR'.kept p hp⟩
    · rcases hr with hr | hr
      · exact .inl hr
      · exact .inr hr
    · obtain ⟨rfl, rfl⟩ := lk r x hx
      refine ⟨.inr rfl, ?_⟩
      match f with
      | 0 =>
        refine ⟨by rw [cp]; exact hn, fun h => ?_, fun i hi => hlen i hi, fun i k c x hi h1 h2 => ?_⟩
        · rw [cp, if_pos rfl] at h
          obtain ⟨c, h1, h2, h3⟩ := hc h
          rw [bk, cp, if_pos rfl]
          exact ⟨by omega, hnJ, _, h1, .inl ⟨c, rfl, h2, hty⟩⟩
        · have hi : i < n := hi
          have hcap : 0 < cap := by omega
          obtain ⟨cc, k1, k2, k3⟩ := hc hcap
          rw [bk] at h2
          have hk : k < sz := by
            have : (get i)[k]? = some c := h1
            have h4 := (List.getElem?_eq_some_iff.1 this).1
            rw [hlen i hi] at h4
            exact h4
          have hlt : i * sz + k < n * sz := by
            have := Nat.mul_le_mul_right sz (show i + 1 ≤ n by omega)
            rw [Nat.add_mul] at this
            omega
          have hx : xs[i * sz + k]? = some x := by
            have h2 : Has w' gb (i * sz + k) x := h2
            unfold Has World.cell? at h2
            simp only [k1] at h2
            rw [← k3, List.getElem?_take, if_pos hlt, Array.getElem?_toList]
            exact h2
          exact (hget i k c x hi h1 hx).mono ⟨fun r h => h.elim, fun r f h => h.elim, fun r f h => h.elim, fun b h => h⟩ (fun b hb => rfl)
      | f + 1 => exact ⟨by rw [cp]; exact Nat.zero_le _, fun h => by rw [cp, if_neg (by omega)] at h; omega, fun i hi => by have hi : i < 0 := hi; omega, fun i k c x hi => by have hi : i < 0 := hi; omega⟩
    · obtain ⟨rfl, _⟩ := lk r x hx
      obtain ⟨rfl, _⟩ := lk r' x' hx'
      refine ⟨rfl, ?_⟩
      rw [cp] at hc1 hc2
      have a1 : f = 0 := Classical.byContradiction fun h => by rw [if_neg h] at hc1; omega
      have a2 : f' = 0 := Classical.byContradiction fun h => by rw [if_neg h] at hc2; omega
      rw [a1, a2]
    · obtain ⟨p1, p2, p3, p4⟩ := hR.fix p hp
      refine ⟨p1, fun r x f hx hg1 hc1 e => ?_, p3, (hR'.fix p hp).2.2.2⟩
      obtain ⟨rfl, _⟩ := lk r x hx
      rw [bk] at e
      have := (Array.getElem?_eq_some_iff.1 p4).1
      omega
  rcases hrow with ⟨hl, ⟨rfl, rfl⟩ | ⟨g, cap, cur, rfl, h1, h2, h3, h4, h5, h6⟩⟩
  · refine ⟨Env.add (.ext J) key w.heap.size 0, ?_, main _ 0 (Nat.le_refl _) (Nat.le_refl _) (fun h => by omega), Env.le_add (fun h => h.elim), hsame⟩
    have h := R.own (w := w') (ρ := Env.add (.ext J) key w.heap.size 0) (r := key) (f := 0) (n := 0) (sz := sz) (a := none) (.inr rfl) (Nat.zero_le _) (fun h => by simp [Env.add] at h)
    have e : (Env.add (.ext J) key w.heap.size 0).cap key 0 = 0 := by simp [Env.add]
    rw [e] at h
    exact h
  · refine ⟨Env.add (.ext J) key g cap, ?_, main g cap h1 h3 (fun _ => ⟨cur, h2, h5, h6⟩), Env.le_add (fun h => h.elim), hsame⟩
    have e1 : (Env.add (.ext J) key g cap).cap key 0 = cap := by simp [Env.add]
    have e2 : (Env.add (.ext J) key g cap).blk key 0 = g := by simp [Env.add]
    have h := R.own (w := w') (ρ := Env.add (.ext J) key g cap) (r := key) (f := 0) (n := n) (sz := sz) (a := some ⟨g, 0, none⟩) (.inr rfl) (by rw [e1]; exact h3) (fun h => by rw [e2])
    rw [e1] at h
    exact h
def vInt : Value → Int
  | .int _ z => z
  | _ => 0
/-- The map that lies behind a map's value, for the shelf. -/
theorem MapIs.owns {P : Program} {k : TypeId} (hk : P.underlying k = some (.int .i64)) {n b : Nat} {L : Ents} {ob : Go.Obj} {w : World} (hb : w.heap[b]? = some ob) (h : MapIs n L ob) (hl : L.length ≤ maxLen) :
    ∃ D0 : DataW Unit, w.ownsMap P k (fun _ => some (.nil, [])) b L.length D0 ∧ (intKeys D0).Perm (L.map (·.1)) ∧ Maps.size D0 = L.length := by
  obtain ⟨es, clock, rfl, hst, hp, hnd, hall⟩ := h
  have hlen : es.size = L.length := by have := hp.length_eq; simpa using this
  have hrd : ∀ x ∈ es.toList, ∃ p ∈ L, x.key = .int .i64 p.1 ∧ WideElems.rd P k (fun _ => some ((.nil : DataW Unit), [])) x = some (.int .i64 p.1, .nil) := fun x hx => by
    have : (x.key, x.val) ∈ L.map entV := hp.mem_iff.1 (List.mem_map.2 ⟨x, hx, rfl⟩)
    obtain ⟨p, hp1, hp2⟩ := List.mem_map.1 this
    have e : x.key = .int .i64 p.1 := by have := congrArg Prod.fst hp2; exact this.symm
    refine ⟨p, hp1, e, ?_⟩
    unfold WideElems.rd
    rw [e]
    obtain ⟨k1, k2⟩ := (hall p hp1).2
    have hmin : IntKind.i64.min = -9223372036854775808 := by decide
    have hmax : IntKind.i64.max = 9223372036854775807 := by decide
    rw [keyOf_int_mk hk (by simp only [Lit.wf, hmin, hmax, Bool.and_eq_true, decide_eq_true_eq]; omega)]
    rfl
  have hperm : ((es.toList.map (WideElems.rg P k (fun _ => some ((.nil : DataW Unit), [])))).map fun p => intOf p.1) = (es.toList.map fun e => (e.key, e.val)).map fun q : Value × Value => vInt q.1 := by
    rw [List.map_map, List.map_map]
    refine List.map_congr_left fun x hx => ?_
    obtain ⟨p, hp1, e, hr⟩ := hrd x hx
    simp only [Function.comp, WideElems.rg, hr, e, Option.getD, vInt, intOf]
  refine ⟨_, ⟨es, clock, hb, ⟨by omega, hst, fun x hx => ?_⟩, by omega, rfl⟩, ?_, ?_⟩
  · obtain ⟨p, hp1, e, hr⟩ := hrd x hx
    exact ⟨_, hr⟩
  · show (List.map (fun p : Lit × DataW Unit => intOf p.1) _).Perm _
    refine ((WideShapes.sorted_perm _).map _).trans ?_
    rw [hperm]
    refine (hp.map _).trans ?_
    rw [List.map_map]
    exact List.Perm.of_eq (List.map_congr_left fun p hp => rfl)
  · show List.length _ = _
    rw [length_sorted]
    simpa using hlen
def mcKf (key : Nat) : Option (List Prop × (Nat → AV) × (Nat → Option Fam)) → Option Eff
  | some (ob, v, nw) => some ⟨ob, v key, .many [] (nw key)⟩
  | none => none
theorem mcK_eq {F : List AV → Option (List Prop × (Nat → AV) × (Nat → Option Fam))} {key : Nat} {m : Mem} {es : List AV} : mcK F key m es = mcKf key (F es) := by
  unfold mcK mcKf
  cases F es <;> rfl
theorem mcKf_some {key : Nat} {ob : List Prop} {v : Nat → AV} {nw : Nat → Option Fam} : mcKf key (some (ob, v, nw)) = some ⟨ob, v key, .many [] (nw key)⟩ := (rfl)
attribute [go_sem] mcK_eq mcKf_some
def F108 : List AV → Option (List Prop × (Nat → AV) × (Nat → Option Fam))
  | [.rm 4 L] => some ([], fun k => .fn 131 [.bx k 0], fun k => some (fam1 101 1 [.rm 4 L] none))
  | _ => none
noncomputable def mN108 : MCon := mcK F108
theorem mN108_eq : mN108 = mcK F108 := (rfl)
theorem F108_eq {L : Ents} : F108 [.rm 4 L] = some ([], fun k => .fn 131 [.bx k 0], fun k => some (fam1 101 1 [.rm 4 L] none)) := (rfl)
attribute [go_sem] mN108_eq F108_eq
theorem fnKey {key r : Nat} {ty : TypeId} {sz : Nat} {c : AV} {f : FuncId} {m1 : Mem} (hc : clean 3 c = true) (h : look m1 r = some (fam1 ty sz [c] none)) : NewP key 0 (.fn f [.bx r 0]) m1 (.fn f [.bx key 0]) (some (fam1 ty sz [c] none)) := by
  refine newP_list [(r, 0)] (by simp) (by simp) (fun c hc => ?_) (fun ks hks => ?_) (fun ks hks f r' g hf => ?_) (fun f hf => ?_)
  · simp only [List.mem_cons, List.not_mem_nil, or_false] at hc
    subst hc
    exact .inr (by simp [sgP])
  · show AV.fn _ [AV.bx key 0] = AV.fn _ [AV.bx (thL ks key (ixP [(r, 0)]) r 0).1 0]
    simp only [thL]
    rw [if_neg (by omega)]
  · match f, hf with
    | 0, hf =>
      cases hf
      refine ⟨_, h, ⟨rfl, rfl, rfl, rfl, fun j hj => ?_⟩, by simp [fam1]⟩
      have hh : ∀ a ∈ [c], clean 3 a = true := by simpa using hc
      obtain ⟨k1, k2⟩ := cleans_ren (θ := thL ks key (ixP [(r, 0)])) (g := newG 0 (sgP [(r, 0)]) (ixP [(r, 0)])) (B := newB 0 (sgP [(r, 0)])) hh
      exact ⟨k1.symm, k2⟩
    | f + 1, hf => simp at hf
  · have : 1 ≤ f := hf
    simp only [fam1]
    rw [if_neg (by omega)]
theorem mon108 : MConOK Tryz.prog 108 mN108 := MConOK.mcK (G := []) (H := []) .nil Tryz.func108 fun es ob v nw hF hob => by
  unfold F108 at hF
  split at hF
  · rename_i L
    cases hF
    refine ⟨by simp [clean], by kernel_rfl, fun key => bodyM_go (rs := [.tmp 2]) rfl rfl ?_⟩
    simp only [go_sem]
    exact fnKey rfl rfl
  · cases hF
/-- The ids, sorted. -/
def srtK (L : Ents) : List Int := (L.map (·.1)).mergeSort (fun x y => decide (x ≤ y))
theorem srtK_len {L : Ents} : (srtK L).length = L.length := by simp [srtK]
/-- The sorted ids, out of what the iterator over the map captured. -/
def oneRm (fam : Fam) : Option Ents := match (fam 0).n, (fam 0).g, (fam 0).get 0 with
  | 1, none, [.rm 4 L] => some L
  | _, _, _ => none
def F107 (key : Nat) : Option Ents → Option Eff
  | some L => some ⟨[L.length ≤ 1000], .own key 0 L.length 1, .many [] (some (famN L.length 1 3 (fun i => [i64 ((srtK L).getD i 0)]) none))⟩
  | none => none
def M107 (key : Nat) : Option Fam → Option Eff
  | some fam => F107 key (oneRm fam)
  | none => none
def mN107 : MCon := fun key m es => match es with
  | [.fn 131 [.bx r 0]] => M107 key (look m r)
  | _ => none
theorem mN107_eq {key r : Nat} {m : Mem} : mN107 key m [.fn 131 [.bx r 0]] = M107 key (look m r) := (rfl)
theorem M107_1 {key : Nat} {ty : TypeId} {sz : Nat} {L : Ents} : M107 key (some (fam1 ty sz [.rm 4 L] none)) = some ⟨[L.length ≤ 1000], .own key 0 L.length 1, .many [] (some (famN L.length 1 3 (fun i => [i64 ((srtK L).getD i 0)]) none))⟩ := (rfl)
attribute [go_sem] mN107_eq M107_1
theorem mon107 : MConOK Tryz.prog 107 mN107 := by
  intro w0 ρ m m' D w key aas vs e hR hk hm hRs hc hob _
  unfold mN107 at hc
  split at hc
  · rename_i r
    unfold M107 at hc
    split at hc
    · rename_i fam hl
      unfold F107 at hc
      split at hc
      · rename_i L hL
        cases hc
        have hlen : L.length ≤ 1000 := hob _ (by simp)
        unfold oneRm at hL
        split at hL
        · rename_i g1 g2 g3
          cases hL
          obtain ⟨y, ys, rfl, k1, k2⟩ := hRs.inv
          have hy0 : ys = [] := by have := k2.1; simpa using this
          subst hy0
          cases k1 with
          | fn hlv hv =>
            rename_i cap
            match cap, hlv with
            | [x], _ =>
              have hx := hv 0 _ x rfl rfl
              cases hx with
              | bx hd =>
                obtain ⟨q1, q2⟩ := hR.row r fam 0 (hm _ _ hl) (by rw [g2]; simp)
                obtain ⟨b1, b2, cc, b3, b4⟩ := q2.cells (by omega)
                have hsz : (fam 0).sz = 1 := by have := q2.len 0 (by omega); rw [g3] at this; exact this.symm
                have hcap : 0 < ρ.cap r 0 := by have := q2.n_le; omega
                have hcs : 0 < cc.size := by rw [b4, hsz]; omega
                have hHas : Has w (ρ.blk r 0) (0 * (fam 0).sz + 0) cc[0] := by
                  unfold Has World.cell?
                  simp [b3, hcs]
                have hrm := q2.rel 0 0 (.rm 4 L) cc[0] (by omega) (by rw [g3]; rfl) hHas
                have hcell : w.cell? ⟨ρ.blk r 0, 0, none⟩ = some cc[0] := by
                  have := hHas
                  rw [Nat.zero_mul] at this
                  exact this
                generalize cc[0] = z at hrm hcell
                cases hrm with
                | rm b hi hb hM =>
                  obtain ⟨D0, h1, h2, h3⟩ := MapIs.owns (P := Tryz.prog) (k := 3) Tryz.underlying3 hb hM (by unfold maxLen; omega)
                  have hblt : ρ.blk r 0 < w.heap.size := (Array.getElem?_eq_some_iff.1 b3).1
                  refine .inr ⟨enters_of Tryz.func107 (by kernel_rfl) rfl _ _, (Tryz.sorted_keys (ρ.blk r 0) b L.length D0 _ w hblt hcell h1 (by rw [h3]; unfold maxLen; omega) (by rw [h3]; omega)).mono fun e w' ⟨v, ss, he, hp, hrow, _, hbl⟩ => ⟨v, he, ?_⟩⟩
                  have hs : ss.mergeSort (fun x y => decide (x ≤ y)) = srtK L := mergeSort_of_perm_i (hp.trans h2)
                  have hn : ss.length = L.length := by have := (hp.trans h2).length_eq; simpa using this
                  rw [hs, hn] at hrow
                  refine view_post hR hk (by simp [nk]) (by rw [okN_some, famNK_ints]; trivial) (slice_post (ob := []) (by decide) (view_rel hR) hbl hrow (fun i hi => rfl) fun i k c x hi h1 h2 => ?_)
                  match k, h1 with
                  | 0, h1 =>
                    cases h1
                    simp only [Nat.mul_one, Nat.add_zero, List.getElem?_map, Option.map_eq_some_iff] at h2
                    obtain ⟨z, h5, rfl⟩ := h2
                    rw [List.getD_eq_getElem?_getD, h5]
                    exact .v
                  | k + 1, h1 => simp at h1
        · cases hL
      · cases hc
    · cases hc
  · cases hc
def F59 : List AV → Option (List Prop × (Nat → AV) × (Nat → Option Fam))
  | [.rop [.rm 4 L]] => some ([L.length ≤ 1000], fun k => .own k 0 L.length 1, fun k => some (famN L.length 1 3 (fun i => [i64 ((srtK L).getD i 0)]) none))
  | _ => none
noncomputable def mN59 : MCon := mcKU F59
theorem mN59_eq : mN59 = mcKU F59 := (rfl)
theorem F59_eq {L : Ents} : F59 [.rop [.rm 4 L]] = some ([L.length ≤ 1000], fun k => .own k 0 L.length 1, fun k => some (famN L.length 1 3 (fun i => [i64 ((srtK L).getD i 0)]) none)) := (rfl)
attribute [go_sem] mN59_eq F59_eq
theorem mon59 : MConOK Tryz.prog 59 mN59 := MConOK.mkU (G := [(75, c75), (108, .wr mN108), (107, .wr mN107)]) (H := []) (.cons con75 (.mcons mon108 (.mcons mon107 .nil))) Tryz.func59 fun es ob v nw hF hob => by
  unfold F59 at hF
  split at hF
  · rename_i L
    cases hF
    have h2 : L.length ≤ 1000 := hob _ (by simp)
    refine ⟨[.rop [.rm 4 L]], fun w I vs hR => hR, by simp [clean], by kernel_rfl, fun key => bodyM_go (rs := [.tmp 2]) rfl rfl ?_⟩
    simp only [go_sem, c75, h2]
    rintro z rfl
    exact ⟨fun h => (by cases h), fun _ => newN rfl (Nat.zero_le _) fun j hj => ⟨rfl, fun c hc => by
      simp only [List.mem_cons, List.not_mem_nil, or_false] at hc
      subst hc; rfl⟩⟩
  · cases hF
end Go.Ax
end

section
/-
  Exact whole numbers of two words.
-/
set_option linter.unusedVariables false
set_option linter.unusedSimpArgs false
set_option maxHeartbeats 1000000
set_option maxRecDepth 100000
namespace Go.Ax
open Go.Proofs

/-! ### Sums with a carry -/
theorem Pur.run {P : Program} {f : FuncId} {es : List AV} {r : AV} (h : ∀ (I : Nat → Prop) (w : World) (vs : List Value), (∀ b, I b → b < w.heap.size) → Rs w (.ext I) es vs → ∃ v, (callFunc f vs.toArray).run P w = .ok (.value v) w ∧ R w (.ext (New I w w)) r v) : Pur P f es r := fun I w vs hI hR => by
  obtain ⟨v, h1, h2⟩ := h I w vs hI hR
  exact .inl ⟨v, w, h1, h2, RowKit.Below.refl _ _⟩
/-- An exact value: of the program, and of the reference. -/
abbrev ex (g : Bool) (m : Int) : AV := .agg [bo g, u64 (m % 18446744073709551616), u64 (m / 18446744073709551616)]
def cmpS (x y : Int) : Int := if x < y then -1 else if y < x then 1 else 0
end Go.Ax
end

section
/-
  Sums and products of exact values; numbers.
-/
set_option linter.unusedVariables false
set_option linter.unusedSimpArgs false
set_option maxHeartbeats 1000000
set_option maxRecDepth 100000
namespace Go.Ax
open Go.Proofs

/-! ### Comparing -/
def orS (X : Nat → Int) : Nat → Nat → Int
  | _, 0 => 0
  | i, k + 1 => if X i ≠ 0 then X i else orS X (i + 1) k
def c67 : Con
  | [.ro n 1 g] => some ([∀ i, i < n → g i = [i64 (gx g 0 i)], n ≤ 1000], i64 (orS (gx g 0) 0 n))
  | _ => none
theorem vc67 (n : Nat) (X : Nat → Int) (hn : n ≤ 1000) : fnVC Tryz.prog [] [] Tryz.f67 [.ro n 1 fun i => [i64 (X i)]] (· = i64 (orS X 0 n)) := by
  refine fnVC_go (rs := [.tmp 2]) rfl rfl ?_
  simp only [go_sem]
  refine loopC_go (fun (i : Nat) => i ≤ n ∧ orS X 0 n = orS X i (n - i)) (fun i => n - i) (fun i => [(8, i64 i)]) (fun _ => []) [] [9, 10, 11, 5, 12, 13, 14, 15, 2, 16, 8] 0 (by kernel_rfl) ?_ ⟨Nat.zero_le _, rfl⟩ ?_ ?_
  · intro x _; simp [goodNames]
  · simp only [go_sem]
  · intro i hi
    simp only [go_sem]
    refine ⟨fun h => ⟨by omega, h, fun hx => ?_, fun hx z hz => ⟨i + 1, ⟨by omega, ?_⟩, by omega, ?_⟩⟩, fun h => ?_⟩
    · rw [hi.2, show n - i = (n - i - 1) + 1 by omega]
      unfold orS
      rw [if_pos (by simpa using hx)]
    · rw [hi.2, show n - i = (n - i - 1) + 1 by omega]
      conv => lhs; unfold orS
      rw [if_neg (by simpa using hx)]
      rw [show n - (i + 1) = n - i - 1 by omega]
    · rw [hz, wrap_in (by unfold inR; omega)]; rfl
    · rw [hi.2, show n - i = 0 by omega]; rfl
theorem con67 : ConOK Tryz.prog 67 c67 := ConOK.go (G := []) (H := []) .nil Tryz.func67 fun l ob r hc hob => by
  unfold c67 at hc
  split at hc
  · rename_i n g
    cases hc
    have hs : ∀ i, i < n → g i = [i64 (gx g 0 i)] := hob _ (by simp)
    refine ⟨[.ro n 1 fun i => [i64 (gx g 0 i)]], fun w I vs h => Rs_one (fun v => ro_alike fun i hi => hs i hi) h, by kernel_rfl, vc67 n _ (hob _ (by simp))⟩
  · cases hc
end Go.Ax
end

section
/-
  Numbers: the program's arithmetic.
-/
set_option linter.unusedVariables false
set_option linter.unusedSimpArgs false
set_option maxHeartbeats 1000000
set_option maxRecDepth 100000
namespace Go.Ax
open Go.Proofs

/-! ### Truth values in cells -/
def gib (cs : List AV) (k : Nat) : Bool := match cs[k]? with
  | some (.v (.bool b)) => b
  | _ => false
theorem gib_1 {a : AV} {x : Bool} {l : List AV} : gib (a :: .v (.bool x) :: l) 1 = x := (rfl)
def gb (g : Nat → List AV) (k i : Nat) : Bool := gib (g i) k
theorem gb_eq {g : Nat → List AV} {k i : Nat} : gb g k i = gib (g i) k := (rfl)
attribute [go_sem] gb_eq gib_1
def anyB (G : Nat → Bool) : Nat → Bool
  | 0 => false
  | n + 1 => anyB G n || G n
def nums (n : Nat) (g : Nat → List AV) : Prop := ∀ i, i < n → g i = [i64 (gx g 0 i), bo (gb g 1 i)] ∧ inR (gx g 0 i)
/-! ### What comes of exact values -/
def c112 : Con
  | [.v (.int .i64 v)] => some ([], bo false)
  | _ => none
theorem con112 : ConOK Tryz.prog 112 c112 := ConOK.of (G := []) (H := []) .nil Tryz.func112 fun l ob r hc hob => by
  unfold c112 at hc
  split at hc
  · rename_i v
    cases hc
    refine ⟨by kernel_rfl, fnVC_go (rs := [.tmp 2]) rfl rfl ?_⟩
    simp only [go_sem]
    exact bne_self
  · cases hc
def c68 : Con
  | [.v (.int .i64 x), .v (.int .i64 y)] => some ([], i64 (cmpS x y))
  | _ => none
theorem con68 : ConOK Tryz.prog 68 c68 := ConOK.of (G := [(112, c112)]) (H := []) (.cons con112 .nil) Tryz.func68 fun l ob r hc hob => by
  unfold c68 at hc
  split at hc
  · rename_i x y
    cases hc
    refine ⟨by kernel_rfl, fnVC_go (rs := [.tmp 4]) rfl rfl ?_⟩
    simp only [go_sem, c112]
    intro z hz z1 hz1
    subst hz hz1
    unfold cmpS
    refine ⟨fun h => (by cases h), fun _ => ⟨fun h => (by cases h), fun _ => ⟨fun h => by rw [if_pos h], fun h => ⟨fun h2 => by rw [if_neg h, if_pos h2], fun h2 => by rw [if_neg h, if_neg h2]⟩⟩⟩⟩
  · cases hc
end Go.Ax
end

section
/-
  The box of several boxes.
-/
set_option linter.unusedVariables false
set_option linter.unusedSimpArgs false
set_option maxHeartbeats 1000000
set_option maxRecDepth 100000
namespace Go.Ax
open Go.Proofs
def boxes (n : Nat) (g : Nat → List AV) : Prop := ∀ i, i < n → g i = [i64 (gx g 0 i), i64 (gx g 1 i), i64 (gx g 2 i), i64 (gx g 3 i)] ∧ inR (gx g 0 i) ∧ inR (gx g 1 i) ∧ inR (gx g 2 i) ∧ inR (gx g 3 i)
def mnS (A : Nat → Int) : Nat → Int
  | 0 => 0
  | i + 1 => if i = 0 then A 0 else min (mnS A i) (A i)
def mxS (A : Nat → Int) : Nat → Int
  | 0 => 0
  | i + 1 => if i = 0 then A 0 else max (mxS A i) (A i)
def okB (n : Nat) (A B C D : Nat → Int) : Prop := ∀ i, i < n → checkBoxS (A i) (B i) (C i) (D i) = 0
instance {n : Nat} {A B C D : Nat → Int} : Decidable (okB n A B C D) := by unfold okB; exact inferInstance
def joinS (n : Nat) (A B C D : Nat → Int) (k : Nat) : Int := if okB n A B C D then (match k with
  | 0 => mnS A n
  | 1 => mnS B n
  | 2 => mxS C n
  | _ => mxS D n) else 0
def c117 : Con
  | [.ro n 4 g] => some ([boxes n g, n ≤ 9223372036854775807], .agg [i64 (joinS n (gx g 0) (gx g 1) (gx g 2) (gx g 3) 0), i64 (joinS n (gx g 0) (gx g 1) (gx g 2) (gx g 3) 1), i64 (joinS n (gx g 0) (gx g 1) (gx g 2) (gx g 3) 2), i64 (joinS n (gx g 0) (gx g 1) (gx g 2) (gx g 3) 3)])
  | _ => none
theorem joinS_ok {n : Nat} {A B C D : Nat → Int} (h : okB n A B C D) : joinS n A B C D 0 = mnS A n ∧ joinS n A B C D 1 = mnS B n ∧ joinS n A B C D 2 = mxS C n ∧ joinS n A B C D 3 = mxS D n := by
  unfold joinS; rw [if_pos h, if_pos h, if_pos h, if_pos h]; exact ⟨rfl, rfl, rfl, rfl⟩
theorem joinS_no {n : Nat} {A B C D : Nat → Int} (h : ¬ okB n A B C D) {k : Nat} : joinS n A B C D k = 0 := by
  simp only [joinS, if_neg h]
theorem okB_succ {i : Nat} {A B C D : Nat → Int} (h : okB i A B C D) (h0 : checkBoxS (A i) (B i) (C i) (D i) = 0) : okB (i + 1) A B C D := fun k hk => by
  by_cases e : k = i
  · subst e; exact h0
  · exact h k (by omega)
theorem vc117 (n : Nat) (A B C D : Nat → Int) (hX : ∀ i, i < n → inR (A i) ∧ inR (B i) ∧ inR (C i) ∧ inR (D i)) (hn : n ≤ 9223372036854775807) : fnVC Tryz.prog [(64, c64)] [(9, ⟨[(11, .slot 3), (13, .slot 3)], [(8, [.slot 3])]⟩), (10, ⟨[(11, .slot 3), (13, .slot 3)], [(8, [.slot 3])]⟩)] Tryz.f117 [.ro n 4 fun i => [i64 (A i), i64 (B i), i64 (C i), i64 (D i)]] (· = .agg [i64 (joinS n A B C D 0), i64 (joinS n A B C D 1), i64 (joinS n A B C D 2), i64 (joinS n A B C D 3)]) := by
  refine fnVC_go (rs := [.cell 2 32]) rfl rfl ?_
  simp only [go_sem]
  refine loopC_go (fun (i : Nat) => i ≤ n ∧ okB i A B C D) (fun i => n - i) (fun i => [(8, i64 i)]) (fun i => [(1, fam1 32 4 [i64 (mnS A i), i64 (mnS B i), i64 (mxS C i), i64 (mxS D i)] none)]) [0] [9, 10, 11, 12, 5, 4, 13, 14, 15, 16, 17, 18, 19, 20, 21, 22, 23, 24, 25, 26, 27, 28, 29, 30, 31, 32, 33, 34, 35, 36, 37, 38, 39, 40, 41, 42, 43, 44, 8] 0 (by kernel_rfl) ?_ ?_ ?_ ?_
  · intro x _; simp [goodNames, asg]
  · simp [okB]
  · simp only [go_sem]; simp [mnS, mxS]
  · intro i hi
    simp only [go_sem, c64]
    obtain ⟨hi1, hi2⟩ := hi
    refine ⟨fun h => ?_, fun h => ?_⟩
    · have h1 : i < n := by omega
      obtain ⟨r1, r2, r3, r4⟩ := hX i h1
      refine ⟨by omega, h, fun z hz => ⟨r1, r2, r3, r4, fun hb => ?_, fun hb => ?_⟩⟩
      · have hno : ¬ okB n A B C D := fun hf => by
          have := hf i h1
          rw [← hz] at this
          simp [this] at hb
        simp only [joinS_no hno]
      · have hz0 : checkBoxS (A i) (B i) (C i) (D i) = 0 := by rw [← hz]; simpa using hb
        have hok := okB_succ hi2 hz0
        refine ⟨fun h0 z hz' z1 k1 z2 k2 z3 k3 z4 k4 => ⟨i + 1, ⟨by omega, hok⟩, by omega, by rw [wrap_i64] at k4; omega, ?_⟩, fun h0 z hz' z1 k1 z2 k2 z3 k3 z4 k4 => ⟨i + 1, ⟨by omega, hok⟩, by omega, by rw [wrap_i64] at k4; omega, ?_⟩⟩
        · have e : i = 0 := by simpa using h0
          subst e
          simp only [mnS, mxS, if_true]
          omega
        · have e : ¬ i = 0 := by simpa using h0
          simp only [mnS, mxS, if_neg e]
          exact ⟨hz', k1, k2, k3⟩
    · have e : i = n := by omega
      subst e
      obtain ⟨j1, j2, j3, j4⟩ := joinS_ok hi2
      rw [j1, j2, j3, j4]
theorem vc126 (n : Nat) (A B C D : Nat → Int) (hX : ∀ i, i < n → inR (A i) ∧ inR (B i) ∧ inR (C i) ∧ inR (D i)) (hn : n ≤ 9223372036854775807) : fnVC Tryz.prog [(103, c103)] [(9, ⟨[(33, .slot 3)], []⟩)] Tryz.f126 [.ro n 4 fun i => [i64 (A i), i64 (B i), i64 (C i), i64 (D i)]] (· = .agg [i64 (joinS n A B C D 0), i64 (joinS n A B C D 1), i64 (joinS n A B C D 2), i64 (joinS n A B C D 3)]) := by
  refine fnVC_go (rs := [.cell 2 32]) rfl rfl ?_
  simp only [go_sem]
  refine loopC_go (fun (i : Nat) => i ≤ n ∧ okB i A B C D) (fun i => n - i) (fun i => [(4, i64 i)]) (fun i => [(2, fam1 32 4 [i64 (mnS A i), i64 (mnS B i), i64 (mxS C i), i64 (mxS D i)] none)]) [0] [6, 7, 8, 9, 12, 13, 14, 15, 16, 17, 18, 19, 20, 21, 22, 23, 24, 25, 26, 27, 28, 29, 30, 31, 32, 33, 34, 35, 36, 37, 38, 39, 40, 41, 42, 43, 44, 45, 46, 47, 48, 49, 50, 51, 52, 53, 54, 55, 56, 10, 11, 4] 0 (by kernel_rfl) ?_ ?_ ?_ ?_
  · intro x _; simp [goodNames, asg]
  · simp [okB]
  · simp only [go_sem]; simp [mnS, mxS]
  · intro i hi
    simp only [go_sem, c103]
    obtain ⟨hi1, hi2⟩ := hi
    refine ⟨fun h => ?_, fun h => ?_⟩
    · have h1 : i < n := by omega
      refine ⟨by omega, h, fun z hz => ⟨fun hb => ?_, fun hb => ?_⟩⟩
      · have hno : ¬ okB n A B C D := fun hf => by
          have := hf i h1
          rw [← hz] at this
          simp [this] at hb
        simp only [joinS_no hno]
      · have hz0 : checkBoxS (A i) (B i) (C i) (D i) = 0 := by rw [← hz]; simpa using hb
        have hok := okB_succ hi2 hz0
        refine ⟨fun h0 => ⟨by omega, fun z4 k4 => ⟨i + 1, ⟨by omega, hok⟩, by omega, by rw [wrap_i64] at k4; omega, ?_⟩⟩, fun h0 => ⟨by omega, h, fun z hz' => ⟨by omega, h, fun z1 k1 => ⟨by omega, h, fun z2 k2 => ⟨by omega, h, fun z3 k3 z4 k4 => ⟨i + 1, ⟨by omega, hok⟩, by omega, by rw [wrap_i64] at k4; omega, ?_⟩⟩⟩⟩⟩⟩
        · have e : i = 0 := by simpa using h0
          subst e
          simp only [mnS, mxS, if_true, and_self]
        · have e : ¬ i = 0 := by simpa using h0
          simp only [mnS, mxS, if_neg e]
          exact ⟨hz', k1, k2, k3⟩
    · have e : i = n := by omega
      subst e
      obtain ⟨j1, j2, j3, j4⟩ := joinS_ok hi2
      rw [j1, j2, j3, j4]
theorem con117 : ConOK Tryz.prog 117 c117 := ConOK.go (G := [(64, c64)]) (H := [(9, ⟨[(11, .slot 3), (13, .slot 3)], [(8, [.slot 3])]⟩), (10, ⟨[(11, .slot 3), (13, .slot 3)], [(8, [.slot 3])]⟩)]) (.cons con64 .nil) Tryz.func117 fun l ob r hc hob => by
  unfold c117 at hc
  split at hc
  · rename_i n g
    cases hc
    have hs : boxes n g := hob _ (by simp)
    exact ⟨[.ro n 4 fun i => [i64 (gx g 0 i), i64 (gx g 1 i), i64 (gx g 2 i), i64 (gx g 3 i)]], fun w I vs h => Rs_one (fun v => ro_alike fun i hi => (hs i hi).1) h, by kernel_rfl, vc117 n _ _ _ _ (fun i hi => (hs i hi).2) (hob _ (by simp))⟩
  · cases hc
def c126 : Con := c117
theorem con126 : ConOK Tryz.prog 126 c126 := ConOK.go (G := [(103, c103)]) (H := [(9, ⟨[(33, .slot 3)], []⟩)]) (.cons con103 .nil) Tryz.func126 fun l ob r hc hob => by
  unfold c126 c117 at hc
  split at hc
  · rename_i n g
    cases hc
    have hs : boxes n g := hob _ (by simp)
    exact ⟨[.ro n 4 fun i => [i64 (gx g 0 i), i64 (gx g 1 i), i64 (gx g 2 i), i64 (gx g 3 i)]], fun w I vs h => Rs_one (fun v => ro_alike fun i hi => (hs i hi).1) h, by kernel_rfl, vc126 n _ _ _ _ (fun i hi => (hs i hi).2) (hob _ (by simp))⟩
  · cases hc

/-! ### Spots and boxes that numbers make -/
/-- A remainder that is not below 0. -/
def modS (n m : Int) : Int := if n.tmod m < 0 then n.tmod m + m else n.tmod m
def c16 : Con
  | [.v (.int .i64 n), .v (.int .i64 m)] => some ([0 < m, inR n, inR m], i64 (modS n m))
  | _ => none
theorem con16 : ConOK Tryz.prog 16 c16 := ConOK.of (G := []) (H := []) .nil Tryz.func16 fun l ob r hc hob => by
  unfold c16 at hc
  split at hc
  · rename_i n m
    cases hc
    refine ⟨by kernel_rfl, fnVC_go (rs := [.tmp 4]) rfl rfl ?_⟩
    have h0 : 0 < m := hob _ (by simp)
    have h1 : inR n := hob _ (by simp)
    have h2 : inR m := hob _ (by simp)
    simp only [go_sem]
    refine ⟨by omega, fun z hz => ⟨fun hn z1 k1 => ?_, fun hn => ?_⟩⟩
    · have hb : -m < z := by rw [hz]; have := Int.lt_tmod_of_pos n h0; omega
      unfold inR at h2
      rw [wrap_in (by unfold inR; omega)] at k1
      unfold modS
      rw [← hz, if_pos hn, k1]
    · unfold modS
      rw [← hz, if_neg hn]
  · cases hc

/-! ### Sides -/
theorem mul_bd {x y A B : Int} (hA : 0 ≤ A) (hx : -A ≤ x ∧ x ≤ A) (hy : -B ≤ y ∧ y ≤ B) : -(A * B) ≤ x * y ∧ x * y ≤ A * B := by
  have h1 : (x * y).natAbs = x.natAbs * y.natAbs := Int.natAbs_mul x y
  have h2 : x.natAbs * y.natAbs ≤ A.natAbs * B.natAbs := Nat.mul_le_mul (by omega) (by omega)
  have h3 : (A * B).natAbs = A.natAbs * B.natAbs := Int.natAbs_mul A B
  have h4 : 0 ≤ A * B := Int.mul_nonneg hA (by omega)
  omega
/-- An even smaller number. -/
def sm (x : Int) : Prop := -4194304 ≤ x ∧ x ≤ 4194304
theorem sm_mul {x y : Int} (hx : sm x) (hy : sm y) : -17592186044416 ≤ x * y ∧ x * y ≤ 17592186044416 := by
  have := mul_bd (A := 4194304) (B := 4194304) (by omega) hx hy
  omega
def c151 : Con
  | [.agg [.v (.int .i64 a), .v (.int .i64 b)], .agg [.v (.int .i64 c), .v (.int .i64 d)]] => some ([], .agg [i64 (IntKind.i64.wrap (c - a)), i64 (IntKind.i64.wrap (d - b))])
  | _ => none
theorem con151 : ConOK Tryz.prog 151 c151 := ConOK.of (G := []) (H := []) .nil Tryz.func151 fun l ob r hc hob => by
  unfold c151 at hc
  split at hc
  · cases hc
    refine ⟨by kernel_rfl, fnVC_go (rs := [.cell 4 42]) rfl rfl ?_⟩
    simp only [go_sem]
    intro z h z1 h1
    subst h h1
    rfl
  · cases hc
def c153 : Con
  | [.agg [.v (.int .i64 a), .v (.int .i64 b)], .agg [.v (.int .i64 c), .v (.int .i64 d)]] => some ([], .agg [i64 (IntKind.i64.wrap (a - c)), i64 (IntKind.i64.wrap (b - d))])
  | _ => none
theorem con153 : ConOK Tryz.prog 153 c153 := ConOK.of (G := []) (H := []) .nil Tryz.func153 fun l ob r hc hob => by
  unfold c153 at hc
  split at hc
  · cases hc
    refine ⟨by kernel_rfl, fnVC_go (rs := [.cell 4 42]) rfl rfl ?_⟩
    simp only [go_sem]
    intro z h z1 h1
    subst h h1
    rfl
  · cases hc
def c150 : Con
  | [.agg [.v (.int .i64 a), .v (.int .i64 b)], .agg [.v (.int .i64 c), .v (.int .i64 d)]] => some ([], i64 (IntKind.i64.wrap (IntKind.i64.wrap (a * d) - IntKind.i64.wrap (b * c))))
  | _ => none
theorem con150 : ConOK Tryz.prog 150 c150 := ConOK.of (G := []) (H := []) .nil Tryz.func150 fun l ob r hc hob => by
  unfold c150 at hc
  split at hc
  · cases hc
    refine ⟨by kernel_rfl, fnVC_go (rs := [.tmp 4]) rfl rfl ?_⟩
    simp only [go_sem]
    intro z h z1 h1 z2 h2
    rw [h2, h1, h]
  · cases hc
theorem con152 : ConOK Tryz.prog 152 c150 := ConOK.of (G := []) (H := []) .nil Tryz.func152 fun l ob r hc hob => by
  unfold c150 at hc
  split at hc
  · cases hc
    refine ⟨by kernel_rfl, fnVC_go (rs := [.tmp 4]) rfl rfl ?_⟩
    simp only [go_sem]
    intro z h z1 h1 z2 h2
    rw [h2, h1, h]
  · cases hc
/-- (b - a) x (c - a). -/
def turnS (ax ay bx byy cx cy : Int) : Int := (bx - ax) * (cy - ay) - (byy - ay) * (cx - ax)
theorem turn_wrap {ax ay bx byy cx cy : Int} (ha : validS ax ay = true) (hb : validS bx byy = true) (hc : validS cx cy = true) :
    IntKind.i64.wrap (IntKind.i64.wrap (IntKind.i64.wrap (bx - ax) * IntKind.i64.wrap (cy - ay)) - IntKind.i64.wrap (IntKind.i64.wrap (byy - ay) * IntKind.i64.wrap (cx - ax))) = turnS ax ay bx byy cx cy := by
  rw [validS_iff] at ha hb hc
  rw [wrap_in (x := bx - ax) (by unfold inR; omega), wrap_in (x := cy - ay) (by unfold inR; omega), wrap_in (x := byy - ay) (by unfold inR; omega), wrap_in (x := cx - ax) (by unfold inR; omega)]
  have h1 := sm_mul (x := bx - ax) (y := cy - ay) (by unfold sm; omega) (by unfold sm; omega)
  have h2 := sm_mul (x := byy - ay) (y := cx - ax) (by unfold sm; omega) (by unfold sm; omega)
  rw [wrap_in (x := (bx - ax) * (cy - ay)) (by unfold inR; omega), wrap_in (x := (byy - ay) * (cx - ax)) (by unfold inR; omega), wrap_in (by unfold inR; omega)]
  rfl
def c119 : Con
  | [.agg [.v (.int .i64 a), .v (.int .i64 b)], .agg [.v (.int .i64 c), .v (.int .i64 d)], .agg [.v (.int .i64 e), .v (.int .i64 f)]] => some ([validS a b = true, validS c d = true, validS e f = true], i64 (turnS a b c d e f))
  | _ => none
theorem con119 : ConOK Tryz.prog 119 c119 := ConOK.of (G := [(150, c150), (151, c151)]) (H := []) (.cons con150 (.cons con151 .nil)) Tryz.func119 fun l ob r hc hob => by
  unfold c119 at hc
  split at hc
  · rename_i a b c d e f
    cases hc
    have h1 : validS a b = true := hob _ (by simp)
    have h2 : validS c d = true := hob _ (by simp)
    have h3 : validS e f = true := hob _ (by simp)
    refine ⟨by kernel_rfl, fnVC_go (rs := [.tmp 6]) rfl rfl ?_⟩
    simp only [go_sem, c150, c151]
    intro z k z1 k1 z2 k2 z3 k3 z4 k4
    subst k k1 k2 k3
    rw [k4, turn_wrap h1 h2 h3]
  · cases hc
def sideS (a b c d e f : Int) : Int := if validS a b = true ∧ validS c d = true ∧ validS e f = true then (if 0 < turnS a b c d e f then 1 else if turnS a b c d e f < 0 then -1 else 0) else 0
end Go.Ax
end

section
/-
  The laws of boxes: what the functions hand back.
-/
set_option linter.unusedVariables false
set_option linter.unusedSimpArgs false
set_option maxHeartbeats 2000000
set_option maxRecDepth 100000
namespace Go.Ax
open Go.Proofs
def joinT (a b c d e f g h : Int) (k : Nat) : Int := if checkBoxS a b c d = 0 ∧ checkBoxS e f g h = 0 then (match k with
  | 0 => min a e
  | 1 => min b f
  | 2 => max c g
  | _ => max d h) else 0
theorem rows_0 {a b c d : AV} {l : List AV} : rowsOf 4 (a :: b :: c :: d :: l) 0 = [a, b, c, d] := (rfl)
theorem rows_1 {a b c d e f g h : AV} {l : List AV} : rowsOf 4 (a :: b :: c :: d :: e :: f :: g :: h :: l) 1 = [e, f, g, h] := (rfl)
theorem boxes_2 {a b c d e f g h : Int} : boxes 2 (rowsOf 4 [i64 a, i64 b, i64 c, i64 d, i64 e, i64 f, i64 g, i64 h]) = ((inR a ∧ inR b ∧ inR c ∧ inR d) ∧ inR e ∧ inR f ∧ inR g ∧ inR h) := propext ⟨fun H => by
    have h0 := (H 0 (by omega)).2
    have h1 := (H 1 (by omega)).2
    simp only [gx, rows_0, rows_1, gi_0, gi_1, gi_2, gi_3] at h0 h1
    exact ⟨h0, h1⟩, fun ⟨h0, h1⟩ i hi => by
    have : i = 0 ∨ i = 1 := by omega
    rcases this with rfl | rfl
    · simp only [gx, rows_0, gi_0, gi_1, gi_2, gi_3]; exact ⟨trivial, h0⟩
    · simp only [gx, rows_1, gi_0, gi_1, gi_2, gi_3]; exact ⟨trivial, h1⟩⟩
theorem okB_2 {A B C D : Nat → Int} : okB 2 A B C D ↔ checkBoxS (A 0) (B 0) (C 0) (D 0) = 0 ∧ checkBoxS (A 1) (B 1) (C 1) (D 1) = 0 :=
  ⟨fun h => ⟨h 0 (by omega), h 1 (by omega)⟩, fun ⟨h0, h1⟩ i hi => by
    have : i = 0 ∨ i = 1 := by omega
    rcases this with rfl | rfl <;> assumption⟩
theorem join_2 {a b c d e f g h : Int} {k : Nat} (hk : k < 4) : joinS 2 (gx (rowsOf 4 [i64 a, i64 b, i64 c, i64 d, i64 e, i64 f, i64 g, i64 h]) 0) (gx (rowsOf 4 [i64 a, i64 b, i64 c, i64 d, i64 e, i64 f, i64 g, i64 h]) 1) (gx (rowsOf 4 [i64 a, i64 b, i64 c, i64 d, i64 e, i64 f, i64 g, i64 h]) 2) (gx (rowsOf 4 [i64 a, i64 b, i64 c, i64 d, i64 e, i64 f, i64 g, i64 h]) 3) k = joinT a b c d e f g h k := by
  unfold joinS joinT
  simp only [okB_2, mnS, mxS, gx, rows_0, rows_1, gi_0, gi_1, gi_2, gi_3]
  have : k = 0 ∨ k = 1 ∨ k = 2 ∨ k = 3 := by omega
  rcases this with rfl | rfl | rfl | rfl <;> simp
attribute [go_sem] boxes_2 join_2 Nat.lt_irrefl
end Go.Ax
end

section
/-
  Iterators: an iterator's code is walked piece by piece, the calls of yield between them.
-/
set_option linter.unusedSimpArgs false
set_option linter.unusedVariables false
namespace Go.Ax
open Go.RowKit

section
variable {P : Program} {G : Ctx} {w0 : Base} {w : World} {ρ : Env} {m : Mem} {D : Nat → Prop} {t : Slots} {nt : Nat} {ds : Frm} {a : Act} {ro : Option Nat} {n : Nat} {Q : Exit → Act → World → Prop} {H : Hots} {K : AEx → St → Prop} {s : St} {c : Code} {I : Nat → Prop}

/-- The value of a slot. -/
theorem R.val {x y : Value} (h : R w ρ (.v x) y) : y = x := by cases h; rfl
theorem SR.val {j : Nat} {x : Value} (h : SR w0 ρ t m D nt ds a w) (hj : slot t j = .v x) : a.tmps.getD j undef = x := by
  have := h.slots j
  rw [hj] at this
  exact this.val
end
end Go.Ax
end

section
/-
  The iterator over a polygon's edges.
-/
set_option linter.unusedVariables false
set_option linter.unusedSimpArgs false
set_option maxHeartbeats 1000000
set_option maxRecDepth 100000
namespace Go.Ax
open Go.Proofs

end Go.Ax
end

section
/-
  Spots: sides, convex spots.
-/
set_option linter.unusedVariables false
set_option linter.unusedSimpArgs false
set_option maxHeartbeats 1000000
set_option maxRecDepth 100000
namespace Go.Ax
open Go.Proofs

def c128 : Con
  | [.agg [.v (.int .i64 a), .v (.int .i64 b)], .agg [.v (.int .i64 c), .v (.int .i64 d)], .agg [.v (.int .i64 e), .v (.int .i64 f)]] => some ([], i64 (sideS a b c d e f))
  | _ => none
/-- As the reference turns. -/
theorem turn_wrap' {ax ay bx byy cx cy : Int} (ha : validS ax ay = true) (hb : validS bx byy = true) (hc : validS cx cy = true) :
    IntKind.i64.wrap (IntKind.i64.wrap (IntKind.i64.wrap (bx - ax) * IntKind.i64.wrap (cy - ay)) - IntKind.i64.wrap (IntKind.i64.wrap (byy - ay) * IntKind.i64.wrap (cx - ax))) = turnS ax ay bx byy cx cy := turn_wrap ha hb hc
theorem con128 : ConOK Tryz.prog 128 c128 := ConOK.of (G := [(125, c125), (152, c150), (153, c153)]) (H := []) (.cons con125 (.cons con152 (.cons con153 .nil))) Tryz.func128 fun l ob r hc hob => by
  unfold c128 at hc
  split at hc
  · rename_i a b c d e f
    cases hc
    refine ⟨by kernel_rfl, fnVC_go (rs := [.tmp 6]) rfl rfl ?_⟩
    simp only [go_sem, c125, c153, c150]
    intro z hz z1 hz1 z2 hz2
    subst hz hz1 hz2
    refine ⟨fun h => ?_, fun h x0 h0 x1 h1 x2 h2 x3 h3 t ht => ?_⟩
    · unfold sideS; rw [if_neg]; rintro ⟨k1, k2, k3⟩; rw [k1, k2, k3] at h; simp at h
    · have hv : validS a b = true ∧ validS c d = true ∧ validS e f = true := ⟨h.1.1, h.1.2, h.2⟩
      subst h0 h1 h2 h3
      rw [turn_wrap' hv.1 hv.2.1 hv.2.2] at ht
      refine ⟨fun k => ?_, fun k => ⟨fun k2 => ?_, fun k2 => ?_⟩⟩
      · unfold sideS; rw [if_pos hv, ← ht, if_pos k]
      · unfold sideS; rw [if_pos hv, ← ht, if_neg k, if_pos k2]
      · unfold sideS; rw [if_pos hv, ← ht, if_neg k, if_neg k2]
  · cases hc
end Go.Ax
end

section
/-
  Spots: what the reference says; copies of spots.
-/
set_option linter.unusedVariables false
set_option linter.unusedSimpArgs false
set_option maxHeartbeats 1000000
set_option maxRecDepth 100000
namespace Go.Ax
open Go.Proofs

end Go.Ax
end

section
/-
  Forms: what is valid; copies; which spots a form has.
-/
set_option linter.unusedVariables false
set_option linter.unusedSimpArgs false
set_option maxHeartbeats 1000000
set_option maxRecDepth 100000
namespace Go.Ax
open Go.Proofs

theorem con127 : ConOK Tryz.prog 127 c118 := ConOK.of (G := []) (H := []) .nil Tryz.func127 fun l ob r hc hob => by
  unfold c118 at hc
  split at hc
  · cases hc
    refine ⟨by kernel_rfl, fnVC_go (rs := [.cell 4 32]) rfl rfl ?_⟩
    simp only [go_sem]
    intro z h z1 h1 z2 h2 z3 h3
    subst h h1 h2 h3
    rfl
  · cases hc

instance {n : Nat} {X Y : Nat → Int} : Decidable (∀ i, i < n → validS (X i) (Y i) = true) := inferInstance
end Go.Ax
end

section
/-
  Ways and boxes.
-/
set_option linter.unusedVariables false
set_option linter.unusedSimpArgs false
set_option maxHeartbeats 4000000
set_option maxRecDepth 100000
namespace Go.Ax
open Go.Proofs
theorem fair2r {a b c d : Int} : fairS 2 (gx (rowsOf 2 [i64 a, i64 b, i64 c, i64 d]) 0) (gx (rowsOf 2 [i64 a, i64 b, i64 c, i64 d]) 1) = (validS a b && validS c d) := fair2 rfl rfl
/-! ### An element of an array's value -/
section
variable {P : Program} {G : Ctx} {key : Nat} {d : Option Tmp} {q ty : TypeId} {pos : String} {af : Array Edge} {gd : Option (Nat × Bool)} {g : Option Bool} {ρ0 : Operand → AV} {m : Mem}
def idzE (P : Program) (q : TypeId) (a b : AV) : Option Eff := match flat a with
  | some x => match flat b with
    | some y => match pureRun P (Instr.index q x y) with
      | some v => some ⟨[], ofVal v, .none⟩
      | none => none
    | none => none
  | none => none
theorem aStep_idz {x i : Operand} : aStep P G key g ⟨d, .index q x i, ty, pos, af, gd⟩ ρ0 m = idzE P q (strip (ρ0 x)) (strip (ρ0 i)) := by
  show effOf (aPure P (fun x => strip (ρ0 x)) ⟨d, .index q x i, ty, pos, af, gd⟩) = _
  unfold aPure idzE
  dsimp only [Op.operands, List.map, flatAll]
  cases hx : flat (strip (ρ0 x)) with
  | none => rfl
  | some vx =>
    dsimp only
    cases hi : flat (strip (ρ0 i)) with
    | none => rfl
    | some vi =>
      dsimp only
      have : execOp (fun x => (flat (strip (ρ0 x))).getD undef) ⟨d, .index q x i, ty, pos, af, gd⟩ = Sem.bind (Instr.index q vx vi) fun v => Sem.pure (Next.value v) := by
        show Sem.bind (Instr.index q ((flat (strip (ρ0 x))).getD undef) ((flat (strip (ρ0 i))).getD undef)) (fun v => Sem.pure (Next.value v)) = _
        rw [hx, hi]; rfl
      rw [this, pureRun_bind]
      cases pureRun P (Instr.index q vx vi) <;> rfl
end
theorem idx145_0 {a b : Int} : idzE Tryz.prog 145 (.agg [i64 a, i64 b]) (.v (.int .i64 0)) = some ⟨[], i64 a, .none⟩ := by kernel_rfl
theorem idx145_1 {a b : Int} : idzE Tryz.prog 145 (.agg [i64 a, i64 b]) (.v (.int .i64 1)) = some ⟨[], i64 b, .none⟩ := by kernel_rfl
attribute [go_sem] aStep_idz idx145_0 idx145_1
/-- The box around a way. -/
def wayB (a b c d : Int) (k : Nat) : Int := joinT (IntKind.i64.wrap (a - 0)) (IntKind.i64.wrap (b - 0)) (IntKind.i64.wrap (a + 0)) (IntKind.i64.wrap (b + 0)) (IntKind.i64.wrap (c - 0)) (IntKind.i64.wrap (d - 0)) (IntKind.i64.wrap (c + 0)) (IntKind.i64.wrap (d + 0)) k
/-- The corner of a box. -/
def crS (a b c d x0 y0 x1 y1 : Int) (j : Nat) : Int := turnS a b c d (if j < 2 then x0 else x1) (if j % 2 = 0 then y0 else y1)
/-- The way meets the box. -/
def alS (x0 y0 x1 y1 a b c d : Int) : Bool := validS a b && (validS c d && (meetsS x0 y0 x1 y1 (wayB a b c d 0) (wayB a b c d 1) (wayB a b c d 2) (wayB a b c d 3) && (anyB (fun j => decide (crS a b c d x0 y0 x1 y1 j ≤ 0)) 4 && anyB (fun j => decide (0 ≤ crS a b c d x0 y0 x1 y1 j)) 4)))
def c78 : Con
  | [.agg [.v (.int .i64 x0), .v (.int .i64 y0), .v (.int .i64 x1), .v (.int .i64 y1)], .agg [.v (.int .i64 a), .v (.int .i64 b)], .agg [.v (.int .i64 c), .v (.int .i64 d)]] => some ([inR x0, inR y0, inR x1, inR y1, inR a, inR b, inR c, inR d], bo (alS x0 y0 x1 y1 a b c d))
  | _ => none
theorem con78 : ConOK Tryz.prog 78 c78 := ConOK.of (G := [(109, c109), (118, c118), (117, c117), (72, c72), (119, c119)]) (H := []) (.cons con109 (.cons con118 (.cons con117 (.cons con72 (.cons con119 .nil))))) Tryz.func78 fun l ob r hc hob => by
  unfold c78 at hc
  split at hc
  · rename_i x0 y0 x1 y1 a b c d
    cases hc
    have h_0 : inR x0 := hob _ (by simp)
    have h_1 : inR y0 := hob _ (by simp)
    have h_2 : inR x1 := hob _ (by simp)
    have h_3 : inR y1 := hob _ (by simp)
    have h_4 : inR a := hob _ (by simp)
    have h_5 : inR b := hob _ (by simp)
    have h_6 : inR c := hob _ (by simp)
    have h_7 : inR d := hob _ (by simp)
    refine ⟨by kernel_rfl, fnVC_go (rs := [.tmp 6]) rfl rfl ?_⟩
    simp only [go_sem, c109, c118, c117, c72, c119]
    have hsp : spots 2 (rowsOf 2 [i64 a, i64 b, i64 c, i64 d]) := spots2 rfl rfl h_4 h_5 h_6 h_7
    have hfa := fair2r (a := a) (b := b) (c := c) (d := d)
    rw [hfa]
    intro z hz
    have wv : z = true → validS a b = true ∧ validS c d = true ∧ IntKind.i64.wrap (a - 0) = a ∧ IntKind.i64.wrap (b - 0) = b ∧ IntKind.i64.wrap (a + 0) = a ∧ IntKind.i64.wrap (b + 0) = b ∧ IntKind.i64.wrap (c - 0) = c ∧ IntKind.i64.wrap (d - 0) = d ∧ IntKind.i64.wrap (c + 0) = c ∧ IntKind.i64.wrap (d + 0) = d := fun h => by
      have hv : validS a b = true ∧ validS c d = true := by rw [hz] at h; simpa using h
      refine ⟨hv.1, hv.2, ?_, ?_, ?_, ?_, ?_, ?_, ?_, ?_⟩ <;> (rw [wrap_in (by unfold inR at *; omega)]; omega)
    have wj : ∀ k, z = true → inR (wayB a b c d k) := fun k h => by
      obtain ⟨v1, v2, e1, e2, e3, e4, e5, e6, e7, e8⟩ := wv h
      unfold wayB joinT
      rw [e1, e2, e3, e4, e5, e6, e7, e8]
      rw [validS_iff] at v1 v2
      unfold inR
      split
      · split <;> omega
      · omega
    refine ⟨hsp, fun h => ?_, fun _ => trivial, fun z1 hz1 => ⟨fun _ => h_0, fun _ => h_1, fun _ => h_2, fun _ => h_3, fun h => wj 0 h, fun h => wj 1 h, fun h => wj 2 h, fun h => wj 3 h, fun h => ?_, fun h => ?_⟩⟩
    · obtain ⟨v1, v2, e1, e2, e3, e4, e5, e6, e7, e8⟩ := wv h
      rw [e1, e2, e3, e4, e5, e6, e7, e8]
      exact ⟨⟨h_4, h_5, h_4, h_5⟩, h_6, h_7, h_6, h_7⟩
    · unfold alS wayB
      rcases h with h | h
      · rw [hz] at h
        rw [← Bool.and_assoc, h, Bool.false_and]
      · rw [hz1] at h
        rw [h, Bool.false_and, Bool.and_false, Bool.and_false]
    · obtain ⟨v1, v2, _⟩ := wv h.1
      have hm := h.2
      rw [hz1] at hm
      have hms := of_decide_eq_true hm
      have hcb := checkBoxS_iff.1 hms.1
      have q00 : validS x0 y0 = true := validS_iff.2 (by omega)
      have q01 : validS x0 y1 = true := validS_iff.2 (by omega)
      have q10 : validS x1 y0 = true := validS_iff.2 (by omega)
      have q11 : validS x1 y1 = true := validS_iff.2 (by omega)
      have eal : alS x0 y0 x1 y1 a b c d = (anyB (fun j => decide (crS a b c d x0 y0 x1 y1 j ≤ 0)) 4 && anyB (fun j => decide (0 ≤ crS a b c d x0 y0 x1 y1 j)) 4) := by
        unfold alS wayB
        rw [v1, v2, hm]; rfl
      have c0 : crS a b c d x0 y0 x1 y1 0 = turnS a b c d x0 y0 := rfl
      have c1 : crS a b c d x0 y0 x1 y1 1 = turnS a b c d x0 y1 := rfl
      have c2 : crS a b c d x0 y0 x1 y1 2 = turnS a b c d x1 y0 := rfl
      have c3 : crS a b c d x0 y0 x1 y1 3 = turnS a b c d x1 y1 := rfl
      rw [eal]
      clear eal wv wj hms hm hz hz1
      generalize crS a b c d x0 y0 x1 y1 = T at *
      have w1 : IntKind.i64.wrap 1 = 1 := wrap_in (by unfold inR; omega)
      have w2 : IntKind.i64.wrap 2 = 2 := wrap_in (by unfold inR; omega)
      refine loopC_go (fun (i : Nat) => i ≤ 2) (fun i => 2 - i) (fun i => [(35, i64 i), (7, bo (anyB (fun j => decide (T j ≤ 0)) (2 * i))), (8, bo (anyB (fun j => decide (0 ≤ T j)) (2 * i)))]) (fun _ => []) [2, 1, 0] [36, 37, 10, 38, 39, 40, 41, 42, 43, 44, 45, 12, 46, 47, 48, 49, 50, 51, 13, 52, 53, 54, 55, 56, 57, 58, 59, 60, 61, 7, 8, 62, 43, 63, 35] 0 (by kernel_rfl) ?_ (Nat.zero_le _) ?_ ?_
      · intro x _; simp [goodNames]
      · simp only [go_sem, Nat.mul_zero, anyB]
      · intro i hi
        have hi : i = 0 ∨ i = 1 ∨ i = 2 := by omega
        rcases hi with rfl | rfl | rfl
        · simp only [go_sem]
          refine ⟨?_, fun h => (by cases h)⟩
          refine loopC_go (fun (j : Nat) => j ≤ 2) (fun j => 2 - j) (fun j => [(43, i64 j), (7, bo (anyB (fun j => decide (T j ≤ 0)) (0 + j))), (8, bo (anyB (fun j => decide (0 ≤ T j)) (0 + j)))]) (fun _ => []) [2, 1, 0] [44, 45, 12, 46, 47, 48, 49, 50, 51, 13, 52, 53, 54, 55, 56, 57, 58, 59, 60, 61, 7, 8, 62, 43] 0 (by kernel_rfl) ?_ (Nat.zero_le _) ?_ ?_
          · intro x _; simp [goodNames]
          · simp only [go_sem]
          · intro j hj
            have hj : j = 0 ∨ j = 1 ∨ j = 2 := by omega
            rcases hj with rfl | rfl | rfl
            · simp only [go_sem, c119]
              refine ⟨fun z hz => ⟨v1, v2, q00, fun z1 hz1 => ⟨1, by omega, by omega, by rw [hz1, w1]; rfl, ?_, ?_⟩⟩, fun h => (by cases h)⟩
              · rw [hz, ← c0]; rfl
              · rw [hz, ← c0]; rfl
            · simp only [go_sem, c119]
              refine ⟨fun z hz => ⟨v1, v2, q01, fun z1 hz1 => ⟨2, by omega, by omega, by rw [hz1, w2]; rfl, ?_, ?_⟩⟩, fun h => (by cases h)⟩
              · rw [hz, ← c1]; rfl
              · rw [hz, ← c1]; rfl
            · simp only [go_sem]
              exact fun z hz => ⟨1, by omega, by omega, by rw [hz, w1]; rfl, rfl, rfl⟩
        · simp only [go_sem]
          refine ⟨?_, fun h => (by cases h)⟩
          refine loopC_go (fun (j : Nat) => j ≤ 2) (fun j => 2 - j) (fun j => [(43, i64 j), (7, bo (anyB (fun j => decide (T j ≤ 0)) (2 + j))), (8, bo (anyB (fun j => decide (0 ≤ T j)) (2 + j)))]) (fun _ => []) [2, 1, 0] [44, 45, 12, 46, 47, 48, 49, 50, 51, 13, 52, 53, 54, 55, 56, 57, 58, 59, 60, 61, 7, 8, 62, 43] 0 (by kernel_rfl) ?_ (Nat.zero_le _) ?_ ?_
          · intro x _; simp [goodNames]
          · simp only [go_sem]
          · intro j hj
            have hj : j = 0 ∨ j = 1 ∨ j = 2 := by omega
            rcases hj with rfl | rfl | rfl
            · simp only [go_sem, c119]
              refine ⟨fun z hz => ⟨v1, v2, q10, fun z1 hz1 => ⟨1, by omega, by omega, by rw [hz1, w1]; rfl, ?_, ?_⟩⟩, fun h => (by cases h)⟩
              · rw [hz, ← c2]; rfl
              · rw [hz, ← c2]; rfl
            · simp only [go_sem, c119]
              refine ⟨fun z hz => ⟨v1, v2, q11, fun z1 hz1 => ⟨2, by omega, by omega, by rw [hz1, w2]; rfl, ?_, ?_⟩⟩, fun h => (by cases h)⟩
              · rw [hz, ← c3]; rfl
              · rw [hz, ← c3]; rfl
            · simp only [go_sem]
              exact fun z hz => ⟨2, by omega, by omega, by rw [hz, w2]; rfl, rfl, rfl⟩
        · simp only [go_sem]
  · cases hc
/-- How many of some are so. -/
def cntI (G : Nat → Bool) : Nat → Int
  | 0 => 0
  | n + 1 => if G n = true then cntI G n + 1 else cntI G n
theorem cntI_le {G : Nat → Bool} : ∀ n, 0 ≤ cntI G n ∧ cntI G n ≤ n ∧ (cntI G n < n ↔ anyB (fun j => !G j) n = true)
  | 0 => ⟨Int.le_refl _, Int.le_refl _, by simp [cntI, anyB]⟩
  | n + 1 => by
    obtain ⟨h1, h2, h3⟩ := cntI_le (G := G) n
    unfold cntI anyB
    by_cases e : G n = true
    · rw [if_pos e, e, Bool.not_true, Bool.or_false]
      exact ⟨by omega, by omega, by rw [← h3]; omega⟩
    · rw [if_neg e]
      have e : G n = false := Bool.eq_false_iff.2 e
      rw [e, Bool.not_false, Bool.or_true]
      exact ⟨by omega, by omega, by simp; omega⟩
def c105 : Con
  | [.agg [.v (.int .i64 x0), .v (.int .i64 y0), .v (.int .i64 x1), .v (.int .i64 y1)], .agg [.v (.int .i64 a), .v (.int .i64 b)], .agg [.v (.int .i64 c), .v (.int .i64 d)]] => some ([inR x0, inR y0, inR x1, inR y1, inR a, inR b, inR c, inR d], bo (alS x0 y0 x1 y1 a b c d))
  | _ => none
theorem con105 : ConOK Tryz.prog 105 c105 := ConOK.of (G := [(103, c103), (125, c125), (127, c118), (126, c117), (104, c104), (128, c128)]) (H := []) (.cons con103 (.cons con125 (.cons con127 (.cons con126 (.cons con104 (.cons con128 .nil)))))) Tryz.func105 fun l ob r hc hob => by
  unfold c105 at hc
  split at hc
  · rename_i x0 y0 x1 y1 a b c d
    cases hc
    have h_0 : inR x0 := hob _ (by simp)
    have h_1 : inR y0 := hob _ (by simp)
    have h_2 : inR x1 := hob _ (by simp)
    have h_3 : inR y1 := hob _ (by simp)
    have h_4 : inR a := hob _ (by simp)
    have h_5 : inR b := hob _ (by simp)
    have h_6 : inR c := hob _ (by simp)
    have h_7 : inR d := hob _ (by simp)
    refine ⟨by kernel_rfl, fnVC_go (rs := [.tmp 6]) rfl rfl ?_⟩
    simp only [go_sem, c103, c125, c118, c117, c104, c128]
    intro z hz z1 hz1 z2 hz2
    refine ⟨fun h => ?_, fun h => ?_⟩
    · unfold alS
      rw [← hz1, ← hz2]
      rcases h with (h | h) | h
      · have : meetsS x0 y0 x1 y1 (wayB a b c d 0) (wayB a b c d 1) (wayB a b c d 2) (wayB a b c d 3) = false := by
          unfold meetsS
          exact decide_eq_false fun k => by rw [← hz] at k; rw [k.1] at h; simp at h
        rw [this]; simp
      · rw [h]; rfl
      · rw [h]; simp
    have v1 : validS a b = true := by rw [← hz1]; exact h.1.2
    have v2 : validS c d = true := by rw [← hz2]; exact h.2
    intro z3 hz3 z4 hz4 z5 hz5 z6 hz6 z7 hz7 z8 hz8 z9 hz9 z10 hz10 z11 hz11 z12 hz12 z13 hz13 z14 hz14
    have e1 : IntKind.i64.wrap (a - 0) = a := by rw [wrap_in (by unfold inR at *; omega)]; omega
    have e2 : IntKind.i64.wrap (b - 0) = b := by rw [wrap_in (by unfold inR at *; omega)]; omega
    have e3 : IntKind.i64.wrap (a + 0) = a := by rw [wrap_in (by unfold inR at *; omega)]; omega
    have e4 : IntKind.i64.wrap (b + 0) = b := by rw [wrap_in (by unfold inR at *; omega)]; omega
    have e5 : IntKind.i64.wrap (c - 0) = c := by rw [wrap_in (by unfold inR at *; omega)]; omega
    have e6 : IntKind.i64.wrap (d - 0) = d := by rw [wrap_in (by unfold inR at *; omega)]; omega
    have e7 : IntKind.i64.wrap (c + 0) = c := by rw [wrap_in (by unfold inR at *; omega)]; omega
    have e8 : IntKind.i64.wrap (d + 0) = d := by rw [wrap_in (by unfold inR at *; omega)]; omega
    have ew : ∀ k, wayB a b c d k = joinT z3 z4 z5 z6 z7 z8 z9 z10 k := fun k => by rw [hz3, hz4, hz5, hz6, hz7, hz8, hz9, hz10]; rfl
    refine ⟨?_, fun z15 hz15 => ?_⟩
    · rw [hz3, hz4, hz5, hz6, hz7, hz8, hz9, hz10, e1, e2, e3, e4, e5, e6, e7, e8]
      exact ⟨⟨h_4, h_5, h_4, h_5⟩, h_6, h_7, h_6, h_7⟩
    rw [hz11, hz12, hz13, hz14, ← ew, ← ew, ← ew, ← ew] at hz15
    refine ⟨fun hm => ?_, fun hm => ?_⟩
    · unfold alS
      rw [← hz15, hm]; simp
    rw [hz15] at hm
    have hms := of_decide_eq_true hm
    have hcb := checkBoxS_iff.1 hms.1
    have q00 : validS x0 y0 = true := validS_iff.2 (by omega)
    have q01 : validS x0 y1 = true := validS_iff.2 (by omega)
    have q10 : validS x1 y0 = true := validS_iff.2 (by omega)
    have q11 : validS x1 y1 = true := validS_iff.2 (by omega)
    have eal : alS x0 y0 x1 y1 a b c d = (anyB (fun j => decide (crS a b c d x0 y0 x1 y1 j ≤ 0)) 4 && anyB (fun j => decide (0 ≤ crS a b c d x0 y0 x1 y1 j)) 4) := by
      unfold alS
      rw [v1, v2, hm]; rfl
    rw [eal]
    clear eal
    obtain ⟨T, hT⟩ : ∃ T : Nat → Int, T = fun j => if j = 0 then turnS a b c d x0 y0 else if j = 1 then turnS a b c d x1 y0 else if j = 2 then turnS a b c d x1 y1 else turnS a b c d x0 y1 := ⟨_, rfl⟩
    have c0 : T 0 = turnS a b c d x0 y0 := by rw [hT]; rfl
    have c1 : T 1 = turnS a b c d x1 y0 := by rw [hT]; rfl
    have c2 : T 2 = turnS a b c d x1 y1 := by rw [hT]; rfl
    have c3 : T 3 = turnS a b c d x0 y1 := by rw [hT]; rfl
    have eL : anyB (fun j => decide (crS a b c d x0 y0 x1 y1 j ≤ 0)) 4 = anyB (fun j => !decide (0 < T j)) 4 := by
      rw [Bool.eq_iff_iff]
      have k0 : crS a b c d x0 y0 x1 y1 0 = T 0 := by rw [c0]; rfl
      have k1 : crS a b c d x0 y0 x1 y1 1 = T 3 := by rw [c3]; rfl
      have k2 : crS a b c d x0 y0 x1 y1 2 = T 1 := by rw [c1]; rfl
      have k3 : crS a b c d x0 y0 x1 y1 3 = T 2 := by rw [c2]; rfl
      simp only [anyB, k0, k1, k2, k3, Bool.or_eq_true, decide_eq_true_eq, Bool.not_eq_true', decide_eq_false_iff_not, Bool.false_eq_true, false_or]
      omega
    have eR : anyB (fun j => decide (0 ≤ crS a b c d x0 y0 x1 y1 j)) 4 = anyB (fun j => !decide (T j < 0)) 4 := by
      rw [Bool.eq_iff_iff]
      have k0 : crS a b c d x0 y0 x1 y1 0 = T 0 := by rw [c0]; rfl
      have k1 : crS a b c d x0 y0 x1 y1 1 = T 3 := by rw [c3]; rfl
      have k2 : crS a b c d x0 y0 x1 y1 2 = T 1 := by rw [c1]; rfl
      have k3 : crS a b c d x0 y0 x1 y1 3 = T 2 := by rw [c2]; rfl
      simp only [anyB, k0, k1, k2, k3, Bool.or_eq_true, decide_eq_true_eq, Bool.not_eq_true', decide_eq_false_iff_not, Bool.false_eq_true, false_or]
      omega
    rw [eL, eR]
    have es : ∀ p q : Int, validS p q = true → (0 < sideS a b c d p q ↔ 0 < turnS a b c d p q) ∧ (sideS a b c d p q < 0 ↔ turnS a b c d p q < 0) := fun p q hv => by
      unfold sideS
      rw [if_pos ⟨v1, v2, hv⟩]
      split
      · omega
      · split <;> omega
    have s0 := es _ _ q00
    have s1 := es _ _ q10
    have s2 := es _ _ q11
    have s3 := es _ _ q01
    rw [← c0] at s0
    rw [← c1] at s1
    rw [← c2] at s2
    rw [← c3] at s3
    have bL := fun n => (cntI_le (G := fun j => decide (0 < T j)) n).1
    have bR := fun n => (cntI_le (G := fun j => decide (T j < 0)) n).1
    have bL2 := fun n => (cntI_le (G := fun j => decide (0 < T j)) n).2.1
    have bR2 := fun n => (cntI_le (G := fun j => decide (T j < 0)) n).2.1
    refine loopC_go (fun (i : Nat) => i ≤ 4) (fun i => 4 - i) (fun i => [(10, i64 i), (8, i64 (cntI (fun j => decide (0 < T j)) i)), (9, i64 (cntI (fun j => decide (T j < 0)) i))]) (fun _ => []) [46, 2, 1, 0] [55, 56, 57, 58, 61, 62, 63, 64, 65, 66, 67, 11, 68, 69, 70, 71, 8, 72, 73, 74, 75, 9, 59, 60, 10] 0 (by kernel_rfl) ?_ (Nat.zero_le _) ?_ ?_
    · intro x _; simp [goodNames]
    · simp only [go_sem, cntI]
    · intro i hi
      have hi : i = 0 ∨ i = 1 ∨ i = 2 ∨ i = 3 ∨ i = 4 := by omega
      have up : ∀ (G : Nat → Bool) n, G n = true → cntI G (n + 1) = cntI G n + 1 := fun G n h => by
        show (if G n = true then cntI G n + 1 else cntI G n) = _
        rw [if_pos h]
      have dn : ∀ (G : Nat → Bool) n, G n = false → cntI G (n + 1) = cntI G n := fun G n h => by
        show (if G n = true then cntI G n + 1 else cntI G n) = _
        rw [if_neg (by rw [h]; decide)]
      rcases hi with rfl | rfl | rfl | rfl | rfl
      · simp only [go_sem, c128]
        refine ⟨fun z hz => ?_, fun h => (by cases h)⟩
        rw [hz]
        rw [s0.1, s0.2]
        refine ⟨fun p z1 hz1 => ⟨fun q => by omega, fun q z2 hz2 => ⟨1, by omega, by omega, by rw [hz2, wrap_in (by unfold inR; omega)]; rfl, ?_, ?_⟩⟩, fun p => ⟨fun q z1 hz1 z2 hz2 => ⟨1, by omega, by omega, by rw [hz2, wrap_in (by unfold inR; omega)]; rfl, ?_, ?_⟩, fun q z1 hz1 => ⟨1, by omega, by omega, by rw [hz1, wrap_in (by unfold inR; omega)]; rfl, ?_, ?_⟩⟩⟩
        · rw [hz1, up (fun j => decide (0 < T j)) 0 (decide_eq_true p), wrap_in (by have := bL 0; have := bL2 0; unfold inR; omega)]
        · rw [dn (fun j => decide (T j < 0)) 0 (decide_eq_false q)]
        · rw [dn (fun j => decide (0 < T j)) 0 (decide_eq_false p)]
        · rw [hz1, up (fun j => decide (T j < 0)) 0 (decide_eq_true q), wrap_in (by have := bR 0; have := bR2 0; unfold inR; omega)]
        · rw [dn (fun j => decide (0 < T j)) 0 (decide_eq_false p)]
        · rw [dn (fun j => decide (T j < 0)) 0 (decide_eq_false q)]
      · simp only [go_sem, c128]
        refine ⟨fun z hz => ?_, fun h => (by cases h)⟩
        rw [hz]
        rw [s1.1, s1.2]
        refine ⟨fun p z1 hz1 => ⟨fun q => by omega, fun q z2 hz2 => ⟨2, by omega, by omega, by rw [hz2, wrap_in (by unfold inR; omega)]; rfl, ?_, ?_⟩⟩, fun p => ⟨fun q z1 hz1 z2 hz2 => ⟨2, by omega, by omega, by rw [hz2, wrap_in (by unfold inR; omega)]; rfl, ?_, ?_⟩, fun q z1 hz1 => ⟨2, by omega, by omega, by rw [hz1, wrap_in (by unfold inR; omega)]; rfl, ?_, ?_⟩⟩⟩
        · rw [hz1, up (fun j => decide (0 < T j)) 1 (decide_eq_true p), wrap_in (by have := bL 1; have := bL2 1; unfold inR; omega)]
        · rw [dn (fun j => decide (T j < 0)) 1 (decide_eq_false q)]
        · rw [dn (fun j => decide (0 < T j)) 1 (decide_eq_false p)]
        · rw [hz1, up (fun j => decide (T j < 0)) 1 (decide_eq_true q), wrap_in (by have := bR 1; have := bR2 1; unfold inR; omega)]
        · rw [dn (fun j => decide (0 < T j)) 1 (decide_eq_false p)]
        · rw [dn (fun j => decide (T j < 0)) 1 (decide_eq_false q)]
      · simp only [go_sem, c128]
        refine ⟨fun z hz => ?_, fun h => (by cases h)⟩
        rw [hz]
        rw [s2.1, s2.2]
        refine ⟨fun p z1 hz1 => ⟨fun q => by omega, fun q z2 hz2 => ⟨3, by omega, by omega, by rw [hz2, wrap_in (by unfold inR; omega)]; rfl, ?_, ?_⟩⟩, fun p => ⟨fun q z1 hz1 z2 hz2 => ⟨3, by omega, by omega, by rw [hz2, wrap_in (by unfold inR; omega)]; rfl, ?_, ?_⟩, fun q z1 hz1 => ⟨3, by omega, by omega, by rw [hz1, wrap_in (by unfold inR; omega)]; rfl, ?_, ?_⟩⟩⟩
        · rw [hz1, up (fun j => decide (0 < T j)) 2 (decide_eq_true p), wrap_in (by have := bL 2; have := bL2 2; unfold inR; omega)]
        · rw [dn (fun j => decide (T j < 0)) 2 (decide_eq_false q)]
        · rw [dn (fun j => decide (0 < T j)) 2 (decide_eq_false p)]
        · rw [hz1, up (fun j => decide (T j < 0)) 2 (decide_eq_true q), wrap_in (by have := bR 2; have := bR2 2; unfold inR; omega)]
        · rw [dn (fun j => decide (0 < T j)) 2 (decide_eq_false p)]
        · rw [dn (fun j => decide (T j < 0)) 2 (decide_eq_false q)]
      · simp only [go_sem, c128]
        refine ⟨fun z hz => ?_, fun h => (by cases h)⟩
        rw [hz]
        rw [s3.1, s3.2]
        refine ⟨fun p z1 hz1 => ⟨fun q => by omega, fun q z2 hz2 => ⟨4, by omega, by omega, by rw [hz2, wrap_in (by unfold inR; omega)]; rfl, ?_, ?_⟩⟩, fun p => ⟨fun q z1 hz1 z2 hz2 => ⟨4, by omega, by omega, by rw [hz2, wrap_in (by unfold inR; omega)]; rfl, ?_, ?_⟩, fun q z1 hz1 => ⟨4, by omega, by omega, by rw [hz1, wrap_in (by unfold inR; omega)]; rfl, ?_, ?_⟩⟩⟩
        · rw [hz1, up (fun j => decide (0 < T j)) 3 (decide_eq_true p), wrap_in (by have := bL 3; have := bL2 3; unfold inR; omega)]
        · rw [dn (fun j => decide (T j < 0)) 3 (decide_eq_false q)]
        · rw [dn (fun j => decide (0 < T j)) 3 (decide_eq_false p)]
        · rw [hz1, up (fun j => decide (T j < 0)) 3 (decide_eq_true q), wrap_in (by have := bR 3; have := bR2 3; unfold inR; omega)]
        · rw [dn (fun j => decide (0 < T j)) 3 (decide_eq_false p)]
        · rw [dn (fun j => decide (T j < 0)) 3 (decide_eq_false q)]
      · have k1 := (cntI_le (G := fun j => decide (0 < T j)) 4).2.2
        have k2 := (cntI_le (G := fun j => decide (T j < 0)) 4).2.2
        simp only [go_sem]
        rw [Bool.eq_iff_iff, Bool.and_eq_true, Bool.and_eq_true, ← k1, ← k2]
        simp
  · cases hc
end Go.Ax
end

section
/-
  The closures of the sweep's queries.
-/
set_option linter.unusedVariables false
set_option linter.unusedSimpArgs false
set_option maxHeartbeats 4000000
set_option maxRecDepth 100000
namespace Go.Ax
open Go.Proofs
def c113 : Con
  | [.v (.int .i64 v)] => some ([], bo false)
  | _ => none
theorem con113 : ConOK Tryz.prog 113 c113 := ConOK.of (G := []) (H := []) .nil Tryz.func113 fun l ob r hc hob => by
  unfold c113 at hc
  split at hc
  · rename_i v
    cases hc
    refine ⟨by kernel_rfl, fnVC_go (rs := [.tmp 2]) rfl rfl ?_⟩
    simp only [go_sem]
    exact bne_self
  · cases hc
def c69 : Con
  | [.v (.int .i64 x), .v (.int .i64 y)] => some ([], i64 (cmpS x y))
  | _ => none
theorem con69 : ConOK Tryz.prog 69 c69 := ConOK.of (G := [(113, c113)]) (H := []) (.cons con113 .nil) Tryz.func69 fun l ob r hc hob => by
  unfold c69 at hc
  split at hc
  · rename_i x y
    cases hc
    refine ⟨by kernel_rfl, fnVC_go (rs := [.tmp 4]) rfl rfl ?_⟩
    simp only [go_sem, c113]
    intro z hz z1 hz1
    subst hz hz1
    unfold cmpS
    refine ⟨fun h => (by cases h), fun _ => ⟨fun h => (by cases h), fun _ => ⟨fun h => by rw [if_pos h], fun h => ⟨fun h2 => by rw [if_neg h, if_pos h2], fun h2 => by rw [if_neg h, if_neg h2]⟩⟩⟩⟩
  · cases hc
theorem or2 {z z1 : Int} : orS (gx (rowsOf 1 [i64 z, i64 z1]) 0) 0 2 = if z ≠ 0 then z else z1 := by
  show (if z ≠ 0 then z else if z1 ≠ 0 then z1 else 0) = _
  split
  · rfl
  · split
    · rfl
    · omega
theorem or2_ok {z z1 : Int} : ∀ i, i < 2 → List.take 1 (List.drop (i * 1) [i64 z, i64 z1]) = [i64 (gi (List.take 1 (List.drop (i * 1) [i64 z, i64 z1])) 0)]
  | 0, _ => rfl
  | 1, _ => rfl
  | i + 2, h => by omega
/-- The boxes of a map are made of numbers of the machine. -/
def selIn (L : Ents) : Prop := ∀ k j, inR (selAt (memSel L k) j)
def c71 : Con
  | [.v (.int .i64 k), .rop [.rop [.rm 4 L]], .rop (.v (.int .i64 a) :: l)] => some ([], bo (decide (selAt (memSel L k) 2 < a)))
  | _ => none
theorem con71 : ConOK Tryz.prog 71 c71 := ConOK.of (G := []) (H := []) .nil Tryz.func71 fun l ob rr hc hob => by
  unfold c71 at hc
  split at hc
  · rename_i k L a l
    cases hc
    refine ⟨by kernel_rfl, fnVC_go (rs := [.tmp 4]) rfl rfl ?_⟩
    simp only [go_sem]
    skip
  · cases hc
def c66 : Con
  | [.v (.int .i64 a), .v (.int .i64 b), .rop [.rop [.rm 4 L]]] => some ([], i64 (if cmpS (selAt (memSel L a) 0) (selAt (memSel L b) 0) ≠ 0 then cmpS (selAt (memSel L a) 0) (selAt (memSel L b) 0) else cmpS a b))
  | _ => none
theorem con66 : ConOK Tryz.prog 66 c66 := ConOK.of (G := [(68, c68), (69, c69), (67, c67)]) (H := []) (.cons con68 (.cons con69 (.cons con67 .nil))) Tryz.func66 fun l ob rr hc hob => by
  unfold c66 at hc
  split at hc
  · rename_i a b L
    cases hc
    refine ⟨by kernel_rfl, fnVC_go (rs := [.tmp 5]) rfl rfl ?_⟩
    simp only [go_sem, c68, c69, c67]
    rintro z rfl z1 rfl z2 rfl
    exact ⟨or2_ok, or2⟩
  · cases hc
def c74 : Con
  | [.agg [.v (.int .i64 a), .v (.int .i64 b)], .agg [.v (.int .i64 c), .v (.int .i64 d)]] => some ([], i64 (if cmpS a c ≠ 0 then cmpS a c else cmpS b d))
  | _ => none
theorem con74 : ConOK Tryz.prog 74 c74 := ConOK.of (G := [(69, c69), (67, c67)]) (H := []) (.cons con69 (.cons con67 .nil)) Tryz.func74 fun l ob rr hc hob => by
  unfold c74 at hc
  split at hc
  · rename_i a b c d
    cases hc
    refine ⟨by kernel_rfl, fnVC_go (rs := [.tmp 4]) rfl rfl ?_⟩
    simp only [go_sem, c69, c67]
    rintro z rfl z1 rfl z2 rfl
    exact ⟨or2_ok, or2⟩
  · cases hc
def c102 : Con
  | [.agg [.v (.int .i64 x), .v (.int .i64 y), .v (.int .i64 z), .v (.int .i64 t)], .rop [.v (.int .i64 a), .v (.int .i64 b), .v (.int .i64 c), .v (.int .i64 d)]] => some ([inR x, inR y, inR z, inR t, inR a, inR b, inR c, inR d], bo (meetsS x y z t a b c d))
  | _ => none
theorem con102 : ConOK Tryz.prog 102 c102 := ConOK.of (G := [(72, c72)]) (H := []) (.cons con72 .nil) Tryz.func102 fun l ob rr hc hob => by
  unfold c102 at hc
  split at hc
  · rename_i x y z t a b c d
    cases hc
    have h_0 : inR x := hob _ (by simp)
    have h_1 : inR y := hob _ (by simp)
    have h_2 : inR z := hob _ (by simp)
    have h_3 : inR t := hob _ (by simp)
    have h_4 : inR a := hob _ (by simp)
    have h_5 : inR b := hob _ (by simp)
    have h_6 : inR c := hob _ (by simp)
    have h_7 : inR d := hob _ (by simp)
    refine ⟨by kernel_rfl, fnVC_go (rs := [.tmp 3]) rfl rfl ?_⟩
    simp only [go_sem, c72, h_0, h_1, h_2, h_3, h_4, h_5, h_6, h_7]
    exact fun _ => trivial
  · cases hc
def c77 : Con
  | [.agg [.v (.int .i64 x), .v (.int .i64 y), .v (.int .i64 z), .v (.int .i64 t)], .rop [.v (.int .i64 a), .v (.int .i64 b)], .rop [.v (.int .i64 c), .v (.int .i64 d)]] => some ([inR x, inR y, inR z, inR t, inR a, inR b, inR c, inR d], bo (alS x y z t a b c d))
  | _ => none
theorem con77 : ConOK Tryz.prog 77 c77 := ConOK.of (G := [(78, c78)]) (H := []) (.cons con78 .nil) Tryz.func77 fun l ob rr hc hob => by
  unfold c77 at hc
  split at hc
  · rename_i x y z t a b c d
    cases hc
    have h_0 : inR x := hob _ (by simp)
    have h_1 : inR y := hob _ (by simp)
    have h_2 : inR z := hob _ (by simp)
    have h_3 : inR t := hob _ (by simp)
    have h_4 : inR a := hob _ (by simp)
    have h_5 : inR b := hob _ (by simp)
    have h_6 : inR c := hob _ (by simp)
    have h_7 : inR d := hob _ (by simp)
    refine ⟨by kernel_rfl, fnVC_go (rs := [.tmp 4]) rfl rfl ?_⟩
    simp only [go_sem, c78, h_0, h_1, h_2, h_3, h_4, h_5, h_6, h_7]
    exact fun _ => trivial
  · cases hc
/-- What a question to a box says. -/
def bpr : AV → Option (Prop × (Int → Int → Int → Int → Bool))
  | .fn 102 [.rop [.v (.int .i64 a), .v (.int .i64 b), .v (.int .i64 c), .v (.int .i64 d)]] => some (inR a ∧ inR b ∧ inR c ∧ inR d, fun x y z t => meetsS x y z t a b c d)
  | .fn 77 [.rop [.v (.int .i64 a), .v (.int .i64 b)], .rop [.v (.int .i64 c), .v (.int .i64 d)]] => some (inR a ∧ inR b ∧ inR c ∧ inR d, fun x y z t => alS x y z t a b c d)
  | _ => none
theorem bpr_102 {a b c d : Int} : bpr (.fn 102 [.rop [i64 a, i64 b, i64 c, i64 d]]) = some (inR a ∧ inR b ∧ inR c ∧ inR d, fun x y z t => meetsS x y z t a b c d) := (rfl)
theorem bpr_77 {a b c d : Int} : bpr (.fn 77 [.rop [i64 a, i64 b], .rop [i64 c, i64 d]]) = some (inR a ∧ inR b ∧ inR c ∧ inR d, fun x y z t => alS x y z t a b c d) := (rfl)
def c116f (k : Int) (L : Ents) : Option (Prop × (Int → Int → Int → Int → Bool)) → Option (List Prop × AV)
  | some (o, p) => some ([selIn L, o], bo (!p (selAt (memSel L k) 0) (selAt (memSel L k) 1) (selAt (memSel L k) 2) (selAt (memSel L k) 3)))
  | none => none
def c116 : Con
  | [.v (.int .i64 k), .rop [B], .rop [.rop [.rm 4 L]]] => c116f k L (bpr B)
  | _ => none
theorem c116_eq {k : Int} {B : AV} {L : Ents} : c116 [i64 k, .rop [B], .rop [.rop [.rm 4 L]]] = c116f k L (bpr B) := (rfl)
theorem c116f_some {k : Int} {L : Ents} {o : Prop} {p : Int → Int → Int → Int → Bool} : c116f k L (some (o, p)) = some ([selIn L, o], bo (!p (selAt (memSel L k) 0) (selAt (memSel L k) 1) (selAt (memSel L k) 2) (selAt (memSel L k) 3))) := (rfl)
attribute [go_sem] bpr_102 bpr_77 c116_eq c116f_some
theorem con116 : ConOK Tryz.prog 116 c116 := ConOK.of (G := [(102, c102), (77, c77)]) (H := []) (.cons con102 (.cons con77 .nil)) Tryz.func116 fun l ob rr hc hob => by
  unfold c116 at hc
  split at hc
  · rename_i k B L
    unfold c116f at hc
    split at hc
    · rename_i o p hp
      cases hc
      have hs : selIn L := hob _ (by simp)
      have ho : o := hob _ (by simp)
      have s0 := hs k 0
      have s1 := hs k 1
      have s2 := hs k 2
      have s3 := hs k 3
      refine ⟨by kernel_rfl, fnVC_go (rs := [.tmp 4]) rfl rfl ?_⟩
      unfold bpr at hp
      split at hp
      · cases hp
        obtain ⟨o1, o2, o3, o4⟩ := ho
        simp only [go_sem, c102, c77, c102, c77, s0, s1, s2, s3, o1, o2, o3, o4]
        rintro z rfl
        rfl
      · cases hp
        obtain ⟨o1, o2, o3, o4⟩ := ho
        simp only [go_sem, c102, c77, c102, c77, s0, s1, s2, s3, o1, o2, o3, o4]
        rintro z rfl
        rfl
      · cases hp
    · cases hc
  · cases hc
end Go.Ax
end
