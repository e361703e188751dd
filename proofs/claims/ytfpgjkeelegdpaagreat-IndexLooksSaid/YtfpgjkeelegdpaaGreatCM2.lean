/-
  Maps, and pointers held against each other: what the model does is what the evaluator says.
-/
import Derived.Test.YtfpgjkeelegdpaaGreatCM1
import Derived.MapKept
import Derived.Carry
import Derived.Lib.SliceRun
import Derived.LoopNIn
import Derived.RangeFuncLeaves
import Derived.RangeFuncNested
import Derived.Scope
section
set_option linter.unusedSimpArgs false
set_option linter.unusedVariables false
namespace Go.Ax
open Go.RowKit Go.MapKept

/-! ### Lists of entries -/

theorem memSel_some {k : Int} {c : List Int} : ∀ {L : Ents}, memSel L k = some c → ∃ A B, L = A ++ (k, c) :: B ∧ ∀ p ∈ A, p.1 ≠ k
  | [], h => by cases h
  | (q, x) :: rest, h => by
    simp only [memSel] at h
    split at h
    · rename_i he
      cases h; subst he
      exact ⟨[], rest, rfl, fun p hp => by cases hp⟩
    · rename_i hne
      obtain ⟨A, B, rfl, hA⟩ := memSel_some h
      refine ⟨(q, x) :: A, B, rfl, fun p hp => ?_⟩
      rcases List.mem_cons.1 hp with rfl | hp
      · exact hne
      · exact hA p hp
theorem memPut_none {k : Int} {c : List Int} : ∀ {L : Ents}, (∀ p ∈ L, p.1 ≠ k) → memPut L k c = L ++ [(k, c)]
  | [], _ => rfl
  | (q, x) :: rest, h => by
    simp only [memPut]
    rw [if_neg (h (q, x) (by simp)), memPut_none fun p hp => h p (by simp [hp])]
    rfl
theorem memPut_some {k : Int} {c d : List Int} : ∀ {A B : Ents}, (∀ p ∈ A, p.1 ≠ k) → memPut (A ++ (k, d) :: B) k c = A ++ (k, c) :: B
  | [], B, _ => by simp [memPut]
  | (q, x) :: A, B, h => by
    simp only [List.cons_append, memPut]
    rw [if_neg (h (q, x) (by simp)), memPut_some fun p hp => h p (by simp [hp])]
theorem memDel_none {k : Int} : ∀ {L : Ents}, (∀ p ∈ L, p.1 ≠ k) → memDel L k = L
  | [], _ => rfl
  | (q, x) :: rest, h => by
    simp only [memDel]
    rw [if_neg (h (q, x) (by simp)), memDel_none fun p hp => h p (by simp [hp])]
theorem memDel_some {k : Int} {d : List Int} : ∀ {A B : Ents}, (∀ p ∈ A, p.1 ≠ k) → memDel (A ++ (k, d) :: B) k = A ++ B
  | [], B, _ => by simp [memDel]
  | (q, x) :: A, B, h => by
    simp only [List.cons_append, memDel]
    rw [if_neg (h (q, x) (by simp)), memDel_some fun p hp => h p (by simp [hp])]

theorem modify_mid {α : Type} (f : α → α) (x : α) (B : List α) : ∀ A : List α, (A ++ x :: B).modify A.length f = A ++ f x :: B
  | [] => rfl
  | a :: A => by
    have := modify_mid f x B A
    simpa using this
theorem erase_mid {α : Type} (x : α) (B : List α) : ∀ A : List α, (A ++ x :: B).eraseIdx A.length = A ++ B
  | [] => rfl
  | a :: A => by
    have := erase_mid x B A
    simpa using this
def kv (e : MapEntry) : Value × Value := (e.key, e.val)
theorem split_at {es : List MapEntry} {j : Nat} {e : MapEntry} (h : es[j]? = some e) : ∃ A B, es = A ++ e :: B ∧ A.length = j := by
  obtain ⟨hlt, he⟩ := List.getElem?_eq_some_iff.1 h
  refine ⟨es.take j, es.drop (j + 1), ?_, by simp; omega⟩
  rw [← he, List.getElem_cons_drop, List.take_append_drop]
theorem entV_key {p : Int × List Int} {k : Int} (h : (entV p).1 = .int .i64 k) : p.1 = k := by
  simp only [entV, Value.int.injEq, true_and] at h
  exact h

/-- What is in the map, by the list: at a key that is there. -/
theorem MapIs.there {L : Ents} {es : Array MapEntry} (hp : (es.toList.map kv).Perm (L.map entV)) (hn : (L.map (·.1)).Nodup) {k : Int} {j : Nat} {e : MapEntry} (hj : es.toList[j]? = some e) (hk : e.key = .int .i64 k) :
    ∃ c A B A' B', memSel L k = some c ∧ e.val = .agg (c.map (Value.int .i64)).toArray ∧ L = A ++ (k, c) :: B ∧ (∀ p ∈ A, p.1 ≠ k) ∧ es.toList = A' ++ e :: B' ∧ A'.length = j ∧ ((A' ++ B').map kv).Perm ((A ++ B).map entV) := by
  obtain ⟨A', B', he, hl⟩ := split_at hj
  have hm : kv e ∈ L.map entV := hp.subset (List.mem_map.2 ⟨e, List.mem_of_getElem? hj, rfl⟩)
  obtain ⟨p, hpL, hpe⟩ := List.mem_map.1 hm
  have hpk : p.1 = k := entV_key (by rw [hpe]; exact hk)
  have hs : memSel L k = some p.2 := by
    clear hm hp
    induction L with
    | nil => cases hpL
    | cons q L ih =>
      obtain ⟨q1, q2⟩ := q
      simp only [memSel]
      rw [List.map_cons, List.nodup_cons] at hn
      rcases List.mem_cons.1 hpL with rfl | hpL
      · rw [if_pos hpk]
      · rw [if_neg]
        · exact ih hn.2 hpL
        · intro e1
          exact hn.1 (List.mem_map.2 ⟨p, hpL, by rw [hpk, ← e1]⟩)
  obtain ⟨A, B, hL, hA⟩ := memSel_some hs
  have hv : e.val = .agg (p.2.map (Value.int .i64)).toArray := by
    have : (entV p).2 = (kv e).2 := by rw [hpe]
    exact this.symm
  refine ⟨p.2, A, B, A', B', hs, hv, hL, hA, he, hl, ?_⟩
  rw [he, hL, List.map_append, List.map_append, List.map_cons, List.map_cons] at hp
  have e1 : kv e = entV (k, p.2) := by rw [← hpe]; simp only [entV, hpk]
  rw [e1] at hp
  have := (List.perm_middle.symm.trans hp).trans List.perm_middle
  rw [List.map_append, List.map_append]
  exact List.Perm.cons_inv this
/-- .. at a key that is not. -/
theorem MapIs.away {L : Ents} {es : Array MapEntry} (hp : (es.toList.map kv).Perm (L.map entV)) {k : Int} (h : ∀ x ∈ es.toList, x.key ≠ .int .i64 k) : memSel L k = none ∧ ∀ p ∈ L, p.1 ≠ k := by
  have hne : ∀ p ∈ L, p.1 ≠ k := fun p hpL e => by
    have hm : entV p ∈ es.toList.map kv := hp.symm.subset (List.mem_map.2 ⟨p, hpL, rfl⟩)
    obtain ⟨x, hx, hxe⟩ := List.mem_map.1 hm
    refine h x hx ?_
    have : (kv x).1 = (entV p).1 := by rw [hxe]
    rw [show x.key = (kv x).1 from rfl, this]
    simp only [entV, e]
  refine ⟨?_, hne⟩
  cases hs : memSel L k with
  | none => rfl
  | some c =>
    obtain ⟨A, B, rfl, _⟩ := memSel_some hs
    exact (hne (k, c) (by simp) rfl).elim
theorem MapIs.keys {L : Ents} {es : Array MapEntry} (hp : (es.toList.map kv).Perm (L.map entV)) : ∀ x ∈ es.toList, IsKey (.int .i64) x.key := fun x hx => by
  obtain ⟨p, _, hpe⟩ := List.mem_map.1 (hp.subset (List.mem_map.2 ⟨x, hx, rfl⟩))
  have : x.key = (entV p).1 := by rw [hpe]; rfl
  rw [this]
  rfl

section
variable {P : Program} {w0 : Base} {w : World} {ρ : Env} {m : Mem} {D : Nat → Prop} {key : Nat} {ev : Operand → Value} {ρ0 : Operand → AV} {o : Oper}

/-- A map's row gets another content. -/
theorem Rel.putMap (hR : Rel w0 ρ m D w) {r f : Nat} {fam : Fam} (hl : look m r = some fam) (hg : (fam f).g ≠ some false) (hcap : 0 < ρ.cap r f) (hn0 : (fam f).n = 0) {L : Ents} {ob : Obj} (hM : MapIs (fam f).sz L ob) :
    Rel w0 ρ (setRow r (setTy fam f (mapTy L)) m) D { w with heap := w.heap.setIfInBounds (ρ.blk r f) ob } ∧ Same ρ.imm w { w with heap := w.heap.setIfInBounds (ρ.blk r f) ob } := by
  obtain ⟨hd, hr⟩ := hR.row r fam f hl hg
  obtain ⟨b1, b2, ob2, b3, b4⟩ := hr.blk hcap
  have hlt : ρ.blk r f < w.heap.size := (Array.getElem?_eq_some_iff.1 b3).1
  have hoth : ∀ b, b ≠ ρ.blk r f → (w.heap.setIfInBounds (ρ.blk r f) ob)[b]? = w.heap[b]? := fun b hb => by
    rw [Array.getElem?_setIfInBounds_ne (Ne.symm hb)]
  have hnew : (w.heap.setIfInBounds (ρ.blk r f) ob)[ρ.blk r f]? = some ob := by simp [hlt]
  have hsame : Same ρ.imm w { w with heap := w.heap.setIfInBounds (ρ.blk r f) ob } := fun b hb => hoth b (fun e => b2 (e ▸ hb))
  have hlook : ∀ q y, look (setRow r (setTy fam f (mapTy L)) m) q = some y → (q = r ∧ y = setTy fam f (mapTy L)) ∨ (q ≠ r ∧ look m q = some y) := fun q y hy => by
    rw [look_set] at hy
    by_cases e : r = q
    · subst e; simp [hl] at hy; exact .inl ⟨rfl, hy.symm⟩
    · simp [e] at hy; exact .inr ⟨Ne.symm e, hy⟩
  have hother : ∀ q y g', look m q = some y → (y g').g ≠ some false → 0 < ρ.cap q g' → ¬ (q = r ∧ g' = f) → ρ.blk q g' ≠ ρ.blk r f := fun q y g' hy hgy hcq hne he => by
    have := hR.sep q y g' r fam f hy hl hgy hg hcq hcap he
    exact hne this
  have hgg : ∀ g', (setTy fam f (mapTy L) g').g = (fam g').g := fun g' => by
    unfold setTy
    split <;> simp_all
  refine ⟨⟨hR.below.trans ⟨rfl, rfl, rfl, by simp, fun k hk => hoth k (by omega)⟩, fun b hb => by simpa using hR.imm2 b hb, hR.dom, fun q y hy => ?_, fun q y g' hy hgy => ?_, fun q y g' q' y' g'' hy hy' hgy hgy' hcq hcq' he => ?_, hR.fixed (fun p hp => hoth _ (hR.fix_ne hl hg hcap hp)) (fun b _ ho => ho.of fun q y g' hy hgy hcq => ?_) (fun _ _ h => h), hR.keeps hsame⟩, hsame⟩
  · rcases hlook q y hy with ⟨e, _⟩ | ⟨_, h⟩
    · subst e; exact hR.key _ _ hl
    · exact hR.key _ _ h
  · rcases hlook q y hy with ⟨e, e2⟩ | ⟨hne, h⟩
    · subst e e2
      rw [hgg] at hgy
      by_cases hf : g' = f
      · subst hf
        refine ⟨hd, ?_⟩
        have hget : setTy fam g' (mapTy L) g' = { fam g' with ty := mapTy L } := by simp [setTy]
        rw [hget]
        refine ⟨hr.n_le, fun _ => ⟨b1, b2, _, hnew, .inr ⟨hn0, L, rfl, hM⟩⟩, fun j hj => ?_, fun j q' a v hj h1 h2 => ?_⟩
        · have hj : j < (fam g').n := hj
          omega
        · have hj : j < (fam g').n := hj
          omega
      · have hget : setTy fam f (mapTy L) g' = fam g' := by simp [setTy, hf]
        rw [hget]
        obtain ⟨hd', hr'⟩ := hR.row q fam g' hl hgy
        exact ⟨hd', hr'.mono hd' (.refl _) (fun _ _ h => h) hsame (fun hcq => hoth _ (hother q fam g' hl hgy hcq (fun e => hf e.2)))⟩
    · obtain ⟨hd', hr'⟩ := hR.row q y g' h hgy
      exact ⟨hd', hr'.mono hd' (.refl _) (fun _ _ h => h) hsame (fun hcq => hoth _ (hother q y g' h hgy hcq (fun e => hne e.1)))⟩
  · have key : ∀ q y g', look (setRow r (setTy fam f (mapTy L)) m) q = some y → (y g').g ≠ some false → ∃ y', look m q = some y' ∧ (y' g').g ≠ some false := fun q y g' hy hgy => by
      rcases hlook q y hy with ⟨e, e2⟩ | ⟨_, h⟩
      · subst e e2; rw [hgg] at hgy; exact ⟨fam, hl, hgy⟩
      · exact ⟨y, h, hgy⟩
    obtain ⟨z, hz, hgz⟩ := key q y g' hy hgy
    obtain ⟨z', hz', hgz'⟩ := key q' y' g'' hy' hgy'
    exact hR.sep q z g' q' z' g'' hz hz' hgz hgz' hcq hcq' he
  · rcases hlook q y hy with ⟨e, e2⟩ | ⟨_, h⟩
    · subst e e2; rw [hgg] at hgy; exact .inl ⟨_, fam, g', hl, hgy, hcq, rfl⟩
    · exact .inl ⟨q, y, g', h, hgy, hcq, rfl⟩

/-- A new map. -/
theorem Rel.newMap (h : Rel w0 ρ m D w) (hk : ¬ D key) {n : Nat} {L : Ents} {ob : Obj} (hM : MapIs n L ob) (g : Option Bool) :
    Rel w0 (ρ.add key w.heap.size 1) (insRow key (famMap n L g) m) (fun r => D r ∨ r = key) (w.alloc ob) ∧ ρ.le (ρ.add key w.heap.size 1) ∧ Same ρ.imm w (w.alloc ob) := by
  have hkd : ¬ ρ.dom key := fun hd => hk (h.dom _ hd)
  have hkl : look m key = none := by
    cases hl : look m key with
    | none => rfl
    | some y => exact absurd (h.key _ _ hl) hk
  have hle : ρ.le (ρ.add key w.heap.size 1) := Env.le_add hkd
  have hs : Same ρ.imm w (w.alloc ob) := fun b hb => Below.heap_alloc _ _ _ (h.imm b hb)
  refine ⟨⟨h.below.alloc h.below.size _, fun b hb => ?_, fun r hr => ?_, fun r y hy => ?_, fun r y f hy hg => ?_, fun r y f r' y' f' hy hy' hg hg' hc hc' he => ?_, h.fixed (fun p hp => Below.heap_alloc _ _ _ (h.fixlt hp)) (fun b hb ho => ho.of fun r y f hy hg hc => ?_) (fun b _ h => h), h.keeps hs⟩, hle, hs⟩
  · have := h.imm2 b hb
    exact ⟨by simp; omega, this.2⟩
  · exact hr.imp (h.dom r) id
  · rw [look_ins hkl] at hy
    split at hy
    · rename_i e; exact .inr e.symm
    · exact .inl (h.key r y hy)
  · rw [look_ins hkl] at hy
    split at hy
    · rename_i e; subst e; cases hy
      refine ⟨.inr rfl, ?_⟩
      by_cases hf0 : f = 0
      · subst hf0
        refine ⟨Nat.zero_le _, fun hc => ?_, fun i hi => ?_, fun i k a v h1 h2 h3 => ?_⟩
        · simp only [Env.add, if_true]
          exact ⟨h.below.size, fun hi => by have := h.imm _ hi; omega, _, Go.heap_alloc_new _ _, .inr ⟨rfl, L, rfl, hM⟩⟩
        · have hi : i < 0 := hi
          omega
        · have hi : i < 0 := h1
          omega
      · have hn0 : (famMap n L g f).n = 0 := by unfold famMap; rw [if_neg hf0]
        refine ⟨by simp [Env.add, hf0, hn0], fun hc => ?_, fun i hi => by omega, fun i k a v hi => by omega⟩
        simp [Env.add, hf0] at hc
    · rename_i hne
      obtain ⟨hd, hr⟩ := h.row r y f hy hg
      refine ⟨.inl hd, hr.mono hd hle (fun b _ hb => hb) hs (fun hc => Below.heap_alloc _ _ _ (h.lt hy hg hc))⟩
  · rw [look_ins hkl] at hy hy'
    have cap0 : ∀ q f, ¬ key = q → (ρ.add key w.heap.size 1).cap q f = ρ.cap q f ∧ (ρ.add key w.heap.size 1).blk q f = ρ.blk q f := fun q f hq => by simp [Env.add, Ne.symm hq]
    have capk : ∀ f, 0 < (ρ.add key w.heap.size 1).cap key f → f = 0 := fun f hc => by
      simp only [Env.add, if_true] at hc
      split at hc
      · assumption
      · omega
    by_cases e1 : key = r <;> by_cases e2 : key = r'
    · subst e1 e2
      exact ⟨rfl, (capk f hc).trans (capk f' hc').symm⟩
    · subst e1
      simp only [e2, if_false] at hy'
      rw [(cap0 r' f' e2).1] at hc'
      rw [(cap0 r' f' e2).2] at he
      have := h.lt hy' hg' hc'
      simp [Env.add] at he; omega
    · subst e2
      simp only [e1, if_false] at hy
      rw [(cap0 r f e1).1] at hc
      rw [(cap0 r f e1).2] at he
      have := h.lt hy hg hc
      simp [Env.add] at he; omega
    · simp only [e1, if_false] at hy
      simp only [e2, if_false] at hy'
      rw [(cap0 r f e1).1] at hc
      rw [(cap0 r' f' e2).1] at hc'
      rw [(cap0 r f e1).2, (cap0 r' f' e2).2] at he
      exact h.sep r y f r' y' f' hy hy' hg hg' hc hc' he
  · rw [look_ins hkl] at hy
    by_cases e : key = r
    · subst e
      right
      simp only [Env.add, if_true]
      omega
    · simp only [e, if_false] at hy
      simp only [Env.add, Ne.symm e, if_false] at hc ⊢
      exact .inl ⟨r, y, f, hy, hg, hc, rfl⟩

/-- The map behind a reference. -/
theorem map_at (hR : Rel w0 ρ m D w) {r f : Nat} {fam : Fam} {n : Nat} {L : Ents} {g : Option Bool} (hl : look m r = some fam) (h : mapAt f (some fam) = some (n, L, g)) (hob : ∀ q ∈ gOb g [], q) {v : Value} (hv : R w ρ (.mp r f) v) :
    0 < ρ.cap r f ∧ v = .map (some (ρ.blk r f)) ∧ (fam f).g ≠ some false ∧ (fam f).n = 0 ∧ (fam f).sz = n ∧ ∃ es clock, w.heap[ρ.blk r f]? = some (.map es clock) ∧ Stamped es clock ∧ (es.toList.map kv).Perm (L.map entV) ∧ (L.map (·.1)).Nodup ∧ ∀ p ∈ L, p.2.length = n ∧ inK p.1 := by
  unfold mapAt at h
  dsimp only at h
  split at h
  · rename_i K hK
    cases h
    have hg : (fam f).g ≠ some false := gOb_true hob
    cases hv with
    | mp hd hc =>
      obtain ⟨_, hr⟩ := hR.row r fam f hl hg
      obtain ⟨b1, b2, ob, b3, b4⟩ := hr.blk hc
      have hty := entsOf_some hK
      rcases b4 with ⟨c, rfl, _, hlt⟩ | ⟨hn, L', hL', es, clock, rfl, k1, k2, k3, k4⟩
      · rw [hty] at hlt
        exact absurd hlt (Nat.not_lt.2 (mapTy_le _))

      · rw [hty] at hL'
        obtain rfl := mapTy_inj hL'
        exact ⟨hc, rfl, hg, hn, rfl, es, clock, b3, k1, k2, k3, k4⟩
  · cases h

theorem mapLay_inv {t : TypeId} {n : Nat} (h : mapLay P t = some n) : ∃ (k e : TypeId) (cs : Array Value), P.underlying t = some (.map k e) ∧ P.underlying k = some (.int .i64) ∧ zeroT P e = some (.agg cs) ∧ cs.size = n ∧ cs = (List.replicate n (Value.int .i64 0)).toArray := by
  unfold mapLay at h
  split at h
  · rename_i k e hu
    split at h
    · rename_i hk
      split at h
      · rename_i cs hz
        split at h
        · rename_i hall
          cases h
          refine ⟨k, e, cs, hu, hk, hz, rfl, ?_⟩
          apply Array.ext'
          apply List.ext_getElem (by simp)
          intro i h1 h2
          have := List.all_eq_true.1 hall cs.toList[i] (List.getElem_mem h1)
          simp only [List.getElem_replicate]
          revert this
          generalize cs.toList[i] = v
          intro this
          unfold isZ at this
          split at this
          · rfl
          · cases this
        · cases h
      · cases h
    · cases h
  · cases h

theorem R_ints {n : Nat} {x : Option (List Int)} {cs : List Value} (hl : cs.length = n) (h : ∀ (i : Nat) (v : Value), cs[i]? = some v → v = .int .i64 (selAt x i)) : R w ρ (selCells n x) (.agg cs.toArray) := by
  refine .agg (by simpa using hl) fun i a v h1 h2 => ?_
  have hi : i < n := by rw [← hl]; exact (List.getElem?_eq_some_iff.1 h2).1
  rw [List.getElem?_map, List.getElem?_range hi] at h1
  simp only [Option.map_some, Option.some.injEq] at h1
  subst h1
  rw [h i v h2]
  exact .v

theorem mapVal_R {n : Nat} {ok : Bool} {x : Option (List Int)} {cs : List Value} (hl : cs.length = n) (h : ∀ (i : Nat) (v : Value), cs[i]? = some v → v = .int .i64 (selAt x i)) : R w ρ (mapVal ok n x) (if ok = true then .tuple #[.agg cs.toArray, .bool x.isSome] else .agg cs.toArray) := by
  have h1 := R_ints (w := w) (ρ := ρ) hl h
  cases ok with
  | false => exact h1
  | true =>
    refine .tup (cs := [selCells n x, .v (.bool x.isSome)]) (vs := [.agg cs.toArray, .bool x.isSome]) rfl fun i a v h2 h3 => ?_
    match i, h2, h3 with
    | 0, h2, h3 => cases h2; cases h3; exact h1
    | 1, h2, h3 => cases h2; cases h3; exact .v
    | i + 2, h2, h3 => simp at h2

theorem mapLook_sound (hR : Rel w0 ρ m D w) {m' : Mem} (hm : ∀ r x, look m' r = some x → look m r = some x) {ok : Bool} {r f : Nat} {k : Int} {t : TypeId} {e : Eff} (h : mapLook ok f k (mapLay P t) (look m' r) = some e) (hob : ∀ q ∈ e.ob, q) {v : Value} (hv : R w ρ (.mp r f) v) :
    ∃ x, (Instr.lookup t v (.int .i64 k) ok).run P w = .ok x w ∧ Post w0 ρ m D key e w x w := by
  unfold mapLook at h
  split at h
  · rename_i n hn
    split at h
    · rename_i n' L g hat
      split at h
      · rename_i he
        subst he
        cases h
        cases hl : look m' r with
        | none => rw [hl] at hat; cases hat
        | some fam =>
          rw [hl] at hat
          obtain ⟨hc, rfl, hg, _, hsz, es, clock, hb, hst, hp, hnd, hall⟩ := map_at hR (hm _ _ hl) hat hob hv
          obtain ⟨kt, et, cs, hu, hk, hz, hcs, hrep⟩ := mapLay_inv hn
          have hkey : IsKey (.int .i64) (.int .i64 k) := rfl
          have hck := run_checkKey (w := w) hk hkey es.isEmpty 9999
          rcases findNow_spec hkey es.toList 0 (MapIs.keys hp) with ⟨h1, h2⟩ | ⟨j, en, h1, h2, h3⟩
          · obtain ⟨e1, _⟩ := MapIs.away hp h2
            have hf := run_findKey (w := w) hk h1
            refine ⟨if ok = true then .tuple #[.agg cs, .bool false] else .agg cs, ?_, .still hR ?_⟩
            · simp only [Instr.lookup, Sem.run_bind, run_underlying hu, Result.andThen_ok, MapKept.run_getObj_map hb, Sem.run_pure, hck, hf, zeroT_run hz]
            · rw [e1, hrep]
              have := mapVal_R (w := w) (ρ := ρ) (ok := ok) (n := n') (x := none) (cs := List.replicate n' (Value.int .i64 0)) (by simp) (fun i v hv => by
                rw [List.getElem?_replicate] at hv
                split at hv
                · cases hv; rfl
                · cases hv)
              exact this
          · obtain ⟨c, A, B, A', B', e1, e2, e3, _⟩ := MapIs.there hp hnd h2 h3
            rw [Nat.zero_add] at h1
            have hf := run_findKey (w := w) hk h1
            refine ⟨if ok = true then .tuple #[en.val, .bool true] else en.val, ?_, .still hR ?_⟩
            · simp only [Instr.lookup, Sem.run_bind, run_underlying hu, Result.andThen_ok, MapKept.run_getObj_map hb, Sem.run_pure, hck, hf]
            · rw [e1, e2]
              have hcl : c.length = n' := (hall (k, c) (by rw [e3]; simp)).1
              have := mapVal_R (w := w) (ρ := ρ) (ok := ok) (n := n') (x := some c) (cs := c.map (Value.int .i64)) (by simpa using hcl) (fun i v hv => by
                rw [List.getElem?_map, Option.map_eq_some_iff] at hv
                obtain ⟨z, hz, rfl⟩ := hv
                simp [selAt, hz])
              exact this
      · cases h
    · cases h
  · cases h

theorem look_at {ok : Bool} {k : Int} {t : TypeId} {n : Nat} {L : Ents} {b : Nat} {es : Array MapEntry} {clock : Nat} (hn : mapLay P t = some n) (hb : w.heap[b]? = some (.map es clock)) (hp : (es.toList.map kv).Perm (L.map entV)) (hnd : (L.map (·.1)).Nodup) (hall : ∀ p ∈ L, p.2.length = n ∧ inK p.1) :
    ∃ x, (Instr.lookup t (.map (some b)) (.int .i64 k) ok).run P w = .ok x w ∧ R w ρ (mapVal ok n (memSel L k)) x := by
  obtain ⟨kt, et, cs, hu, hk, hz, hcs, hrep⟩ := mapLay_inv hn
  have hkey : IsKey (.int .i64) (.int .i64 k) := rfl
  have hck := run_checkKey (w := w) hk hkey es.isEmpty 9999
  rcases findNow_spec hkey es.toList 0 (MapIs.keys hp) with ⟨h1, h2⟩ | ⟨j, en, h1, h2, h3⟩
  · obtain ⟨e1, _⟩ := MapIs.away hp h2
    have hf := run_findKey (w := w) hk h1
    refine ⟨if ok = true then .tuple #[.agg cs, .bool false] else .agg cs, ?_, ?_⟩
    · simp only [Instr.lookup, Sem.run_bind, run_underlying hu, Result.andThen_ok, MapKept.run_getObj_map hb, Sem.run_pure, hck, hf, zeroT_run hz]
    · rw [e1, hrep]
      have := mapVal_R (w := w) (ρ := ρ) (ok := ok) (n := n) (x := none) (cs := List.replicate n (Value.int .i64 0)) (by simp) (fun i v hv => by
        rw [List.getElem?_replicate] at hv
        split at hv
        · cases hv; rfl
        · cases hv)
      exact this
  · obtain ⟨c, A, B, A', B', e1, e2, e3, _⟩ := MapIs.there hp hnd h2 h3
    rw [Nat.zero_add] at h1
    have hf := run_findKey (w := w) hk h1
    refine ⟨if ok = true then .tuple #[en.val, .bool true] else en.val, ?_, ?_⟩
    · simp only [Instr.lookup, Sem.run_bind, run_underlying hu, Result.andThen_ok, MapKept.run_getObj_map hb, Sem.run_pure, hck, hf]
    · rw [e1, e2]
      have hcl : c.length = n := (hall (k, c) (by rw [e3]; simp)).1
      have := mapVal_R (w := w) (ρ := ρ) (ok := ok) (n := n) (x := some c) (cs := c.map (Value.int .i64)) (by simpa using hcl) (fun i v hv => by
        rw [List.getElem?_map, Option.map_eq_some_iff] at hv
        obtain ⟨z, hz, rfl⟩ := hv
        simp [selAt, hz])
      exact this
theorem mapLookR_sound (hR : Rel w0 ρ m D w) {ok : Bool} {n : Nat} {L : Ents} {k : Int} {t : TypeId} {e : Eff} (h : mapLookR ok n L k (mapLay P t) = some e) {v : Value} (hv : R w ρ (.rm n L) v) :
    ∃ x, (Instr.lookup t v (.int .i64 k) ok).run P w = .ok x w ∧ Post w0 ρ m D key e w x w := by
  unfold mapLookR at h
  split at h
  · rename_i n' hn
    split at h
    · rename_i he
      subst he
      cases h
      cases hv with
      | rm b hi hb hM =>
        obtain ⟨es, clock, rfl, _, hp, hnd, hall⟩ := hM
        obtain ⟨x, h1, h2⟩ := look_at (ρ := ρ) hn hb hp hnd hall
        exact ⟨x, h1, .still hR h2⟩
    · cases h
  · cases h

theorem intsL_R : ∀ {cs : List AV} {l : List Int} {vs : List Value}, intsL cs = some l → Rs w ρ cs vs → vs = l.map (Value.int .i64)
  | [], l, vs, h, hr => by
    simp only [intsL, Option.some.injEq] at h
    subst h
    have := hr.1
    simpa using this
  | a :: cs, l, vs, h, hr => by
    obtain ⟨v, vs', rfl, h1, h2⟩ := hr.inv
    unfold intsL at h
    split at h
    · rename_i e; cases e
    · rename_i z rest e
      cases e
      split at h
      · rename_i l' hl
        cases h
        cases h1
        rw [intsL_R hl h2]
        rfl
      · cases h
    · cases h

theorem mapPut_sound (hR : Rel w0 ρ m D w) {m' : Mem} (hm : ∀ r x, look m' r = some x → look m r = some x) {r f : Nat} {k : Int} {l : Option (List Int)} {t : TypeId} {e : Eff} (h : mapPut r f k l (mapLay P t) (look m' r) = some e) (hob : ∀ q ∈ e.ob, q) {v : Value} (hv : R w ρ (.mp r f) v) :
    ∃ c w', l = some c ∧ (Instr.mapUpdate t v (.int .i64 k) (.agg (c.map (Value.int .i64)).toArray)).run P w = .ok () w' ∧ Post w0 ρ m D key e w undef w' := by
  unfold mapPut at h
  split at h
  · rename_i n hn
    split at h
    · rename_i c
      split at h
      · rename_i fam hl
        split at h
        · rename_i n' L g hat
          split at h
          · rename_i he
            obtain ⟨rfl, hcl⟩ := he
            cases h
            have hob' : ∀ q ∈ gOb g [], q := fun q hq => hob q (by simp [hq])
            have hk1 : -9223372036854775808 ≤ k := hob _ (by simp)
            have hk2 : k < 9223372036854775808 := hob _ (by simp)
            obtain ⟨hc, rfl, hg, hn0, hsz, es, clock, hb, hst, hp, hnd, hall⟩ := map_at hR (hm _ _ hl) hat hob' hv
            obtain ⟨kt, et, cs, hu, hk, hz, hcs, hrep⟩ := mapLay_inv hn
            have hkey : IsKey (.int .i64) (.int .i64 k) := rfl
            have hck := run_checkKey (w := w) hk hkey false 9999
            have fin : ∀ es' clock', (Instr.mapUpdate t (.map (some (ρ.blk r f))) (.int .i64 k) (.agg (c.map (Value.int .i64)).toArray)).run P w = .ok () { w with heap := w.heap.setIfInBounds (ρ.blk r f) (.map es' clock') } →
                MapIs n' (memPut L k c) (.map es' clock') → ∃ c' w', some c = some c' ∧ (Instr.mapUpdate t (.map (some (ρ.blk r f))) (.int .i64 k) (.agg (c'.map (Value.int .i64)).toArray)).run P w = .ok () w' ∧
                Post w0 ρ m D key ⟨(-9223372036854775808 ≤ k) :: (k < 9223372036854775808) :: gOb g [], .v undef, .set r (setTy fam f (mapTy (memPut L k c)))⟩ w undef w' := fun es' clock' h1 h2 => by
              rw [← hsz] at h2
              obtain ⟨k1, k2⟩ := hR.putMap (hm _ _ hl) hg hc hn0 h2
              exact ⟨c, _, rfl, h1, ρ, .v, k1.sub (fun _ _ h => h) (fun _ h => .inl h), .refl _, k2⟩
            rcases findNow_spec hkey es.toList 0 (MapIs.keys hp) with ⟨h1, h2⟩ | ⟨j, en, h1, h2, h3⟩
            · obtain ⟨e1, e2⟩ := MapIs.away hp h2
              have hf := run_findKey (w := w) hk h1
              refine fin (es.push { key := .int .i64 k, val := .agg (c.map (Value.int .i64)).toArray, born := clock }) (clock + 1) ?_ ⟨_, _, rfl, stamped_push hst h2, ?_, ?_, fun p hpL => ?_⟩
              · simp only [Instr.mapUpdate, Sem.run_bind, run_underlying hu, Result.andThen_ok, MapKept.run_getObj_map hb, Sem.run_pure, hck, hf, MapKept.run_setObj_map _ hb]
              · rw [memPut_none e2, Array.toList_push, List.map_append, List.map_append]
                exact hp.append (List.Perm.refl _)
              · rw [memPut_none e2, List.map_append]
                refine List.nodup_append.2 ⟨hnd, by simp, fun a ha b hb => ?_⟩
                simp only [List.map_cons, List.map_nil, List.mem_singleton] at hb
                obtain ⟨p, hpL, rfl⟩ := List.mem_map.1 ha
                rw [hb]; exact e2 p hpL
              · rw [memPut_none e2] at hpL
                rcases List.mem_append.1 hpL with hpL | hpL
                · exact hall p hpL
                · simp only [List.mem_singleton] at hpL
                  subst hpL
                  exact ⟨hcl, hk1, hk2⟩
            · obtain ⟨c0, A, B, A', B', e1, e2, e3, e4, e5, e6, e7⟩ := MapIs.there hp hnd h2 h3
              rw [Nat.zero_add] at h1
              have hf := run_findKey (w := w) hk h1
              have hget : es[j]? = some en := by rw [← Array.getElem?_toList]; exact h2
              have hkey2 : (Instr.keyThatStays (((es[j]?).map (·.key)).getD (.int .i64 k)) (.int .i64 k)).run P w = .ok (.int .i64 k) w := by
                rw [hget]
                simp only [Option.map_some, Option.getD_some, h3]
                unfold Instr.keyThatStays
                have : Instr.sameBits 10000 (.int .i64 k) (.int .i64 k) = true := by simp [Instr.sameBits]
                rw [if_pos this]
                rfl
              have hsplit : (es.modify j fun e => { e with key := .int .i64 k, val := .agg (c.map (Value.int .i64)).toArray }).toList = A' ++ { en with key := .int .i64 k, val := .agg (c.map (Value.int .i64)).toArray } :: B' := by
                rw [Array.toList_modify, e5, ← e6]
                exact modify_mid _ _ _ _
              rw [e3] at hnd
              refine fin (es.modify j fun e => { e with key := .int .i64 k, val := .agg (c.map (Value.int .i64)).toArray }) clock ?_ ⟨_, _, rfl, stamped_modify hst j _ (fun _ _ => rfl) (fun e he hj => ?_), ?_, ?_, fun p hpL => ?_⟩
              · simp only [Instr.mapUpdate, Sem.run_bind, run_underlying hu, Result.andThen_ok, MapKept.run_getObj_map hb, Sem.run_pure, hck, hf, hkey2, MapKept.run_setObj_map _ hb]
              · rw [hget] at hj
                cases hj
                exact h3.symm
              · rw [hsplit, e3, memPut_some e4, List.map_append, List.map_append, List.map_cons, List.map_cons]
                rw [List.map_append, List.map_append] at e7
                refine List.perm_middle.trans (List.Perm.trans ?_ List.perm_middle.symm)
                exact List.Perm.cons _ e7
              · rw [e3, memPut_some e4]
                simpa using hnd
              · rw [e3, memPut_some e4] at hpL
                rcases List.mem_append.1 hpL with hpL | hpL
                · exact hall p (by rw [e3]; simp [hpL])
                · rcases List.mem_cons.1 hpL with rfl | hpL
                  · exact ⟨hcl, hk1, hk2⟩
                  · exact hall p (by rw [e3]; simp [hpL])
          · cases h
        · cases h
      · cases h
    · cases h
  · cases h

theorem mapDel_sound {ty : TypeId} (hR : Rel w0 ρ m D w) {m' : Mem} (hm : ∀ r x, look m' r = some x → look m r = some x) {r f : Nat} {k : Int} {t : TypeId} {rest : List TypeId} {e : Eff} (h : mapDel r f k (mapLay P t) (look m' r) = some e) (hob : ∀ q ∈ e.ob, q) {v : Value} (hv : R w ρ (.mp r f) v) :
    ∃ w', (Builtin.delete_ (t :: rest).toArray ty #[v, .int .i64 k]).run P w = .ok (.tuple #[]) w' ∧ Post w0 ρ m D key e w (.tuple #[]) w' := by
  unfold mapDel at h
  split at h
  · rename_i n hn
    split at h
    · rename_i fam hl
      split at h
      · rename_i n' L g hat
        split at h
        · rename_i he
          subst he
          cases h
          obtain ⟨hc, rfl, hg, hn0, hsz, es, clock, hb, hst, hp, hnd, hall⟩ := map_at hR (hm _ _ hl) hat hob hv
          obtain ⟨kt, et, cs, hu, hk, hz, hcs, hrep⟩ := mapLay_inv hn
          have hkey : IsKey (.int .i64) (.int .i64 k) := rfl
          have hck := run_checkKey (w := w) hk hkey es.isEmpty 9999
          have h0 : (t :: rest).toArray[0]? = some t := rfl
          have fin : ∀ es' clock', (Builtin.delete_ (t :: rest).toArray ty #[.map (some (ρ.blk r f)), .int .i64 k]).run P w = .ok (.tuple #[]) { w with heap := w.heap.setIfInBounds (ρ.blk r f) (.map es' clock') } →
              MapIs n' (memDel L k) (.map es' clock') → ∃ w', (Builtin.delete_ (t :: rest).toArray ty #[.map (some (ρ.blk r f)), .int .i64 k]).run P w = .ok (.tuple #[]) w' ∧
              Post w0 ρ m D key ⟨gOb g [], .tup [], .set r (setTy fam f (mapTy (memDel L k)))⟩ w (.tuple #[]) w' := fun es' clock' h1 h2 => by
            rw [← hsz] at h2
            obtain ⟨k1, k2⟩ := hR.putMap (hm _ _ hl) hg hc hn0 h2
            exact ⟨_, h1, ρ, .tup (vs := []) rfl (fun i a x h => by simp at h), k1.sub (fun _ _ h => h) (fun _ h => .inl h), .refl _, k2⟩
          rcases findNow_spec hkey es.toList 0 (MapIs.keys hp) with ⟨h1, h2⟩ | ⟨j, en, h1, h2, h3⟩
          · obtain ⟨e1, e2⟩ := MapIs.away hp h2
            have hf := run_findKey (w := w) hk h1
            refine fin es clock ?_ ⟨_, _, rfl, hst, by rw [memDel_none e2]; exact hp, by rw [memDel_none e2]; exact hnd, by rw [memDel_none e2]; exact hall⟩
            simp [Builtin.delete_, Sem.run_bind, run_underlying hu, Result.andThen_ok, MapKept.run_getObj_map hb, Sem.run_pure, hck, hf, MapKept.run_setObj_map _ hb]
          · obtain ⟨c0, A, B, A', B', e1, e2, e3, e4, e5, e6, e7⟩ := MapIs.there hp hnd h2 h3
            rw [Nat.zero_add] at h1
            have hf := run_findKey (w := w) hk h1
            have hlt : j < es.size := by have := (List.getElem?_eq_some_iff.1 h2).1; simpa using this
            have hsplit : (es.eraseIdxIfInBounds j).toList = A' ++ B' := by
              unfold Array.eraseIdxIfInBounds
              rw [dif_pos hlt, Array.toList_eraseIdx, e5, ← e6]
              exact erase_mid _ _ _
            rw [e3] at hnd
            refine fin (es.eraseIdxIfInBounds j) clock ?_ ⟨_, _, rfl, stamped_erase hst j, ?_, ?_, fun p hpL => ?_⟩
            · simp [Builtin.delete_, Sem.run_bind, run_underlying hu, Result.andThen_ok, MapKept.run_getObj_map hb, Sem.run_pure, hck, hf, MapKept.run_setObj_map _ hb]
            · rw [hsplit, e3, memDel_some e4]
              exact e7
            · rw [e3, memDel_some e4]
              rw [List.map_append, List.map_cons] at hnd
              rw [List.map_append]
              exact (List.nodup_cons.1 (List.perm_middle.nodup_iff.1 hnd)).2
            · rw [e3, memDel_some e4] at hpL
              refine hall p ?_
              rw [e3]
              rcases List.mem_append.1 hpL with hpL | hpL
              · simp [hpL]
              · simp [hpL]
        · cases h
      · cases h
    · cases h
  · cases h

theorem mapLen_sound {ty : TypeId} (hR : Rel w0 ρ m D w) {m' : Mem} (hm : ∀ r x, look m' r = some x → look m r = some x) {r f : Nat} {t : TypeId} {e : Eff} (h : mapLen f (mapLay P t) (look m' r) = some e) (hob : ∀ q ∈ e.ob, q) {v : Value} (hv : R w ρ (.mp r f) v) :
    ∃ x, (Builtin.len_ #[t] ty #[v]).run P w = .ok x w ∧ Post w0 ρ m D key e w x w := by
  unfold mapLen at h
  split at h
  · rename_i n hn
    split at h
    · rename_i n' L g hat
      cases h
      cases hl : look m' r with
      | none => rw [hl] at hat; cases hat
      | some fam =>
        rw [hl] at hat
        obtain ⟨hc, rfl, hg, hn0, hsz, es, clock, hb, hst, hp, hnd, hall⟩ := map_at hR (hm _ _ hl) hat hob hv
        obtain ⟨kt, et, cs, hu, hk, hz, hcs, hrep⟩ := mapLay_inv hn
        have hlen : es.size = L.length := by have := hp.length_eq; simpa using this
        refine ⟨.int .i64 L.length, ?_, .still hR .v⟩
        simp [Builtin.len_, run_underlying hu, MapKept.run_getObj_map hb, goInt, hlen]
    · cases h
  · cases h

/-! ### Pointers -/

theorem oneRow_inv (hR : Rel w0 ρ m D w) {m' : Mem} (hm : ∀ r x, look m' r = some x → look m r = some x) {r : Nat} (h : oneRow (look m' r) = true) :
    ∃ fam c, look m r = some fam ∧ (fam 0).g ≠ some false ∧ 0 < ρ.cap r 0 ∧ w.heap[ρ.blk r 0]? = some (.cells c (fam 0).ty (0, 0)) ∧ 0 < c.size := by
  unfold oneRow at h
  split at h
  · rename_i fam hl
    split at h
    · rename_i h1 h2
      have hg : (fam 0).g ≠ some false := by rw [h2]; simp
      obtain ⟨hd, hr⟩ := hR.row r fam 0 (hm _ _ hl) hg
      have hc : 0 < ρ.cap r 0 := by have := hr.n_le; omega
      obtain ⟨_, _, c, hb, hcs⟩ := hr.cells (by omega)
      refine ⟨fam, c, hm _ _ hl, hg, hc, hb, ?_⟩
      rw [hcs]
      exact Nat.mul_pos hc (by simpa using h)
    · cases h
  · cases h

theorem run_other {b b' k k' : Nat} {c c' : Array Value} {t t' : TypeId} (hb : w.heap[b]? = some (.cells c t (0, 0))) (hb' : w.heap[b']? = some (.cells c' t' (0, 0))) (hc : 0 < c.size) (hc' : 0 < c'.size) (hne : b ≠ b') :
    (sameAddr ⟨b, k, none⟩ ⟨b', k', none⟩).run P w = .ok false w := by
  have f1 : ∀ {b : Nat} {c : Array Value} {t : TypeId} (k : Nat), w.heap[b]? = some (.cells c t (0, 0)) → (frozen ⟨b, k, none⟩).run P w = .ok false w := fun {b c t} k hb => by
    show Result.ok (w.frozen? ⟨b, k, none⟩) w = _
    congr 1
    simp [World.frozen?, hb]
  have f2 : ∀ {b : Nat} {c : Array Value} {t : TypeId}, w.heap[b]? = some (.cells c t (0, 0)) → (shape b).run P w = .ok (some (t, c.size)) w := fun {b c t} hb => by
    show Result.ok (w.shape? b) w = _
    congr 1
    simp [World.shape?, hb]
  have f3 : ∀ {b : Nat} {c : Array Value} {t : TypeId} (k : Nat), w.heap[b]? = some (.cells c t (0, 0)) → (noView ⟨b, k, none⟩).run P w = .ok () w := fun {b c t} k hb => by
    simp [noView, viewAt, f2 hb]
  have f4 : ∀ {b : Nat} {c : Array Value} {t : TypeId} (k : Nat), w.heap[b]? = some (.cells c t (0, 0)) → (stringish ⟨b, k, none⟩).run P w = .ok false w := fun {b c t} k hb => by
    have h1 := f1 k hb
    have h2 := f2 hb
    have h3 := f1 c.size hb
    unfold stringish
    rw [Sem.run_bind, h1]
    simp only [Result.andThen_ok, Bool.false_eq_true, if_false, Sem.run_bind, h2, Sem.run_pure]
    exact h3
  have hbe : (b == b') = false := by simpa using hne
  simp [sameAddr, hbe, f1 _ hb, f1 _ hb', f3 _ hb, f3 _ hb', mayBeOne, f4 _ hb, f4 _ hb', f2 hb, f2 hb']

theorem ptrEq_sound (hR : Rel w0 ρ m D w) {m' : Mem} (hm : ∀ r x, look m' r = some x → look m r = some x) {op : BinOp} (hop : op = .eql ∨ op = .neq) {t : TypeId} {x y : AV} {b : Bool} {xo yo : Operand} {xv yv : Value} (h : ptrEq (ptrKind P t) x y m' = some b) (hx : R w ρ x xv) (hy : R w ρ y yv) :
    (do eqGuard op t xo yo xv yv; binOp op t xv yv : Sem Value).run P w = .ok (.bool (if op = .eql then b else !b)) w := by
  have fin : ∀ (b : Bool), (Op.equal t xv yv).run P w = .ok b w → (eqGuard op t xo yo xv yv = Sem.pure ()) →
      (∀ c, binOp .eql t xv yv = c → c = (do pure (Value.bool (← Op.equal t xv yv)) : Sem Value)) → (∀ c, binOp .neq t xv yv = c → c = (do pure (Value.bool (!(← Op.equal t xv yv))) : Sem Value)) →
      (do eqGuard op t xo yo xv yv; binOp op t xv yv : Sem Value).run P w = .ok (.bool (if op = .eql then b else !b)) w := fun b he hg h1 h2 => by
    rw [hg]
    show (binOp op t xv yv).run P w = _
    rcases hop with rfl | rfl
    · rw [h1 _ rfl]
      simp [he]
    · rw [h2 _ rfl]
      simp [he]
  have hk1 : ptrKind P t = 1 → ∃ e, P.underlying t = some (.pointer e) ∧ sizeT P e ≠ 0 := fun hk => by
    unfold ptrKind at hk
    split at hk
    · rename_i e hu
      split at hk
      · cases hk
      · rename_i hse; exact ⟨e, hu, hse⟩
    · cases hk
    · cases hk
    · cases hk
  have hk2 : ptrKind P t = 2 → ∃ k e, P.underlying t = some (.map k e) := fun hk => by
    unfold ptrKind at hk
    split at hk
    · split at hk <;> cases hk
    · rename_i k e hu; exact ⟨k, e, hu⟩
    · cases hk
    · cases hk
  have hk3 : ptrKind P t = 3 → ∃ e, P.underlying t = some (.slice e) := fun hk => by
    unfold ptrKind at hk
    split at hk
    · split at hk <;> cases hk
    · cases hk
    · rename_i e hu; exact ⟨e, hu⟩
    · cases hk
  unfold ptrEq at h
  split at h
  · rename_i hk
    obtain ⟨e, hu, hse⟩ := hk1 hk
    · have hsz : ∃ n, (sizeOf e).run P w = .ok n w ∧ n ≠ 0 := by
        cases hi : P.info? e with
        | none => exact absurd (by unfold sizeT; rw [hi]) hse
        | some i => exact ⟨sizeT P e, sizeT_info (by rw [hi]; rfl), hse⟩
      obtain ⟨n, hsz, hn0⟩ := hsz
      have eqn : ∀ {X Y : Option Addr} {c : Bool}, (Op.equal t (.pointer X) (.pointer Y)).run P w = .ok c w → xv = .pointer X → yv = .pointer Y → (do eqGuard op t xo yo xv yv; binOp op t xv yv : Sem Value).run P w = .ok (.bool (if op = .eql then c else !c)) w := fun {X Y c} he hX hY => by
        subst hX hY
        refine fin c he ?_ (fun c hc => hc ▸ rfl) (fun c hc => hc ▸ rfl)
        rcases hop with rfl | rfl <;> rfl
      split at h
      · cases h
        cases hx; cases hy
        refine eqn ?_ rfl rfl
        show (Op.equalIn (9999 + 1) t _ _).run P w = _
        unfold Op.equalIn
        simp only [Sem.run_bind, run_underlying hu, Result.andThen_ok, Sem.run_pure]
      · cases h
        cases hx; cases hy
        refine eqn ?_ rfl rfl
        show (Op.equalIn (9999 + 1) t _ _).run P w = _
        unfold Op.equalIn
        simp only [Sem.run_bind, run_underlying hu, Result.andThen_ok, Sem.run_pure]
      · cases h
        cases hx; cases hy
        refine eqn ?_ rfl rfl
        show (Op.equalIn (9999 + 1) t _ _).run P w = _
        unfold Op.equalIn
        simp only [Sem.run_bind, run_underlying hu, Result.andThen_ok, Sem.run_pure]
      · cases h
        cases hx; cases hy
        refine eqn ?_ rfl rfl
        show (Op.equalIn (9999 + 1) t _ _).run P w = _
        unfold Op.equalIn
        simp [Sem.run_bind, run_underlying hu, Result.andThen_ok, Sem.run_pure]
      · rename_i r k q k'
        split at h
        · cases h
        · rename_i hrq
          split at h
          · rename_i hh
            cases h
            obtain ⟨fx, c, l1, g1, c1, h1, s1⟩ := oneRow_inv hR hm hh.1
            obtain ⟨fy, c', l2, g2, c2, h2, s2⟩ := oneRow_inv hR hm hh.2
            cases hx; cases hy
            have hne : ρ.blk r 0 ≠ ρ.blk q 0 := fun e => hrq (hR.sep r fx 0 q fy 0 l1 l2 g1 g2 c1 c2 e).1
            refine eqn ?_ rfl rfl
            show (Op.equalIn (9999 + 1) t _ _).run P w = _
            unfold Op.equalIn
            simp only [Sem.run_bind, run_underlying hu, Result.andThen_ok, hsz]
            rw [if_pos hn0]
            exact run_other h1 h2 s1 s2 hne
          · cases h
      · cases h
  · rename_i hk
    obtain ⟨u1, u2, hu⟩ := hk2 hk
    have eqn : ∀ {X Y : Option Nat} {c : Bool}, (Op.equal t (.map X) (.map Y)).run P w = .ok c w → xv = .map X → yv = .map Y → (do eqGuard op t xo yo xv yv; binOp op t xv yv : Sem Value).run P w = .ok (.bool (if op = .eql then c else !c)) w := fun {X Y c} he hX hY => by
      subst hX hY
      refine fin c he ?_ (fun c hc => hc ▸ rfl) (fun c hc => hc ▸ rfl)
      rcases hop with rfl | rfl <;> rfl
    split at h
    · cases h
      cases hx; cases hy
      refine eqn ?_ rfl rfl
      show (Op.equalIn (9999 + 1) t _ _).run P w = _
      unfold Op.equalIn
      simp only [Sem.run_bind, run_underlying hu, Result.andThen_ok, Sem.run_pure]
    · cases h
      cases hx; cases hy
      refine eqn ?_ rfl rfl
      show (Op.equalIn (9999 + 1) t _ _).run P w = _
      unfold Op.equalIn
      simp [Sem.run_bind, run_underlying hu, Result.andThen_ok, Sem.run_pure]
    · cases h
      cases hx; cases hy
      refine eqn ?_ rfl rfl
      show (Op.equalIn (9999 + 1) t _ _).run P w = _
      unfold Op.equalIn
      simp only [Sem.run_bind, run_underlying hu, Result.andThen_ok, Sem.run_pure]
    · cases h
  · rename_i hk
    obtain ⟨u1, hu⟩ := hk3 hk
    have eqn : ∀ {A : Addr} {c n k : Nat}, xv = .slice (some A) n k → yv = .slice none 0 0 → (do eqGuard op t xo yo xv yv; binOp op t xv yv : Sem Value).run P w = .ok (.bool (if op = .eql then false else !false)) w := fun {A c n k} hX hY => by
      subst hX hY
      refine fin false ?_ ?_ (fun c hc => hc ▸ rfl) (fun c hc => hc ▸ rfl)
      · show (Op.equalIn (9999 + 1) t _ _).run P w = _
        unfold Op.equalIn
        simp only [Sem.run_bind, run_underlying hu, Result.andThen_ok, Sem.run_pure]
      · rcases hop with rfl | rfl <;> rfl
    split at h
    · split at h
      · rename_i hn
        cases h
        cases hy
        cases hx with | ro b o h1 h2 => exact eqn (c := 0) (by rw [h2 hn]) rfl
      · cases h
    · split at h
      · rename_i hn
        cases h
        cases hy
        cases hx with | own h0 h1 h2 => exact eqn (c := 0) (by rw [h2 (by omega)]) rfl
      · cases h
    · cases h
  · cases h

theorem newMap_post (hR : Rel w0 ρ m D w) (hk : ¬ D key) {n : Nat} {g : Option Bool} {ob : List Prop} : Post w0 ρ m D key ⟨ob, .mp key 0, .new (famMap n [] g)⟩ w (.map (some w.heap.size)) (w.alloc (.map #[] 0)) := by
  obtain ⟨h1, h2, h3⟩ := hR.newMap hk (n := n) (L := []) (ob := .map #[] 0) ⟨#[], 0, rfl, stamped_empty 0, by simp, by simp, fun p hp => by cases hp⟩ g
  refine ⟨_, ?_, h1, h2, h3⟩
  have hb : (ρ.add key w.heap.size 1).blk key 0 = w.heap.size := by simp [Env.add]
  have hc : 0 < (ρ.add key w.heap.size 1).cap key 0 := by simp [Env.add]
  have := R.mp (w := w.alloc (.map #[] 0)) (ρ := ρ.add key w.heap.size 1) (r := key) (f := 0) (.inr rfl) hc
  rw [hb] at this
  exact this

theorem R_vv {x v : Value} (h : R w ρ (.v x) v) : v = x := by cases h; rfl
theorem run_clear_row {t e ty : TypeId} {z : Value} (ht : P.underlying t = some (.slice e)) (hv : (zeroValue e).run P w = .ok z w) (h1 : z.oneCell' = true) {b o n cap : Nat} {c : Array Value} {tc : TypeId} (hn : 0 < n) (hb : w.heap[b]? = some (.cells c tc (0, 0))) (hfit : o + n ≤ c.size) :
    (Builtin.clear_ #[t] ty #[.slice (some ⟨b, o, none⟩) n cap]).run P w = .ok (.tuple #[]) (w.setRow b (c.toList.take o ++ List.replicate n z ++ c.toList.drop (o + n)).toArray) := by
  have hz : z.cells = #[z] := by cases z <;> first | rfl | simp [Value.oneCell'] at h1
  have hzc : (Builtin.zeroCells z.cells n).toList = List.replicate n z := by
    rw [hz]
    simp [Builtin.zeroCells]
    apply List.ext_getElem
    · simp
    · intro i h1 h2
      simp [Nat.mod_one]
  have hst := run_storeCells_at P b o tc (List.replicate n z) 0 c w hb (by simp; omega) (fun v hv => by rw [List.eq_of_mem_replicate hv]; exact h1)
  simp only [Nat.add_zero, List.length_replicate] at hst
  obtain ⟨m, rfl⟩ : ∃ m, n = m + 1 := ⟨n - 1, by omega⟩
  simp [Builtin.clear_, run_underlying ht, hv, hzc, hst]
theorem run_clear_none {t e ty : TypeId} (ht : P.underlying t = some (.slice e)) {a : Option Addr} {cap : Nat} :
    (Builtin.clear_ #[t] ty #[.slice a 0 cap]).run P w = .ok (.tuple #[]) w := by
  cases a <;> simp [Builtin.clear_, run_underlying ht]
theorem setRow_id {r : Nat} {x : Fam} : ∀ {m : Mem}, look m r = some x → Ax.setRow r x m = m
  | [], h => by simp [look] at h
  | (k, y) :: rest, h => by
    simp only [look] at h
    simp only [Ax.setRow]
    split at h
    · rename_i e; cases h; rw [if_pos e]
    · rename_i e; rw [if_neg e, setRow_id h]
theorem clrE_sound {ty : TypeId} (hR : Rel w0 ρ m D w) {m' : Mem} (hm : ∀ r x, look m' r = some x → look m r = some x) {r lo n : Nat} {t : TypeId} {e : Eff} (h : clrE P r lo n (sElem P t) (look m' r) = some e) (hob : ∀ q ∈ e.ob, q) {v : Value} (hv : R w ρ (.vw r 0 lo n 1) v) :
    ∃ w', (Builtin.clear_ #[t] ty #[v]).run P w = .ok (.tuple #[]) w' ∧ Post w0 ρ m D key e w (.tuple #[]) w' := by
  unfold clrE at h
  split at h
  · rename_i el hel
    split at h
    · rename_i z hz
      split at h
      · rename_i hz1
        split at h
        · rename_i fam hl0
          cases h
          have hl := hm _ _ hl0
          have h1 : lo + n ≤ (fam 0).n := hob _ (by simp)
          have h2 : 1 = (fam 0).sz := hob _ (by simp)
          have hg : (fam 0).g ≠ some false := by
            intro hg
            have : (false : Bool) = true := hob _ (by simp [gOb, hg])
            cases this
          obtain ⟨hd, hrow⟩ := hR.row r fam 0 hl hg
          have hzv : (zeroValue el).run P w = .ok z w := zeroT_run hz
          have hout : ∀ {w' : World}, Rel w0 ρ (setRow r (clrFam lo n z fam) m) D w' → Same ρ.imm w w' → Post w0 ρ m D key ⟨(lo + n ≤ (fam 0).n) :: (1 = (fam 0).sz) :: gOb (fam 0).g [], .tup [], .set r (clrFam lo n z fam)⟩ w (.tuple #[]) w' := fun {w'} k1 k2 =>
            ⟨ρ, .tup rfl (fun i a x h => by simp at h), k1.sub (fun _ _ h => h) (fun _ h => .inl h), .refl _, k2⟩
          cases hv with
          | vw hd2 hnc ha =>
            by_cases hn : n = 0
            · subst hn
              refine ⟨w, run_clear_none (sElem_run hel), hout ?_ (fun _ _ => rfl)⟩
              refine Rel.alike (x := fam) ?_ fun f => ?_
              · rw [setRow_id hl]; exact hR
              · unfold clrFam clrRow
                by_cases hf : f = 0
                · subst hf
                  refine ⟨rfl, rfl, rfl, rfl, fun i hi => ?_⟩
                  show (if lo ≤ i ∧ i < lo + 0 then [AV.v z] else (fam 0).get i) = _
                  rw [if_neg (by omega)]
                · simp [hf]
            · obtain ⟨b1, b2, c, b3, b4⟩ := hrow.cells (by omega)
              have hcap := hrow.n_le
              have hsz : c.size = ρ.cap r 0 := by rw [b4, ← h2, Nat.mul_one]
              rw [ha (by omega)]
              refine ⟨_, run_clear_row (sElem_run hel) hzv hz1 (by omega) b3 (by omega), ?_⟩
              have hk := Rel.put hR hl hg (c := c) (c' := (c.toList.take (lo * 1) ++ List.replicate n z ++ c.toList.drop (lo * 1 + n)).toArray) (by omega) b3 (by simp; omega) (x := clrRow lo n z (fam 0)) rfl rfl rfl hcap (fun i hi => ?_) (fun i k a v hi h3 h4 => ?_)
              · exact hout hk.1 hk.2
              · show (if lo ≤ i ∧ i < lo + n then [AV.v z] else (fam 0).get i).length = _
                split
                · exact h2
                · exact hrow.len i hi
              · have h3 : (if lo ≤ i ∧ i < lo + n then [AV.v z] else (fam 0).get i)[k]? = some a := h3
                have h4 : (c.toList.take (lo * 1) ++ List.replicate n z ++ c.toList.drop (lo * 1 + n)).toArray[i * (fam 0).sz + k]? = some v := h4
                have hi' : i < (fam 0).n := hi
                rw [← h2, Nat.mul_one, Nat.mul_one, List.getElem?_toArray, List.append_assoc] at h4
                split at h3
                · rename_i hin
                  have hk0 : k = 0 := by
                    have := (List.getElem?_eq_some_iff.1 h3).1
                    simpa using this
                  subst hk0
                  cases h3
                  rw [List.getElem?_append_right (by simp; omega), List.getElem?_append_left (by simp; omega), List.getElem?_replicate] at h4
                  split at h4
                  · cases h4; exact .v
                  · cases h4
                · rename_i hout2
                  have hk0 : k = 0 := by
                    have h5 := (List.getElem?_eq_some_iff.1 h3).1
                    rw [hrow.len i hi', ← h2] at h5
                    omega
                  subst hk0
                  have h6 : c[i]? = some v := by
                    by_cases hlt : i < lo
                    · rw [List.getElem?_append_left (by simp; omega), List.getElem?_take, if_pos (by omega)] at h4
                      simpa using h4
                    · rw [List.getElem?_append_right (by simp; omega), List.getElem?_append_right (by simp; omega), List.getElem?_drop] at h4
                      have e : lo + n + (i + 0 - (List.take lo c.toList).length - (List.replicate n z).length) = i := by simp; omega
                      rw [e] at h4
                      simpa using h4
                  refine hrow.rel i 0 a v hi' h3 ?_
                  unfold Has World.cell?
                  rw [← h2]
                  simp [b3, h6]
        · cases h
      · cases h
    · cases h
  · cases h

theorem aNew_sound (hR : Rel w0 ρ m D w) (hk : ¬ D key) {m' : Mem} (hm : ∀ r x, look m' r = some x → look m r = some x) {g : Option Bool} {e : Eff} (h : aNew P key g o ρ0 m' = some e) (hob : ∀ q ∈ e.ob, q) (hv : ∀ x ∈ o.op.operands, R w ρ (strip (ρ0 x)) (ev x)) :
    Gives P ev o w fun v w' => Post w0 ρ m D key e w v w' := by
  have val : ∀ {s : Sem Value} {v : Value} {w' : World}, s.run P w = .ok v w' → (do pure (Next.value (← s)) : Sem Next).run P w = .ok (.value v) w' := fun h => run_value h
  unfold aNew at h
  split at h
  · rename_i t ho
    split at h
    · rename_i n hn
      cases h
      exact ⟨_, _, .inl (by simp only [execOp, ho]; exact val (run_makeMap t w)), newMap_post hR hk⟩
    · cases h
  · rename_i t x i ok ho
    have hx := hv x (by simp [ho, Op.operands])
    have hi := hv i (by simp [ho, Op.operands])
    split at h
    · rename_i r f hx0
      rw [hx0] at hx
      split at h
      · rename_i k hi0
        rw [hi0] at hi
        generalize ev i = iv at hi
        have he : ∀ v, (execOp ev o).run P w = .ok (.value v) w ↔ (do pure (Next.value (← Instr.lookup t (ev x) (ev i) ok)) : Sem Next).run P w = .ok (.value v) w := fun v => by
          simp only [execOp, ho]
        obtain ⟨v, h1, h2⟩ := mapLook_sound (key := key) hR hm h hob hx
        refine ⟨v, w, .inl ?_, h2⟩
        rw [he]
        have hev : ev i = .int .i64 k := by
          have := hv i (by simp [ho, Op.operands])
          rw [hi0] at this
          exact R_vv this
        rw [hev]
        exact val h1
      · cases h
    · rename_i n L hx0
      rw [hx0] at hx
      split at h
      · rename_i k hi0
        have he : ∀ v, (execOp ev o).run P w = .ok (.value v) w ↔ (do pure (Next.value (← Instr.lookup t (ev x) (ev i) ok)) : Sem Next).run P w = .ok (.value v) w := fun v => by
          simp only [execOp, ho]
        obtain ⟨v, h1, h2⟩ := mapLookR_sound (key := key) hR h hx
        refine ⟨v, w, .inl ?_, h2⟩
        rw [he]
        have hev : ev i = .int .i64 k := by
          have := hv i (by simp [ho, Op.operands])
          rw [hi0] at this
          exact R_vv this
        rw [hev]
        exact val h1
      · cases h
    · cases h
  · rename_i t x i y ho
    have hx := hv x (by simp [ho, Op.operands])
    have hi := hv i (by simp [ho, Op.operands])
    have hy := hv y (by simp [ho, Op.operands])
    split at h
    · rename_i r f hx0
      rw [hx0] at hx
      split at h
      · rename_i k hi0
        split at h
        · rename_i cs hy0
          rw [hi0] at hi
          rw [hy0] at hy
          obtain ⟨c, w', hc, h1, h2⟩ := mapPut_sound (key := key) hR hm h hob hx
          refine ⟨undef, w', .inr ⟨?_, rfl⟩, h2⟩
          have hev : ev i = .int .i64 k := R_vv hi
          have hey : ev y = .agg (c.map (Value.int .i64)).toArray := by
            generalize ev y = yv at hy
            cases hy with
            | agg hl hh => rw [intsL_R hc ⟨hl, hh⟩]
          simp only [execOp, ho, hev, hey]
          exact run_skip h1
        · cases h
      · cases h
    · cases h
  · rename_i args ats ho
    split at h
    · rename_i r f k t rest hargs hats
      obtain ⟨a, b, rfl⟩ : ∃ a b, args = #[a, b] := by
        rcases args with ⟨l⟩
        rcases l with _ | ⟨a, _ | ⟨b, _ | ⟨c, l⟩⟩⟩ <;> simp at hargs
        exact ⟨a, b, rfl⟩
      · simp only [List.map_cons, List.map_nil, List.cons.injEq, and_true] at hargs
        have ha := hv a (by simp [ho, Op.operands, Call.operands])
        have hb := hv b (by simp [ho, Op.operands, Call.operands])
        rw [hargs.1] at ha
        rw [hargs.2] at hb
        have hats : ats = (t :: rest).toArray := by apply Array.ext'; simpa using hats
        subst hats
        obtain ⟨w', h1, h2⟩ := mapDel_sound (key := key) (ty := o.type) (rest := rest) hR hm h hob ha
        have he2 : e.val = .tup [] ∧ True := by
          unfold mapDel at h
          (repeat' split at h) <;> first | (cases h; done) | (cases h; exact ⟨rfl, trivial⟩)
        refine ⟨.tuple #[], w', .inl ?_, h2⟩
        have hev : ev b = .int .i64 k := R_vv hb
        simp [execOp, ho, resolve, invoke, builtin, hev, h1]
    · cases h
  · rename_i args ats ho
    split at h
    · rename_i r lo n t hargs hats
      obtain ⟨a, rfl⟩ : ∃ a, args = #[a] := by
        rcases args with ⟨l⟩
        rcases l with _ | ⟨a, _ | ⟨b, l⟩⟩ <;> simp at hargs
        exact ⟨a, rfl⟩
      simp only [List.map_cons, List.map_nil, List.cons.injEq, and_true] at hargs
      have ha := hv a (by simp [ho, Op.operands, Call.operands])
      rw [hargs] at ha
      have hats : ats = #[t] := by apply Array.ext'; simpa using hats
      subst hats
      obtain ⟨w', h1, h2⟩ := clrE_sound (key := key) (ty := o.type) hR hm h hob ha
      refine ⟨.tuple #[], w', .inl ?_, h2⟩
      simp [execOp, ho, resolve, invoke, builtin, h1]
    · cases h
  · rename_i args ats ho
    split at h
    · rename_i r f t hargs hats
      obtain ⟨a, rfl⟩ : ∃ a, args = #[a] := by
        rcases args with ⟨l⟩
        rcases l with _ | ⟨a, _ | ⟨b, l⟩⟩ <;> simp at hargs
        exact ⟨a, rfl⟩
      · simp only [List.map_cons, List.map_nil, List.cons.injEq, and_true] at hargs
        have ha := hv a (by simp [ho, Op.operands, Call.operands])
        rw [hargs] at ha
        have hats : ats = #[t] := by apply Array.ext'; simpa using hats
        subst hats
        obtain ⟨x, h1, h2⟩ := mapLen_sound (key := key) (ty := o.type) hR hm h hob ha
        refine ⟨x, w, .inl ?_, h2⟩
        simp [execOp, ho, resolve, invoke, builtin, h1]
    · rename_i n L t hargs hats
      obtain ⟨a, rfl⟩ : ∃ a, args = #[a] := by
        rcases args with ⟨l⟩
        rcases l with _ | ⟨a, _ | ⟨b, l⟩⟩ <;> simp at hargs
        exact ⟨a, rfl⟩
      · simp only [List.map_cons, List.map_nil, List.cons.injEq, and_true] at hargs
        have ha := hv a (by simp [ho, Op.operands, Call.operands])
        rw [hargs] at ha
        have hats : ats = #[t] := by apply Array.ext'; simpa using hats
        subst hats
        split at h
        · rename_i n' hn
          cases h
          obtain ⟨kt, et, cs, hu, hk, hz, hcs, hrep⟩ := mapLay_inv hn
          generalize hev : ev a = av at ha
          cases ha with
          | rm b hi hb hM =>
            obtain ⟨es, clock, rfl, _, hp, hnd, hall⟩ := hM
            have hlen : es.size = L.length := by have := hp.length_eq; simpa using this
            refine ⟨.int .i64 L.length, w, .inl ?_, .still hR .v⟩
            simp [execOp, ho, resolve, invoke, builtin, hev, Builtin.len_, run_underlying hu, MapKept.run_getObj_map hb, goInt, hlen]
        · cases h
    · cases h
  · rename_i t x y u ho
    unfold boolE at h
    split at h
    · rename_i b hb
      cases h
      have := ptrEq_sound (xo := x) (yo := y) hR hm (.inl rfl) hb (hv x (by simp [ho, Op.operands])) (hv y (by simp [ho, Op.operands]))
      refine ⟨_, w, .inl (by simp only [execOp, ho]; exact val this), .still hR ?_⟩
      simp only [if_true]
      have : (b == true) = b := by cases b <;> rfl
      rw [this]
      exact .v
    · cases h
  · rename_i t x y u ho
    unfold boolE at h
    split at h
    · rename_i b hb
      cases h
      have := ptrEq_sound (xo := x) (yo := y) hR hm (.inr rfl) hb (hv x (by simp [ho, Op.operands])) (hv y (by simp [ho, Op.operands]))
      refine ⟨_, w, .inl (by simp only [execOp, ho]; exact val this), .still hR ?_⟩
      have h2 : (b == false) = !b := by cases b <;> rfl
      rw [h2]
      have : ¬ (BinOp.neq = BinOp.eql) := by decide
      rw [if_neg this]
      exact .v
    · cases h
  · cases h
end
end Go.Ax
end

section
/-
  The steps of a region.
-/
set_option linter.unusedSimpArgs false
set_option linter.unusedVariables false
namespace Go.Ax
open Go.RowKit

section
variable {P : Program} {w0 : Base} {w : World} {ρ : Env} {m : Mem} {D : Nat → Prop} {key : Nat} {G : Ctx}

theorem aCall_sound (hG : CtxOK P G) (hR : Rel w0 ρ m D w) {m' : Mem} (hm : ∀ r x, look m' r = some x → look m r = some x) {f : FuncId} {ars : List AV} {ob : List Prop} {r : AV} {vs : List Value} (h : aCall G f ars m' = some (ob, r)) (hob : ∀ p ∈ ob, p) (hs : Rs w ρ ars vs) :
    Invokes P f vs w fun v w' => ∃ ρ', R w' ρ' r v ∧ Rel w0 ρ' m D w' ∧ ρ.le ρ' ∧ Same ρ.imm w w' := by
  unfold aCall at h
  split at h
  · rename_i c hc
    split at h
    · rename_i hcl
      have hcl' : ∀ a ∈ ars, clean 3 a = true := by simpa using hcl
      have hs' : Rs w (.ext ρ.imm) ars vs := ⟨hs.1, fun i a x h1 h2 => clean_sound 3 (hcl' a (List.mem_of_getElem? h1)) (hs.2 i a x h1 h2)⟩
      refine (hG.call hc ars ob r h hob ρ.imm w vs hR.imm hs').mono fun v w' ⟨h1, h2⟩ => ?_
      exact ⟨ρ.grow w w', h1.mono ⟨fun _ h => h.elim, fun _ _ h => h.elim, fun _ _ h => h.elim, fun _ h => h⟩ (.refl _ _), hR.grow h2, Env.le_grow _ _ _, Same.of_below h2 hR.imm⟩
    · split at h
      · rename_i ob' r' hcc
        split at h
        · rename_i hpl
          cases h
          have hs' : Rs w (.ext (All w)) (ars.map (purU 3 m')) vs := purUs_sound (J := All w) (hR.sub hm fun _ h => h) hR.imm (rows_in (hR.sub hm fun _ h => h) fun _ h _ => h) (fun p hp => hob p (List.mem_append_left _ hp)) hs
          refine (hG.call hc _ ob' r hcc (fun p hp => hob p (List.mem_append_right _ hp)) (All w) w vs (fun _ h => h) hs').mono fun v w' ⟨h1, h2⟩ => ?_
          exact ⟨ρ.grow w w', plain_sound 3 hpl h1, hR.grow h2, Env.le_grow _ _ _, Same.of_below h2 hR.imm⟩
        · cases h
      · cases h
  · cases h

variable {ro : Option Nat} {n : Nat} {Q : Exit → Act → World → Prop} {o : Oper} {a : Act} {next : Act → World → Prop}

theorem wpIn_of_gives {R' : Value → World → Prop} (hd : ∀ c, o.op ≠ .defer c) (h : Gives P a.eval o w R') (hn : ∀ v w', R' v w' → next (a.put o.dst v) w') : o.wpIn (Fw ro) n P a w next Q := by
  obtain ⟨v, w', h1, h2⟩ := h
  refine ⟨fun _ _ => trivial, ?_⟩
  rw [Oper.semAt_eq _ _ _ hd]
  rcases h1 with h1 | ⟨h1, rfl⟩
  · rw [h1]; exact hn _ _ h2
  · rw [h1]; exact hn _ _ h2

theorem calls_fw {f : FuncId} {args : Array Value} {R' : Ending → World → Prop} (h : Calls P f args w R') : CallsIn (Fw ro) n P f args w R' := by
  have h1 : CallsIn Fence.wide n P f args w R' := callsIn_wide.2 h
  exact h1

theorem wpIn_of_invokes {f : FuncId} {vs : List Value} {R' : Value → World → Prop} (hd : ∀ c, o.op ≠ .defer c) (he : (execOp a.eval o).run P w = (callFunc f vs.toArray).run P w) (h : Invokes P f vs w R')
    (hn : ∀ v w', R' v w' → next (a.put o.dst v) w') : o.wpIn (Fw ro) n P a w next Q := by
  refine ⟨fun _ _ => trivial, ?_⟩
  rw [Oper.semAt_eq _ _ _ hd, he]
  rcases h with ⟨v, w', h1, h2⟩ | ⟨h1, h2⟩
  · rw [h1]; exact hn _ _ h2
  · rw [h1]
    refine ⟨fun h => by simp [Fw, Fence.wide] at h, calls_fw (h2.mono fun e w' ⟨v, he, hq⟩ => ?_)⟩
    subst he
    exact hn _ _ hq

theorem call_run {f : Operand} {args : Array Operand} {ats : Array TypeId} {h : FuncId} {cap : List Value} (ho : o.op = .call ⟨.value f, args, ats⟩) (hf : a.eval f = .func (.func h) #[] cap.toArray) :
    (execOp a.eval o).run P w = (callFunc h (args.toList.map a.eval ++ cap).toArray).run P w := by
  have e : (args.map a.eval ++ cap.toArray) = (args.toList.map a.eval ++ cap).toArray := by apply Array.ext'; simp
  unfold execOp
  simp only [ho]
  simp only [resolve, hf, Deferred.ofValue, Sem.run_bind, Sem.run_pure, Result.andThen_ok, invoke, Array.empty_append, e]

theorem invoke_run {r : Operand} {name : String} {args : Array Operand} {ats : Array TypeId} {h : FuncId} {t : TypeId} {x : Value} (ho : o.op = .call ⟨.invoke r name, args, ats⟩) (hr : a.eval r = .iface t x) (hm : methT P t name = some h) :
    (execOp a.eval o).run P w = (callFunc h (x :: args.toList.map a.eval).toArray).run P w := by
  have e : (#[x] ++ args.map a.eval) = (x :: args.toList.map a.eval).toArray := by apply Array.ext'; simp
  have hmeth : (method (P.types.size + Made.depth) t x name).run P w = .ok (h, x) w := by
    unfold methT at hm
    split at hm
    · rename_i i hi
      split at hm
      · rename_i mt hmt
        split at hm
        · rename_i f ptr hp hfn
          have hfuel : ∃ k, P.types.size + Made.depth = k + 1 := ⟨P.types.size + Made.depth - 1, by have : 0 < Made.depth := by decide
                                                                                                    omega⟩
          obtain ⟨k, hk⟩ := hfuel
          rw [hk]
          have hti : (typeInfo t).run P w = .ok i w := by simp [typeInfo, hi]
          split at hm
          · rename_i el hu
            split at hm
            · rename_i hpt
              cases hm
              simp [method, hti, hmt, hp, follow, hfn, hpt, receiverAt, run_underlying hu, Place.get]
            · cases hm
          · rename_i d hnp hu
            split at hm
            · cases hm
            · rename_i hpt
              cases hm
              simp only [method, Sem.run_bind, hti, Result.andThen_ok, hmt, hp, follow, Sem.run_pure, hfn]
              have hpt' : ptr = false := by simpa using hpt
              subst hpt'
              simp only [receiverAt, Sem.run_bind, run_underlying hu, Result.andThen_ok]
              cases d <;> first | exact absurd rfl (hnp _) | simp [Place.get]
          · cases hm
        · cases hm
      · cases hm
    · cases hm
  unfold execOp
  simp only [ho]
  simp only [resolve, hr, Sem.run_bind, Sem.run_pure, Result.andThen_ok, invoke]
  have e0 : (#[Value.iface t x] ++ args.map a.eval)[0]? = some (Value.iface t x) := by
    rw [Array.getElem?_append]; rfl
  have e1 : (#[Value.iface t x] ++ args.map a.eval).extract 1 (#[Value.iface t x] ++ args.map a.eval).size = args.map a.eval := by
    apply Array.ext'
    simp [Array.toList_extract, List.extract_eq_take_drop]
    exact List.take_of_length_le (by simp)
  rw [e0, e1]
  simp only [callMethod, Sem.run_bind, run_program, Result.andThen_ok, hmeth, e]

/-- One operation. -/
theorem aMut_inv {g : Option Bool} {x : Option Eff} {e : Eff} (h : aMut g x = some e) : ∃ e0, x = some e0 ∧ e0.ob = e.ob ∧ e0.val = e.val ∧ (∃ s n, e0.u = .many s n) ∧ (∀ key m, e0.u.app key m = e.u.app key m) ∧ ((∃ s n, e.u = .many s n) ∨ ∃ y, e.u = .new y) := by
  unfold aMut at h
  split at h
  · split at h
    · split at h
      · rename_i e1 y hu
        cases h
        exact ⟨_, rfl, rfl, rfl, ⟨_, _, hu⟩, fun key m => by rw [hu]; rfl, .inr ⟨_, rfl⟩⟩
      · rename_i hu
        cases h; exact ⟨_, rfl, rfl, rfl, ⟨_, _, hu⟩, fun _ _ => rfl, .inl ⟨_, _, hu⟩⟩
      · cases h
    · cases h
  · split at h
    · split at h
      · rename_i hu
        cases h; exact ⟨_, rfl, rfl, rfl, ⟨_, _, hu⟩, fun _ _ => rfl, .inl ⟨_, _, hu⟩⟩
      · cases h
    · cases h
theorem aOld_sound (hG : CtxOK P G) (hR : Rel w0 ρ m D w) (hk : ¬ D key) {m' : Mem} (hm : ∀ r x, look m' r = some x → look m r = some x) {g : Option Bool} {e : Eff} {ρ0 : Operand → AV} (h : aOld P G key g o ρ0 m' = some e) (hob : ∀ q ∈ owed o ρ0 ++ e.ob, q) (hv : ∀ x, R w ρ (ρ0 x) (a.eval x))
    (hn : ∀ v w', Post w0 ρ m D key e w v w' → next (a.put o.dst v) w') : o.wpIn (Fw ro) n P a w next Q := by
  have hneeds : (∃ c x y, o.op = .pick c x y) ∨ ∀ p ∈ needs (o.op.operands.toList.map ρ0), p := by
    by_cases hp : isPick o.op = true
    · left
      generalize o.op = op at hp
      cases op <;> simp [isPick] at hp
      exact ⟨_, _, _, rfl⟩
    · right
      intro p hp'
      refine hob p (List.mem_append_left _ ?_)
      unfold owed
      rw [if_neg hp]
      exact hp'
  have hs : isPick o.op = false → ∀ x ∈ o.op.operands, R w ρ (strip (ρ0 x)) (a.eval x) := fun hp x hx => by
    rcases hneeds with ⟨c, x, y, e⟩ | hne
    · rw [e] at hp; simp [isPick] at hp
    · exact strip_sound (hv x) (needs_mem hne (List.mem_map.2 ⟨x, by simpa using hx, rfl⟩))
  have hob' : ∀ q ∈ e.ob, q := fun q hq => hob q (List.mem_append_right _ hq)
  have finish : ∀ {ob : List Prop} {r : AV} {v : Value} {w' : World}, (∃ ρ', R w' ρ' r v ∧ Rel w0 ρ' m D w' ∧ ρ.le ρ' ∧ Same ρ.imm w w') → Post w0 ρ m D key ⟨ob, r, .none⟩ w v w' := fun ⟨ρ', h1, h2, h3, h4⟩ =>
    ⟨ρ', h1, h2.sub (fun _ _ h => h) (fun _ h => .inl h), h3, h4⟩
  unfold aOld at h
  split at h
  · rename_i f args ats ho
    split at h
    · rename_i hh cap hf
      split at h
      · rename_i c hc
        obtain ⟨e0, hx, hob0, hval0, hmany, happ, _⟩ := aMut_inv h
        have hfr := hs (by simp [ho, isPick]) f (by simp [ho, Op.operands, Call.operands])
        rw [hf] at hfr
        generalize hev : a.eval f = fv at hfr
        cases hfr with
        | fn hl hh' =>
          rename_i vs
          have hargs : Rs w ρ (args.toList.map (fun x => strip (ρ0 x)) ++ cap) (args.toList.map a.eval ++ vs) :=
            (Rs_map (ev := a.eval) (f := fun x => strip (ρ0 x)) args.toList (fun x hx => hs (by simp [ho, isPick]) x (by simp [ho, Op.operands, Call.operands]; exact .inr (by simpa using hx)))).append ⟨hl, hh'⟩
          exact wpIn_of_invokes (by simp [ho]) (call_run ho hev) (hG.wr hc w0 ρ m m' D w key _ _ e0 hR hk hm hargs hx (by rw [hob0]; exact hob') hmany) fun v w' hp => hn v w' (by
            unfold Post at hp ⊢
            rw [← hval0, ← happ]
            exact hp)
      unfold effOf2 at h
      split at h
      · rename_i ob r hc
        cases h
        have hfr := hs (by simp [ho, isPick]) f (by simp [ho, Op.operands, Call.operands])
        rw [hf] at hfr
        generalize hev : a.eval f = fv at hfr
        cases hfr with
        | fn hl hh' =>
          rename_i vs
          have hargs : Rs w ρ (args.toList.map (fun x => strip (ρ0 x)) ++ cap) (args.toList.map a.eval ++ vs) :=
            (Rs_map (ev := a.eval) (f := fun x => strip (ρ0 x)) args.toList (fun x hx => hs (by simp [ho, isPick]) x (by simp [ho, Op.operands, Call.operands]; exact .inr (by simpa using hx)))).append ⟨hl, hh'⟩
          exact wpIn_of_invokes (by simp [ho]) (call_run ho hev) (aCall_sound hG hR hm hc hob' hargs) fun v w' hp => hn v w' (finish hp)
      · cases h
    · cases h
  · rename_i r name args ats ho
    split at h
    · rename_i t x hx
      split at h
      · rename_i f hmt
        unfold effOf2 at h
        split at h
        · rename_i ob r' hc
          cases h
          have hrr := hs (by simp [ho, isPick]) r (by simp [ho, Op.operands, Call.operands])
          rw [hx] at hrr
          generalize hev : a.eval r = rv at hrr
          cases hrr with
          | iface hxv =>
            rename_i xv
            have hargs : Rs w ρ (x :: args.toList.map (fun x => strip (ρ0 x))) (xv :: args.toList.map a.eval) :=
              .cons hxv (Rs_map (ev := a.eval) (f := fun x => strip (ρ0 x)) args.toList (fun x hx => hs (by simp [ho, isPick]) x (by simp [ho, Op.operands, Call.operands]; exact .inr (by simpa using hx))))
            exact wpIn_of_invokes (by simp [ho]) (invoke_run ho hev hmt) (aCall_sound hG hR hm hc hob' hargs) fun v w' hp => hn v w' (finish hp)
        · cases h
      · cases h
    · cases h
      exact (hob' False (by simp)).elim
    · cases h
  · split at h
    · rename_i hext
      refine wpIn_of_gives (fun c e => by rw [e] at hext; simp [isExt] at hext) (aExt_sound hR hk hm h hob' (hs (by cases hp : isPick o.op with | false => rfl | true => (exfalso; generalize o.op = op at hext hp; cases op <;> simp [isPick, isExt] at hext hp)))) hn
    · by_cases hdef : ∃ c, o.op = .defer c
      · obtain ⟨c, hc⟩ := hdef
        exfalso
        unfold aop at h
        rw [hc] at h
        simp only [effOf] at h
        split at h
        · rename_i x hx
          unfold aPure at hx
          split at hx
          · split at hx
            · rename_i v hp
              unfold execOp at hp
              rw [hc] at hp
              simp only at hp
              have : ∀ (s : Sem Deferred), pureRun P (do pure (Next.defer (← s))) ≠ some (.value v) := by
                intro s
                induction s with
                | pure d => intro e; simp [pureRun, Bind.bind, Sem.bind, Pure.pure] at e
                | program k ih => intro e; exact ih P e
                | _ => intro e; simp [pureRun, Bind.bind, Sem.bind, Pure.pure] at e
              exact this _ hp
            · cases hx
          · cases hx
        · cases h
      · by_cases hsel : ∃ cs b, o.op = .select cs b
        · obtain ⟨cs, b, hc⟩ := hsel
          exfalso
          unfold aop at h
          rw [hc] at h
          simp only [effOf] at h
          split at h
          · rename_i x hx
            unfold aPure at hx
            split at hx
            · split at hx
              · rename_i v hp
                unfold execOp at hp
                rw [hc] at hp
                simp only at hp
                have : ∀ (s : Sem (Array CommCase)), pureRun P (do pure (Next.comm (← s) b .select)) ≠ some (.value v) := by
                  intro s
                  induction s with
                  | pure d => intro e; simp [pureRun, Bind.bind, Sem.bind, Pure.pure] at e
                  | program k ih => intro e; exact ih P e
                  | _ => intro e; simp [pureRun, Bind.bind, Sem.bind, Pure.pure] at e
                exact this _ hp
              · cases hx
            · cases hx
          · cases h
        · exact wpIn_of_gives (fun c e => hdef ⟨c, e⟩) (aop_sound (fun _ => rfl) (fun cs b e => hsel ⟨cs, b, e⟩) hR hk hm h hob' hneeds (fun x _ => hv x)) hn

theorem aNew_pick {g : Option Bool} {e : Eff} {ρ0 : Operand → AV} (h : aNew P key g o ρ0 m = some e) : isPick o.op = false := by
  cases hp : isPick o.op with
  | false => rfl
  | true =>
    exfalso
    unfold aNew at h
    generalize o.op = op at h hp
    cases op <;> simp [isPick] at hp
    cases h
theorem aNew_defer {g : Option Bool} {e : Eff} {ρ0 : Operand → AV} (h : aNew P key g o ρ0 m = some e) : ∀ c, o.op ≠ .defer c := fun c hc => by
  unfold aNew at h
  rw [hc] at h
  cases h
theorem aStep_sound (hG : CtxOK P G) (hR : Rel w0 ρ m D w) (hk : ¬ D key) {m' : Mem} (hm : ∀ r x, look m' r = some x → look m r = some x) {g : Option Bool} {e : Eff} {ρ0 : Operand → AV} (h : aStep P G key g o ρ0 m' = some e) (hob : ∀ q ∈ owed o ρ0 ++ e.ob, q) (hv : ∀ x, R w ρ (ρ0 x) (a.eval x))
    (hn : ∀ v w', Post w0 ρ m D key e w v w' → next (a.put o.dst v) w') : o.wpIn (Fw ro) n P a w next Q := by
  unfold aStep at h
  split at h
  · rename_i e1 hnew
    cases h
    have hp := aNew_pick hnew
    have hne : ∀ p ∈ needs (o.op.operands.toList.map ρ0), p := fun p hp' => hob p (List.mem_append_left _ (by unfold owed; rw [if_neg (by rw [hp]; simp)]; exact hp'))
    exact wpIn_of_gives (aNew_defer hnew) (aNew_sound hR hk hm hnew (fun q hq => hob q (List.mem_append_right _ hq)) fun x hx => strip_sound (hv x) (needs_mem hne (List.mem_map.2 ⟨x, by simpa using hx, rfl⟩))) hn
  · exact aOld_sound hG hR hk hm h hob hv hn

end
end Go.Ax
end

section
/-
  Regions: in the order of the text, and in whatever order.
-/
set_option linter.unusedSimpArgs false
set_option linter.unusedVariables false
namespace Go.Ax
open Go.RowKit

/-- What of an activation stays: its deferred calls; the temporaries outside W. -/
structure Frm where
  ds : List Deferred
  W : Nat → Prop
  T : Array Value

/-- A state of the evaluator holds of a frame and a world. -/
structure SR (w0 : Base) (ρ : Env) (t : Slots) (m : Mem) (D : Nat → Prop) (nt : Nat) (ds : Frm) (a : Act) (w : World) : Prop where
  rel : Rel w0 ρ m D w
  slots : ∀ j, R w ρ (slot t j) (a.tmps.getD j undef)
  size : a.tmps.size = nt
  defers : a.defers = ds.ds
  frame : ∀ j, ¬ ds.W j → a.tmps.getD j undef = ds.T.getD j undef

section
variable {P : Program} {w0 : Base} {w : World} {ρ : Env} {m : Mem} {D : Nat → Prop} {key : Nat} {G : Ctx} {t : Slots} {nt : Nat} {ds : Frm} {a : Act}

theorem SR.opd (h : SR w0 ρ t m D nt ds a w) (x : Operand) : R w ρ (opd t x) (a.eval x) := by
  cases x with
  | tmp j => exact h.slots j
  | const v => exact .v
  | global g => exact .v
  | func f => exact .fn (cs := []) (vs := []) rfl (fun i a x h => by simp at h)

theorem put_getD (d : Option Tmp) (v : Value) (j : Nat) (hd : ∀ k, d = some k → k < a.tmps.size) : (a.put d v).tmps.getD j undef = if d = some j then v else a.tmps.getD j undef := by
  cases d with
  | none => simp [Act.put]
  | some k =>
    have hk := hd k rfl
    simp only [Act.put, Option.some.injEq]
    by_cases e : k = j
    · subst e; simp [Array.getD_eq_getD_getElem?, Array.getElem?_setIfInBounds, hk]
    · simp [Array.getD_eq_getD_getElem?, Array.getElem?_setIfInBounds, e]
theorem put_size (d : Option Tmp) (v : Value) : (a.put d v).tmps.size = a.tmps.size := by cases d <;> simp [Act.put]
theorem put_defers (d : Option Tmp) (v : Value) : (a.put d v).defers = a.defers := by cases d <;> rfl

theorem slot_put (d : Option Tmp) (x : AV) (j : Nat) : slot (putSlot d x t) j = if d = some j then x else slot t j := by
  cases d with
  | none => simp [putSlot]
  | some k =>
    simp only [putSlot, slot, Option.some.injEq]

/-- Behind an operation. -/
theorem SR.put (h : SR w0 ρ t m D nt ds a w) {w' : World} {ρ' : Env} {m' : Mem} {D' : Nat → Prop} {d : Option Tmp} {x : AV} {v : Value} (hd : ∀ k, d = some k → k < nt ∧ ds.W k) (hr : Rel w0 ρ' m' D' w') (hx : R w' ρ' x v) (hle : ρ.le ρ') (hs : Same ρ.imm w w') :
    SR w0 ρ' (putSlot d x t) m' D' nt ds (a.put d v) w' := by
  refine ⟨hr, fun j => ?_, (put_size d v).trans h.size, (put_defers d v).trans h.defers, fun j hj => ?_⟩
  · rw [put_getD d v j (fun k e => by rw [h.size]; exact (hd k e).1), slot_put]
    split
    · exact hx
    · exact (h.slots j).mono hle hs
  · rw [put_getD d v j (fun k e => by rw [h.size]; exact (hd k e).1)]
    split
    · rename_i e; exact absurd (hd j e).2 hj
    · exact h.frame j hj

theorem guardOf_sound {ops : Array Oper} {g : Nat × Bool} {b : Bool} (h : SR w0 ρ t m D nt ds a w) (hg : guardOf ops (slot t) g = some b) : (yielded ops a.tmps g.1 == some g.2) = b := by
  unfold guardOf at hg
  split at hg
  · rename_i d hd
    have hsl := h.slots d
    have hy : ∀ v, a.tmps.getD d undef = v → yielded ops a.tmps g.1 = match v with | .bool b => some b | _ => none := by
      intro v hv
      unfold yielded
      rw [hd]
      simp only [Option.bind_some]
      rw [Array.getD_eq_getD_getElem?] at hv
      cases hq : a.tmps[d]? with
      | none => rw [hq] at hv; simp at hv; subst hv; simp [undef]
      | some u => rw [hq] at hv; simp at hv; subst hv; cases u <;> rfl
    split at hg
    · rename_i c hc
      cases hg
      rw [hc] at hsl
      generalize hv : a.tmps.getD d undef = v at hsl
      cases hsl
      rw [hy _ hv]
      cases hgw : g.2 <;> cases c <;> simp
    · rename_i q c hc
      cases hg
      rw [hc] at hsl
      generalize hv : a.tmps.getD d undef = v at hsl
      cases hsl with
      | yes hh =>
        cases hh
        rw [hy _ hv]
        cases hgw : g.2 <;> cases c <;> simp
      | no =>
        rw [hy _ hv]
        simp [undef]
    · cases hg
  · cases hg

variable {ro : Option Nat} {n : Nat} {Q : Exit → Act → World → Prop} {ops : Array Oper} {o : Oper} {next : Act → World → Prop}

theorem effOf_u {a : Option AV} {e : Eff} (h : effOf a = some e) : e.u = .none := by
  unfold effOf at h; split at h <;> cases h; rfl
theorem effOf2_u {a : Option (List Prop × AV)} {e : Eff} (h : effOf2 a = some e) : e.u = .none := by
  unfold effOf2 at h; split at h <;> cases h; rfl
theorem aStore_u {t : TypeId} {p x : AV} {e : Eff} (h : aStore P t p x m = some e) : ∃ r y, e.u = .set r y := by
  unfold aStore at h
  (repeat' split at h) <;> first | (cases h; done) | (cases h; exact ⟨_, _, rfl⟩)

theorem aExt_guard {g : Bool} {ρ0 : Operand → AV} {e : Eff} {key : Nat} (h : aExt P key (some g) o ρ0 m = some e) {x : Fam} (hu : e.u = .new x) : ∀ f, (x f).g = some g := by
  unfold aExt at h
  split at h
  · unfold aMake at h
    (repeat' split at h) <;> first | (cases h; done) | skip
    cases h; cases hu; intro f; unfold famN; split <;> rfl
  · unfold aCut at h
    (repeat' split at h) <;> first | (cases h; done) | (cases h; cases hu; done)
  · split at h
    · rename_i hg; cases hg
    · cases h
  · cases h

/-- A guarded operation's rows bear its guard. -/
theorem aOld_guard {g : Bool} {ρ0 : Operand → AV} {e : Eff} (h : aOld P G key (some g) o ρ0 m = some e) {x : Fam} (hu : e.u = .new x) : ∀ f, (x f).g = some g := by
  have n1 : ∀ {e : Eff}, e.u = .none → e.u = .new x → False := fun h1 h2 => by rw [h1] at h2; cases h2
  unfold aOld at h
  split at h
  · split at h
    · split at h
      · unfold aMut at h
        dsimp only at h
        split at h
        · split at h
          · rename_i hu2; cases h; rw [hu2] at hu; cases hu
          · cases h
        · cases h
      · exact (n1 (effOf2_u h) hu).elim
    · cases h
  · split at h
    · split at h
      · exact (n1 (effOf2_u h) hu).elim
      · cases h
    · cases h; cases hu
    · cases h
  · split at h
    · exact aExt_guard h hu
    unfold aop at h
    dsimp only at h
    split at h
    case h_4 =>
      split at h
      · cases h; simp only [aAlloc] at hu; cases hu; intro f; dsimp only; split <;> rfl
      · cases h
    case h_5 =>
      split at h
      · split at h
        · cases h; simp only [aAlloc] at hu; cases hu; intro f; dsimp only; split <;> rfl
        · cases h
      · cases h
    case h_7 => obtain ⟨r, y, h2⟩ := aStore_u h; rw [h2] at hu; cases hu
    case h_9 =>
      unfold aBuildSlice at h
      (repeat' split at h) <;> first | (cases h; done) | skip
      all_goals first
        | (cases h; cases hu; done)
        | (cases h; cases hu; intro f; dsimp only; split <;> rfl)
    all_goals
      first
        | exact (n1 (effOf_u h) hu).elim
        | exact (n1 (effOf2_u h) hu).elim
        | ((repeat' split at h) <;> first | (cases h; done) | exact (n1 (effOf_u h) hu).elim | (cases h; cases hu; done))

theorem aNew_guard {g : Bool} {ρ0 : Operand → AV} {e : Eff} (h : aNew P key (some g) o ρ0 m = some e) {x : Fam} (hu : e.u = .new x) : ∀ f, (x f).g = some g := by
  unfold aNew mapLook mapLookR mapPut mapDel mapLen boolE clrE at h
  (repeat' split at h) <;> first | (cases h; done) | (cases h; cases hu; done) | (cases h; cases hu; intro f; unfold famMap; split <;> rfl)
theorem aStep_guard {g : Bool} {ρ0 : Operand → AV} {e : Eff} (h : aStep P G key (some g) o ρ0 m = some e) {x : Fam} (hu : e.u = .new x) : ∀ f, (x f).g = some g := by
  unfold aStep at h
  split at h
  · rename_i hn; cases h; exact aNew_guard hn hu
  · exact aOld_guard h hu

theorem Rel.dead (h : Rel w0 ρ m D w) (hk : ¬ D key) {x : Fam} (hx : ∀ f, (x f).g = some false) : Rel w0 ρ (insRow key x m) (fun r => D r ∨ r = key) w := by
  have hkl : look m key = none := by
    cases hl : look m key with
    | none => rfl
    | some y => exact absurd (h.key _ _ hl) hk
  have hlk : ∀ r y f, look (insRow key x m) r = some y → (y f).g ≠ some false → look m r = some y := fun r y f hy hg => by
    rw [look_ins hkl] at hy
    split at hy
    · cases hy; exact absurd (hx f) hg
    · exact hy
  refine ⟨h.below, h.imm2, fun r hr => .inl (h.dom r hr), fun r y hy => ?_, fun r y f hy hg => h.row r y f (hlk r y f hy hg) hg,
    fun r y f r' y' f' hy hy' hg hg' hc hc' he => h.sep r y f r' y' f' (hlk r y f hy hg) (hlk r' y' f' hy' hg') hg hg' hc hc' he, h.fixed (fun _ _ => rfl) (fun _ _ ho r y f hy hg => ho r y f (hlk r y f hy hg) hg) (fun _ _ h => h), h.kept⟩
  rw [look_ins hkl] at hy
  split at hy
  · rename_i e; exact .inr e.symm
  · exact .inl (h.key r y hy)

/-- One operation of a region, guarded or not. -/
theorem stepE_sound (hG : CtxOK P G) (h : SR w0 ρ t m D nt ds a w) (hk : ¬ D key) {m' : Mem} (hm : ∀ r x, look m' r = some x → look m r = some x) {e : Eff} (he : stepE P G ops key o t m' = some e) (hob : ∀ q ∈ e.ob, q) (hd : ∀ k, o.dst = some k → k < nt ∧ ds.W k)
    (hn : ∀ ρ' v w', ρ.le ρ' → SR w0 ρ' (putSlot o.dst e.val t) (e.u.app key m) (fun r => D r ∨ r = key) nt ds (a.put o.dst v) w' → next (a.put o.dst v) w') :
    if Region.wanted o (yielded ops a.tmps) then o.wpIn (Fw ro) n P a w next Q else (∀ f, o.about P w a.eval = some f → (Fw ro).fn f) ∧ next (a.put o.dst undef) w := by
  unfold stepE at he
  split at he
  · rename_i hg
    split at he
    · rename_i e0 hs
      cases he
      rw [if_pos (by simp [Region.wanted, hg])]
      exact aStep_sound hG h.rel hk hm hs hob h.opd fun v w' ⟨ρ', h1, h2, h3, h4⟩ => hn ρ' v w' h3 (h.put hd h2 h1 h3 h4)
    · cases he
  · rename_i g hg
    split at he
    · rename_i b hb
      split at he
      · rename_i e0 hs
        split at he
        · rename_i hmild
          cases he
          have hw : Region.wanted o (yielded ops a.tmps) = b := by
            simp only [Region.wanted, hg]
            exact guardOf_sound h hb
          rw [hw]
          cases b with
          | true =>
            simp only [if_true]
            exact aStep_sound hG h.rel hk hm hs (conj_map_imp hob rfl) h.opd fun v w' ⟨ρ', h1, h2, h3, h4⟩ => hn ρ' v w' h3 (h.put hd h2 (.yes h1) h3 h4)
          | false =>
            simp only [Bool.false_eq_true, if_false]
            refine ⟨fun _ _ => trivial, hn ρ undef w (.refl _) (h.put hd ?_ .no (.refl _) (.refl _ _))⟩
            cases hu : e0.u with
            | none => exact h.rel.sub (fun _ _ h => h) (fun _ h => .inl h)
            | new x => exact h.rel.dead hk (aStep_guard hs hu)
            | set r y => rw [hu] at hmild; simp [Upd.mild] at hmild
            | swap r y => rw [hu] at hmild; simp [Upd.mild] at hmild
            | many s y => rw [hu] at hmild; simp [Upd.mild] at hmild
        · cases he
          have hw : Region.wanted o (yielded ops a.tmps) = b := by
            simp only [Region.wanted, hg]
            exact guardOf_sound h hb
          rw [hw]
          cases b with
          | true =>
            simp only [if_true]
            exact aStep_sound hG h.rel hk hm hs (conj_map_imp hob rfl) h.opd fun v w' ⟨ρ', h1, h2, h3, h4⟩ => hn ρ' v w' h3 (h.put hd h2 (.yes h1) h3 h4)
          | false =>
            simp only [Bool.false_eq_true, if_false]
            exact ⟨fun _ _ => trivial, hn ρ undef w (.refl _) (h.put hd (h.rel.sub (fun _ _ h => h) (fun _ h => .inl h)) .no (.refl _) (.refl _ _))⟩
      · cases he
    · cases he

theorem conj_iff : ∀ {l : List Prop} {k : Prop}, conj l k ↔ (∀ p ∈ l, p) ∧ k
  | [], k => by simp [conj]
  | p :: ps, k => by simp only [conj, conj_iff (l := ps), List.forall_mem_cons, and_assoc]

theorem SR.weaken (h : SR w0 ρ t m D nt ds a w) {D' : Nat → Prop} (hD : ∀ r, D r → D' r) : SR w0 ρ t m D' nt ds a w :=
  ⟨h.rel.sub (fun _ _ h => h) hD, h.slots, h.size, h.defers, h.frame⟩

/-- The operations fit the frame. -/
def fitsOps (nt : Nat) (l : List Oper) : Bool := l.all fun o => match o.dst with | some d => decide (d < nt) | none => true
theorem fitsOps_mem {l : List Oper} (h : fitsOps nt l = true) {o : Oper} (ho : o ∈ l) : ∀ k, o.dst = some k → k < nt := fun k hk => by
  unfold fitsOps at h
  rw [List.all_eq_true] at h
  have := h o ho
  rw [hk] at this
  simpa using this

theorem wpOpsIn_cons' {i : Nat} {rest : List Nat} {o : Oper} (ho : ops[i]? = some o) : wpOpsIn (Fw ro) n P ops Q (i :: rest) a w =
    if Region.wanted o (yielded ops a.tmps) then o.wpIn (Fw ro) n P a w (wpOpsIn (Fw ro) n P ops Q rest) Q else (∀ f, o.about P w a.eval = some f → (Fw ro).fn f) ∧ wpOpsIn (Fw ro) n P ops Q rest (a.put o.dst undef) w := by
  simp only [wpOpsIn, ho]

/-- In the order of the text. -/
theorem regP_text (hG : CtxOK P G) {base : Nat} {K : St → Prop} : ∀ (rest : List Oper) (i : Nat) (s : St) (ρ : Env) (a : Act) (w : World),
    regP P G none ops base rest i s K → (∀ j, rest[j]? = ops[i + j]?) → (∀ o ∈ rest, ∀ k, o.dst = some k → k < nt ∧ ds.W k) → SR w0 ρ s.t s.m (· < base + i) nt ds a w →
    (∀ s' ρ' a' w', K s' → s'.nx = s.nx → ρ.le ρ' → SR w0 ρ' s'.t s'.m (· < base + i + rest.length) nt ds a' w' → Q .normal a' w') → wpOpsIn (Fw ro) n P ops Q (List.range' i rest.length) a w
  | [], i, s, ρ, a, w, h, _, _, hs, hK => by
    simp only [regP] at h
    exact hK s ρ a w h rfl (.refl _) hs
  | o :: rest, i, s, ρ, a, w, h, hops, hfit, hs, hK => by
    have ho : ops[i]? = some o := by simpa using (hops 0).symm
    simp only [regP, memFor, rootOK, optK, boolK] at h
    split at h
    · rename_i e he
      obtain ⟨hob, h⟩ := conj_iff.1 h
      simp only [List.length_cons, List.range'_succ]
      rw [wpOpsIn_cons' ho]
      refine stepE_sound hG hs (by omega) (fun _ _ h => h) he hob (hfit o (by simp)) fun ρ' v w' hle hs' => ?_
      have hs2 := hs'.weaken (D' := (· < base + (i + 1))) (fun r hr => by rcases hr with hr | hr <;> omega)
      refine regP_text hG rest (i + 1) _ ρ' _ w' h (fun j => by have := hops (j + 1); simpa [Nat.add_assoc, Nat.add_comm 1 j] using this) (fun o ho => hfit o (by simp [ho])) hs2 fun s' ρ'' a' w'' k1 k2 kle k3 => hK s' ρ'' a' w'' k1 k2 (hle.trans kle) (k3.weaken fun r hr => by simp only [List.length_cons]; omega)
    · exact h.elim

end
end Go.Ax
end

section
/-
  Regions that draw their order: what the text's order comes to, every order comes to.
-/
set_option linter.unusedSimpArgs false
set_option linter.unusedVariables false
namespace Go.Ax
open Go.RowKit

/-- 0: touches no rows; 1: looks at rows, or makes new ones; 2: changes rows. -/
def opKind : Op → Nat
  | .load _ _ => 1
  | .alloc _ => 1
  | .box _ _ => 1
  | .buildSlice _ _ _ => 1
  | .makeSlice _ _ _ => 1
  | .call ⟨.builtin .append, _, _⟩ => 3
  | .store _ _ _ => 2
  | .makeMap _ _ => 1
  | .lookup _ _ _ _ => 1
  | .mapUpdate _ _ _ _ => 2
  | .call ⟨.builtin .delete, _, _⟩ => 2
  | .call ⟨.builtin .clear, _, _⟩ => 2
  | .call ⟨.builtin .len, _, _⟩ => 1
  | .binOp .eql _ _ _ _ => 1
  | .binOp .neq _ _ _ _ => 1
  | .call ⟨.value _, _, _⟩ => 1
  | .call ⟨.invoke _ _, _, _⟩ => 1
  | _ => 0

def callsAt (h : Hot) (i : Nat) : Option Nat := match rootOf h.root i with
  | some (.calls q) => some q
  | _ => none
/-- 4: a call that may write rows. -/
def kindAt (h : Hot) (i : Nat) (op : Op) : Nat := if callAt h i = true ∨ (callsAt h i).isSome = true then 4 else opKind op
/-- A call that writes one row, and an operation that looks at others alone. -/
def callsOK (h : Hot) (i j : Nat) (x y : Oper) : Bool := match callsAt h i with
  | some q => opKind x.op == 1 && opKind y.op == 1 && kindAt h j y.op == 1 && (hideOf h.hide j).contains (.slot q)
  | none => false
def rootIn (h : Hot) (i j : Nat) : Bool := match rootOf h.root i with
  | some r => (hideOf h.hide j).contains r
  | none => false
/-- The root's slot is another one. -/
def Root.off (d : Option Tmp) : Root → Bool
  | .slot q => d != some q
  | .made _ => true
  | .call => true
  | .calls q => d != some q
def rootsOff (h : Hot) (i : Nat) (d : Option Tmp) : Bool := (hideOf h.hide i).all (Root.off d) && match rootOf h.root i with
  | some r => r.off d
  | none => true

/-- Two operations that may change places. -/
def comm (h : Hot) (ops : Array Oper) (i j : Nat) (x y : Oper) : Bool :=
  x.apart ops y && (opKind x.op == 0 || opKind y.op == 0 || ((kindAt h i x.op == 1 || ((kindAt h i x.op == 2 || kindAt h i x.op == 3) && rootIn h i j)) && (kindAt h j y.op == 1 || ((kindAt h j y.op == 2 || kindAt h j y.op == 3) && rootIn h j i))) || callsOK h i j x y || callsOK h j i y x) && !(y.after.any fun e => e.on == i && Region.binds .any e) && !(x.after.any fun e => e.on == j && Region.binds .any e) && rootsOff h i y.dst && rootsOff h j x.dst

def maskOf (acc : List Nat) (o : Oper) : Nat := o.after.toList.foldl (fun s e => if Region.binds .any e then s ||| 2 ^ e.on ||| acc.getD e.on 0 else s) 0
def masks : List Oper → List Nat → List Nat
  | [], acc => acc
  | o :: rest, acc => masks rest (acc ++ [maskOf acc o])

def drawOK (h : Hot) (ops : Array Oper) : Bool :=
  let ms := masks ops.toList []
  (List.range ops.size).all fun i => match ops[i]? with
    | some y => (y.after.all fun e => !Region.binds .any e || decide (e.on < i)) && (List.range i).all fun j => (ms.getD i 0).testBit j || match ops[j]? with
      | some x => comm h ops j i x y
      | none => false
    | none => false

section
variable {P : Program} {G : Ctx} {ops : Array Oper} {base : Nat}

theorem masks_prefix : ∀ (l : List Oper) (acc : List Nat) (k : Nat), k < acc.length → (masks l acc).getD k 0 = acc.getD k 0
  | [], acc, k, _ => rfl
  | o :: rest, acc, k, h => by
    simp only [masks]
    rw [masks_prefix rest _ k (by simp; omega)]
    simp [List.getD, List.getElem?_append_left h]

theorem masks_at : ∀ (l : List Oper) (acc : List Nat) (k : Nat) (o : Oper), l[k]? = some o → ∃ pre, (masks l acc).getD (acc.length + k) 0 = maskOf pre o ∧ ∀ q, pre.getD q 0 = (masks l acc).getD q 0 ∨ pre.getD q 0 = 0
  | [], acc, k, o, h => by simp at h
  | o' :: rest, acc, 0, o, h => by
    simp at h; subst h
    refine ⟨acc, ?_, fun q => ?_⟩
    · simp only [masks, Nat.add_zero]
      rw [masks_prefix _ _ _ (by simp)]
      simp [List.getD]
    · by_cases hq : q < acc.length
      · left
        simp only [masks]
        rw [masks_prefix _ _ _ (by simp; omega)]
        simp [List.getD, List.getElem?_append_left hq]
      · right
        simp [List.getD, List.getElem?_eq_none (Nat.le_of_not_lt hq)]
  | o' :: rest, acc, k + 1, o, h => by
    simp at h
    obtain ⟨pre, h1, h2⟩ := masks_at rest (acc ++ [maskOf acc o']) k o h
    refine ⟨pre, ?_, fun q => h2 q⟩
    simp only [masks]
    rw [← h1]
    congr 1
    simp; omega

theorem maskOf_bit {acc : List Nat} {o : Oper} {b : Nat} (h : (maskOf acc o).testBit b = true) : ∃ e ∈ o.after, Region.binds .any e = true ∧ (e.on = b ∨ (acc.getD e.on 0).testBit b = true) := by
  unfold maskOf at h
  have key : ∀ (l : List Edge) (s : Nat), (l.foldl (fun s e => if Region.binds .any e then s ||| 2 ^ e.on ||| acc.getD e.on 0 else s) s).testBit b = true →
      s.testBit b = true ∨ ∃ e ∈ l, Region.binds .any e = true ∧ (e.on = b ∨ (acc.getD e.on 0).testBit b = true) := by
    intro l
    induction l with
    | nil => intro s h; exact .inl h
    | cons e l ih =>
      intro s h
      rw [List.foldl_cons] at h
      rcases ih _ h with h | ⟨e', he', h'⟩
      · split at h
        · rename_i hb
          rw [Nat.testBit_or, Nat.testBit_or, Bool.or_eq_true, Bool.or_eq_true] at h
          rcases h with (h | h) | h
          · exact .inl h
          · refine .inr ⟨e, by simp, hb, .inl ?_⟩
            simpa [Nat.testBit_two_pow] using h
          · exact .inr ⟨e, by simp, hb, .inr h⟩
        · exact .inl h
      · exact .inr ⟨e', by simp [he'], h'⟩
  rcases key _ _ h with h | ⟨e, he, h⟩
  · simp at h
  · exact ⟨e, by simpa using he, h⟩

theorem mask_bit {i b : Nat} {o : Oper} (ho : ops[i]? = some o) (h : ((masks ops.toList []).getD i 0).testBit b = true) :
    ∃ e ∈ o.after, Region.binds .any e = true ∧ (e.on = b ∨ ((masks ops.toList []).getD e.on 0).testBit b = true) := by
  obtain ⟨pre, h1, h2⟩ := masks_at ops.toList [] i o (by simpa using ho)
  simp only [List.length_nil, Nat.zero_add] at h1
  rw [h1] at h
  obtain ⟨e, he, hb, h3⟩ := maskOf_bit h
  refine ⟨e, he, hb, h3.imp id fun h => ?_⟩
  rcases h2 e.on with e1 | e1
  · rw [← e1]; exact h
  · rw [e1] at h; simp at h

/-! ### What an operation's outcome hangs on -/

theorem aPure_congr {o : Oper} {ρ ρ' : Operand → AV} (h : ∀ x ∈ o.op.operands, ρ x = ρ' x) (hs : ∀ cs b, o.op ≠ .select cs b) : aPure P ρ o = aPure P ρ' o := by
  unfold aPure
  rw [List.map_congr_left (fun x hx => h x (by simpa using hx))]
  rw [execOp_congr o hs fun x hx => by rw [h x hx]]

theorem aBuild_congr {ρ ρ' : Operand → AV} {t : TypeId} {parts : List (Nat × Operand)} (h : ∀ p ∈ parts, ρ p.2 = ρ' p.2) : aBuild P ρ t parts = aBuild P ρ' t parts := by
  have e : parts.map (fun (i, x) => (i, ρ x)) = parts.map fun (i, x) => (i, ρ' x) := List.map_congr_left fun p hp => by
    obtain ⟨i, x⟩ := p
    have := h _ hp
    dsimp only at this ⊢
    rw [this]
  unfold aBuild
  rw [e]
theorem aBuildSlice_congr {ρ ρ' : Operand → AV} {key : Nat} {t : TypeId} {len : Nat} {g : Option Bool} {parts : List (Nat × Operand)} (h : ∀ p ∈ parts, ρ p.2 = ρ' p.2) : aBuildSlice P ρ key t len parts g = aBuildSlice P ρ' key t len parts g := by
  have e : parts.map (fun (i, x) => (i, ρ x)) = parts.map fun (i, x) => (i, ρ' x) := List.map_congr_left fun p hp => by
    obtain ⟨i, x⟩ := p
    have := h _ hp
    dsimp only at this ⊢
    rw [this]
  unfold aBuildSlice
  rw [e]

theorem aPick_congr {ρ ρ' : Operand → AV} {c a b : Operand} (h1 : ρ c = ρ' c) (h2 : ρ a = ρ' a) (h3 : ρ b = ρ' b) : aPick ρ c a b = aPick ρ' c a b := by
  unfold aPick
  rw [h1]
  cases boolOf (strip (ρ' c)) with
  | none => rfl
  | some t =>
    simp only
    split
    · rw [h3]
    · rw [h2]
    · rfl

theorem aop_congr {key : Nat} {g : Option Bool} {o : Oper} {ρ ρ' : Operand → AV} {m : Mem} (hs : ∀ cs b, o.op ≠ .select cs b) (h : ∀ x ∈ o.op.operands, ρ x = ρ' x) : aop P key g o ρ m = aop P key g o ρ' m := by
  have hp : aPure P (fun x => strip (ρ x)) o = aPure P (fun x => strip (ρ' x)) o := aPure_congr (fun x hx => by rw [h x hx]) hs
  unfold aop
  dsimp only
  rw [hp]
  obtain ⟨dst, op, type, pos, after, guard⟩ := o
  dsimp only at h ⊢
  cases op
  case pick c a b =>
    dsimp only
    rw [aPick_congr (h c (by simp [Op.operands])) (h a (by simp [Op.operands])) (h b (by simp [Op.operands]))]
  case build t parts =>
    dsimp only
    rw [aBuild_congr (ρ := fun x => strip (ρ x)) (ρ' := fun x => strip (ρ' x)) fun p hp' => by rw [h p.2 (by simp [Op.operands]; exact ⟨p.1, by simpa using hp'⟩)]]
  case buildSlice t len parts =>
    dsimp only
    rw [aBuildSlice_congr (ρ := fun x => strip (ρ x)) (ρ' := fun x => strip (ρ' x)) fun p hp' => by rw [h p.2 (by simp [Op.operands]; exact ⟨p.1, by simpa using hp'⟩)]]
  case makeFunc fn first cap =>
    have e : cap.toList.map (fun x => strip (ρ x)) = cap.toList.map fun x => strip (ρ' x) := List.map_congr_left fun x hx => by rw [h x (by simp [Op.operands]; exact .inr (by simpa using hx))]
    cases fn <;> first | rfl | (dsimp only; rw [e])
  case call c =>
    obtain ⟨callee, args, ats⟩ := c
    cases callee
    case value f => dsimp only
    case invoke r s => dsimp only
    case builtin b =>
      have e : args.toList.map (fun x => strip (ρ x)) = args.toList.map fun x => strip (ρ' x) := List.map_congr_left fun x hx => by rw [h x (by simp [Op.operands, Call.operands]; simpa using hx)]
      cases b <;> first | rfl | (dsimp only; rw [e])
  case move x => dsimp only; rw [h x (by simp [Op.operands])]
  case assign x => dsimp only; rw [h x (by simp [Op.operands])]
  case box t x => dsimp only; rw [h x (by simp [Op.operands])]
  case load t x => dsimp only; rw [h x (by simp [Op.operands])]
  case store t x y => dsimp only; rw [h x (by simp [Op.operands]), h y (by simp [Op.operands])]
  case fieldAddr t x f => dsimp only; rw [h x (by simp [Op.operands])]
  case field t x f => dsimp only; rw [h x (by simp [Op.operands])]
  case indexAddr t x y => dsimp only; rw [h x (by simp [Op.operands]), h y (by simp [Op.operands])]
  case makeInterface t x => dsimp only; rw [h x (by simp [Op.operands])]
  case extract x i => dsimp only; rw [h x (by simp [Op.operands])]
  case nilCheck x => dsimp only; rw [h x (by simp [Op.operands])]
  case typeAssert x t u ok => cases ok <;> (dsimp only; rw [h x (by simp [Op.operands])])
  case binOp op t x y u => cases op <;> first | rfl | (dsimp only; rw [h x (by simp [Op.operands]), h y (by simp [Op.operands])])
  all_goals rfl

theorem aExt_congr {key : Nat} {g : Option Bool} {o : Oper} {ρ ρ' : Operand → AV} {m : Mem} (h : ∀ x ∈ o.op.operands, ρ x = ρ' x) : aExt P key g o ρ m = aExt P key g o ρ' m := by
  unfold aExt
  split
  · rename_i t l c ho
    rw [h l (by simp [ho, Op.operands]), h c (by simp [ho, Op.operands])]
  · rename_i t x lo hi ho
    rw [h x (by simp [ho, Op.operands])]
    have e1 : lo.map (fun y => strip (ρ y)) = lo.map (fun y => strip (ρ' y)) := by
      cases lo with
      | none => rfl
      | some y => simp only [Option.map_some]; rw [h y (by simp [ho, Op.operands])]
    have e2 : hi.map (fun y => strip (ρ y)) = hi.map (fun y => strip (ρ' y)) := by
      cases hi with
      | none => rfl
      | some y => simp only [Option.map_some]; rw [h y (by simp [ho, Op.operands])]
    rw [e1, e2]
  · rename_i args ats ho
    split
    · rename_i s x t u hargs hats
      have m1 : s ∈ args := by have : s ∈ args.toList := by rw [hargs]; simp
                               simpa using this
      have m2 : x ∈ args := by have : x ∈ args.toList := by rw [hargs]; simp
                               simpa using this
      rw [h s (by simp [ho, Op.operands, Call.operands, m1]), h x (by simp [ho, Op.operands, Call.operands, m2])]
    · rfl
  · rfl

theorem aOld_congr {key : Nat} {g : Option Bool} {o : Oper} {ρ ρ' : Operand → AV} {m : Mem} (hs : ∀ cs b, o.op ≠ .select cs b) (h : ∀ x ∈ o.op.operands, ρ x = ρ' x) : aOld P G key g o ρ m = aOld P G key g o ρ' m := by
  have ha := aop_congr (P := P) (key := key) (g := g) (m := m) hs h
  unfold aOld
  split
  · rename_i f args ats ho
    rw [h f (by simp [ho, Op.operands, Call.operands])]
    rw [List.map_congr_left fun x hx => by rw [h x (by simp [ho, Op.operands, Call.operands]; exact .inr (by simpa using hx))]]
  · rename_i r name args ats ho
    rw [h r (by simp [ho, Op.operands, Call.operands])]
    rw [List.map_congr_left fun x hx => by rw [h x (by simp [ho, Op.operands, Call.operands]; exact .inr (by simpa using hx))]]
  · split
    · exact aExt_congr h
    · exact ha

theorem aNew_congr {key : Nat} {g : Option Bool} {o : Oper} {ρ ρ' : Operand → AV} {m : Mem} (h : ∀ x ∈ o.op.operands, ρ x = ρ' x) : aNew P key g o ρ m = aNew P key g o ρ' m := by
  unfold aNew
  split
  · rfl
  · rename_i t x i ok ho
    rw [h x (by simp [ho, Op.operands]), h i (by simp [ho, Op.operands])]
  · rename_i t x i y ho
    rw [h x (by simp [ho, Op.operands]), h i (by simp [ho, Op.operands]), h y (by simp [ho, Op.operands])]
  · rename_i args ats ho
    rw [List.map_congr_left fun x hx => by rw [h x (by simp [ho, Op.operands, Call.operands]; simpa using hx)]]
  · rename_i args ats ho
    rw [List.map_congr_left fun x hx => by rw [h x (by simp [ho, Op.operands, Call.operands]; simpa using hx)]]
  · rename_i args ats ho
    rw [List.map_congr_left fun x hx => by rw [h x (by simp [ho, Op.operands, Call.operands]; simpa using hx)]]
  · rename_i t x y u ho
    rw [h x (by simp [ho, Op.operands]), h y (by simp [ho, Op.operands])]
  · rename_i t x y u ho
    rw [h x (by simp [ho, Op.operands]), h y (by simp [ho, Op.operands])]
  · rfl
theorem aStep_congr {key : Nat} {g : Option Bool} {o : Oper} {ρ ρ' : Operand → AV} {m : Mem} (hs : ∀ cs b, o.op ≠ .select cs b) (h : ∀ x ∈ o.op.operands, ρ x = ρ' x) : aStep P G key g o ρ m = aStep P G key g o ρ' m := by
  unfold aStep
  rw [aNew_congr h, aOld_congr hs h]

end
end Go.Ax
end

section
/-
  Regions that draw their order, continued.
-/
set_option linter.unusedSimpArgs false
set_option linter.unusedVariables false
namespace Go.Ax
open Go.RowKit

section
variable {P : Program} {G : Ctx} {ops : Array Oper} {base : Nat} {hot : Hot}

/-- An operation that touches no rows. -/
theorem aOld_free {key : Nat} {g : Option Bool} {o : Oper} {ρ0 : Operand → AV} {m : Mem} {e : Eff} (hk : opKind o.op = 0) (h : aOld P G key g o ρ0 m = some e) : e.u = .none ∧ ∀ key' m', aOld P G key' g o ρ0 m' = some e := by
  unfold aOld at h
  split at h
  · rename_i f args ats ho; rw [ho] at hk; simp [opKind] at hk
  · rename_i r name args ats ho; rw [ho] at hk; simp [opKind] at hk
  · rename_i hn1 hn2
    by_cases hext : isExt o.op = true
    · rw [hext] at h
      dsimp only at h
      have e2 : ∀ key' m', aOld P G key' g o ρ0 m' = aExt P key' g o ρ0 m' := fun key' m' => by
        unfold aOld
        split
        · rename_i f args ats ho; exact absurd ho (hn1 _ _ _)
        · rename_i r name args ats ho; exact absurd ho (hn2 _ _ _ _)
        · rw [hext]
      simp only [e2]
      unfold aExt at h ⊢
      split at h
      · rename_i ho; rw [ho] at hk; simp [opKind] at hk
      · refine ⟨?_, fun _ _ => h⟩
        unfold aCut at h
        (repeat' split at h) <;> first | (cases h; done) | (cases h; rfl)
      · rename_i ho; rw [ho] at hk; simp [opKind] at hk
      · cases h
    rw [Bool.not_eq_true] at hext
    rw [hext] at h
    dsimp only at h
    have e2 : ∀ key' m', aOld P G key' g o ρ0 m' = aop P key' g o ρ0 m' := fun key' m' => by
      unfold aOld
      split
      · rename_i f args ats ho; exact absurd ho (hn1 _ _ _)
      · rename_i r name args ats ho; exact absurd ho (hn2 _ _ _ _)
      · rw [hext]
    simp only [e2]
    unfold aop at h ⊢
    dsimp only at h ⊢
    obtain ⟨dst, op, type, pos, after, guard⟩ := o
    dsimp only at h hk ⊢
    cases op
    case alloc => simp [opKind] at hk
    case box => simp [opKind] at hk
    case load => simp [opKind] at hk
    case store => simp [opKind] at hk
    case buildSlice => simp [opKind] at hk
    case pick => exact ⟨effOf2_u h, fun _ _ => h⟩
    case indexAddr => exact ⟨effOf2_u h, fun _ _ => h⟩
    case move => cases h; exact ⟨rfl, fun _ _ => rfl⟩
    case assign => cases h; exact ⟨rfl, fun _ _ => rfl⟩
    case makeFunc fn first cap =>
      cases fn <;> dsimp only at h ⊢ <;> first | exact ⟨effOf_u h, fun _ _ => h⟩ | skip
      refine ⟨?_, fun _ _ => h⟩
      split at h <;> cases h
      rfl
    case makeInterface t x =>
      refine ⟨?_, fun _ _ => h⟩
      dsimp only at h
      split at h <;> cases h
      rfl
    case extract x i =>
      refine ⟨?_, fun _ _ => h⟩
      dsimp only at h
      split at h <;> exact effOf_u h
    case nilCheck x =>
      refine ⟨?_, fun _ _ => h⟩
      dsimp only at h
      split at h
      · cases h; rfl
      · exact effOf_u h
    case typeAssert x t u ok =>
      cases ok <;> dsimp only at h ⊢
      all_goals
        refine ⟨?_, fun _ _ => h⟩
        (repeat' split at h) <;> first | (cases h; done) | exact effOf_u h | (cases h; rfl)
    case binOp op t x y u =>
      cases op <;> dsimp only at h ⊢ <;> first | exact ⟨effOf_u h, fun _ _ => h⟩ | skip
      all_goals
        refine ⟨?_, fun _ _ => h⟩
        split at h
        · cases h; rfl
        · exact effOf_u h
    case call c =>
      obtain ⟨callee, args, ats⟩ := c
      cases callee
      case value f => simp [opKind] at hk
      case invoke r s => simp [opKind] at hk
      case builtin b =>
        cases b <;> dsimp only at h ⊢ <;> first | exact ⟨effOf_u h, fun _ _ => h⟩ | skip
        all_goals (simp [opKind] at hk; done)
    all_goals exact ⟨effOf_u h, fun _ _ => h⟩

/-- An operation that looks at rows or makes new ones. -/
theorem aOld_mild {key : Nat} {g : Option Bool} {o : Oper} {ρ0 : Operand → AV} {m : Mem} {e : Eff} (hk : opKind o.op = 1) (h : aOld P G key g o ρ0 m = some e) (hm : ∀ s n, e.u ≠ .many s n) : e.u = .none ∨ ∃ x, e.u = .new x := by
  unfold aOld at h
  split at h
  · split at h
    · split at h
      · obtain ⟨_, _, _, _, _, _, ⟨s, n, hu⟩ | ⟨y, hu⟩⟩ := aMut_inv h
        · exact absurd hu (hm s n)
        · exact .inr ⟨y, hu⟩
      · exact .inl (effOf2_u h)
    · cases h
  · split at h
    · split at h
      · exact .inl (effOf2_u h)
      · cases h
    · cases h; exact .inl rfl
    · cases h
  · rename_i hn1 hn2
    split at h
    · unfold aExt at h
      split at h
      · unfold aMake at h
        (repeat' split at h) <;> first | (cases h; done) | (cases h; exact .inr ⟨_, rfl⟩)
      · rename_i ho; rw [ho] at hk; simp [opKind] at hk
      · rename_i ho; rw [ho] at hk; simp [opKind] at hk
      · cases h
    rename_i hx2
    clear hx2
    unfold aop at h
    dsimp only at h
    obtain ⟨dst, op, type, pos, after, guard⟩ := o
    dsimp only at h hk hn1 hn2
    cases op <;> (try (simp [opKind] at hk; done))
    case makeSlice => exact .inl (effOf_u h)
    case makeMap => exact .inl (effOf_u h)
    case lookup => exact .inl (effOf_u h)
    case binOp op t x y u =>
      cases op <;> dsimp only at h <;> first | exact .inl (effOf_u h) | skip
      all_goals
        split at h
        · cases h; exact .inl rfl
        · exact .inl (effOf_u h)
    case call c =>
      obtain ⟨callee, args, ats⟩ := c
      cases callee with
      | value f => exact absurd rfl (hn1 f args ats)
      | invoke r s => exact absurd rfl (hn2 r s args ats)
      | builtin b =>
        cases b <;> (try (simp [opKind] at hk; done))
        dsimp only at h
        left
        (repeat' split at h) <;> first | (cases h; done) | exact effOf_u h | (cases h; rfl)
    case alloc =>
      dsimp only at h
      split at h <;> cases h
      exact .inr ⟨_, rfl⟩
    case box =>
      dsimp only at h
      split at h
      · split at h <;> cases h
        exact .inr ⟨_, rfl⟩
      · cases h
    case load => exact .inl (effOf2_u h)
    case buildSlice =>
      dsimp only at h
      unfold aBuildSlice at h
      (repeat' split at h) <;> first | (cases h; done) | skip
      all_goals first
        | (cases h; exact .inl rfl)
        | (cases h; exact .inr ⟨_, rfl⟩)


/-- The operations on maps and pointers: what they look at, what they change. -/
theorem aNew_kind {key : Nat} {g : Option Bool} {o : Oper} {ρ0 : Operand → AV} {m : Mem} {e : Eff} (h : aNew P key g o ρ0 m = some e) : (opKind o.op = 1 ∧ (e.u = .none ∨ ∃ x, e.u = .new x)) ∨ (opKind o.op = 2 ∧ ∃ r x y, e.u = .set r x ∧ look m r = some y) := by
  unfold aNew mapLook mapLookR mapPut mapDel mapLen boolE clrE at h
  split at h
  · rename_i ho
    rw [ho]
    (repeat' split at h) <;> first | (cases h; done) | (cases h; exact .inl ⟨rfl, .inr ⟨_, rfl⟩⟩)
  · rename_i ho
    rw [ho]
    (repeat' split at h) <;> first | (cases h; done) | (cases h; exact .inl ⟨rfl, .inl rfl⟩)
  · rename_i ho
    rw [ho]
    (repeat' split at h) <;> first | (cases h; done) | (cases h; exact .inr ⟨rfl, _, _, _, rfl, by assumption⟩)
  · rename_i ho
    rw [ho]
    (repeat' split at h) <;> first | (cases h; done) | (cases h; exact .inr ⟨rfl, _, _, _, rfl, by assumption⟩)
  · rename_i ho
    rw [ho]
    (repeat' split at h) <;> first | (cases h; done) | (cases h; exact .inr ⟨rfl, _, _, _, rfl, by assumption⟩)
  · rename_i ho
    rw [ho]
    (repeat' split at h) <;> first | (cases h; done) | (cases h; exact .inl ⟨rfl, .inl rfl⟩)
  · rename_i ho
    rw [ho]
    (repeat' split at h) <;> first | (cases h; done) | (cases h; exact .inl ⟨rfl, .inl rfl⟩)
  · rename_i ho
    rw [ho]
    (repeat' split at h) <;> first | (cases h; done) | (cases h; exact .inl ⟨rfl, .inl rfl⟩)
  · cases h
theorem aNew_none {key : Nat} {g : Option Bool} {o : Oper} {ρ0 : Operand → AV} {m : Mem} (h1 : opKind o.op ≠ 1) (h2 : opKind o.op ≠ 2) : aNew P key g o ρ0 m = none := by
  cases h : aNew P key g o ρ0 m with
  | none => rfl
  | some e =>
    rcases aNew_kind h with ⟨k, _⟩ | ⟨k, _⟩
    · exact absurd k h1
    · exact absurd k h2
theorem aStep_free {key : Nat} {g : Option Bool} {o : Oper} {ρ0 : Operand → AV} {m : Mem} {e : Eff} (hk : opKind o.op = 0) (h : aStep P G key g o ρ0 m = some e) : e.u = .none ∧ ∀ key' m', aStep P G key' g o ρ0 m' = some e := by
  have hn : ∀ key m, aStep P G key g o ρ0 m = aOld P G key g o ρ0 m := fun key m => by
    unfold aStep
    rw [aNew_none (by omega) (by omega)]
  rw [hn] at h
  simp only [hn]
  exact aOld_free hk h
theorem aStep_mild {key : Nat} {g : Option Bool} {o : Oper} {ρ0 : Operand → AV} {m : Mem} {e : Eff} (hk : opKind o.op = 1) (h : aStep P G key g o ρ0 m = some e) (hm : ∀ s n, e.u ≠ .many s n) : e.u = .none ∨ ∃ x, e.u = .new x := by
  unfold aStep at h
  split at h
  · rename_i hn
    cases h
    rcases aNew_kind hn with ⟨_, k⟩ | ⟨k, _⟩
    · exact k
    · omega
  · exact aOld_mild hk h hm

/-! ### The steps ars a relation -/

def stApp (base i : Nat) (o : Oper) (e : Eff) (s : St) : St := { s with t := putSlot o.dst e.val s.t, m := e.u.app (base + i) s.m }

def runL (P : Program) (G : Ctx) (hot : Hot) (ops : Array Oper) (base : Nat) : List (Nat × Oper) → St → St → Prop
  | [], s, s' => s = s'
  | (i, o) :: rest, s, s' => ∃ e, stepE P G ops (base + i) o s.t (restr hot base i o s.t s.m) = some e ∧ rootOK (some hot) base i s.t e.u = true ∧ (∀ p ∈ e.ob, p) ∧ runL P G hot ops base rest (stApp base i o e s) s'

/-- States that say the same. -/
structure StEq (s s' : St) : Prop where
  t : slot s.t = slot s'.t
  m : s.m = s'.m
  nx : s.nx = s'.nx
theorem StEq.refl (s : St) : StEq s s := ⟨rfl, rfl, rfl⟩
theorem StEq.trans {a b c : St} (h : StEq a b) (k : StEq b c) : StEq a c := ⟨h.t.trans k.t, h.m.trans k.m, h.nx.trans k.nx⟩
theorem StEq.symm {a b : St} (h : StEq a b) : StEq b a := ⟨h.t.symm, h.m.symm, h.nx.symm⟩

theorem opd_congr {t t' : Slots} (h : slot t = slot t') : opd t = opd t' := by
  funext x
  cases x <;> simp [opd, h]

theorem stepE_congr {key : Nat} {o : Oper} {t t' : Slots} {m : Mem} (h : slot t = slot t') : stepE P G ops key o t m = stepE P G ops key o t' m := by
  unfold stepE
  rw [opd_congr h, h]

theorem slot_app {o : Oper} {e : Eff} {s : St} {i : Nat} (j : Nat) : slot (stApp base i o e s).t j = if o.dst = some j then e.val else slot s.t j := slot_put _ _ _

theorem keyOf_congr {t t' : Slots} (h : slot t = slot t') : keyOf base t = keyOf base t' := by
  funext r
  cases r with
  | made a => rfl
  | call => rfl
  | calls q => rfl
  | slot q => simp only [keyOf, h]
theorem hidden_congr {t t' : Slots} {k : Nat} (h : keyOf base t = keyOf base t') : ∀ (l : List Root), hidden base t k l = hidden base t' k l
  | [] => rfl
  | r :: rest => by simp only [hidden, h, hidden_congr h rest]
theorem restr_congr {i : Nat} {o : Oper} {t t' : Slots} {m : Mem} (h : slot t = slot t') : restr hot base i o t m = restr hot base i o t' m := by
  unfold restr
  congr 1
  funext e
  rw [hidden_congr (keyOf_congr h)]
theorem rootOK_congr {i : Nat} {t t' : Slots} {u : Upd} (h : slot t = slot t') : rootOK (some hot) base i t u = rootOK (some hot) base i t' u := by
  unfold rootOK
  have hs : ∀ (q : Nat) (l : List (Nat × Fam)), setsOK base t q l = setsOK base t' q l := fun q l => by
    induction l with
    | nil => rfl
    | cons p l ih => simp only [setsOK, ih, hidden_congr (keyOf_congr h)]
  have hm : ∀ (l : List (Nat × Fam)) (r : Option Root), manyOK base t l r = manyOK base t' l r := fun l r => by
    unfold manyOK
    split <;> first | rfl | exact hs _ _
  rw [keyOf_congr h]
  cases u with
  | many sets nw => exact hm _ _
  | _ => rfl

theorem StEq.app {s s' : St} (h : StEq s s') (i : Nat) (o : Oper) (e : Eff) : StEq (stApp base i o e s) (stApp base i o e s') :=
  ⟨by funext j; rw [slot_app, slot_app, h.t], by simp [stApp, h.m], h.nx⟩

theorem runL_congr : ∀ {L : List (Nat × Oper)} {s s1 s' : St}, StEq s s1 → runL P G hot ops base L s s' → ∃ s'', runL P G hot ops base L s1 s'' ∧ StEq s' s''
  | [], s, s1, s', h, hr => by simp only [runL] at hr; subst hr; exact ⟨s1, rfl, h⟩
  | (i, o) :: rest, s, s1, s', h, hr => by
    obtain ⟨e, h1, h0, h2, h3⟩ := hr
    obtain ⟨s'', h4, h5⟩ := runL_congr (h.app i o e) h3
    exact ⟨s'', ⟨e, by rw [← stepE_congr h.t, ← h.m, ← restr_congr h.t]; exact h1, by rw [← rootOK_congr h.t]; exact h0, h2, h4⟩, h5⟩

theorem regP_runL {K : St → Prop} : ∀ (rest : List Oper) (i : Nat) (s : St), regP P G (some hot) ops base rest i s K → ∃ s', runL P G hot ops base ((List.range' i rest.length).zip rest) s s' ∧ K s'
  | [], i, s, h => ⟨s, rfl, h⟩
  | o :: rest, i, s, h => by
    simp only [regP, memFor, optK, boolK] at h
    split at h
    · rename_i e he
      split at h
      · rename_i hro
        obtain ⟨hob, h⟩ := conj_iff.1 h
        obtain ⟨s', h1, h2⟩ := regP_runL rest (i + 1) _ h
        exact ⟨s', ⟨e, he, hro, hob, h1⟩, h2⟩
      · exact h.elim
    · exact h.elim

theorem insRow_comm {k k' : Nat} {x y : Fam} (hne : k ≠ k') : ∀ (m : Mem), insRow k x (insRow k' y m) = insRow k' y (insRow k x m)
  | [] => by
    simp only [insRow]
    by_cases h : k' < k
    · have h' : ¬ k < k' := by omega
      simp [h, h']
    · have h' : k < k' := by omega
      simp [h, h']
  | (q, z) :: rest => by
    simp only [insRow]
    by_cases h1 : q < k <;> by_cases h2 : q < k'
    · simp only [h1, h2, if_true, insRow]
      by_cases h : k' < k
      · have h' : ¬ k < k' := by omega
        simp [h, h', h2]
      · have h' : k < k' := by omega
        simp [h, h', h1]
    · have h3 : k' < k := by omega
      have h4 : ¬ k < k' := by omega
      simp [h1, h2, insRow, h3, h4]
    · have h3 : k < k' := by omega
      have h4 : ¬ k' < k := by omega
      simp [h1, h2, insRow, h3, h4]
    · simp only [h1, h2, if_false, insRow]
      rw [insRow_comm hne rest]

theorem filter_ins {p : Nat × Fam → Bool} {k : Nat} {x : Fam} (h : p (k, x) = false) : ∀ (m : Mem), (insRow k x m).filter p = m.filter p
  | [] => by simp [insRow, h]
  | (q, z) :: rest => by
    simp only [insRow]
    split
    · rw [List.filter_cons]; simp [h]
    · rw [List.filter_cons, List.filter_cons, filter_ins h rest]

theorem filter_set {p : Nat × Fam → Bool} {k : Nat} {x : Fam} (h : ∀ y, p (k, y) = false) : ∀ (m : Mem), (setRow k x m).filter p = m.filter p
  | [] => rfl
  | (q, z) :: rest => by
    simp only [setRow]
    split
    · rename_i e; subst e
      rw [List.filter_cons, List.filter_cons]; simp [h]
    · rw [List.filter_cons, List.filter_cons, filter_set h rest]

theorem set_ins {k k' : Nat} {x y : Fam} (hne : k ≠ k') : ∀ (m : Mem), setRow k x (insRow k' y m) = insRow k' y (setRow k x m)
  | [] => by
    have h' : ¬ k' = k := fun h => hne h.symm
    simp [insRow, setRow, h']
  | (q, z) :: rest => by
    have h' : ¬ k' = k := fun h => hne h.symm
    have ih := set_ins hne (x := x) (y := y) rest
    by_cases h : q < k' <;> by_cases e : q = k
    · subst e; simp [insRow, setRow, h, h']
    · simp [insRow, setRow, h, e, h']
    · subst e; simp [insRow, setRow, h, h']
    · simp [insRow, setRow, h, e, h', ih]

theorem set_set {k k' : Nat} {x y : Fam} (hne : k ≠ k') : ∀ (m : Mem), setRow k x (setRow k' y m) = setRow k' y (setRow k x m)
  | [] => rfl
  | (q, z) :: rest => by
    have h' : ¬ k' = k := fun h => hne h.symm
    by_cases e : q = k <;> by_cases e' : q = k'
    · exact absurd (e.symm.trans e') hne
    · subst e; simp [setRow, e']
    · subst e'; simp [setRow, e]
    · simp only [setRow, e, e', if_false]
      rw [set_set hne rest]

/-- The row that gives way. -/
def Upd.tgt : Upd → Option Nat
  | .set r _ => some r
  | .swap r _ => some r
  | _ => Option.none
theorem app_comm {u v : Upd} {k k' : Nat} (hmu : ∀ s n, u ≠ .many s n) (hmv : ∀ s n, v ≠ .many s n) (hk : k ≠ k') (h1 : ∀ r, u.tgt = some r → r ≠ k') (h2 : ∀ r, v.tgt = some r → r ≠ k) (h3 : ∀ r r', u.tgt = some r → v.tgt = some r' → r ≠ r') (m : Mem) : v.app k' (u.app k m) = u.app k (v.app k' m) := by
  cases u with
  | many s n => exact absurd rfl (hmu s n)
  | none => rfl
  | new x => cases v with
    | many s n => exact absurd rfl (hmv s n)
    | none => rfl
    | new y => exact insRow_comm (Ne.symm hk) _
    | set r y => exact set_ins (h2 r rfl) _
    | swap r y =>
      show insRow k' y (setRow r dead (insRow k x m)) = insRow k x (insRow k' y (setRow r dead m))
      rw [set_ins (h2 r rfl), insRow_comm (Ne.symm hk)]
  | set r x => cases v with
    | many s n => exact absurd rfl (hmv s n)
    | none => rfl
    | new y => exact (set_ins (h1 r rfl) _).symm
    | set r' y => exact set_set (Ne.symm (h3 r r' rfl rfl)) _
    | swap r' y =>
      show insRow k' y (setRow r' dead (setRow r x m)) = setRow r x (insRow k' y (setRow r' dead m))
      rw [set_ins (h1 r rfl), set_set (h3 r r' rfl rfl)]
  | swap r x => cases v with
    | many s n => exact absurd rfl (hmv s n)
    | none => rfl
    | new y =>
      show insRow k' y (insRow k x (setRow r dead m)) = insRow k x (setRow r dead (insRow k' y m))
      rw [set_ins (h1 r rfl), insRow_comm (Ne.symm hk)]
    | set r' y =>
      show setRow r' y (insRow k x (setRow r dead m)) = insRow k x (setRow r dead (setRow r' y m))
      rw [set_ins (h2 r' rfl), set_set (h3 r r' rfl rfl)]
    | swap r' y =>
      show insRow k' y (setRow r' dead (insRow k x (setRow r dead m))) = insRow k x (setRow r dead (insRow k' y (setRow r' dead m)))
      rw [set_ins (h2 r' rfl), set_ins (h1 r rfl), set_set (h3 r r' rfl rfl), insRow_comm (Ne.symm hk)]

theorem hidden_mem {t : Slots} {k : Nat} {r : Root} (hk : keyOf base t r = some k) : ∀ {l : List Root}, r ∈ l → hidden base t k l = true
  | x :: rest, h => by
    simp only [hidden, Bool.or_eq_true]
    rcases List.mem_cons.1 h with e | h
    · subst e; left; rw [hk]; simp
    · exact .inr (hidden_mem hk h)

theorem rootOK_tgt {i : Nat} {t : Slots} {u : Upd} {r : Nat} (hr : rootOK (some hot) base i t u = true) (ht : u.tgt = some r) : (match rootOf hot.root i with
      | some x => match keyOf base t x with
        | some q => decide (q = r)
        | none => false
      | none => true) = true := by
  cases u with
  | none => cases ht
  | new x => cases ht
  | set r' x => cases ht; exact hr
  | swap r' x => cases ht; exact hr
  | many s n => cases ht
/-- What one operation does to the rows another one does not see. -/
theorem restr_app {i j : Nat} {y : Oper} {t : Slots} {u : Upd} {m : Mem} (hu : u = .none ∨ (∃ x, u = .new x) ∨ (∃ r, u.tgt = some r) ∧ rootIn hot i j = true) (hr : rootOK (some hot) base i t u = true) (hi : (y.after.any fun e => e.on == i && Region.binds .any e) = false) : restr hot base j y t (u.app (base + i) m) = restr hot base j y t m := by
  have fnew : ∀ (x : Fam) (m : Mem), restr hot base j y t (insRow (base + i) x m) = restr hot base j y t m := fun x m => by
    unfold restr
    refine filter_ins ?_ m
    have e1 : decide (base + i < base) = false := by simp
    have e2 : (y.after.any fun x => decide (base + x.on = base + i) && Region.binds .any x) = false := by
      rw [← hi]
      congr 1
      funext e
      by_cases h : e.on = i
      · simp [h]
      · have : ¬ base + e.on = base + i := by omega
        simp [h]
    simp only [e1, e2, Bool.or_self, Bool.false_and]
  have fset : ∀ (r : Nat) (x : Fam) (m : Mem), u.tgt = some r → rootIn hot i j = true → restr hot base j y t (setRow r x m) = restr hot base j y t m := fun r x m ht h => by
    unfold restr
    refine filter_set (fun z => ?_) m
    unfold rootIn at h
    have hr := rootOK_tgt hr ht
    split at h
    · rename_i q hq
      rw [hq] at hr
      dsimp only at hr
      split at hr
      · rename_i k hk
        have : k = r := by simpa using hr
        subst this
        rw [hidden_mem hk (by simpa using h)]
        simp
      · cases hr
    · cases h
  rcases hu with rfl | ⟨x, rfl⟩ | ⟨⟨r, ht⟩, h⟩
  · rfl
  · exact fnew x m
  · cases u with
    | none => cases ht
    | new x => cases ht
    | set r' x => exact fset r' x m rfl h
    | swap r' x => exact (fnew x _).trans (fset r' dead m rfl h)
    | many s n => cases ht

theorem keyOf_put {d : Option Tmp} {x : AV} {t : Slots} {r : Root} (h : r.off d = true) : keyOf base (putSlot d x t) r = keyOf base t r := by
  cases r with
  | made a => rfl
  | call => rfl
  | calls q => rfl
  | slot q =>
    simp only [keyOf, slot_put]
    rw [if_neg]
    simpa [Root.off] using h
theorem hidden_put {d : Option Tmp} {x : AV} {t : Slots} {k : Nat} : ∀ {l : List Root}, l.all (Root.off d) = true → hidden base (putSlot d x t) k l = hidden base t k l
  | [], _ => rfl
  | r :: rest, h => by
    simp only [List.all_cons, Bool.and_eq_true] at h
    simp only [hidden, keyOf_put h.1, hidden_put h.2]
theorem restr_put {i : Nat} {o : Oper} {d : Option Tmp} {x : AV} {t : Slots} {m : Mem} (h : rootsOff hot i d = true) : restr hot base i o (putSlot d x t) m = restr hot base i o t m := by
  unfold rootsOff at h
  simp only [Bool.and_eq_true] at h
  unfold restr
  congr 1
  funext e
  rw [hidden_put h.1]
theorem rootOK_put {i : Nat} {d : Option Tmp} {x : AV} {t : Slots} {u : Upd} (h : rootsOff hot i d = true) : rootOK (some hot) base i (putSlot d x t) u = rootOK (some hot) base i t u := by
  unfold rootsOff at h
  simp only [Bool.and_eq_true] at h
  unfold rootOK
  have key : ∀ r, (match rootOf hot.root i with
      | some y => match keyOf base (putSlot d x t) y with
        | some q => decide (q = r)
        | none => false
      | none => true) = (match rootOf hot.root i with
      | some y => match keyOf base t y with
        | some q => decide (q = r)
        | none => false
      | none => true) := fun r => by
    cases hq : rootOf hot.root i with
    | none => rfl
    | some q =>
      have h2 := h.2
      rw [hq] at h2
      dsimp only at h2 ⊢
      rw [keyOf_put h2]
  cases u with
  | set r y => exact key r
  | swap r y => exact key r
  | many sets nw =>
    show manyOK base (putSlot d x t) sets (rootOf hot.root i) = manyOK base t sets (rootOf hot.root i)
    cases hq : rootOf hot.root i with
    | none => rfl
    | some q =>
      have h2 := h.2
      rw [hq] at h2
      cases q with
      | calls q =>
        have hs : ∀ l : List (Nat × Fam), setsOK base (putSlot d x t) q l = setsOK base t q l := fun l => by
          induction l with
          | nil => rfl
          | cons p l ih => simp only [setsOK, ih, hidden, keyOf_put (r := .slot q) h2]
        exact hs sets
      | _ => rfl
  | _ => rfl

/-- What an operation comes to hangs on the slots that it looks at. -/
theorem stepE_put {key : Nat} {o : Oper} {d : Option Tmp} {x : AV} {t : Slots} {m : Mem} (hs : ∀ cs b, o.op ≠ .select cs b) (h : ∀ k, d = some k → k ∉ o.looksAt ops) : stepE P G ops key o (putSlot d x t) m = stepE P G ops key o t m := by
  have h1 : ∀ y ∈ o.op.operands, opd (putSlot d x t) y = opd t y := fun y hy => by
    cases y with
    | tmp j =>
      simp only [opd, slot_put]
      split
      · rename_i e
        exact absurd (by unfold Oper.looksAt; exact List.mem_append_left _ (List.mem_filterMap.2 ⟨Operand.tmp j, by simpa using hy, rfl⟩)) (h j e)
      · rfl
    | _ => rfl
  have h2 : ∀ g, o.guard = some g → guardOf ops (slot (putSlot d x t)) g = guardOf ops (slot t) g := fun g hg => by
    unfold guardOf
    cases hd : (ops[g.1]?).bind (·.dst) with
    | none => rfl
    | some k =>
      have : slot (putSlot d x t) k = slot t k := by
        rw [slot_put]
        split
        · rename_i e
          refine absurd ?_ (h k e)
          unfold Oper.looksAt
          obtain ⟨g1, g2⟩ := g
          refine List.mem_append_right _ ?_
          simp only [hg]
          dsimp only at hd
          rw [hd]
          simp
        · rfl
      simp only [this]
  have h3 : owed o (opd (putSlot d x t)) = owed o (opd t) := by
    unfold owed
    rw [List.map_congr_left fun y hy => h1 y (by simpa using hy)]
  unfold stepE
  cases hg : o.guard with
  | none => simp only [aStep_congr (g := none) hs h1, h3]
  | some g =>
    simp only [h2 g hg, h3]
    cases guardOf ops (slot t) g with
    | none => rfl
    | some b => simp only [aStep_congr (g := some b) hs h1]

theorem stepE_free {key : Nat} {o : Oper} {t : Slots} {m : Mem} {e : Eff} (hk : opKind o.op = 0) (h : stepE P G ops key o t m = some e) : e.u = .none ∧ ∀ key' m', stepE P G ops key' o t m' = some e := by
  unfold stepE at h ⊢
  split at h
  · split at h
    · rename_i e0 h0
      cases h
      obtain ⟨h1, h2⟩ := aStep_free hk h0
      exact ⟨h1, fun key' m' => by simp only [h2]⟩
    · cases h
  · split at h
    · split at h
      · rename_i e0 h0
        obtain ⟨h1, h2⟩ := aStep_free hk h0
        split at h
        · rename_i hm
          cases h
          exact ⟨h1, fun key' m' => by simp only [h2, hm]⟩
        · rename_i hm
          rw [h1] at hm
          cases hm
      · cases h
    · cases h

theorem stepE_mild {key : Nat} {o : Oper} {t : Slots} {m : Mem} {e : Eff} (hk : opKind o.op = 1) (h : stepE P G ops key o t m = some e) (hm : ∀ s n, e.u ≠ .many s n) : e.u = .none ∨ ∃ x, e.u = .new x := by
  unfold stepE at h
  split at h
  · split at h
    · rename_i e0 h0
      cases h
      exact (aStep_mild hk h0 hm : e0.u = .none ∨ ∃ x, e0.u = .new x)
    · cases h
  · split at h
    · rename_i b hb
      split at h
      · rename_i e0 h0
        split at h
        · cases h
          exact (aStep_mild hk h0 hm : e0.u = .none ∨ ∃ x, e0.u = .new x)
        · cases h
          cases b with
          | true => exact (aStep_mild hk h0 hm : e0.u = .none ∨ ∃ x, e0.u = .new x)
          | false => exact .inl rfl
      · cases h
    · cases h

theorem stepE_sel {key : Nat} {o : Oper} {t : Slots} {m : Mem} {e : Eff} (h : stepE P G ops key o t m = some e) : ∀ cs b, o.op ≠ .select cs b := by
  intro cs b hc
  have key' : ∀ g, aStep P G key g o (opd t) m = none := fun g => by
    unfold aStep aNew
    rw [hc]
    dsimp only
    unfold aOld
    rw [hc]
    dsimp only [isExt]
    unfold aop
    rw [hc]
    dsimp only
    unfold effOf aPure execOp
    rw [hc]
    dsimp only
    have : ∀ (s : Sem (Array CommCase)) v, pureRun P (s.bind fun x => .pure (Next.comm x b .select)) ≠ some (.value v) := by
      intro s
      induction s with
      | pure d => intro v hv; simp [pureRun, Sem.bind] at hv
      | program k ih => intro v hv; exact ih P v hv
      | _ => intro v hv; simp [pureRun, Sem.bind] at hv
    split
    · rename_i x hx
      exfalso
      split at hx
      · split at hx
        · rename_i v hv
          exact this _ v hv
        · cases hx
      · cases hx
    · rfl
  unfold stepE at h
  split at h
  · simp [key'] at h
  · split at h
    · simp [key'] at h
    · cases h

theorem aOld_kind {key : Nat} {g : Option Bool} {o : Oper} {ρ0 : Operand → AV} {m : Mem} {e : Eff} (hk : opKind o.op = 2) (h : aOld P G key g o ρ0 m = some e) : e.u = .none ∨ ∃ r x y, e.u = .set r x ∧ look m r = some y := by
  unfold aOld at h
  split at h
  · rename_i f args ats ho; rw [ho] at hk; simp [opKind] at hk
  · rename_i r name args ats ho; rw [ho] at hk; simp [opKind] at hk
  · rename_i hn1 hn2
    clear hn1 hn2
    split at h
    · exfalso
      unfold aExt at h
      split at h
      · rename_i ho; rw [ho] at hk; simp [opKind] at hk
      · rename_i ho; rw [ho] at hk; simp [opKind] at hk
      · rename_i ho; rw [ho] at hk; simp [opKind] at hk
      · cases h
    rename_i hx2
    clear hx2
    unfold aop at h
    dsimp only at h
    obtain ⟨dst, op, type, pos, after, guard⟩ := o
    dsimp only at h hk
    cases op <;> (try (simp [opKind] at hk; done))
    case store =>
      dsimp only at h
      unfold aStore at h
      (repeat' split at h) <;> first | (cases h; done) | (cases h; exact .inr ⟨_, _, _, rfl, by assumption⟩)
    case mapUpdate => exact .inl (effOf_u h)
    case binOp op _ _ _ _ => cases op <;> simp [opKind] at hk
    case call c =>
      obtain ⟨callee, args, ats⟩ := c
      cases callee with
      | value f => simp [opKind] at hk
      | invoke r s => simp [opKind] at hk
      | builtin b => cases b <;> first | (simp [opKind] at hk; done) | exact .inl (effOf_u h)
theorem aStep_kind {key : Nat} {g : Option Bool} {o : Oper} {ρ0 : Operand → AV} {m : Mem} {e : Eff} (hk : opKind o.op = 2) (h : aStep P G key g o ρ0 m = some e) : e.u = .none ∨ ∃ r x y, e.u = .set r x ∧ look m r = some y := by
  unfold aStep at h
  split at h
  · rename_i hn
    cases h
    rcases aNew_kind hn with ⟨k, _⟩ | ⟨_, k⟩
    · omega
    · exact .inr k
  · exact aOld_kind hk h

theorem stepE_kind {key : Nat} {o : Oper} {t : Slots} {m : Mem} {e : Eff} (hk : opKind o.op = 2) (h : stepE P G ops key o t m = some e) : e.u = .none ∨ ∃ r x y, e.u = .set r x ∧ look m r = some y := by
  unfold stepE at h
  split at h
  · split at h
    · rename_i e0 h0
      cases h
      exact (aStep_kind hk h0 : e0.u = .none ∨ ∃ r x y, e0.u = .set r x ∧ look m r = some y)
    · cases h
  · split at h
    · rename_i b hb
      split at h
      · rename_i e0 h0
        split at h
        · cases h
          exact (aStep_kind hk h0 : e0.u = .none ∨ ∃ r x y, e0.u = .set r x ∧ look m r = some y)
        · cases h
          cases b with
          | true => exact (aStep_kind hk h0 : e0.u = .none ∨ ∃ r x y, e0.u = .set r x ∧ look m r = some y)
          | false => exact .inl rfl
      · cases h
    · cases h

theorem aExt_append {key : Nat} {g : Option Bool} {o : Oper} {ρ0 : Operand → AV} {m : Mem} {e : Eff} (hk : opKind o.op = 3) (h : aExt P key g o ρ0 m = some e) : (∃ x, e.u = .new x) ∨ ∃ r x y, e.u = .swap r x ∧ look m r = some y := by
  unfold aExt at h
  split at h
  · rename_i ho; rw [ho] at hk; simp [opKind] at hk
  · rename_i ho; rw [ho] at hk; simp [opKind] at hk
  · split at h
    · split at h
      · unfold aAppend at h
        (repeat' split at h) <;> first | (cases h; done) | (cases h; exact .inl ⟨_, rfl⟩) | (cases h; exact .inr ⟨_, _, _, rfl, by assumption⟩)
      · cases h
    · cases h
  · cases h
theorem kind3_ext {op : Op} (hk : opKind op = 3) : isExt op = true := by
  unfold opKind at hk
  split at hk <;> first | (simp at hk; done) | rfl
theorem aStep_kind3 {key : Nat} {g : Option Bool} {o : Oper} {ρ0 : Operand → AV} {m : Mem} {e : Eff} (hk : opKind o.op = 3) (h : aStep P G key g o ρ0 m = some e) : (∃ x, e.u = .new x) ∨ ∃ r x y, e.u = .swap r x ∧ look m r = some y := by
  unfold aStep at h
  rw [aNew_none (by omega) (by omega)] at h
  dsimp only at h
  unfold aOld at h
  split at h
  · rename_i f args ats ho; rw [ho] at hk; simp [opKind] at hk
  · rename_i r name args ats ho; rw [ho] at hk; simp [opKind] at hk
  · rw [kind3_ext hk] at h
    exact aExt_append hk h

theorem stepE_kind3 {key : Nat} {o : Oper} {t : Slots} {m : Mem} {e : Eff} (hk : opKind o.op = 3) (h : stepE P G ops key o t m = some e) : e.u = .none ∨ (∃ x, e.u = .new x) ∨ ∃ r x y, e.u = .swap r x ∧ look m r = some y := by
  unfold stepE at h
  split at h
  · split at h
    · rename_i e0 h0
      cases h
      exact .inr (aStep_kind3 hk h0 : (∃ x, e0.u = .new x) ∨ ∃ r x y, e0.u = .swap r x ∧ look m r = some y)
    · cases h
  · split at h
    · rename_i b hb
      split at h
      · rename_i e0 h0
        split at h
        · cases h
          exact .inr (aStep_kind3 hk h0 : (∃ x, e0.u = .new x) ∨ ∃ r x y, e0.u = .swap r x ∧ look m r = some y)
        · cases h
          cases b with
          | true => exact .inr (aStep_kind3 hk h0 : (∃ x, e0.u = .new x) ∨ ∃ r x y, e0.u = .swap r x ∧ look m r = some y)
          | false => exact .inl rfl
      · cases h
    · cases h

/-- What an operation that changes rows does. -/
theorem stepE_tgt {key : Nat} {o : Oper} {t : Slots} {m : Mem} {e : Eff} (hk : opKind o.op = 1 ∨ opKind o.op = 2 ∨ opKind o.op = 3) (h : stepE P G ops key o t m = some e) (hm : ∀ s n, e.u ≠ .many s n) : (e.u = .none ∨ (∃ x, e.u = .new x)) ∨ ((opKind o.op = 2 ∨ opKind o.op = 3) ∧ ∃ r y, e.u.tgt = some r ∧ look m r = some y) := by
  rcases hk with hk | hk | hk
  · exact .inl (stepE_mild hk h hm)
  · rcases stepE_kind hk h with h1 | ⟨r, x, y, h1, h2⟩
    · exact .inl (.inl h1)
    · exact .inr ⟨.inl hk, r, y, by rw [h1]; rfl, h2⟩
  · rcases stepE_kind3 hk h with h1 | h1 | ⟨r, x, y, h1, h2⟩
    · exact .inl (.inl h1)
    · exact .inl (.inr h1)
    · exact .inr ⟨.inr hk, r, y, by rw [h1]; rfl, h2⟩

theorem look_filterK {p : Nat × Fam → Bool} {q : Nat → Bool} (hp : ∀ r x, p (r, x) = q r) {r : Nat} {y : Fam} : ∀ {m : Mem}, look (m.filter p) r = some y → q r = true
  | [], h => by simp [look] at h
  | (k, z) :: rest, h => by
    rw [List.filter_cons] at h
    split at h
    · rename_i hk
      simp only [look] at h
      split at h
      · rename_i e; subst e; rw [← hp k z]; exact hk
      · exact look_filterK hp h
    · exact look_filterK hp h

theorem look_restr1 {i : Nat} {o : Oper} {t : Slots} {m : Mem} {r : Nat} {y : Fam} (h : look (restr hot base i o t m) r = some y) : (r < base ∨ ∃ e ∈ o.after, base + e.on = r ∧ Region.binds .any e = true) ∧ hidden base t r (hideOf hot.hide i) = false := by
  have := look_filterK (q := fun k => (decide (k < base) || o.after.any fun x => decide (base + x.on = k) && Region.binds .any x) && !hidden base t k (hideOf hot.hide i)) (fun _ _ => rfl) h
  simp only [Bool.and_eq_true, Bool.or_eq_true, decide_eq_true_eq, Bool.not_eq_true'] at this
  refine ⟨this.1.imp id fun h => ?_, this.2⟩
  rw [Array.any_eq_true'] at h
  obtain ⟨e, he, h⟩ := h
  exact ⟨e, he, by simpa using h⟩

theorem notCall {i : Nat} {op : Op} {t : Slots} {u : Upd} (h : kindAt hot i op = 1 ∨ (kindAt hot i op = 2 ∨ kindAt hot i op = 3)) (hr : rootOK (some hot) base i t u = true) : opKind op = kindAt hot i op ∧ ∀ sets n, u ≠ .many sets n := by
  have hca : ¬ (callAt hot i = true ∨ (callsAt hot i).isSome = true) := fun hcc => by
    unfold kindAt at h; rw [if_pos hcc] at h; omega
  refine ⟨by unfold kindAt; rw [if_neg hca], fun sets n e => ?_⟩
  subst e
  have hr : manyOK base t sets (rootOf hot.root i) = true := hr
  unfold callAt callsAt at hca
  cases hq : rootOf hot.root i with
  | none => rw [hq] at hr; cases hr
  | some r =>
    rw [hq] at hr hca
    cases r with
    | call => simp at hca
    | calls q => simp at hca
    | slot q => cases hr
    | made q => cases hr

theorem setRows_filter {p : Nat × Fam → Bool} : ∀ {sets : List (Nat × Fam)} {m : Mem}, (∀ q ∈ sets, ∀ y, p (q.1, y) = false) → (setRows sets m).filter p = m.filter p
  | [], m, _ => rfl
  | (k, x) :: l, m, h => by
    show (setRows l (setRow k x m)).filter p = _
    rw [setRows_filter fun q hq => h q (by simp [hq]), filter_set (h (k, x) (by simp))]
theorem setRows_ins {k' : Nat} {y : Fam} : ∀ {sets : List (Nat × Fam)} {m : Mem}, (∀ q ∈ sets, q.1 ≠ k') → setRows sets (insRow k' y m) = insRow k' y (setRows sets m)
  | [], m, _ => rfl
  | (k, x) :: l, m, h => by
    show setRows l (setRow k x (insRow k' y m)) = insRow k' y (setRows l (setRow k x m))
    rw [set_ins (h (k, x) (by simp)), setRows_ins fun q hq => h q (by simp [hq])]
theorem setsOK_mem {q : Nat} {t : Slots} : ∀ {sets : List (Nat × Fam)}, setsOK base t q sets = true → ∀ p ∈ sets, p.1 < base ∧ hidden base t p.1 [.slot q] = true
  | [], _, p, hp => by cases hp
  | x :: l, h, p, hp => by
    simp only [setsOK, Bool.and_eq_true, decide_eq_true_eq] at h
    rcases List.mem_cons.1 hp with rfl | hp
    · exact h.1
    · exact setsOK_mem h.2 p hp
theorem hidden_sub {t : Slots} {k q : Nat} (h : hidden base t k [.slot q] = true) : ∀ {l : List Root}, Root.slot q ∈ l → hidden base t k l = true
  | x :: rest, hm => by
    simp only [hidden, Bool.or_eq_true] at h ⊢
    rcases List.mem_cons.1 hm with e | hm
    · subst e
      exact .inl (h.resolve_right (by simp))
    · exact .inr (hidden_sub (by simp only [hidden, Bool.or_eq_true]; exact h) hm)
/-- A call that writes one row, and an operation that looks at others alone: neither minds the other. -/
theorem calls_comm {i j : Nat} {x y : Oper} {t : Slots} {u v : Upd} (hij : i ≠ j) (hc : callsOK hot i j x y = true) (hu : (∃ sets nw, u = .many sets nw) ∨ u = .none ∨ ∃ z, u = .new z) (hur : rootOK (some hot) base i t u = true) (ha1 : (y.after.any fun e => e.on == i && Region.binds .any e) = false) (hv : v = .none ∨ ∃ z, v = .new z) :
    (∀ m, restr hot base j y t (u.app (base + i) m) = restr hot base j y t m) ∧ ∀ m, v.app (base + j) (u.app (base + i) m) = u.app (base + i) (v.app (base + j) m) := by
  rcases hu with ⟨sets, nw, rfl⟩ | hu
  · have hur : manyOK base t sets (rootOf hot.root i) = true := hur
    unfold callsOK callsAt at hc
    cases hq : rootOf hot.root i with
    | none => rw [hq] at hc; cases hc
    | some r =>
      rw [hq] at hc hur
      cases r with
      | slot q => cases hc
      | made q => cases hc
      | call => cases hc
      | calls q =>
        dsimp only at hc
        rw [Bool.and_eq_true] at hc
        have hmem : Root.slot q ∈ hideOf hot.hide j := by simpa using hc.2
        have hsets := setsOK_mem (show setsOK base t q sets = true from hur)
        have hfil : ∀ m, restr hot base j y t (setRows sets m) = restr hot base j y t m := fun m => by
          unfold restr
          refine setRows_filter fun p hp z => ?_
          rw [hidden_sub (hsets p hp).2 hmem]
          simp
        have hcomm : ∀ m, v.app (base + j) (setRows sets m) = setRows sets (v.app (base + j) m) := fun m => by
          rcases hv with rfl | ⟨z, rfl⟩
          · rfl
          · exact (setRows_ins fun p hp => by have := (hsets p hp).1; omega).symm
        cases nw with
        | none => exact ⟨hfil, hcomm⟩
        | some z =>
          refine ⟨fun m => (restr_app (i := i) (u := .new z) (.inr (.inl ⟨z, rfl⟩)) rfl ha1).trans (hfil m), fun m => ?_⟩
          show v.app (base + j) (insRow (base + i) z (setRows sets m)) = insRow (base + i) z (setRows sets (v.app (base + j) m))
          rw [← hcomm]
          rcases hv with rfl | ⟨z2, rfl⟩
          · rfl
          · exact insRow_comm (by omega) _
  · refine ⟨fun m => restr_app (hu.imp id .inl) hur ha1, fun m => ?_⟩
    have hnm : ∀ {w : Upd}, (w = .none ∨ ∃ z, w = .new z) → (∀ s n, w ≠ .many s n) ∧ ∀ r, w.tgt ≠ some r := fun h => by
      rcases h with rfl | ⟨z, rfl⟩
      · exact ⟨fun s n e => (by cases e), fun r e => (by cases e)⟩
      · exact ⟨fun s n e => (by cases e), fun r e => (by cases e)⟩
    exact app_comm (hnm hu).1 (hnm hv).1 (by omega) (fun r hr => absurd hr ((hnm hu).2 r)) (fun r hr => absurd hr ((hnm hv).2 r)) (fun r r' hr => absurd hr ((hnm hu).2 r)) m

/-- Two that may change places. -/
theorem swap {i j : Nat} {x y : Oper} {L : List (Nat × Oper)} {s s' : St} (hij : i ≠ j) (hc : comm hot ops i j x y = true) (h : runL P G hot ops base ((i, x) :: (j, y) :: L) s s') : ∃ s'', runL P G hot ops base ((j, y) :: (i, x) :: L) s s'' ∧ StEq s' s'' := by
  obtain ⟨ex, hx, hxr, hxo, ey, hy, hyr, hyo, hL⟩ := h
  unfold comm at hc
  simp only [Bool.and_eq_true, Bool.not_eq_true'] at hc
  obtain ⟨⟨⟨⟨⟨hap, hk⟩, ha1⟩, ha2⟩, ho1⟩, ho2⟩ := hc
  obtain ⟨p1, p2, p3⟩ := Oper.apart_spec hap
  have et : (stApp base i x ex s).t = putSlot x.dst ex.val s.t := rfl
  have em : (stApp base i x ex s).m = ex.u.app (base + i) s.m := rfl
  rw [et, em, restr_put ho2, stepE_put (stepE_sel hy) p1] at hy
  rw [et, rootOK_put ho2] at hyr
  have tgt_of : ∀ {u : Upd}, (u = .none ∨ ∃ x, u = .new x) → u.tgt = none := fun h => by
    rcases h with h | ⟨x, h⟩ <;> (rw [h]; rfl)
  have kinds : (∀ m, ey.u.app (base + j) (ex.u.app (base + i) m) = ex.u.app (base + i) (ey.u.app (base + j) m)) ∧
      stepE P G ops (base + j) y s.t (restr hot base j y s.t s.m) = some ey ∧ stepE P G ops (base + i) x s.t (restr hot base i x s.t (ey.u.app (base + j) s.m)) = some ex := by
    simp only [Bool.or_eq_true] at hk
    rcases hk with (hk | hk) | hk
    · simp only [Bool.or_eq_true, Bool.and_eq_true, beq_iff_eq] at hk
      rcases hk with (hk | hk) | ⟨hk1, hk2⟩
      · obtain ⟨f1, f2⟩ := stepE_free hk hx
        refine ⟨fun m => by rw [f1]; rfl, ?_, f2 _ _⟩
        rw [f1] at hy; exact hy
      · obtain ⟨f1, f2⟩ := stepE_free hk hy
        refine ⟨fun m => by rw [f1]; rfl, f2 _ _, ?_⟩
        rw [f1]; exact hx
      · obtain ⟨kx, mx⟩ := notCall (hk1.imp id And.left) hxr
        obtain ⟨ky, my⟩ := notCall (hk2.imp id And.left) hyr
        rw [← kx] at hk1
        rw [← ky] at hk2
        have rt1 : opKind x.op = 2 ∨ opKind x.op = 3 → rootIn hot i j = true := fun h => by
          rcases hk1 with h1 | h1
          · omega
          · exact h1.2
        have rt2 : opKind y.op = 2 ∨ opKind y.op = 3 → rootIn hot j i = true := fun h => by
          rcases hk2 with h1 | h1
          · omega
          · exact h1.2
        have t1 := stepE_tgt (hk1.imp id And.left) hx mx
        have t2 := stepE_tgt (hk2.imp id And.left) hy my
        rw [restr_app (t1.elim (fun h => h.imp id .inl) fun h => .inr (.inr ⟨h.2.imp fun r h => h.elim fun _ h => h.1, rt1 h.1⟩)) hxr ha1] at hy
        have t2 := stepE_tgt (hk2.imp id And.left) hy my
        have notnew : ∀ {i j : Nat} {x : Oper} {r : Nat} {y : Fam}, look (restr hot base i x s.t s.m) r = some y → (x.after.any fun e => e.on == j && Region.binds .any e) = false → r ≠ base + j := by
          intro i j x r y h4 ha e
          subst e
          rcases (look_restr1 h4).1 with h5 | ⟨e, h5, h6, h7⟩
          · omega
          · have : e.on = j := by omega
            have hh : (x.after.any fun e => e.on == j && Region.binds .any e) = true := by
              rw [Array.any_eq_true']
              exact ⟨e, h5, by simp [this, h7]⟩
            rw [hh] at ha
            cases ha
        refine ⟨app_comm mx my (by omega) (fun r hr => ?_) (fun r hr => ?_) (fun r r' hr hr' e => ?_), hy, by rw [restr_app (t2.elim (fun h => h.imp id .inl) fun h => .inr (.inr ⟨h.2.imp fun r h => h.elim fun _ h => h.1, rt2 h.1⟩)) hyr ha2]; exact hx⟩
        · rcases t1 with t1 | ⟨_, q, z, h1, h2⟩
          · rw [tgt_of t1] at hr; cases hr
          · rw [h1] at hr; cases hr
            exact notnew h2 ha2
        · rcases t2 with t2 | ⟨_, q, z, h1, h2⟩
          · rw [tgt_of t2] at hr; cases hr
          · rw [h1] at hr; cases hr
            exact notnew h2 ha1
        · subst e
          rcases t1 with t1 | ⟨kx, q, z, h1, h2⟩
          · rw [tgt_of t1] at hr; cases hr
          · rcases t2 with t2 | ⟨ky, q', z', h1', h2'⟩
            · rw [tgt_of t2] at hr'; cases hr'
            · rw [h1] at hr; cases hr
              rw [h1'] at hr'; cases hr'
              have hh := (look_restr1 h2').2
              have i1 := rt1 kx
              unfold rootIn at i1
              have hxr' := rootOK_tgt hxr h1
              split at i1
              · rename_i q2 hq
                rw [hq] at hxr'
                dsimp only at hxr'
                split at hxr'
                · rename_i k hk
                  have : k = r := by simpa using hxr'
                  subst this
                  rw [hidden_mem hk (by simpa using i1)] at hh
                  cases hh
                · cases hxr'
              · cases i1
    · have hk0 := hk
      unfold callsOK at hk0
      split at hk0
      · simp only [Bool.and_eq_true, beq_iff_eq] at hk0
        obtain ⟨⟨⟨kx, ky⟩, ky2⟩, _⟩ := hk0
        have my := (notCall (.inl ky2) hyr).2
        have hu : (∃ sets nw, ex.u = .many sets nw) ∨ ex.u = .none ∨ ∃ z, ex.u = .new z := by
          by_cases hm : ∃ sets nw, ex.u = .many sets nw
          · exact .inl hm
          · exact .inr (stepE_mild kx hx fun s n e => hm ⟨s, n, e⟩)
        have hv := stepE_mild ky hy my
        obtain ⟨c1, c2⟩ := calls_comm (v := ey.u) hij hk hu hxr ha1 hv
        rw [c1] at hy
        exact ⟨c2, hy, by rw [restr_app (hv.imp id .inl) hyr ha2]; exact hx⟩
      · cases hk0
    · have hk0 := hk
      unfold callsOK at hk0
      split at hk0
      · simp only [Bool.and_eq_true, beq_iff_eq] at hk0
        obtain ⟨⟨⟨ky, kx⟩, kx2⟩, _⟩ := hk0
        have mx := (notCall (.inl kx2) hxr).2
        have hv := stepE_mild kx hx mx
        rw [restr_app (hv.imp id .inl) hxr ha1] at hy
        have hu : (∃ sets nw, ey.u = .many sets nw) ∨ ey.u = .none ∨ ∃ z, ey.u = .new z := by
          by_cases hm : ∃ sets nw, ey.u = .many sets nw
          · exact .inl hm
          · exact .inr (stepE_mild ky hy fun s n e => hm ⟨s, n, e⟩)
        obtain ⟨c1, c2⟩ := calls_comm (v := ex.u) (Ne.symm hij) hk hu hyr ha2 hv
        exact ⟨fun m => (c2 m).symm, hy, by rw [c1]; exact hx⟩
      · cases hk0
  obtain ⟨hu, hyS, hxS⟩ := kinds
  have hxS' : stepE P G ops (base + i) x (stApp base j y ey s).t (restr hot base i x (stApp base j y ey s).t (stApp base j y ey s).m) = some ex := by
    rw [show (stApp base j y ey s).t = putSlot y.dst ey.val s.t from rfl, stepE_put (stepE_sel hx) p3, restr_put ho1]
    exact hxS
  have hxr' : rootOK (some hot) base i (stApp base j y ey s).t ex.u = true := by
    rw [show (stApp base j y ey s).t = putSlot y.dst ey.val s.t from rfl, rootOK_put ho1]
    exact hxr
  have heq : StEq (stApp base j y ey (stApp base i x ex s)) (stApp base i x ex (stApp base j y ey s)) := by
    refine ⟨?_, ?_, rfl⟩
    · funext k
      simp only [slot_app]
      by_cases e1 : y.dst = some k
      · have : ¬ x.dst = some k := fun e => p2 k e e1
        simp [e1, this]
      · simp [e1]
    · exact hu _
  obtain ⟨s'', h1, h2⟩ := runL_congr heq hL
  exact ⟨s'', ⟨ey, hyS, hyr, hyo, ex, hxS', hxr', hxo, h1⟩, h2⟩

theorem bubble {i : Nat} {x : Oper} {L2 : List (Nat × Oper)} : ∀ {L1 : List (Nat × Oper)} {s s' : St}, (∀ q ∈ L1, q.1 ≠ i ∧ comm hot ops q.1 i q.2 x = true) → runL P G hot ops base (L1 ++ (i, x) :: L2) s s' → ∃ s'', runL P G hot ops base ((i, x) :: (L1 ++ L2)) s s'' ∧ StEq s' s''
  | [], s, s', _, h => ⟨s', h, .refl _⟩
  | (j, y) :: L1, s, s', hc, h => by
    obtain ⟨e, h1, h0, h2, h3⟩ := h
    obtain ⟨s1, h4, h5⟩ := bubble (fun q hq => hc q (by simp [hq])) h3
    obtain ⟨c1, c2⟩ := hc (j, y) (by simp)
    obtain ⟨s2, h6, h7⟩ := swap (L := L1 ++ L2) c1 c2 (s := s) (s' := s1) ⟨e, h1, h0, h2, h4⟩
    exact ⟨s2, h6, h5.trans h7⟩

end
end Go.Ax
end

section
/-
  Whatever order is drawn.
-/
set_option linter.unusedSimpArgs false
set_option linter.unusedVariables false
namespace Go.Ax
open Go.RowKit

section
variable {P : Program} {G : Ctx} {ops : Array Oper} {base : Nat} {hot : Hot} {w0 : Base} {w : World} {ρ : Env} {m : Mem} {D : Nat → Prop} {t : Slots} {nt : Nat} {ds : Frm} {a : Act} {ro : Option Nat} {n : Nat} {Q : Exit → Act → World → Prop}

theorem look_filter {p : Nat × Fam → Bool} : ∀ {m : Mem}, (∀ r x y, p (r, x) = p (r, y)) → ∀ r x, look (m.filter p) r = some x → look m r = some x
  | [], _, r, x, h => by simp [look] at h
  | (k, y) :: rest, hp, r, x, h => by
    rw [List.filter_cons] at h
    split at h
    · simp only [look] at h ⊢
      split at h
      · rename_i e; simp only [e, if_true]; exact h
      · rename_i e; simp only [e]; exact look_filter hp r x h
    · rename_i hf
      have h' := look_filter hp r x h
      simp only [look]
      split
      · rename_i e
        exfalso
        subst e
        have : ∀ {m : Mem}, look (m.filter p) k ≠ none → ∃ z, p (k, z) = true := by
          intro m
          induction m with
          | nil => intro h; simp [look] at h
          | cons q m ih =>
            obtain ⟨k', z⟩ := q
            intro h
            rw [List.filter_cons] at h
            split at h
            · rename_i hz
              simp only [look] at h
              split at h
              · rename_i e; subst e; exact ⟨z, hz⟩
              · exact ih h
            · exact ih h
        obtain ⟨z, hz⟩ := this (m := rest) (by rw [h]; simp)
        exact hf (by rw [hp k y z]; exact hz)
      · exact h'

theorem look_restr {i : Nat} {o : Oper} {r : Nat} {x : Fam} (h : look (restr hot base i o t m) r = some x) : look m r = some x :=
  look_filter (fun _ _ _ => rfl) r x h

theorem SR.congr (h : SR w0 ρ t m D nt ds a w) {t' : Slots} (ht : slot t = slot t') : SR w0 ρ t' m D nt ds a w :=
  ⟨h.rel, fun j => by rw [← ht]; exact h.slots j, h.size, h.defers, h.frame⟩

theorem regP_mono {K K' : St → Prop} {ho : Option Hot} (hK : ∀ s, K s → K' s) : ∀ {rest : List Oper} {i : Nat} {s : St}, regP P G ho ops base rest i s K → regP P G ho ops base rest i s K'
  | [], i, s, h => by simp only [regP] at h ⊢; exact hK _ h
  | o :: rest, i, s, h => by
    simp only [regP, optK, boolK] at h ⊢
    split at h
    · rename_i e he
      split at h
      · rename_i hr
        rw [conj_iff] at h ⊢
        exact ⟨h.1, regP_mono hK h.2⟩
      · exact h.elim
    · exact h.elim

def listedD (base : Nat) (listed : Array Bool) (r : Nat) : Prop := r < base ∨ ∃ i, r = base + i ∧ listed.getD i false = true

structure Todo (ops : Array Oper) (listed : Array Bool) (T : List (Nat × Oper)) : Prop where
  size : listed.size = ops.size
  mem : ∀ q, q ∈ T ↔ ops[q.1]? = some q.2 ∧ listed.getD q.1 true = false
  sorted : T.Pairwise fun p q => p.1 < q.1
  closed : ∀ i, listed.getD i false = true → ∀ b, ((masks ops.toList []).getD i 0).testBit b = true → listed.getD b false = true

theorem drawOK_edge (h : drawOK hot ops = true) {i : Nat} {o : Oper} (ho : ops[i]? = some o) : ∀ e ∈ o.after, Region.binds .any e = true → e.on < i := by
  unfold drawOK at h
  rw [List.all_eq_true] at h
  have h1 := h i (by
    rw [List.mem_range]
    rw [Array.getElem?_eq_some_iff] at ho
    exact ho.1)
  simp only [ho, Bool.and_eq_true] at h1
  have h2 := h1.1
  rw [Array.all_eq_true_iff_forall_mem] at h2
  intro e he hb
  have := h2 e he
  simpa [hb] using this

theorem drawOK_comm (h : drawOK hot ops = true) {i j : Nat} {x y : Oper} (hx : ops[j]? = some x) (hy : ops[i]? = some y) (hji : j < i) : ((masks ops.toList []).getD i 0).testBit j = true ∨ comm hot ops j i x y = true := by
  unfold drawOK at h
  rw [List.all_eq_true] at h
  have h1 := h i (by
    rw [List.mem_range]
    rw [Array.getElem?_eq_some_iff] at hy
    exact hy.1)
  simp only [hy, Bool.and_eq_true] at h1
  have h2 := h1.2
  rw [List.all_eq_true] at h2
  have h3 := h2 j (List.mem_range.2 hji)
  simpa [hx, Bool.or_eq_true] using h3

theorem getD_true_of {listed : Array Bool} {i : Nat} (h : i < listed.size) : listed.getD i true = listed.getD i false := by
  simp [Array.getD_eq_getD_getElem?, Array.getElem?_eq_getElem h]

theorem getD_set {listed : Array Bool} {i j : Nat} {d : Bool} (h : i < listed.size) : (listed.setIfInBounds i true).getD j d = if j = i then true else listed.getD j d := by
  by_cases e : j = i
  · subst e; simp [Array.getD_eq_getD_getElem?, Array.getElem?_setIfInBounds, h]
  · simp [Array.getD_eq_getD_getElem?, Array.getElem?_setIfInBounds, Ne.symm e, e]

theorem Todo.ready_first {listed : Array Bool} {i : Nat} {o : Oper} {T : List (Nat × Oper)} (h : Todo ops listed ((i, o) :: T)) (hd : drawOK hot ops = true) : i ∈ Region.ready .any ops listed := by
  obtain ⟨h1, h2⟩ := (h.mem (i, o)).1 (by simp)
  dsimp only at h1 h2
  refine mem_ready.2 ⟨h2, o, h1, fun e he hb => ?_⟩
  have hlt := drawOK_edge hd h1 e he hb
  have hi : i < ops.size := by
    rw [Array.getElem?_eq_some_iff] at h1
    exact h1.1
  have hlt2 : e.on < listed.size := by rw [h.size]; omega
  cases hl : listed.getD e.on false with
  | true => rfl
  | false =>
    exfalso
    have hm : (e.on, ops[e.on]'(by omega)) ∈ (i, o) :: T := (h.mem _).2 ⟨by simp, by rw [getD_true_of hlt2]; exact hl⟩
    rcases List.mem_cons.1 hm with hm | hm
    · have := congrArg Prod.fst hm; dsimp only at this; omega
    · have := (List.pairwise_cons.1 h.sorted).1 _ hm
      dsimp only at this
      omega

theorem any_sound (hG : CtxOK P G) (hd : drawOK hot ops = true) (hfit : ∀ o ∈ ops.toList, ∀ k, o.dst = some k → k < nt ∧ ds.W k) :
    ∀ (fuel : Nat) (T : List (Nat × Oper)) (listed : Array Bool) (s s' : St) (ρ : Env) (a : Act) (w : World),
      Todo ops listed T → T.length ≤ fuel → runL P G hot ops base T s s' → SR w0 ρ s.t s.m (listedD base listed) nt ds a w →
      (∀ ρ' a' w', ρ.le ρ' → SR w0 ρ' s'.t s'.m (· < base + ops.size) nt ds a' w' → Q .normal a' w') →
      wpAnyIn (Fw ro) n P .any ops Q fuel listed a w := by
  intro fuel
  have fin : ∀ (listed : Array Bool) (s s' : St) (ρ : Env) (a : Act) (w : World), Todo ops listed [] → runL P G hot ops base [] s s' → SR w0 ρ s.t s.m (listedD base listed) nt ds a w → (∀ ρ' a' w', ρ.le ρ' → SR w0 ρ' s'.t s'.m (· < base + ops.size) nt ds a' w' → Q .normal a' w') → Q .normal a w := by
    intro listed s s' ρ a w hT hr hs hK
    simp only [runL] at hr
    subst hr
    refine hK ρ a w (.refl _) (hs.weaken fun r hr => ?_)
    rcases hr with hr | ⟨i, rfl, hr⟩
    · omega
    · rcases Nat.lt_or_ge i listed.size with h | h
      · rw [hT.size] at h; omega
      · simp [Array.getD_eq_getD_getElem?, Array.getElem?_eq_none h] at hr
  have noready : ∀ listed, Todo ops listed [] → Region.ready .any ops listed = [] := by
    intro listed hT
    refine List.eq_nil_iff_forall_not_mem.2 fun j hj => ?_
    obtain ⟨h1, o, h2, _⟩ := mem_ready.1 hj
    have := (hT.mem (j, o)).2 ⟨h2, h1⟩
    simp at this
  induction fuel with
  | zero =>
    intro T listed s s' ρ a w hT hl hr hs hK
    cases T with
    | nil => exact ⟨noready listed hT, fin listed s s' ρ a w hT hr hs hK⟩
    | cons q T => simp at hl
  | succ fuel ih =>
    intro T listed s s' ρ a w hT hl hr hs hK
    refine ⟨fun h0 => ?_, fun i hi => ?_⟩
    · cases T with
      | nil => exact fin listed s s' ρ a w hT hr hs hK
      | cons q T =>
        have := hT.ready_first hd
        rw [h0] at this
        simp at this
    · obtain ⟨hu, o, ho, hall⟩ := mem_ready.1 hi
      have hsz : i < ops.size := by
        have h1 := ho
        rw [Array.getElem?_eq_some_iff] at h1
        exact h1.1
      have hli : i < listed.size := by rw [hT.size]; exact hsz
      have hm : (i, o) ∈ T := (hT.mem _).2 ⟨ho, hu⟩
      obtain ⟨L1, L2, rfl⟩ := List.append_of_mem hm
      have hs1 := List.pairwise_append.1 hT.sorted
      have hcm : ∀ q ∈ L1, q.1 ≠ i ∧ comm hot ops q.1 i q.2 o = true := fun q hq => by
        have hlt := hs1.2.2 q hq (i, o) (by simp)
        dsimp only at hlt
        obtain ⟨q1, q2⟩ := (hT.mem q).1 (List.mem_append_left _ hq)
        refine ⟨by omega, ?_⟩
        rcases drawOK_comm hd q1 ho hlt with hb | hc
        · exfalso
          have hql : q.1 < listed.size := by omega
          rw [getD_true_of hql] at q2
          obtain ⟨e, he, hbi, h3⟩ := mask_bit ho hb
          have hel := hall e he hbi
          rcases h3 with h3 | h3
          · rw [← h3, hel] at q2; cases q2
          · rw [hT.closed _ hel _ h3] at q2; cases q2
        · exact hc
      obtain ⟨s1, ⟨e, he, hro, hob, hrest⟩, heq⟩ := bubble hcm hr
      have key : wpOpIn (Fw ro) n P ops Q i (wpAnyIn (Fw ro) n P .any ops Q fuel (listed.setIfInBounds i true)) a w := by
        unfold wpOpIn
        rw [ho]
        refine stepE_sound hG hs (key := base + i) ?_ (fun r x hx => look_restr hx) he hob (hfit _ (by
          rw [Array.getElem?_eq_some_iff] at ho
          obtain ⟨h1, rfl⟩ := ho
          simp)) fun ρ' v w' hle hs' => ?_
        · rintro (h | ⟨j, hj, h⟩)
          · omega
          · have : j = i := by omega
            subst this
            rw [getD_true_of hli, h] at hu
            cases hu
        · refine ih (L1 ++ L2) _ (stApp base i o e s) s1 ρ' _ w' ⟨by simpa using hT.size, fun q => ?_, ?_, ?_⟩ (by simp at hl ⊢; omega) hrest (hs'.weaken fun r hr => ?_) fun ρ'' a' w'' kle hq => hK ρ'' a' w'' (hle.trans kle) (heq.m ▸ hq.congr heq.t.symm)
          · rw [getD_set hli]
            have h0 := hT.mem q
            simp only [List.mem_append, List.mem_cons] at h0 ⊢
            constructor
            · intro hq
              have hne : q.1 ≠ i := by
                rcases hq with hq | hq
                · have := hs1.2.2 q hq (i, o) (by simp); dsimp only at this; omega
                · have := (List.pairwise_cons.1 hs1.2.1).1 q hq; dsimp only at this; omega
              rw [if_neg hne]
              exact h0.1 (hq.imp id .inr)
            · rintro ⟨q1, q2⟩
              split at q2
              · cases q2
              · rename_i hne
                rcases h0.2 ⟨q1, q2⟩ with h | h | h
                · exact .inl h
                · subst h; exact absurd rfl hne
                · exact .inr h
          · refine List.pairwise_append.2 ⟨hs1.1, (List.pairwise_cons.1 hs1.2.1).2, fun x hx y hy => hs1.2.2 x hx y (by simp [hy])⟩
          · intro j hj b hb
            rw [getD_set hli] at hj ⊢
            split
            · rfl
            · split at hj
              · rename_i e; subst e
                obtain ⟨e, he, hbi, h3⟩ := mask_bit ho hb
                have hel := hall e he hbi
                rcases h3 with h3 | h3
                · rw [← h3]; exact hel
                · exact hT.closed _ hel _ h3
              · exact hT.closed _ hj _ hb
          · rcases hr with (hr | ⟨j, hj, hr⟩) | hr
            · exact .inl hr
            · exact .inr ⟨j, hj, by rw [getD_set hli]; split <;> first | rfl | exact hr⟩
            · exact .inr ⟨i, hr, by rw [getD_set hli]; simp⟩
      exact key

theorem Rel.draw (h : Rel w0 ρ m D w) : Rel w0 ρ m D { w with drawn := w.drawn + 1 } := by
  refine ⟨⟨h.below.os, h.below.tape, h.below.output, h.below.size, h.below.block⟩, h.imm2, h.dom, h.key, fun r x f h1 h2 => ?_, h.sep, h.fix, h.kept⟩
  obtain ⟨h3, h4⟩ := h.row r x f h1 h2
  exact ⟨h3, h4.mono h3 (.refl _) (fun _ _ h => h) (fun _ _ => rfl) fun _ => rfl⟩

theorem SR.draw (h : SR w0 ρ t m D nt ds a w) : SR w0 ρ t m D nt ds a { w with drawn := w.drawn + 1 } :=
  ⟨h.rel.draw, fun j => (h.slots j).mono (.refl _) fun _ _ => rfl, h.size, h.defers, h.frame⟩

theorem range_zip (l : Array Oper) (q : Nat × Oper) : q ∈ (List.range' 0 l.size).zip l.toList ↔ l[q.1]? = some q.2 := by
  rw [List.mem_iff_getElem?]
  constructor
  · rintro ⟨i, hi⟩
    rw [List.getElem?_zip_eq_some] at hi
    obtain ⟨h1, h2⟩ := hi
    have hlt : i < l.size := by
      have := (List.getElem?_eq_some_iff.1 h2).1
      simpa using this
    rw [List.getElem?_range' hlt] at h1
    simp at h1
    subst h1
    simpa using h2
  · intro h
    refine ⟨q.1, ?_⟩
    rw [List.getElem?_zip_eq_some]
    have hlt : q.1 < l.size := (Array.getElem?_eq_some_iff.1 h).1
    refine ⟨?_, by simpa using h⟩
    rw [List.getElem?_range' hlt]
    simp

/-- A region. -/
theorem region_sound (hG : CtxOK P G) (hm : P.follows .mixedOrders = true) {draw : Bool} {id : Nat} {H : Hots} (hd : draw = false ∨ drawOK (hotAt H id) ops = true) (hfit : ∀ o ∈ ops.toList, ∀ k, o.dst = some k → k < nt ∧ ds.W k) {K : St → Prop} {s : St}
    (h : regP P G (hotOf H id draw) ops base ops.toList 0 s K) (hs : SR w0 ρ s.t s.m (· < base) nt ds a w)
    (hK : ∀ s' ρ' a' w', K s' → ρ.le ρ' → SR w0 ρ' s'.t s'.m (· < base + ops.size) nt ds a' w' → Q .normal a' w') :
    (Code.region id ops draw).wpIn (Fw ro) n P Q a w := by
  cases draw with
  | false =>
    refine wpIn_region ?_
    have := regP_text (ro := ro) (n := n) (Q := Q) hG ops.toList 0 s ρ a w h (fun j => by simp) hfit (by simpa using hs) (fun s' ρ' a' w' k1 _ kle k3 => hK s' ρ' a' w' k1 kle (k3.weaken fun r hr => by simp at hr ⊢; omega))
    rw [List.range_eq_range']
    simpa using this
  | true =>
    have hd := hd.resolve_left (by simp)
    obtain ⟨s', h1, h2⟩ := regP_runL _ _ _ h
    refine wpIn_region_any hm ?_
    simp only [Array.length_toList] at h1
    refine any_sound hG hd hfit ops.size _ _ s s' ρ a _ ⟨by simp, fun q => ?_, ?_, ?_⟩ (by simp) h1 (hs.draw.weaken fun r hr => .inl hr) fun ρ' a' w' kle h => hK s' ρ' a' w' h2 kle h
    · rw [range_zip]
      constructor
      · intro h
        refine ⟨h, ?_⟩
        have hlt := (Array.getElem?_eq_some_iff.1 h).1
        simp [Array.getD_eq_getD_getElem?, Array.getElem?_replicate, hlt]
      · exact fun h => h.1
    · refine List.Pairwise.of_map (S := (· < ·)) Prod.fst (fun _ _ h => h) ?_
      rw [List.map_fst_zip (by simp)]
      exact List.pairwise_lt_range'
    · intro i hi
      simp [Array.getD_eq_getD_getElem?, Array.getElem?_replicate] at hi
      split at hi <;> simp at hi

/-! ### The frame -/

theorem regP_frame {K : St → Prop} {ho : Option Hot} : ∀ {rest : List Oper} {i : Nat} {s : St}, regP P G ho ops base rest i s K → regP P G ho ops base rest i s fun s' => K s' ∧ s'.nx = s.nx ∧ ∀ j, j ∉ writesOps rest → slot s'.t j = slot s.t j
  | [], i, s, h => by simp only [regP] at h ⊢; exact ⟨h, by simp⟩
  | o :: rest, i, s, h => by
    simp only [regP, optK, boolK] at h ⊢
    split at h
    · rename_i e he
      split at h
      · rename_i hr
        rw [conj_iff] at h ⊢
        refine ⟨h.1, regP_mono (fun s' hs' => ?_) (regP_frame h.2)⟩
        obtain ⟨h1, h2, h3⟩ := hs'
        refine ⟨h1, h2, fun j hj => ?_⟩
        simp only [writesOps] at hj
        have hj' : j ∉ writesOps rest ∧ o.dst ≠ some j := by
          cases hd : o.dst with
          | none => rw [hd] at hj; exact ⟨hj, by simp⟩
          | some d => rw [hd] at hj; simp only [List.mem_cons, not_or] at hj; exact ⟨hj.2, fun e => hj.1 (Option.some.inj e).symm⟩
        rw [h3 j hj'.1]
        dsimp only
        rw [slot_put, if_neg hj'.2]
      · exact h.elim
    · exact h.elim

end
end Go.Ax
end

section
/-
  Code: what the evaluator says comes true.
-/
set_option linter.unusedSimpArgs false
set_option linter.unusedVariables false
namespace Go.Ax
open Go.RowKit

section
variable {P : Program} {G : Ctx} {w0 : Base} {w : World} {ρ : Env} {m : Mem} {D : Nat → Prop} {t : Slots} {nt : Nat} {ds : Frm} {a : Act} {ro : Option Nat} {n : Nat} {Q : Exit → Act → World → Prop}

def conc : AEx → Exit
  | .normal => .normal
  | .exit j => .exit j
  | .ret => .ret

/-- The checks that the text must pass. -/
def codeOK (H : Hots) (nt : Nat) : Code → Bool
  | .region id ops draw => fitsOps nt ops.toList && (!draw || drawOK (hotAt H id) ops)
  | .seq a b => codeOK H nt a && codeOK H nt b
  | .cond _ a b => codeOK H nt a && codeOK H nt b
  | .block _ c => codeOK H nt c
  | .loop c => codeOK H nt c
  | .rangeFunc _ ps a b => ps.toList.all (fun p => decide (p < nt)) && codeOK H nt a && codeOK H nt b
  | .scope c => codeOK H nt c
  | _ => true

/-! ### The parameters of a round -/
def setAll (ps : List Nat) (vs : List Value) (T : Array Value) : Array Value := (ps.zip vs).foldl (fun t p => t.setIfInBounds p.1 p.2) T
theorem setAll_size : ∀ (ps : List Nat) (vs : List Value) (T : Array Value), (setAll ps vs T).size = T.size
  | [], vs, T => rfl
  | p :: ps, [], T => rfl
  | p :: ps, v :: vs, T => by
    have := setAll_size ps vs (T.setIfInBounds p v)
    simpa [setAll] using this
theorem slotsOf_R {w : World} {ρ : Env} : ∀ (ps : List Nat) (ars : List AV) (vs : List Value) (t : Slots) (T : Array Value), ars.length = ps.length → vs.length = ars.length → (∀ p ∈ ps, p < T.size) →
    (∀ (i : Nat) (a : AV) (x : Value), ars[i]? = some a → vs[i]? = some x → R w ρ a x) → (∀ j, R w ρ (slot t j) (T.getD j undef)) → ∀ j, R w ρ (slot (slotsOf ps ars t) j) ((setAll ps vs T).getD j undef)
  | [], ars, vs, t, T, h1, h2, hp, h, ht => by
    intro j
    cases ars <;> simpa [slotsOf, setAll] using ht j
  | p :: ps, [], vs, t, T, h1, h2, hp, h, ht => by simp at h1
  | p :: ps, a :: ars, [], t, T, h1, h2, hp, h, ht => by simp at h2
  | p :: ps, a :: ars, v :: vs, t, T, h1, h2, hp, h, ht => by
    have := slotsOf_R ps ars vs ((p, a) :: t) (T.setIfInBounds p v) (by simpa using h1) (by simpa using h2) (fun q hq => by simpa using hp q (by simp [hq])) (fun i b x hb hx => h (i + 1) b x (by simpa using hb) (by simpa using hx)) (fun j => by
      have hlt : p < T.size := hp p (by simp)
      simp only [slot]
      by_cases e : p = j
      · subst e
        simp only [if_true, Array.getD_eq_getD_getElem?, Array.getElem?_setIfInBounds, hlt]
        exact h 0 a v rfl rfl
      · simp only [if_neg e, Array.getD_eq_getD_getElem?, Array.getElem?_setIfInBounds]
        have := ht j
        rw [Array.getD_eq_getD_getElem?] at this
        exact this)
    intro j
    simpa [slotsOf, setAll] using this j
theorem setAll_other : ∀ (ps : List Nat) (vs : List Value) (T : Array Value) (j : Nat), j ∉ ps → (setAll ps vs T).getD j undef = T.getD j undef
  | [], vs, T, j, h => rfl
  | p :: ps, [], T, j, h => rfl
  | p :: ps, v :: vs, T, j, h => by
    have := setAll_other ps vs (T.setIfInBounds p v) j (fun hj => h (by simp [hj]))
    have hpj : p ≠ j := fun e => h (by simp [e])
    simp only [setAll, List.zip_cons_cons, List.foldl_cons] at this ⊢
    rw [this]
    simp [Array.getD_eq_getD_getElem?, Array.getElem?_setIfInBounds, hpj]
theorem setAll_arr (ps : Array Nat) (vs : Array Value) (T : Array Value) : (ps.zip vs).foldl (fun t (p, v) => t.setIfInBounds p v) T = setAll ps.toList vs.toList T := by
  unfold setAll
  rw [← Array.foldl_toList, Array.toList_zip]

/-! ### Names for rows -/

def Env.ren (ρ : Env) (N : Nat) (σ : Names) : Env where
  dom r := r < N ∧ match asg σ r with
    | some k => ρ.dom k
    | none => True
  blk r f := match asg σ r with
    | some k => ρ.blk k f
    | none => 0
  cap r f := match asg σ r with
    | some k => ρ.cap k f
    | none => 0
  imm := ρ.imm

theorem asg_low {N : Nat} : ∀ {σ : Names} {r : Nat}, (∀ p ∈ σ, N ≤ p.1) → r < N → asg σ r = some r
  | [], r, _, _ => rfl
  | (k, x) :: rest, r, h, hr => by
    simp only [asg]
    have hk := h (k, x) (by simp)
    dsimp only at hk
    rw [if_neg (by omega)]
    exact asg_low (fun p hp => h p (by simp [hp])) hr

/-- A value whose keys lie below N. -/
theorem R.ren_low {N N' : Nat} {σ : Names} (hσ : ∀ p ∈ σ, N ≤ p.1) (hN : N ≤ N') {x : Value} {ac : AV} (h : R w ρ ac x) : ∀ (d : Nat), kb d N ac → R w (ρ.ren N' σ) ac x := by
  have lo : ∀ r, r < N → ρ.dom r → (ρ.ren N' σ).dom r := fun r hr hd => by
    refine ⟨by omega, ?_⟩
    rw [asg_low hσ hr]; exact hd
  have bl : ∀ r f, r < N → (ρ.ren N' σ).blk r f = ρ.blk r f := fun r f hr => by simp only [Env.ren, asg_low hσ hr]
  have ca : ∀ r f, r < N → (ρ.ren N' σ).cap r f = ρ.cap r f := fun r f hr => by simp only [Env.ren, asg_low hσ hr]
  induction h with
  | v => exact fun _ _ => .v
  | any => exact fun _ _ => .any
  | agg hl h ih =>
    intro d hk
    cases d with
    | zero => simp [kb] at hk
    | succ d =>
      simp only [kb] at hk
      exact .agg hl fun i b x h1 h2 => ih i b x h1 h2 lo bl ca d (hk b (List.mem_of_getElem? h1))
  | tup hl h ih =>
    intro d hk
    cases d with
    | zero => simp [kb] at hk
    | succ d =>
      simp only [kb] at hk
      exact .tup hl fun i b x h1 h2 => ih i b x h1 h2 lo bl ca d (hk b (List.mem_of_getElem? h1))
  | fn hl h ih =>
    intro d hk
    cases d with
    | zero => simp [kb] at hk
    | succ d =>
      simp only [kb] at hk
      exact .fn hl fun i b x h1 h2 => ih i b x h1 h2 lo bl ca d (hk b (List.mem_of_getElem? h1))
  | iface h ih =>
    intro d hk
    cases d with
    | zero => simp [kb] at hk
    | succ d => simp only [kb] at hk; exact .iface (ih lo bl ca d hk)
  | yes h ih =>
    intro d hk
    cases d with
    | zero => simp [kb] at hk
    | succ d => simp only [kb] at hk; exact .yes (ih lo bl ca d hk)
  | no => exact fun _ _ => .no
  | ro b o hn ha hi hlen hex hr ih =>
    exact fun _ _ => .ro b o hn ha hi hlen hex hr
  | rop b o hi hex hr ih => exact fun _ _ => .rop b o hi hex hr
  | @bx ρ r k hd =>
    intro d hk
    have hk : r < N := by cases d <;> simpa [kb] using hk
    rw [← bl r 0 hk]
    exact .bx (lo r hk hd)
  | @ptr ρ r f i sz k hd =>
    intro d hk
    have hk : r < N := by cases d <;> simpa [kb] using hk
    rw [← bl r f hk]
    exact .ptr (lo r hk hd)
  | @own ρ r f nn sz aa hd hn ha =>
    intro d hk
    have hk : r < N := by cases d <;> simpa [kb] using hk
    rw [← ca r f hk]
    exact .own (lo r hk hd) (by rw [ca r f hk]; exact hn) (by rw [ca r f hk, bl r f hk]; exact ha)
  | @vw ρ r f l nn sz aa cap hd hn ha =>
    intro d hk
    have hk : r < N := by cases d <;> simpa [kb] using hk
    exact .vw (lo r hk hd) hn (by rw [bl r f hk]; exact ha)
  | @mp ρ r f hd hc =>
    intro d hk
    have hk : r < N := by cases d <;> simpa [kb] using hk
    rw [← bl r f hk]
    exact .mp (lo r hk hd) (by rw [ca r f hk]; exact hc)
  | rm b hi hb hM => exact fun _ _ => .rm b hi hb hM

/-- All keys in a value of the state lie below N: by what it stood for. -/
theorem R.low {x : Value} {ac : AV} {N N' : Nat} {σ : Names} (hσ : ∀ p ∈ σ, N ≤ p.1) (hN : N ≤ N') (h : R w ρ ac x) (hd : ∀ r, ρ.dom r → r < N) :
    ∀ {w' : World} {ρ' : Env} {x' : Value}, R w' ρ' ac x' → R w' (ρ'.ren N' σ) ac x' := by
  have lo : ∀ (ρ' : Env) r, r < N → ρ'.dom r → (ρ'.ren N' σ).dom r := fun ρ' r hr hd => by
    refine ⟨by omega, ?_⟩
    rw [asg_low hσ hr]; exact hd
  have bl : ∀ (ρ' : Env) r f, r < N → (ρ'.ren N' σ).blk r f = ρ'.blk r f := fun ρ' r f hr => by simp only [Env.ren, asg_low hσ hr]
  have ca : ∀ (ρ' : Env) r f, r < N → (ρ'.ren N' σ).cap r f = ρ'.cap r f := fun ρ' r f hr => by simp only [Env.ren, asg_low hσ hr]
  induction h with
  | v => intro w' ρ' x' h; cases h; exact .v
  | any => intro w' ρ' x' h; cases h; exact .any
  | @agg ρ cs vs hl h ih =>
    intro w' ρ' x' h'
    cases h' with
    | agg hl' h' =>
      refine .agg hl' fun i b x h1 h2 => ?_
      have hlt : i < vs.length := by
        have := (List.getElem?_eq_some_iff.1 h1).1
        omega
      exact ih i b vs[i] h1 (by simp) hd (h' i b x h1 h2)
  | @tup ρ cs vs hl h ih =>
    intro w' ρ' x' h'
    cases h' with
    | tup hl' h' =>
      refine .tup hl' fun i b x h1 h2 => ?_
      have hlt : i < vs.length := by
        have := (List.getElem?_eq_some_iff.1 h1).1
        omega
      exact ih i b vs[i] h1 (by simp) hd (h' i b x h1 h2)
  | @fn ρ f cs vs hl h ih =>
    intro w' ρ' x' h'
    cases h' with
    | fn hl' h' =>
      refine .fn hl' fun i b x h1 h2 => ?_
      have hlt : i < vs.length := by
        have := (List.getElem?_eq_some_iff.1 h1).1
        omega
      exact ih i b vs[i] h1 (by simp) hd (h' i b x h1 h2)
  | iface h ih => intro w' ρ' x' h'; cases h' with | iface h' => exact .iface (ih hd h')
  | yes h ih => intro w' ρ' x' h'; cases h' with | yes h' => exact .yes (ih hd h')
  | no => intro w' ρ' x' h'; cases h' with | no => exact .no
  | ro b o hn ha hi hlen hex hr ih =>
    intro w' ρ' x' h'
    cases h' with | ro b o hn ha hi hlen hex hr => exact .ro b o hn ha hi hlen hex hr
  | rop b o hi hex hr ih =>
    intro w' ρ' x' h'
    cases h' with | rop b o hi hex hr => exact .rop b o hi hex hr
  | @bx ρ r k hr =>
    intro w' ρ' x' h'
    cases h' with | bx hd' => 
    rw [← bl ρ' r 0 (hd r hr)]
    exact .bx (lo ρ' r (hd r hr) hd')
  | @ptr ρ r f i sz k hr =>
    intro w' ρ' x' h'
    cases h' with | ptr hd' =>
    rw [← bl ρ' r f (hd r hr)]
    exact .ptr (lo ρ' r (hd r hr) hd')
  | @own ρ r f nn sz aa hr hn ha =>
    intro w' ρ' x' h'
    cases h' with | own hd' hn' ha' =>
    have hk := hd r hr
    rw [← ca ρ' r f hk]
    exact .own (lo ρ' r hk hd') (by rw [ca ρ' r f hk]; exact hn') (by rw [ca ρ' r f hk, bl ρ' r f hk]; exact ha')
  | @vw ρ r f l nn sz aa cap hr hn ha =>
    intro w' ρ' x' h'
    cases h' with | vw hd' hn' ha' =>
    have hk := hd r hr
    exact .vw (lo ρ' r hk hd') hn' (by rw [bl ρ' r f hk]; exact ha')
  | @mp ρ r f hr hc =>
    intro w' ρ' x' h'
    cases h' with | mp hd' hc' =>
    have hk := hd r hr
    rw [← bl ρ' r f hk]
    exact .mp (lo ρ' r hk hd') (by rw [ca ρ' r f hk]; exact hc')
  | rm b hi hb hM =>
    intro w' ρ' x' h'
    cases h' with | rm b hi hb hM => exact .rm b hi hb hM

theorem fit1_sound {N k : Nat} {σ : Names} (hσ : ∀ p ∈ σ, N ≤ p.1 ∧ p.1 < N + k) {new old : AV} (h : fit1 N (N + k) σ new old) {x : Value} (hR : R w ρ old x) : R w (ρ.ren (N + k) σ) new x := by
  unfold fit1 at h
  split at h
  · rename_i r f nn sz
    obtain ⟨hlt, h⟩ := h
    split at h
    · rename_i q hq
      subst h
      have e1 : (ρ.ren (N + k) σ).cap r f = ρ.cap q f := by simp only [Env.ren, hq]
      have e2 : (ρ.ren (N + k) σ).blk r f = ρ.blk q f := by simp only [Env.ren, hq]
      cases hR with
      | own hd hn ha =>
        rw [← e1]
        exact .own ⟨hlt, by rw [hq]; exact hd⟩ (by rw [e1]; exact hn) (by rw [e1, e2]; exact ha)
    · rename_i hq
      obtain ⟨rfl, rfl⟩ := h
      have e1 : (ρ.ren (N + k) σ).cap r f = 0 := by simp only [Env.ren, hq]
      cases hR
      have := R.own (w := w) (ρ := ρ.ren (N + k) σ) (r := r) (f := f) (n := 0) (sz := sz) (a := none) ⟨hlt, by rw [hq]; trivial⟩ (by omega) (by rw [e1]; simp)
      rw [e1] at this
      exact this
  · exact .any
  · obtain ⟨rfl, hk⟩ := h
    exact hR.ren_low (fun p hp => (hσ p hp).1) (by omega) 3 hk


theorem look_append {m m' : Mem} {r : Nat} : look (m ++ m') r = match look m r with | some x => some x | none => look m' r := by
  induction m with
  | nil => rfl
  | cons q m ih =>
    obtain ⟨k, x⟩ := q
    simp only [List.cons_append, look]
    split
    · rfl
    · exact ih

theorem look_kept {keep : List Nat} {r : Nat} {x : Fam} : ∀ {m : Mem}, look (keptRows keep m) r = some x → r ∈ keep ∧ look m r = some x
  | [], h => by simp [keptRows, look] at h
  | (k, y) :: rest, h => by
    unfold keptRows at h
    rw [List.filter_cons] at h
    split at h
    · rename_i hk
      simp only [look] at h ⊢
      split at h
      · rename_i e; subst e
        simp only [if_true]
        exact ⟨by simpa using hk, h⟩
      · rename_i e
        simp only [e, if_false]
        exact look_kept h
    · rename_i hk
      have h' := look_kept (m := rest) h
      refine ⟨h'.1, ?_⟩
      simp only [look]
      rw [if_neg]
      · exact h'.2
      · intro e; subst e
        simp only [List.contains_eq_mem, decide_eq_true_eq] at hk
        exact hk h'.1

theorem look_mem {r : Nat} {x : Fam} : ∀ {m : Mem}, look m r = some x → (r, x) ∈ m
  | (k, y) :: rest, h => by
    simp only [look] at h
    split at h
    · rename_i e; cases h; subst e; simp
    · exact List.mem_cons_of_mem _ (look_mem h)

theorem fitRows_mem {N M : Nat} {σ : Names} {m : Mem} : ∀ {rows : Mem}, fitRows N M σ m rows → ∀ r x, (r, x) ∈ rows →
    match asg σ r with
    | some k => ∃ y, look m k = some y ∧ ∀ f, fitRow N M σ (x f) (y f)
    | none => ∀ f, (x f).n = 0 ∧ (x f).g = none
  | [], _, r, x, h => by simp at h
  | (k, y) :: rest, h, r, x, hm => by
    simp only [fitRows] at h
    rcases List.mem_cons.1 hm with e | hm
    · cases e; exact h.1
    · exact fitRows_mem h.2 r x hm

theorem fitKeep_mem {m m' : Mem} : ∀ {keep : List Nat}, fitKeep m m' keep → ∀ r ∈ keep, look m' r = look m r
  | [], _, r, h => by simp at h
  | k :: rest, h, r, hm => by
    simp only [fitKeep] at h
    rcases List.mem_cons.1 hm with e | hm
    · subst e; exact h.1
    · exact fitKeep_mem h.2 r hm

theorem fitSlots_mem {N M : Nat} {σ : Names} {W : List Nat} {t : Slots} : ∀ {l : Slots}, fitSlots N M σ W t l → ∀ j b, (j, b) ∈ l → j ∈ W ∧ fit1 N M σ b (slot t j)
  | [], _, j, b, h => by simp at h
  | (k, y) :: rest, h, j, b, hm => by
    simp only [fitSlots] at h
    rcases List.mem_cons.1 hm with e | hm
    · cases e; exact ⟨h.1, h.2.1⟩
    · exact fitSlots_mem h.2.2 j b hm

theorem fitL_get {N M : Nat} {σ : Names} : ∀ {ars bs : List AV}, fitL N M σ ars bs → ∀ (i : Nat) (c : AV), ars[i]? = some c → ∃ c', bs[i]? = some c' ∧ fit1 N M σ c c'
  | [], [], _, i, c, h => by simp at h
  | a :: ars, b :: bs, h, 0, c, hc => by simp at hc; subst hc; exact ⟨b, by simp, h.1⟩
  | a :: ars, b :: bs, h, i + 1, c, hc => by
    simp at hc
    simpa using fitL_get h.2 i c hc
  | [], _ :: _, h, _, _, _ => h.elim
  | _ :: _, [], h, _, _, _ => h.elim
theorem fitL_len {N M : Nat} {σ : Names} : ∀ {ars bs : List AV}, fitL N M σ ars bs → ars.length = bs.length
  | [], [], _ => rfl
  | a :: ars, b :: bs, h => by simp [fitL_len h.2]
  | [], _ :: _, h => h.elim
  | _ :: _, [], h => h.elim

theorem slot_append : ∀ {l t : Slots} {j : Nat}, (∃ b, (j, b) ∈ l ∧ slot (l ++ t) j = b) ∨ ((∀ b, (j, b) ∉ l) ∧ slot (l ++ t) j = slot t j)
  | [], t, j => .inr ⟨by simp, rfl⟩
  | (k, y) :: rest, t, j => by
    simp only [List.cons_append, slot]
    by_cases e : k = j
    · subst e
      exact .inl ⟨y, by simp, by simp⟩
    · simp only [e, if_false]
      rcases slot_append (l := rest) (t := t) (j := j) with ⟨b, h1, h2⟩ | ⟨h1, h2⟩
      · exact .inl ⟨b, by simp [h1], h2⟩
      · refine .inr ⟨fun b hb => ?_, h2⟩
        rcases List.mem_cons.1 hb with hb | hb
        · cases hb; exact e rfl
        · exact h1 b hb

theorem slot_anys {W : List Nat} {j : Nat} : slot (W.map fun j => (j, AV.any)) j = if j ∈ W then AV.any else .v undef := by
  induction W with
  | nil => simp [slot]
  | cons k W ih =>
    simp only [List.map_cons, slot, List.mem_cons]
    by_cases e : k = j
    · subst e; simp
    · have : ¬ j = k := fun h => e h.symm
      simp only [e, if_false, this, false_or]
      exact ih
theorem slot_havoc {W : List Nat} {t : Slots} {j : Nat} : slot (havoc W t) j = if j ∈ W then AV.any else slot t j := by
  unfold havoc
  induction t with
  | nil => exact slot_anys
  | cons q t ih =>
    obtain ⟨k, a⟩ := q
    simp only [dropW]
    by_cases hk : k ∈ W
    · rw [if_pos hk, ih]
      by_cases hj : j ∈ W
      · simp [hj]
      · have : ¬ k = j := fun e => hj (e ▸ hk)
        simp [hj, slot, this]
    · rw [if_neg hk]
      simp only [List.cons_append, slot]
      by_cases e : k = j
      · subst e; simp [hk]
      · simp only [e, if_false]
        exact ih

/-- Rows that the invariant speaks of. -/
theorem rows_of {X : Type} {I : Inv X} {W : List Nat} {s s' : St} {x : X} {ρe ρ : Env} {we : World} {wb : Base} (he : Rel wb ρe s.m (· < s.nx) we)
    (h : Rel w0 ρ s'.m D w) {σ : Names} (h2 : fitRows s.nx (s.nx + I.names) σ s'.m (I.rows x)) (h3 : fitKeep s.m s'.m I.keep) (h4 : goodNames s.nx I.names σ (I.rows x) I.keep) :
    Rel w0 (ρ.ren (s.nx + I.names) σ) (I.rows x ++ keptRows I.keep s.m) (· < s.nx + I.names) w := by
  obtain ⟨g1, g2, g3, g4⟩ := h4
  have hσ : ∀ p ∈ σ, s.nx ≤ p.1 := fun p hp => (g1 p hp).1
  have cases_ : ∀ r y, look (I.rows x ++ keptRows I.keep s.m) r = some y → ((r, y) ∈ I.rows x) ∨ (r ∈ I.keep ∧ look s.m r = some y ∧ look s'.m r = some y ∧ r < s.nx) := fun r y hy => by
    rw [look_append] at hy
    split at hy
    · rename_i z hz; cases hy; exact .inl (look_mem hz)
    · obtain ⟨k1, k2⟩ := look_kept hy
      exact .inr ⟨k1, k2, by rw [fitKeep_mem h3 r k1]; exact k2, he.key r y k2⟩
  -- what stands behind a row of the new memory
  have back : ∀ r y f, look (I.rows x ++ keptRows I.keep s.m) r = some y → (y f).g ≠ some false → 0 < (ρ.ren (s.nx + I.names) σ).cap r f →
      ∃ k z, asg σ r = some k ∧ look s'.m k = some z ∧ (z f).g ≠ some false ∧ ((r ∈ (I.rows x).map (·.1)) ∨ (r ∈ I.keep ∧ k = r)) := fun r y f hy hg hc => by
    rcases cases_ r y hy with hm | ⟨k1, k2, k3, k4⟩
    · have := fitRows_mem h2 r y hm
      split at this
      · rename_i k hk
        obtain ⟨z, hz, hf⟩ := this
        exact ⟨k, z, hk, hz, by rw [(hf f).2.2.2.1]; simp, .inl (List.mem_map.2 ⟨_, hm, rfl⟩)⟩
      · rename_i hk
        simp only [Env.ren, hk] at hc
        omega
    · exact ⟨r, y, asg_low hσ k4, k3, hg, .inr ⟨k1, rfl⟩⟩
  refine ⟨h.below, h.imm2, fun r hr => hr.1, fun r y hy => ?_, fun r y f hy hg => ?_, fun r y f r' y' f' hy hy' hg hg' hc hc' heq => ?_, h.fixed (fun _ _ => rfl) (fun b _ ho => ho.of fun r y f hy hg hc => ?_) (fun _ _ h => h), h.kept⟩
  · rcases cases_ r y hy with hm | ⟨k1, k2, k3, k4⟩
    · exact g4 _ hm
    · show r < s.nx + I.names
      omega
  · rcases cases_ r y hy with hm | ⟨k1, k2, k3, k4⟩
    · have hlt : r < s.nx + I.names := g4 _ hm
      have := fitRows_mem h2 r y hm
      split at this
      · rename_i k hk
        obtain ⟨z, hz, hf⟩ := this
        obtain ⟨f1, f2, f3, f4, f5, f6⟩ := hf f
        obtain ⟨d1, d2⟩ := h.row k z f hz (by rw [f4]; simp)
        have e1 : (ρ.ren (s.nx + I.names) σ).cap r f = ρ.cap k f := by simp only [Env.ren, hk]
        have e2 : (ρ.ren (s.nx + I.names) σ).blk r f = ρ.blk k f := by simp only [Env.ren, hk]
        refine ⟨⟨hlt, by rw [hk]; exact d1⟩, ⟨by rw [e1, f1]; exact d2.n_le, ?_, fun i hi => ?_, fun i q c v hi hc hv => ?_⟩⟩
        · rw [e1, e2, f1, f2, f3]; exact d2.blk
        · rw [fitL_len (f6 i hi), f2]; exact d2.len i (by omega)
        · obtain ⟨c', hc', hfit⟩ := fitL_get (f6 i hi) q c hc
          rw [e2, f2] at hv
          exact fit1_sound g1 hfit (d2.rel i q c' v (by omega) hc' hv)
      · rename_i hk
        obtain ⟨f1, f2⟩ := this f
        have e1 : (ρ.ren (s.nx + I.names) σ).cap r f = 0 := by simp only [Env.ren, hk]
        exact ⟨⟨hlt, by rw [hk]; trivial⟩, ⟨by omega, fun hc => by omega, fun i hi => by omega, fun i q c v hi => by omega⟩⟩
    · obtain ⟨d1, d2⟩ := h.row r y f k3 hg
      obtain ⟨c1, c2⟩ := he.row r y f k2 hg
      have hk := asg_low hσ k4
      have e1 : (ρ.ren (s.nx + I.names) σ).cap r f = ρ.cap r f := by simp only [Env.ren, hk]
      have e2 : (ρ.ren (s.nx + I.names) σ).blk r f = ρ.blk r f := by simp only [Env.ren, hk]
      refine ⟨⟨by omega, by rw [hk]; exact d1⟩, ⟨by rw [e1]; exact d2.n_le, by rw [e1, e2]; exact d2.blk, d2.len, fun i q c v hi hc hv => ?_⟩⟩
      rw [e2] at hv
      have hR := d2.rel i q c v hi hc hv
      have hcap : 0 < ρe.cap r f := by have := c2.n_le; omega
      obtain ⟨b1, b2, cc, b3, b4⟩ := c2.cells (by omega)
      have hq : q < (y f).sz := by
        rw [← c2.len i hi]
        exact (List.getElem?_eq_some_iff.1 hc).1
      have hlt : i * (y f).sz + q < cc.size := by
        rw [b4]
        have h1 : (i + 1) * (y f).sz ≤ ρe.cap r f * (y f).sz := Nat.mul_le_mul_right _ (by have := c2.n_le; omega)
        rw [Nat.add_mul] at h1
        omega
      exact (c2.rel i q c cc[i * (y f).sz + q] hi hc (by unfold Has World.cell?; simp [b3, hlt])).low hσ (by omega) (fun r hr => he.dom r hr) hR
  · obtain ⟨k, z, a1, a2, a3, a4⟩ := back r y f hy hg hc
    obtain ⟨k', z', a1', a2', a3', a4'⟩ := back r' y' f' hy' hg' hc'
    simp only [Env.ren, a1] at hc heq
    simp only [Env.ren, a1'] at hc' heq
    obtain ⟨e1, e2⟩ := h.sep k z f k' z' f' a2 a2' a3 a3' hc hc' heq
    refine ⟨?_, e2⟩
    subst e1
    have inj : ∀ {l : Mem}, ((l.filterMap fun e => asg σ e.1)).Nodup → ∀ r r' k, r ∈ l.map (·.1) → r' ∈ l.map (·.1) → asg σ r = some k → asg σ r' = some k → r = r' := by
      intro l
      induction l with
      | nil => intro _ r r' k h; simp at h
      | cons q l ih =>
        intro hn r r' k hr hr' h1 h2
        rw [List.filterMap_cons] at hn
        have mem : ∀ r, r ∈ l.map (·.1) → asg σ r = some k → k ∈ l.filterMap fun e => asg σ e.1 := fun r hr h => by
          obtain ⟨e, he, rfl⟩ := List.mem_map.1 hr
          exact List.mem_filterMap.2 ⟨e, he, h⟩
        rcases List.mem_cons.1 hr with e | hr
        · rcases List.mem_cons.1 hr' with e' | hr'
          · rw [e, e']
          · subst e; rw [h1] at hn
            exact absurd (mem r' hr' h2) (List.nodup_cons.1 hn).1
        · rcases List.mem_cons.1 hr' with e' | hr'
          · subst e'; rw [h2] at hn
            exact absurd (mem r hr h1) (List.nodup_cons.1 hn).1
          · refine ih ?_ r r' k hr hr' h1 h2
            split at hn
            · exact hn
            · exact (List.nodup_cons.1 hn).2
    have dis : ∀ r k, r ∈ (I.rows x).map (·.1) → asg σ r = some k → k ∈ I.keep → False := fun r k hr h hk => by
      obtain ⟨e, he, rfl⟩ := List.mem_map.1 hr
      exact (List.nodup_append.1 g3).2.2 k (List.mem_filterMap.2 ⟨e, he, h⟩) k hk rfl
    rcases a4 with a4 | ⟨a4, e4⟩
    · rcases a4' with a4' | ⟨a4', e4'⟩
      · exact inj (List.nodup_append.1 g3).1 r r' k a4 a4' a1 a1'
      · exact (dis r k a4 a1 (e4' ▸ a4')).elim
    · rcases a4' with a4' | ⟨a4', e4'⟩
      · exact (dis r' k a4' a1' (e4 ▸ a4)).elim
      · rw [← e4, ← e4']
  · obtain ⟨k, z, a1, a2, a3, _⟩ := back r y f hy hg hc
    simp only [Env.ren, a1] at hc ⊢
    exact .inl ⟨k, z, f, a2, a3, hc, rfl⟩


/-- Rows under aliases. -/
def Env.al (ρ : Env) (N M : Nat) (θ : Alias) : Env where
  dom r := r < M ∧ (r < N → ρ.dom r)
  blk r f := match θ r f with
    | some (k, g) => ρ.blk k g
    | none => 0
  cap r f := match θ r f with
    | some (k, g) => ρ.cap k g
    | none => 0
  imm := ρ.imm
theorem keeps_al {ρ : Env} {N M : Nat} {θ : Alias} (hlow : ∀ r f, r < N → θ r f = some (r, f)) (hM : N ≤ M) : Keeps N ρ (ρ.al N M θ) := fun r hr hd =>
  ⟨⟨by omega, fun _ => hd⟩, fun f => by simp only [Env.al, hlow r f hr, and_self]⟩
theorem keeps_ren {ρ : Env} {N M : Nat} {σ : Names} (hσ : ∀ p ∈ σ, N ≤ p.1) (hM : N ≤ M) : Keeps N ρ (ρ.ren M σ) := fun r hr hd =>
  ⟨⟨by omega, by rw [asg_low hσ hr]; exact hd⟩, fun f => by simp only [Env.ren, asg_low hσ hr, and_self]⟩

/-- A value whose keys lie below N, in an environment that keeps these. -/
theorem R.keep {N : Nat} {x : Value} {ac : AV} (h : R w ρ ac x) : ∀ {ρ' : Env}, Keeps N ρ ρ' → (∀ b, ρ.imm b → ρ'.imm b) → ∀ (d : Nat), kb d N ac → R w ρ' ac x := by
  induction h with
  | v => exact fun _ _ _ _ => .v
  | any => exact fun _ _ _ _ => .any
  | agg hl h ih =>
    intro ρ' k hi d hk
    cases d with
    | zero => simp [kb] at hk
    | succ d =>
      simp only [kb] at hk
      exact .agg hl fun i b x h1 h2 => ih i b x h1 h2 k hi d (hk b (List.mem_of_getElem? h1))
  | tup hl h ih =>
    intro ρ' k hi d hk
    cases d with
    | zero => simp [kb] at hk
    | succ d =>
      simp only [kb] at hk
      exact .tup hl fun i b x h1 h2 => ih i b x h1 h2 k hi d (hk b (List.mem_of_getElem? h1))
  | fn hl h ih =>
    intro ρ' k hi d hk
    cases d with
    | zero => simp [kb] at hk
    | succ d =>
      simp only [kb] at hk
      exact .fn hl fun i b x h1 h2 => ih i b x h1 h2 k hi d (hk b (List.mem_of_getElem? h1))
  | iface h ih =>
    intro ρ' k hi d hk
    cases d with
    | zero => simp [kb] at hk
    | succ d => simp only [kb] at hk; exact .iface (ih k hi d hk)
  | yes h ih =>
    intro ρ' k hi d hk
    cases d with
    | zero => simp [kb] at hk
    | succ d => simp only [kb] at hk; exact .yes (ih k hi d hk)
  | no => exact fun _ _ _ _ => .no
  | ro b o hn ha hi hlen hex hr ih =>
    exact fun _ hi' _ _ => .ro b o hn ha (fun h => hi' _ (hi h)) hlen hex fun i k c x h1 h2 h3 => (hr i k c x h1 h2 h3).mono (Env.le.ext hi') (.refl _ _)
  | rop b o hi hex hr ih => exact fun _ hi' _ _ => .rop b o (hi' _ hi) hex fun k c x h1 h2 => (hr k c x h1 h2).mono (Env.le.ext hi') (.refl _ _)
  | @bx ρ r k hd =>
    intro ρ' kp _ d hk
    have hk : r < N := by cases d <;> simpa [kb] using hk
    obtain ⟨k1, k2⟩ := kp r hk hd
    rw [← (k2 0).1]
    exact .bx k1
  | @ptr ρ r f i sz k hd =>
    intro ρ' kp _ d hk
    have hk : r < N := by cases d <;> simpa [kb] using hk
    obtain ⟨k1, k2⟩ := kp r hk hd
    rw [← (k2 f).1]
    exact .ptr k1
  | @own ρ r f nn sz aa hd hn ha =>
    intro ρ' kp _ d hk
    have hk : r < N := by cases d <;> simpa [kb] using hk
    obtain ⟨k1, k2⟩ := kp r hk hd
    rw [← (k2 f).2]
    exact .own k1 (by rw [(k2 f).2]; exact hn) (by rw [(k2 f).2, (k2 f).1]; exact ha)
  | @vw ρ r f l nn sz aa cap hd hn ha =>
    intro ρ' kp _ d hk
    have hk : r < N := by cases d <;> simpa [kb] using hk
    obtain ⟨k1, k2⟩ := kp r hk hd
    exact .vw k1 hn (by rw [(k2 f).1]; exact ha)
  | @mp ρ r f hd hc =>
    intro ρ' kp _ d hk
    have hk : r < N := by cases d <;> simpa [kb] using hk
    obtain ⟨k1, k2⟩ := kp r hk hd
    rw [← (k2 f).1]
    exact .mp k1 (by rw [(k2 f).2]; exact hc)
  | rm b hi hb hM => exact fun _ hi' _ _ => .rm b (hi' _ hi) hb hM

/-- All keys in a value of the state lie below N: by what it stood for. -/
theorem R.lowK {x : Value} {ac : AV} {N : Nat} (h : R w ρ ac x) (hd : ∀ r, ρ.dom r → r < N) :
    ∀ {w' : World} {ρ' ρ'' : Env} {x' : Value}, Keeps N ρ' ρ'' → (∀ b, ρ'.imm b → ρ''.imm b) → R w' ρ' ac x' → R w' ρ'' ac x' := by
  induction h with
  | v => intro w' ρ' ρ'' x' _ _ h; cases h; exact .v
  | any => intro w' ρ' ρ'' x' _ _ h; cases h; exact .any
  | @agg ρ cs vs hl h ih =>
    intro w' ρ' ρ'' x' k hi h'
    cases h' with
    | agg hl' h' =>
      refine .agg hl' fun i b x h1 h2 => ?_
      have hlt : i < vs.length := by
        have := (List.getElem?_eq_some_iff.1 h1).1
        omega
      exact ih i b vs[i] h1 (by simp) hd k hi (h' i b x h1 h2)
  | @tup ρ cs vs hl h ih =>
    intro w' ρ' ρ'' x' k hi h'
    cases h' with
    | tup hl' h' =>
      refine .tup hl' fun i b x h1 h2 => ?_
      have hlt : i < vs.length := by
        have := (List.getElem?_eq_some_iff.1 h1).1
        omega
      exact ih i b vs[i] h1 (by simp) hd k hi (h' i b x h1 h2)
  | @fn ρ f cs vs hl h ih =>
    intro w' ρ' ρ'' x' k hi h'
    cases h' with
    | fn hl' h' =>
      refine .fn hl' fun i b x h1 h2 => ?_
      have hlt : i < vs.length := by
        have := (List.getElem?_eq_some_iff.1 h1).1
        omega
      exact ih i b vs[i] h1 (by simp) hd k hi (h' i b x h1 h2)
  | iface h ih => intro w' ρ' ρ'' x' k hi h'; cases h' with | iface h' => exact .iface (ih hd k hi h')
  | yes h ih => intro w' ρ' ρ'' x' k hi h'; cases h' with | yes h' => exact .yes (ih hd k hi h')
  | no => intro w' ρ' ρ'' x' k hi h'; cases h' with | no => exact .no
  | ro b o hn ha hi hlen hex hr ih =>
    intro w' ρ' ρ'' x' k hi' h'
    cases h' with | ro b o hn ha hi hlen hex hr => exact .ro b o hn ha (fun h => hi' _ (hi h)) hlen hex fun i k c x h1 h2 h3 => (hr i k c x h1 h2 h3).mono (Env.le.ext hi') (.refl _ _)
  | rop b o hi hex hr ih =>
    intro w' ρ' ρ'' x' k hi' h'
    cases h' with | rop b o hi hex hr => exact .rop b o (hi' _ hi) hex fun k c x h1 h2 => (hr k c x h1 h2).mono (Env.le.ext hi') (.refl _ _)
  | @bx ρ r k hr =>
    intro w' ρ' ρ'' x' kp _ h'
    cases h' with | bx hd' =>
    obtain ⟨k1, k2⟩ := kp r (hd r hr) hd'
    rw [← (k2 0).1]
    exact .bx k1
  | @ptr ρ r f i sz k hr =>
    intro w' ρ' ρ'' x' kp _ h'
    cases h' with | ptr hd' =>
    obtain ⟨k1, k2⟩ := kp r (hd r hr) hd'
    rw [← (k2 f).1]
    exact .ptr k1
  | @own ρ r f nn sz aa hr hn ha =>
    intro w' ρ' ρ'' x' kp _ h'
    cases h' with | own hd' hn' ha' =>
    obtain ⟨k1, k2⟩ := kp r (hd r hr) hd'
    rw [← (k2 f).2]
    exact .own k1 (by rw [(k2 f).2]; exact hn') (by rw [(k2 f).2, (k2 f).1]; exact ha')
  | @vw ρ r f l nn sz aa cap hr hn ha =>
    intro w' ρ' ρ'' x' kp _ h'
    cases h' with | vw hd' hn' ha' =>
    obtain ⟨k1, k2⟩ := kp r (hd r hr) hd'
    exact .vw k1 hn' (by rw [(k2 f).1]; exact ha')
  | @mp ρ r f hr hc =>
    intro w' ρ' ρ'' x' kp _ h'
    cases h' with | mp hd' hc' =>
    obtain ⟨k1, k2⟩ := kp r (hd r hr) hd'
    rw [← (k2 f).1]
    exact .mp k1 (by rw [(k2 f).2]; exact hc')
  | rm b hi hb hM =>
    intro w' ρ' ρ'' x' k hi' h'
    cases h' with | rm b hi hb hM => exact .rm b (hi' _ hi) hb hM

theorem fit1A_sound {N M : Nat} {θ : Alias} (hlow : ∀ r f, r < N → θ r f = some (r, f)) (hM : N ≤ M) {new old : AV} (h : fit1A N M θ new old) {x : Value} (hR : R w ρ old x) : R w (ρ.al N M θ) new x := by
  unfold fit1A at h
  split at h
  · rename_i r f nn sz
    obtain ⟨hlt, h⟩ := h
    split at h
    · rename_i q g hq
      subst h
      have e1 : (ρ.al N M θ).cap r f = ρ.cap q g := by simp only [Env.al, hq]
      have e2 : (ρ.al N M θ).blk r f = ρ.blk q g := by simp only [Env.al, hq]
      cases hR with
      | own hd hn ha =>
        rw [← e1]
        refine .own ⟨hlt, fun hr => ?_⟩ (by rw [e1]; exact hn) (by rw [e1, e2]; exact ha)
        rw [hlow r f hr] at hq; cases hq; exact hd
    · rename_i hq
      obtain ⟨rfl, rfl⟩ := h
      have e1 : (ρ.al N M θ).cap r f = 0 := by simp only [Env.al, hq]
      cases hR
      have := R.own (w := w) (ρ := ρ.al N M θ) (r := r) (f := f) (n := 0) (sz := sz) (a := none) ⟨hlt, fun hr => by rw [hlow r f hr] at hq; cases hq⟩ (by omega) (by rw [e1]; simp)
      rw [e1] at this
      exact this
  · rename_i r f i sz k
    obtain ⟨hlt, h⟩ := h
    split at h
    · rename_i q g hq
      have e2 : (ρ.al N M θ).blk r f = ρ.blk q g := by simp only [Env.al, hq]
      rcases h with h | ⟨h1, h2, h⟩
      · subst h
        cases hR with
        | ptr hd =>
          rw [← e2]
          refine .ptr ⟨hlt, fun hr => ?_⟩
          rw [hlow r f hr] at hq; cases hq; exact hd
      · subst h h1 h2
        cases hR with
        | bx hd =>
          have hp : R w (ρ.al N M θ) (.ptr r f 0 sz k) (.pointer (some ⟨(ρ.al N M θ).blk r f, 0 * sz + k, none⟩)) := .ptr ⟨hlt, fun hr => by rw [hlow r f hr] at hq; cases hq; exact hd⟩
          rw [e2, Nat.zero_mul, Nat.zero_add] at hp
          exact hp
    · exact h.elim
  · rename_i r k
    obtain ⟨hlt, h⟩ := h
    split at h
    · rename_i q g hq
      obtain ⟨rfl, rfl⟩ := h
      have e2 : (ρ.al N M θ).blk r 0 = ρ.blk q 0 := by simp only [Env.al, hq]
      cases hR with
      | bx hd =>
        rw [← e2]
        refine .bx ⟨hlt, fun hr => ?_⟩
        rw [hlow r 0 hr] at hq; cases hq; exact hd
    · exact h.elim
  · rename_i r f
    obtain ⟨hlt, h⟩ := h
    split at h
    · rename_i q g hq
      subst h
      have e1 : (ρ.al N M θ).cap r f = ρ.cap q g := by simp only [Env.al, hq]
      have e2 : (ρ.al N M θ).blk r f = ρ.blk q g := by simp only [Env.al, hq]
      cases hR with
      | mp hd hc =>
        rw [← e2]
        refine .mp ⟨hlt, fun hr => ?_⟩ (by rw [e1]; exact hc)
        rw [hlow r f hr] at hq; cases hq; exact hd
    · exact h.elim
  · exact .any
  · obtain ⟨rfl, hk⟩ := h
    exact hR.keep (keeps_al hlow hM) (fun _ h => h) 3 hk

theorem fitRowsA_mem {N M : Nat} {θ : Alias} {m : Mem} : ∀ {rows : Mem}, fitRowsA N M θ m rows → ∀ r x, (r, x) ∈ rows → ∀ f, match θ r f with
    | some (k, g) => ∃ y, look m k = some y ∧ fitRowA N M θ (x f) (y g)
    | none => (x f).n = 0 ∧ (x f).g = none
  | [], _, _, _, h => by cases h
  | (r0, x0) :: rest, ⟨h1, h2⟩, r, x, h => by
    rcases List.mem_cons.1 h with e | h
    · cases e; exact h1
    · exact fitRowsA_mem h2 r x h
theorem fitSlotsA_mem {N M : Nat} {θ : Alias} {W : List Nat} {t : Slots} : ∀ {l : Slots}, fitSlotsA N M θ W t l → ∀ j b, (j, b) ∈ l → j ∈ W ∧ fit1A N M θ b (slot t j)
  | [], _, _, _, h => by cases h
  | (j0, b0) :: rest, ⟨h1, h2, h3⟩, j, b, h => by
    rcases List.mem_cons.1 h with e | h
    · cases e; exact ⟨h1, h2⟩
    · exact fitSlotsA_mem h3 j b h
theorem fitLA_get {N M : Nat} {θ : Alias} : ∀ {ars bs : List AV}, fitLA N M θ ars bs → ∀ (i : Nat) (c : AV), ars[i]? = some c → ∃ c', bs[i]? = some c' ∧ fit1A N M θ c c'
  | [], bs, _, i, c, h => by simp at h
  | a :: ars, [], h, _, _, _ => by simp [fitLA] at h
  | a :: ars, b :: bs, ⟨h1, h2⟩, i, c, h => by
    cases i with
    | zero => simp at h; subst h; exact ⟨b, rfl, h1⟩
    | succ i => simp at h; simpa using fitLA_get h2 i c h
theorem fitLA_len {N M : Nat} {θ : Alias} : ∀ {ars bs : List AV}, fitLA N M θ ars bs → ars.length = bs.length
  | [], [], _ => rfl
  | [], _ :: _, h => by simp [fitLA] at h
  | _ :: _, [], h => by simp [fitLA] at h
  | a :: ars, b :: bs, ⟨_, h⟩ => by simp [fitLA_len h]

/-- Rows that the invariant speaks of, under aliases. -/
theorem rows_ofA {X : Type} {I : Inv X} {s s' : St} {x : X} {ρe ρ : Env} {we : World} {wb : Base} (he : Rel wb ρe s.m (· < s.nx) we)
    (h : Rel w0 ρ s'.m D w) {θ : Alias} (h2 : fitRowsA s.nx (s.nx + I.names) θ s'.m (I.rows x)) (h3 : fitKeep s.m s'.m I.keep) (h4 : goodA s.nx I.names θ (I.rows x) I.keep) :
    Rel w0 (ρ.al s.nx (s.nx + I.names) θ) (I.rows x ++ keptRows I.keep s.m) (· < s.nx + I.names) w := by
  obtain ⟨hlow, g4, inj⟩ := h4
  have hM : s.nx ≤ s.nx + I.names := by omega
  have cases_ : ∀ r y, look (I.rows x ++ keptRows I.keep s.m) r = some y → ((r, y) ∈ I.rows x) ∨ (r ∈ I.keep ∧ look s.m r = some y ∧ look s'.m r = some y ∧ r < s.nx) := fun r y hy => by
    rw [look_append] at hy
    split at hy
    · rename_i z hz; cases hy; exact .inl (look_mem hz)
    · obtain ⟨k1, k2⟩ := look_kept hy
      exact .inr ⟨k1, k2, by rw [fitKeep_mem h3 r k1]; exact k2, he.key r y k2⟩
  have back : ∀ r y f, look (I.rows x ++ keptRows I.keep s.m) r = some y → (y f).g ≠ some false → 0 < (ρ.al s.nx (s.nx + I.names) θ).cap r f →
      ∃ k g z, θ r f = some (k, g) ∧ look s'.m k = some z ∧ (z g).g ≠ some false ∧ ((r ∈ (I.rows x).map (·.1)) ∨ r ∈ I.keep) := fun r y f hy hg hc => by
    rcases cases_ r y hy with hm | ⟨k1, k2, k3, k4⟩
    · have := fitRowsA_mem h2 r y hm f
      split at this
      · rename_i k g hk
        obtain ⟨z, hz, hf⟩ := this
        exact ⟨k, g, z, hk, hz, by rw [hf.2.2.2.1]; simp, .inl (List.mem_map.2 ⟨_, hm, rfl⟩)⟩
      · rename_i hk
        simp only [Env.al, hk] at hc
        omega
    · exact ⟨r, f, y, hlow r f k4, k3, hg, .inr k1⟩
  refine ⟨h.below, h.imm2, fun r hr => hr.1, fun r y hy => ?_, fun r y f hy hg => ?_, fun r y f r' y' f' hy hy' hg hg' hc hc' heq => ?_, h.fixed (fun _ _ => rfl) (fun b _ ho => ho.of fun r y f hy hg hc => ?_) (fun _ _ h => h), h.kept⟩
  · rcases cases_ r y hy with hm | ⟨k1, k2, k3, k4⟩
    · exact g4 _ hm
    · show r < s.nx + I.names
      omega
  · rcases cases_ r y hy with hm | ⟨k1, k2, k3, k4⟩
    · have hlt : r < s.nx + I.names := g4 _ hm
      have hdom : (ρ.al s.nx (s.nx + I.names) θ).dom r := ⟨hlt, fun hr => by
        have := fitRowsA_mem h2 r y hm f
        rw [hlow r f hr] at this
        obtain ⟨z, hz, hf⟩ := this
        exact (h.row r z f hz (by rw [hf.2.2.2.1]; simp)).1⟩
      have := fitRowsA_mem h2 r y hm f
      split at this
      · rename_i k g hk
        obtain ⟨z, hz, f1, f2, f3, f4, f5, f6⟩ := this
        obtain ⟨d1, d2⟩ := h.row k z g hz (by rw [f4]; simp)
        have e1 : (ρ.al s.nx (s.nx + I.names) θ).cap r f = ρ.cap k g := by simp only [Env.al, hk]
        have e2 : (ρ.al s.nx (s.nx + I.names) θ).blk r f = ρ.blk k g := by simp only [Env.al, hk]
        refine ⟨hdom, ⟨by rw [e1, f1]; exact d2.n_le, ?_, fun i hi => ?_, fun i q c v hi hc hv => ?_⟩⟩
        · rw [e1, e2, f1, f2, f3]; exact d2.blk
        · rw [fitLA_len (f6 i hi), f2]; exact d2.len i (by omega)
        · obtain ⟨c', hc', hfit⟩ := fitLA_get (f6 i hi) q c hc
          rw [e2, f2] at hv
          exact fit1A_sound hlow hM hfit (d2.rel i q c' v (by omega) hc' hv)
      · rename_i hk
        obtain ⟨f1, f2⟩ := this
        have e1 : (ρ.al s.nx (s.nx + I.names) θ).cap r f = 0 := by simp only [Env.al, hk]
        exact ⟨hdom, ⟨by omega, fun hc => by omega, fun i hi => by omega, fun i q c v hi => by omega⟩⟩
    · obtain ⟨d1, d2⟩ := h.row r y f k3 hg
      obtain ⟨c1, c2⟩ := he.row r y f k2 hg
      have hk := hlow r f k4
      have e1 : (ρ.al s.nx (s.nx + I.names) θ).cap r f = ρ.cap r f := by simp only [Env.al, hk]
      have e2 : (ρ.al s.nx (s.nx + I.names) θ).blk r f = ρ.blk r f := by simp only [Env.al, hk]
      refine ⟨⟨by omega, fun _ => d1⟩, ⟨by rw [e1]; exact d2.n_le, by rw [e1, e2]; exact d2.blk, d2.len, fun i q c v hi hc hv => ?_⟩⟩
      rw [e2] at hv
      have hR := d2.rel i q c v hi hc hv
      have hcap : 0 < ρe.cap r f := by have := c2.n_le; omega
      obtain ⟨b1, b2, cc, b3, b4⟩ := c2.cells (by omega)
      have hq : q < (y f).sz := by
        rw [← c2.len i hi]
        exact (List.getElem?_eq_some_iff.1 hc).1
      have hlt : i * (y f).sz + q < cc.size := by
        rw [b4]
        have h1 : (i + 1) * (y f).sz ≤ ρe.cap r f * (y f).sz := Nat.mul_le_mul_right _ (by have := c2.n_le; omega)
        rw [Nat.add_mul] at h1
        omega
      exact (c2.rel i q c cc[i * (y f).sz + q] hi hc (by unfold Has World.cell?; simp [b3, hlt])).lowK (fun r hr => he.dom r hr) (keeps_al hlow hM) (fun _ h => h) hR
  · obtain ⟨k, g, z, a1, a2, a3, a4⟩ := back r y f hy hg hc
    obtain ⟨k', g', z', a1', a2', a3', a4'⟩ := back r' y' f' hy' hg' hc'
    simp only [Env.al, a1] at hc heq
    simp only [Env.al, a1'] at hc' heq
    obtain ⟨e1, e2⟩ := h.sep k z g k' z' g' a2 a2' a3 a3' hc hc' heq
    subst e1 e2
    exact inj r f r' f' k g a4 a4' a1 a1'
  · obtain ⟨k, g, z, a1, a2, a3, _⟩ := back r y f hy hg hc
    simp only [Env.al, a1] at hc ⊢
    exact .inl ⟨k, z, g, a2, a3, hc, rfl⟩

/-- A loop's head. -/
theorem head_sound {X : Type} {I : Inv X} {W : List Nat} {s s' : St} {x : X} {ρe : Env} {we : World} {ae : Act} {wb : Base} {de : Frm} (he : SR wb ρe s.t s.m (· < s.nx) nt de ae we)
    (h : SR w0 ρ s'.t s'.m D nt ds a w) (fr : ∀ j, j ∉ W → slot s'.t j = slot s.t j) (hf : fits I W s x s') :
    (∃ ρ', SR w0 ρ' (headSt I W s x).t (headSt I W s x).m (· < (headSt I W s x).nx) nt ds a w ∧ Keeps s.nx ρ ρ') ∧ ∀ j, j ∉ W → slot (headSt I W s x).t j = slot s.t j := by
  rcases hf with hf | hf
  case inr =>
    obtain ⟨θ, h1, h2, h3, h4⟩ := hf
    have hlow := h4.1
    have hM : s.nx ≤ s.nx + I.names := by omega
    refine ⟨⟨ρ.al s.nx (s.nx + I.names) θ, ⟨rows_ofA he.rel h.rel h2 h3 h4, fun j => ?_, h.size, h.defers, h.frame⟩, keeps_al hlow hM⟩, fun j hj => ?_⟩
    · rcases slot_append (l := I.live x) (t := havoc W s.t) (j := j) with ⟨b, k1, k2⟩ | ⟨k1, k2⟩
      · show R w _ (slot (I.live x ++ havoc W s.t) j) _
        rw [k2]
        exact fit1A_sound hlow hM (fitSlotsA_mem h1 j b k1).2 (h.slots j)
      · show R w _ (slot (I.live x ++ havoc W s.t) j) _
        rw [k2, slot_havoc]
        split
        · exact .any
        · rename_i hj
          exact (he.slots j).lowK (fun r hr => he.rel.dom r hr) (keeps_al hlow hM) (fun _ h => h) (fr j hj ▸ h.slots j)
    · show slot (I.live x ++ havoc W s.t) j = _
      rcases slot_append (l := I.live x) (t := havoc W s.t) (j := j) with ⟨b, k1, k2⟩ | ⟨k1, k2⟩
      · exact absurd (fitSlotsA_mem h1 j b k1).1 hj
      · rw [k2, slot_havoc, if_neg hj]
  obtain ⟨σ, h1, h2, h3, h4⟩ := hf
  have hσ : ∀ p ∈ σ, s.nx ≤ p.1 := fun p hp => (h4.1 p hp).1
  refine ⟨⟨ρ.ren (s.nx + I.names) σ, ⟨rows_of (W := W) he.rel h.rel h2 h3 h4, fun j => ?_, h.size, h.defers, h.frame⟩, keeps_ren hσ (by omega)⟩, fun j hj => ?_⟩
  · rcases slot_append (l := I.live x) (t := havoc W s.t) (j := j) with ⟨b, k1, k2⟩ | ⟨k1, k2⟩
    · show R w _ (slot (I.live x ++ havoc W s.t) j) _
      rw [k2]
      exact fit1_sound h4.1 (fitSlots_mem h1 j b k1).2 (h.slots j)
    · show R w _ (slot (I.live x ++ havoc W s.t) j) _
      rw [k2, slot_havoc]
      split
      · exact .any
      · rename_i hj
        exact (he.slots j).low hσ (by omega) (fun r hr => he.rel.dom r hr) (fr j hj ▸ h.slots j)
  · show slot (I.live x ++ havoc W s.t) j = _
    rcases slot_append (l := I.live x) (t := havoc W s.t) (j := j) with ⟨b, k1, k2⟩ | ⟨k1, k2⟩
    · exact absurd (fitSlots_mem h1 j b k1).1 hj
    · rw [k2, slot_havoc, if_neg hj]

/-- A fixed block is turned; it is fixed no more, or ars it is now. -/
theorem Rel.putObj (h : Rel w0 ρ m D w) {b : Nat} {o o' : Obj} (hb : (b, o) ∈ w0.fix) {fx : List (Nat × Obj)} (hfx : ∀ p ∈ fx, (p = (b, o') ∧ ∀ c ty fr, o' ≠ .cells c ty fr) ∨ (p ∈ w0.fix ∧ p.1 ≠ b)) : Rel { w0 with fix := fx } ρ m D (w.putObj b o') := by
  obtain ⟨f1, f2, f3, f4⟩ := h.fix _ hb
  have hoth : ∀ k, k ≠ b → (w.putObj b o').heap[k]? = w.heap[k]? := fun k hk => World.putObj_heap_other hk
  have hs : Same ρ.imm w (w.putObj b o') := fun k hk => hoth k (fun e => f3 (e ▸ hk))
  have hsz : (w.putObj b o').heap.size = w.heap.size := by simp
  refine ⟨h.below.trans ⟨rfl, rfl, rfl, by simp, fun k hk => hoth k (fun e => by dsimp only at f1 hk; omega)⟩, fun k hk => by rw [hsz]; exact h.imm2 k hk, h.dom, h.key, fun r x f hx hg => ?_, h.sep, fun p hp => ?_, ?_⟩
  · obtain ⟨hd, hr⟩ := h.row r x f hx hg
    have hr' := hr.mono (w' := w.putObj b o') hd (.refl _) (fun _ _ h => h) hs (fun hc => hoth _ (fun e => h.fix_ne hx hg hc hb e.symm))
    exact ⟨hd, hr'.n_le, hr'.blk, hr'.len, hr'.rel⟩
  · rcases hfx p hp with ⟨rfl, hno⟩ | ⟨hp1, hp2⟩
    · exact ⟨f1, f2, f3, World.putObj_heap_same (h.fixlt hb)⟩
    · obtain ⟨g1, g2, g3, g4⟩ := h.fix p hp1
      exact ⟨g1, g2, g3, (hoth _ hp2).trans g4⟩
  · exact h.keeps hs
theorem SR.putObj (h : SR w0 ρ t m D nt ds a w) {b : Nat} {o o' : Obj} (hb : (b, o) ∈ w0.fix) {fx : List (Nat × Obj)} (hfx : ∀ p ∈ fx, (p = (b, o') ∧ ∀ c ty fr, o' ≠ .cells c ty fr) ∨ (p ∈ w0.fix ∧ p.1 ≠ b)) : SR { w0 with fix := fx } ρ t m D nt ds a (w.putObj b o') :=
  ⟨h.rel.putObj hb hfx, fun j => (h.slots j).mono (.refl _) (fun k hk => World.putObj_heap_other (fun e => (h.rel.fix _ hb).2.2.1 (e ▸ hk))), h.size, h.defers, h.frame⟩
/-- All that is there stays. -/
theorem Rel.stay (h : Rel w0 ρ m D w) {w' : World} (hb : Below w.heap.size w w') : Rel w0 ρ m D w' := by
  have hs : Same ρ.imm w w' := Same.of_below hb h.imm
  refine ⟨h.below.trans (hb.mono h.below.size), fun b hi => ⟨Nat.lt_of_lt_of_le (h.imm b hi) hb.size, (h.imm2 b hi).2⟩, h.dom, h.key, fun r x f hx hg => ?_, h.sep, h.fixed (fun p hp => hb.block _ (h.fixlt hp)) (fun _ _ h => h) (fun _ _ h => h), h.keeps hs⟩
  obtain ⟨hd, hr⟩ := h.row r x f hx hg
  exact ⟨hd, hr.mono hd (.refl _) (fun _ _ h => h) hs (fun hc => hb.block _ (h.lt hx hg hc))⟩
theorem SR.stay (h : SR w0 ρ t m D nt ds a w) {w' : World} (hb : Below w.heap.size w w') : SR w0 ρ t m D nt ds a w' :=
  ⟨h.rel.stay hb, fun j => (h.slots j).mono (.refl _) (Same.of_below hb h.rel.imm), h.size, h.defers, h.frame⟩
/-- A new block that is no cells is fixed. -/
theorem Rel.fixNew (h : Rel w0 ρ m D w) {o : Obj} (ho : ∀ c ty fr, o ≠ .cells c ty fr) : Rel { w0 with fix := (w.heap.size, o) :: w0.fix } ρ m D (w.alloc o) := by
  have h' := h.stay (w' := w.alloc o) (((Below.refl _ w).alloc (Nat.le_refl _) _))
  refine ⟨h'.below, h'.imm2, h'.dom, h'.key, fun r x f hx hg => ?_, h'.sep, fun p hp => ?_, h'.kept⟩
  · obtain ⟨hd, hr⟩ := h'.row r x f hx hg
    exact ⟨hd, hr.n_le, hr.blk, hr.len, hr.rel⟩
  · rcases List.mem_cons.1 hp with rfl | hp
    · exact ⟨h.below.size, fun r x f hx hg hc => by have := h.lt hx hg hc; dsimp only; omega, fun hi => by have := h.imm _ hi; dsimp only at this; omega, Go.heap_alloc_new _ _⟩
    · exact h'.fix p hp

/-- Less is fixed, less is kept. -/
theorem Rel.shrink (h : Rel w0 ρ m D w) {fx kp : List (Nat × Obj)} (hf : ∀ p ∈ fx, p ∈ w0.fix) (hk : ∀ p ∈ kp, p ∈ w0.kept) : Rel { w0 with fix := fx, kept := kp } ρ m D w :=
  ⟨h.below, h.imm2, h.dom, h.key, fun r x f hx hg => ⟨(h.row r x f hx hg).1, (h.row r x f hx hg).2.n_le, (h.row r x f hx hg).2.blk, (h.row r x f hx hg).2.len, (h.row r x f hx hg).2.rel⟩, h.sep, fun p hp => h.fix p (hf p hp), fun p hp => h.kept p (hk p hp)⟩
theorem SR.shrink (h : SR w0 ρ t m D nt ds a w) {fx kp : List (Nat × Obj)} (hf : ∀ p ∈ fx, p ∈ w0.fix) (hk : ∀ p ∈ kp, p ∈ w0.kept) : SR { w0 with fix := fx, kept := kp } ρ t m D nt ds a w :=
  ⟨h.rel.shrink hf hk, h.slots, h.size, h.defers, h.frame⟩
theorem writesOps_mem {l : List Oper} {o : Oper} {k : Nat} (h : o ∈ l) (hk : o.dst = some k) : k ∈ writesOps l := by
  induction l with
  | nil => cases h
  | cons p l ih =>
    unfold writesOps
    rcases List.mem_cons.1 h with e | h
    · rw [← e, hk]; exact List.mem_cons_self
    · have := ih h
      cases p.dst with
      | none => exact this
      | some d => exact List.mem_cons_of_mem _ this
/-- The dmark of a range over a function. -/
def dmark (D : Nat) : Deferred := { target := .collected D, args := #[] }
/-- Is there a range over a function in it? -/
def ranges : Code → Bool
  | .seq a b => ranges a || ranges b
  | .cond _ a b => ranges a || ranges b
  | .block _ c => ranges c
  | .loop c => ranges c
  | .rangeFunc _ _ _ _ => true
  | .scope c => ranges c
  | _ => false
/-- What ranges over functions add: fixed blocks, marks. -/
def Ext (r : Bool) (w0 : Base) (ds : Frm) (w1 : Base) (ds1 : Frm) : Prop :=
  ∃ (fx : List (Nat × Obj)) (ms : List Nat), w1 = { w0 with fix := fx ++ w0.fix } ∧ ds1 = { ds with ds := ms.map dmark ++ ds.ds } ∧ (∀ b ∈ ms, (b, Obj.deferred (some [])) ∈ fx) ∧ ms.Nodup ∧ (∀ b ∈ ms, ∀ p ∈ w0.fix, p.1 ≠ b) ∧ (r = false → ms = [])
theorem Ext.refl {r : Bool} (w0 : Base) (ds : Frm) : Ext r w0 ds w0 ds := ⟨[], [], rfl, rfl, by simp, List.nodup_nil, by simp, fun _ => rfl⟩
theorem Ext.mono {r r' : Bool} {w0 w1 : Base} {d0 d1 : Frm} (h : Ext r w0 d0 w1 d1) (hr : r' = false → r = false) : Ext r' w0 d0 w1 d1 := by
  obtain ⟨fx, ms, h1, h2, h3, h4, h5, h6⟩ := h
  exact ⟨fx, ms, h1, h2, h3, h4, h5, fun e => h6 (hr e)⟩
theorem Ext.trans {r : Bool} {w0 w1 w2 : Base} {d0 d1 d2 : Frm} (h : Ext r w0 d0 w1 d1) (k : Ext r w1 d1 w2 d2) : Ext r w0 d0 w2 d2 := by
  obtain ⟨fx, ms, rfl, rfl, h1, h2, h3, h4⟩ := h
  obtain ⟨fy, ns, rfl, rfl, k1, k2, k3, k4⟩ := k
  refine ⟨fy ++ fx, ns ++ ms, by simp, by simp, fun b hb => ?_, List.nodup_append.2 ⟨k2, h2, fun b hb c hc e => ?_⟩, fun b hb p hp => ?_, fun e => by rw [h4 e, k4 e]; rfl⟩
  · rcases List.mem_append.1 hb with hb | hb
    · exact List.mem_append.2 (.inl (k1 b hb))
    · exact List.mem_append.2 (.inr (h1 b hb))
  · subst e
    exact k3 b hb _ (List.mem_append.2 (.inl (h1 b hc))) rfl
  · rcases List.mem_append.1 hb with hb | hb
    · exact k3 b hb p (List.mem_append.2 (.inr hp))
    · exact h3 b hb p hp
theorem Ext.W {r : Bool} {w0 w1 : Base} {d0 d1 : Frm} (h : Ext r w0 d0 w1 d1) : d1.W = d0.W := by
  obtain ⟨fx, ms, rfl, rfl, _⟩ := h; rfl

/-- A loop's record. -/
def recOf (fn : FuncId) (tmps : Array Value) (ps : Array Tmp) (x c : Code) (d : Nat) (st : LoopState) (pe : Option Code) : Obj := .loop { state := st, pending := pe, fn, tmps, params := ps, assign := x, body := c, defers := d }
theorem enter_run {ro : Option Nat} (hro : ∀ l, ro = some l → ∃ r, (l, Obj.loop r) ∈ w0.fix) (hR : Rel w0 ρ m D w) (fn : FuncId) (tmps : Array Value) (ps : Array Tmp) (x c : Code) :
    ∃ (l d : Nat) (mk : List Nat) (w1 : World) (fx : List (Nat × Obj)), (Instr.enterLoop fn tmps ps x c ro).run P w = .ok (l, mk.map dmark) w1 ∧ Below w.heap.size w w1 ∧
      Rel { w0 with fix := (l, recOf fn tmps ps x c d .ready none) :: (fx ++ w0.fix) } ρ m D w1 ∧ (∀ b ∈ mk, (b, Obj.deferred (some [])) ∈ fx) ∧ mk.Nodup ∧ (∀ b ∈ mk, ∀ p ∈ w0.fix, p.1 ≠ b) ∧ (∀ p ∈ fx ++ w0.fix, p.1 ≠ l) := by
  cases ro with
  | none =>
    have h1 := hR.fixNew (o := .deferred (some [])) (by intros; simp)
    have h2 := h1.fixNew (o := recOf fn tmps ps x c w.heap.size .ready none) (by intros; simp [recOf])
    refine ⟨w.heap.size + 1, w.heap.size, [w.heap.size], _, [(w.heap.size, .deferred (some []))], run_enterLoop_outer _ _ _ _ _, ?_, ?_, by simp, by simp, ?_, ?_⟩
    · exact (((Below.refl _ w).alloc (Nat.le_refl _) _).alloc (by simp) _)
    · have e : (w.alloc (.deferred (some []))).heap.size = w.heap.size + 1 := by simp
      rw [e] at h2
      exact h2
    · intro b hb p hp
      have := hR.fixlt hp
      simp at hb
      omega
    · intro p hp
      rcases List.mem_append.1 hp with hp | hp
      · simp at hp; subst hp; simp
      · have := hR.fixlt hp
        omega
  | some l0 =>
    obtain ⟨r, hr⟩ := hro l0 rfl
    have h2 := hR.fixNew (o := recOf fn tmps ps x c r.defers .ready none) (by intros; simp [recOf])
    refine ⟨w.heap.size, r.defers, [], _, [], run_enterLoop_inner (hR.fix _ hr).2.2.2 _ _ _ _ _, ?_, ?_, by simp, by simp, by simp, ?_⟩
    · exact ((Below.refl _ w).alloc (Nat.le_refl _) _)
    · exact h2
    · intro p hp
      have := hR.fixlt (by simpa using hp)
      omega

theorem range_call {g : Operand} {gf : FuncId} {lb : Array Value} (hg : a.eval g = .func (.func gf) #[] lb) (l : Nat) (w : World) :
    (resolve a.eval (rangeCall g l) 0).run P w = .ok { target := .fn (.func gf) lb, args := #[.func (.yield l) #[] #[]] } w := by
  simp only [resolve, hg]
  simp [go_sem]
theorem range_invoke {gf : FuncId} {lb : Array Value} (eg : ∀ args w, (callFunc gf args).run P w = .ok (.enter gf args) w) (l : Nat) (w : World) :
    (invoke (Target.fn (.func gf) lb) #[.func (.yield l) #[] #[]]).run P w = .ok (.enter gf (#[.func (.yield l) #[] #[]] ++ lb)) w := by
  simp [invoke, go_sem, eg]

theorem Ext.loops {r : Bool} {w0 w1 : Base} {d0 d1 : Frm} (h : Ext r w0 d0 w1 d1) {ro : Option Nat} (k : ∀ l, ro = some l → ∃ r, (l, Obj.loop r) ∈ w0.fix) : ∀ l, ro = some l → ∃ r, (l, Obj.loop r) ∈ w1.fix := by
  obtain ⟨fx, ms, rfl, rfl, _⟩ := h
  intro l hl
  obtain ⟨r, hr⟩ := k l hl
  exact ⟨r, List.mem_append.2 (.inr hr)⟩

theorem seqOf_inv {g : AV} {ob : List Prop} {N : Nat} {sq : Nat → List AV} (h : seqOf G g = some (ob, N, sq)) :
    ∃ f cs c k, g = .fn f cs ∧ cs.all (clean 3) = true ∧ pureOf (ctxGet G (1000000 + f)) = some c ∧ c cs = some (ob, .ro N k sq) := by
  unfold seqOf at h
  split at h
  · rename_i f cs
    split at h
    · rename_i hc
      split at h
      · rename_i c hg
        split at h
        · rename_i ob' N' k sq' he
          cases h
          exact ⟨f, cs, c, k, rfl, hc, hg, he⟩
        · cases h
      · cases h
    · cases h
  · cases h

/-- What is read alone, with what it holds. -/
noncomputable def keepAll (I : Nat → Prop) (w : World) : List (Nat × Obj) :=
  open Classical in (List.range w.heap.size).filterMap fun b => if I b then w.heap[b]?.map (b, ·) else none
theorem keepAll_mem {I : Nat → Prop} {p : Nat × Obj} (h : p ∈ keepAll I w) : I p.1 ∧ w.heap[p.1]? = some p.2 := by
  unfold keepAll at h
  obtain ⟨b, _, hb⟩ := List.mem_filterMap.1 h
  split at hb
  · rename_i hi
    obtain ⟨o, ho, rfl⟩ := Option.map_eq_some_iff.1 hb
    exact ⟨hi, ho⟩
  · cases hb
theorem keepAll_same {I : Nat → Prop} {w' : World} (hI : ∀ b, I b → b < w.heap.size) (h : ∀ p ∈ keepAll I w, w'.heap[p.1]? = some p.2) : Same I w w' := fun b hb => by
  have hlt := hI b hb
  have hm : (b, w.heap[b]) ∈ keepAll I w := by
    unfold keepAll
    exact List.mem_filterMap.2 ⟨b, List.mem_range.2 hlt, by rw [if_pos hb]; simp [hlt]⟩
  rw [h _ hm]
  simp [hlt]
theorem Rel.keepMore (h : Rel w0 ρ m D w) : Rel { w0 with kept := keepAll ρ.imm w ++ w0.kept } ρ m D w :=
  ⟨h.below, h.imm2, h.dom, h.key, fun r x f hx hg => ⟨(h.row r x f hx hg).1, (h.row r x f hx hg).2.n_le, (h.row r x f hx hg).2.blk, (h.row r x f hx hg).2.len, (h.row r x f hx hg).2.rel⟩, h.sep, h.fix, fun p hp => (List.mem_append.1 hp).elim keepAll_mem (h.kept p)⟩
theorem SR.dmark (h : SR w0 ρ t m D nt ds a w) (l : List Deferred) : SR w0 ρ t m D nt { ds with ds := l ++ ds.ds } { a with defers := l ++ a.defers } w :=
  ⟨h.rel, h.slots, h.size, by simp [h.defers], h.frame⟩
theorem slotsOf_other : ∀ (ps : List Nat) (ars : List AV) (t : Slots) (j : Nat), j ∉ ps → slot (slotsOf ps ars t) j = slot t j
  | [], ars, t, j, _ => by cases ars <;> simp [slotsOf]
  | p :: ps, [], t, j, _ => by simp [slotsOf]
  | p :: ps, a :: ars, t, j, h => by
    simp only [List.mem_cons, not_or] at h
    simp only [slotsOf]
    rw [slotsOf_other ps ars _ j h.2]
    simp only [slot]
    rw [if_neg (fun e => h.1 e.symm)]
/-- How a round is left. -/
def jumpOf : AEx → Option Code
  | .normal => none
  | .exit j => some (.exit j)
  | .ret => some .ret

theorem stepR_scope {b : Frame} {k : List Item} {cs : List Frame} {c : Code} : step P (lone (b.atR a (.code (.scope c) :: k)) cs w) = .next (lone (b.atR a (.code c :: .inScope c :: k)) cs w) :=
  step_lone_go (by simp [stepG, stepG.exec, Frame.atR])
theorem stepR_inScope {b : Frame} {k : List Item} {cs : List Frame} {c : Code} : step P (lone (b.atR a (.inScope c :: k)) cs w) = .next (lone (b.atR a k) cs w) :=
  step_lone_go (by simp [stepG, stepG.exec, Frame.atR])
/-- A scope through which the run goes without a jump to a label. -/
theorem wpIn_scope {F : Fence} {c : Code} (h : c.wpIn F n P (Exit.noGoto Q) a w) : (Code.scope c).wpIn F n P Q a w := by
  intro b k cs hro hb hr
  have h0 : (lone (b.atR a (.code (.scope c) :: k)) cs w).fenced P F := fenced_calm hb hr rfl
  obtain ⟨e, a₁, w₁, hq, harr⟩ := h b (.inScope c :: k) cs hro hb hr
  cases e with
  | normal => exact ⟨.normal, a₁, w₁, hq, .head h0 stepR_scope (StepsIn.trans harr (.one (fenced_calm hb hr rfl) stepR_inScope))⟩
  | exit id =>
    have hx : exitTo id (.inScope c :: k) = exitTo id k := by simp [exitTo]
    exact ⟨.exit id, a₁, w₁, hq, fun k' hk => .head h0 stepR_scope (harr.1 k' (by rw [hx]; exact hk)), fun hr' hk => let ⟨k₁, h1, h2⟩ := harr.2 hr' (by rw [hx]; exact hk); ⟨k₁, h1, .head h0 stepR_scope h2⟩⟩
  | goto l => exact hq.elim
  | ret => exact ⟨_, a₁, w₁, hq, .of_steps (.one h0 stepR_scope) harr⟩
  | panic ch => exact ⟨_, a₁, w₁, hq, .of_steps (.one h0 stepR_scope) harr⟩
  | outgrown => exact ⟨_, a₁, w₁, hq, .of_steps (.one h0 stepR_scope) harr⟩

/-- Code: what the evaluator says comes true. -/
theorem awp_sound {H : Hots} (hG : CtxOK P G) (hm : P.follows .mixedOrders = true) : ∀ (c : Code) (ro : Option Nat) (n : Nat) (s : St) (K : AEx → St → Prop) (w0 : Base) (ds : Frm) (ρ : Env) (a : Act) (w : World) (Q : Exit → Act → World → Prop),
    codeOK H nt c = true → (∀ l, ro = some l → ∃ r, (l, Obj.loop r) ∈ w0.fix) → (∀ k ∈ writes c, ds.W k) → awp P G H c s K → SR w0 ρ s.t s.m (· < s.nx) nt ds a w →
    (∀ e s' w1 ds1 ρ' a' w', Ext (ranges c) w0 ds w1 ds1 → K e s' → s.nx ≤ s'.nx → (∀ j, j ∉ writes c → slot s'.t j = slot s.t j) → SR w1 ρ' s'.t s'.m (· < s'.nx) nt ds1 a' w' → Keeps s.nx ρ ρ' → Q (conc e) a' w') →
    c.wpIn (Fw ro) n P Q a w := by
  intro c
  induction c with
  | skip =>
    intro ro n s K w0 ds ρ a w Q hok hro hW h hs hK
    exact wpIn_skip (hK .normal s w0 ds ρ a w (.refl _ _) h (Nat.le_refl _) (fun _ _ => rfl) hs (.refl _ _))
  | region id ops draw =>
    intro ro n s K w0 ds ρ a w Q hok hro hW h hs hK
    simp only [awp] at h
    simp only [codeOK, Bool.and_eq_true, Bool.or_eq_true, Bool.not_eq_true'] at hok
    refine region_sound hG hm hok.2 (fun o ho k hk => ⟨fitsOps_mem hok.1 ho k hk, hW k (writesOps_mem ho hk)⟩) (regP_frame h) hs fun s' ρ' a' w' ⟨k1, k2, k3⟩ kle hs' => ?_
    refine hK .normal _ w0 ds ρ' a' w' (.refl _ _) k1 (by dsimp only; omega) (fun j hj => k3 j hj) hs' (kle.keeps _)
  | seq x y ihx ihy =>
    intro ro n s K w0 ds ρ a w Q hok hro hW h hs hK
    simp only [codeOK, Bool.and_eq_true] at hok
    simp only [awp] at h
    have hWx : ∀ k ∈ writes x, ds.W k := fun k hk => hW k (by simp only [writes, List.mem_append]; exact .inl hk)
    have hWy : ∀ k ∈ writes y, ds.W k := fun k hk => hW k (by simp only [writes, List.mem_append]; exact .inr hk)
    refine wpIn_seq (ihx ro n s _ w0 ds ρ a w _ hok.1 hro hWx h hs fun e s' w1 ds1 ρ' a' w' k0 k1 k2 k3 k4 k5 => ?_)
    cases e with
    | normal =>
      refine ihy ro n s' K w1 ds1 ρ' a' w' Q hok.2 (k0.loops hro) (by rw [k0.W]; exact hWy) k1 k4 fun e s2 w2 ds2 ρ2 a2 w2' l0 l1 l2 l3 l4 l5 => hK e s2 w2 ds2 ρ2 a2 w2' ((k0.mono (fun h => by simp only [ranges, Bool.or_eq_false_iff] at h; exact h.1)).trans (l0.mono (fun h => by simp only [ranges, Bool.or_eq_false_iff] at h; exact h.2))) l1 (by omega) (fun j hj => ?_) l4 (k5.trans l5 k2)
      simp only [writes, List.mem_append, not_or] at hj
      rw [l3 j hj.2, k3 j hj.1]
    | exit j => exact hK _ s' w1 ds1 ρ' a' w' (k0.mono (fun h => by simp only [ranges, Bool.or_eq_false_iff] at h; exact h.1)) k1 k2 (fun j hj => k3 j (by simp only [writes, List.mem_append, not_or] at hj; exact hj.1)) k4 k5
    | ret => exact hK _ s' w1 ds1 ρ' a' w' (k0.mono (fun h => by simp only [ranges, Bool.or_eq_false_iff] at h; exact h.1)) k1 k2 (fun j hj => k3 j (by simp only [writes, List.mem_append, not_or] at hj; exact hj.1)) k4 k5
  | cond c x y ihx ihy =>
    intro ro n s K w0 ds ρ a w Q hok hro hW h hs hK
    simp only [codeOK, Bool.and_eq_true] at hok
    simp only [awp, optK] at h
    have hWx : ∀ k ∈ writes x, ds.W k := fun k hk => hW k (by simp only [writes, List.mem_append]; exact .inl hk)
    have hWy : ∀ k ∈ writes y, ds.W k := fun k hk => hW k (by simp only [writes, List.mem_append]; exact .inr hk)
    split at h
    · rename_i b hb
      have hv := boolOf_sound (hs.opd c) hb
      refine wpIn_cond_split hv (fun hbt => ?_) (fun hbf => ?_)
      · exact ihx ro n s K w0 ds ρ a w Q hok.1 hro hWx (h.1 hbt) hs fun e s' w1 ds1 ρ' a' w' k0 k1 k2 k3 k4 k5 => hK e s' w1 ds1 ρ' a' w' (k0.mono (fun h => by simp only [ranges, Bool.or_eq_false_iff] at h; exact h.1)) k1 k2 (fun j hj => k3 j (by simp only [writes, List.mem_append, not_or] at hj; exact hj.1)) k4 k5
      · exact ihy ro n s K w0 ds ρ a w Q hok.2 hro hWy (h.2 hbf) hs fun e s' w1 ds1 ρ' a' w' k0 k1 k2 k3 k4 k5 => hK e s' w1 ds1 ρ' a' w' (k0.mono (fun h => by simp only [ranges, Bool.or_eq_false_iff] at h; exact h.2)) k1 k2 (fun j hj => k3 j (by simp only [writes, List.mem_append, not_or] at hj; exact hj.2)) k4 k5
    · exact h.elim
  | block id c ih =>
    intro ro n s K w0 ds ρ a w Q hok hro hW h hs hK
    simp only [codeOK] at hok
    simp only [awp] at h
    refine wpIn_block (ih ro n s _ w0 ds ρ a w _ hok hro hW h hs fun e s' w1 ds1 ρ' a' w' k0 k1 k2 k3 k4 k5 => ?_)
    cases e with
    | normal => exact hK .normal s' w1 ds1 ρ' a' w' k0 k1 k2 k3 k4 k5
    | exit j =>
      simp only [blockK] at k1
      simp only [conc, Exit.inBlock]
      split
      · rename_i e
        rw [if_pos e] at k1
        exact hK .normal s' w1 ds1 ρ' a' w' k0 k1 k2 k3 k4 k5
      · rename_i e
        rw [if_neg e] at k1
        exact hK (.exit j) s' w1 ds1 ρ' a' w' k0 k1 k2 k3 k4 k5
    | ret => exact hK .ret s' w1 ds1 ρ' a' w' k0 k1 k2 k3 k4 k5
  | loop c ih =>
    intro ro n s K w0 ds ρ a w Q hok hro hW h hs hK
    simp only [codeOK] at hok
    simp only [awp, loopP] at h
    obtain ⟨X, I, ⟨x, hx, hfit⟩, hround⟩ := h
    have key : ∀ (k : Nat) (x : X) (w1 : Base) (ds1 : Frm) (ρ' : Env) (a' : Act) (w' : World), Ext (ranges c) w0 ds w1 ds1 → I.ok x → I.μ x < k → SR w1 ρ' (headSt I (writes c) s x).t (headSt I (writes c) s x).m (· < (headSt I (writes c) s x).nx) nt ds1 a' w' →
        (∀ j, j ∉ writes c → slot (headSt I (writes c) s x).t j = slot s.t j) → Keeps s.nx ρ ρ' → Code.roundsIn (Fw ro) n P c Q k a' w' := by
      intro k
      induction k with
      | zero => intro x w1 ds1 ρ' a' w' _ _ hk; omega
      | succ k ihk =>
        intro x w1 ds1 ρ' a' w' hE hx hk hs' hfr hkp
        rw [roundsIn_succ]
        refine ih ro n _ _ w1 ds1 ρ' a' w' _ hok (hE.loops hro) (by rw [hE.W]; exact hW) (hround x hx) hs' fun e s2 w2 ds2 ρ2 a2 w2' k0 k1 k2 k3 k4 k5 => ?_
        have hnx : s.nx ≤ s2.nx := Nat.le_trans (by simp [headSt]) k2
        have hkp2 : Keeps s.nx ρ ρ2 := hkp.trans k5 (by simp [headSt])
        have hfr2 : ∀ j, j ∉ writes c → slot s2.t j = slot s.t j := fun j hj => by rw [k3 j hj, hfr j hj]
        cases e with
        | normal =>
          obtain ⟨y, hy, hlt, hfy⟩ := k1
          obtain ⟨⟨ρ3, h3, hkp3⟩, h4⟩ := head_sound hs k4 hfr2 hfy
          exact ihk y w2 ds2 ρ3 a2 w2' (hE.trans k0) hy (by omega) h3 h4 (hkp2.trans hkp3 (Nat.le_refl _))
        | exit j => exact hK (.exit j) s2 w2 ds2 ρ2 a2 w2' (hE.trans k0) k1 hnx hfr2 k4 hkp2
        | ret => exact hK .ret s2 w2 ds2 ρ2 a2 w2' (hE.trans k0) k1 hnx hfr2 k4 hkp2
    obtain ⟨⟨ρ3, h3, hkp3⟩, h4⟩ := head_sound hs hs (fun _ _ => rfl) hfit
    exact wpIn_loop_rounds (I.μ x + 1) (key (I.μ x + 1) x w0 ds ρ3 a w (.refl _ _) hx (by omega) h3 h4 hkp3)
  | ret =>
    intro ro n s K w0 ds ρ a w Q hok hro hW h hs hK
    exact wpIn_ret (hK .ret s w0 ds ρ a w (.refl _ _) h (Nat.le_refl _) (fun _ _ => rfl) hs (.refl _ _))
  | exit id =>
    intro ro n s K w0 ds ρ a w Q hok hro hW h hs hK
    exact wpIn_exit (hK (.exit id) s w0 ds ρ a w (.refl _ _) h (Nat.le_refl _) (fun _ _ => rfl) hs (.refl _ _))
  | rangeFunc g ps x c ihx ihc =>
    intro ro n s K w0 ds ρ a w Q hok hro hW h hs hK
    simp only [codeOK, Bool.and_eq_true, List.all_eq_true, decide_eq_true_eq] at hok
    obtain ⟨⟨hps, hokx⟩, hokc⟩ := hok
    simp only [awp, optK] at h
    split at h
    · rename_i q hq
      obtain ⟨ob, N, sq⟩ := q
      obtain ⟨hob, hlen, X, I, cnt, hlive, ⟨x0, hok0, hcnt0, hfit0⟩, hround, hdone⟩ := conj_iff.1 h
      clear h
      dsimp only at hlen hob hround hdone
      obtain ⟨f, cs, cc, k, hg, hcl, hget, hcc⟩ := seqOf_inv hq
      have hseq := hG.range hget cs ob N k sq hcc hob
      generalize hWr : ps.toList ++ writes x ++ writes c = Wr at *
      have hWrx : ∀ j ∈ writes x, j ∈ Wr := fun j hj => by rw [← hWr]; simp [hj]
      have hWrc : ∀ j ∈ writes c, j ∈ Wr := fun j hj => by rw [← hWr]; simp [hj]
      have hWrp : ∀ j ∈ ps.toList, j ∈ Wr := fun j hj => by rw [← hWr]; simp only [List.mem_append]; exact .inl (.inl hj)
      -- the iterator and what it has captured
      have hgv := hs.opd g
      rw [hg] at hgv
      generalize hge : a.eval g = gv at hgv
      cases hgv with
      | @fn _ _ _ vs hl hvs =>
      have hcap : Rs w (.ext ρ.imm) cs vs := ⟨hl, fun i b y h1 h2 => clean_sound 3 (List.all_eq_true.1 hcl b (List.mem_of_getElem? h1)) (hvs i b y h1 h2)⟩
      refine wpIn_rangeFunc fun fn hfn => ?_
      obtain ⟨l, d, mk, w1, fx, henter, hbel, hrel1, hmk1, hmk2, hmk3, hfxl⟩ := enter_run (P := P) hro hs.rel fn a.tmps ps x c
      have himm : ∀ b, ρ.imm b → b < w.heap.size := hs.rel.imm
      have hsm1 : Same ρ.imm w w1 := Same.of_below hbel himm
      obtain ⟨wbS, hwbS⟩ : ∃ wbS : LoopState → Option Code → Base, wbS = fun st pe => { w0 with fix := (l, recOf fn a.tmps ps x c d st pe) :: (fx ++ w0.fix), kept := keepAll ρ.imm w1 ++ w0.kept } := ⟨_, rfl⟩
      have hmem : ∀ st pe, (l, recOf fn a.tmps ps x c d st pe) ∈ (wbS st pe).fix := fun st pe => by rw [hwbS]; exact List.mem_cons_self
      have hno : ∀ st pe c' ty fr, recOf fn a.tmps ps x c d st pe ≠ .cells c' ty fr := fun st pe c' ty fr => by simp [recOf]
      have hrel1' : Rel (wbS .ready none) ρ s.m (· < s.nx) w1 := by rw [hwbS]; exact hrel1.keepMore
      have hsr1 : SR (wbS .ready none) ρ s.t s.m (· < s.nx) nt ds a w1 := ⟨hrel1', fun j => (hs.slots j).mono (.refl _) hsm1, hs.size, hs.defers, hs.frame⟩
      have hkeep : ∀ {st pe ρ' m' D' W}, Rel (wbS st pe) ρ' m' D' W → Same ρ.imm w1 W := fun {st pe ρ' m' D' W} hr => by
        refine keepAll_same (fun b hb => Nat.lt_of_lt_of_le (himm b hb) hbel.size) fun p hp => (hr.kept p ?_).2
        rw [hwbS]; exact List.mem_append.2 (.inl hp)
      obtain ⟨J, hJ⟩ : ∃ J : Nat → World → Prop, J = fun i W => ∃ y ρ', I.ok y ∧ cnt y = i ∧ Keeps s.nx ρ ρ' ∧ SR (wbS .ready none) ρ' (headSt I Wr s y).t (headSt I Wr s y).m (· < (headSt I Wr s y).nx) nt ds a W := ⟨_, rfl⟩
      obtain ⟨Jx, hJx⟩ : ∃ Jx : World → Prop, Jx = fun W => ∃ e s' ρ' jump, jumpOf e = some jump ∧ K e s' ∧ s.nx ≤ s'.nx ∧ (∀ j, j ∉ Wr → slot s'.t j = slot s.t j) ∧ Keeps s.nx ρ ρ' ∧ SR (wbS .done (some jump)) ρ' s'.t s'.m (· < s'.nx) nt ds a W := ⟨_, rfl⟩
      have hcall := hseq ρ.imm w1 vs (n - 1) l J Jx (fun b hb => Nat.lt_of_lt_of_le (himm b hb) hbel.size) (hcap.mono (.refl _) hsm1)
        (fun i W W' hj hb => by
          rw [hJ] at hj ⊢
          obtain ⟨y, ρ', h1, h2, hkp, h3⟩ := hj
          exact ⟨y, ρ', h1, h2, hkp, h3.stay hb⟩)
        (fun W W' hj hb => by
          rw [hJx] at hj ⊢
          obtain ⟨e, s', ρ', jump, h1, h2, h3, h4, hkp, h5⟩ := hj
          exact ⟨e, s', ρ', jump, h1, h2, h3, h4, hkp, h5.stay hb⟩)
        (by
          rw [hJ]
          have hE : SR (wbS .ready none) ρ (havoc Wr s.t) s.m (· < s.nx) nt ds a w1 := ⟨hrel1', fun j => by
            rw [slot_havoc]
            split
            · exact .any
            · exact hsr1.slots j, hs.size, hs.defers, hs.frame⟩
          obtain ⟨⟨ρ3, h3, hkp3⟩, _⟩ := head_sound (s' := { s with t := havoc Wr s.t }) hs hE (fun j hj => by rw [slot_havoc, if_neg hj]) hfit0
          exact ⟨x0, ρ3, hok0, hcnt0, hkp3, h3⟩)
        (fun i W args hi hj hsame hargs => by
          rw [hJ] at hj
          obtain ⟨y, ρy, hoky, hcnt, hkpy, hsr⟩ := hj
          obtain ⟨hl1, hl2⟩ := hlen i hi
          have hheap := (hsr.rel.fix _ (hmem .ready none)).2.2.2
          have hyield := run_yield (P := P) (args := args.toArray) hheap (by
            have := hargs.1
            simp only [List.size_toArray]
            rw [this, hl1]; simp)
          refine ⟨fn, _, x, c, hyield, roundIn_of_wpIn hfn ?_⟩
          rw [setAll_arr]
          have h0 := hround y hoky (show cnt y < N by omega)
          have hth : ∀ j, slot (headSt I Wr s y).t j = slot (havoc Wr s.t) j := fun j => by simp [headSt, hlive y]
          have hpl : ∀ (i' : Nat) (b : AV) (v : Value), (sq i)[i']? = some b → args[i']? = some v → R W ρy b v := fun i' b v h1 h2 => plain_sound 3 (List.all_eq_true.1 hl2 b (List.mem_of_getElem? h1)) (hargs.2 i' b v h1 h2)
          rw [hcnt] at h0
          refine ihx (some l) _ _ _ (wbS .ready none) ⟨[], (· ∈ Wr), a.tmps⟩ ρy _ W _ hokx (fun l' hl' => by cases hl'; exact ⟨_, hmem .ready none⟩) hWrx h0 ⟨hsr.rel, ?_, ?_, rfl, ?_⟩ ?_
          · exact slotsOf_R ps.toList (sq i) args (havoc Wr s.t) a.tmps hl1 hargs.1 (fun p hp => by rw [hs.size]; exact hps p hp) hpl (fun j => by rw [← hth j]; exact hsr.slots j)
          · exact (setAll_size _ _ _).trans hs.size
          · exact fun j hj => setAll_other _ _ _ _ (fun hm => hj (hWrp j hm))
          intro e s' w1' ds1 ρ' a' w' k0 k1 k2 k3 k4 k5
          have hsl1 : ∀ j, j ∉ Wr → slot s'.t j = slot s.t j := fun j hj => by
            rw [k3 j (fun hm => hj (hWrx j hm))]
            show slot (slotsOf _ _ _) j = _
            rw [slotsOf_other _ _ _ _ (fun hm => hj (hWrp j hm)), slot_havoc, if_neg hj]
          cases e with
          | normal =>
            obtain ⟨fy, ms, rfl, rfl, _, _, _⟩ := k0
            have hl' : (l, recOf fn a.tmps ps x c d .ready none) ∈ fy ++ (wbS .ready none).fix := List.mem_append.2 (.inr (hmem _ _))
            refine ⟨_, run_beginRound (k4.rel.fix _ hl').2.2.2 rfl, ?_⟩
            have hsr2 : SR (wbS .busy none) ρ' s'.t s'.m (· < s'.nx) nt ⟨ms.map dmark ++ [], (· ∈ Wr), a.tmps⟩ a' (w'.putObj l (recOf fn a.tmps ps x c d .busy none)) := by
              have := k4.putObj (o' := recOf fn a.tmps ps x c d .busy none) hl' (fx := (wbS .busy none).fix) (fun p hp => by
                rw [hwbS] at hp
                rcases List.mem_cons.1 hp with rfl | hp
                · exact .inl ⟨rfl, hno _ _⟩
                · refine .inr ⟨List.mem_append.2 (.inr ?_), hfxl p hp⟩
                  rw [hwbS]; exact List.mem_cons_of_mem _ hp)
              rw [hwbS] at this ⊢
              exact this
            refine ihc (some l) _ s' _ (wbS .busy none) _ ρ' a' _ _ hokc (fun l' hl' => by cases hl'; exact ⟨_, hmem .busy none⟩) hWrc k1 hsr2 ?_
            intro e2 s2 w2 ds2 ρ2 a2 w2' l0 l1 l2 l3 l4 l5
            have hkp2 : Keeps s.nx ρ ρ2 := (hkpy.trans k5 (by simp [headSt])).trans l5 (Nat.le_trans (by simp [headSt]) k2)
            obtain ⟨fz, ms2, rfl, rfl, _, _, _⟩ := l0
            have hlb : (l, recOf fn a.tmps ps x c d .busy none) ∈ fz ++ (wbS .busy none).fix := List.mem_append.2 (.inr (hmem _ _))
            have hrun := fun jump => run_endRound (P := P) jump (l4.rel.fix _ hlb).2.2.2
            have hsl : ∀ j, R w2' ρ2 (slot (havoc Wr s.t) j) (a.tmps.getD j undef) := fun j => by
              rw [slot_havoc]
              split
              · exact .any
              · rename_i hj
                have h1 := l4.slots j
                rw [l3 j (fun hm => hj (hWrc j hm)), hsl1 j hj, l4.frame j hj] at h1
                exact h1
            have hE : SR _ ρ2 (havoc Wr s.t) s2.m (· < s2.nx) nt ds a w2' := ⟨l4.rel, hsl, hs.size, hs.defers, hs.frame⟩
            have hE' : ∀ st pe, SR (wbS st pe) ρ2 (havoc Wr s.t) s2.m (· < s2.nx) nt ds a (w2'.putObj l (recOf fn a.tmps ps x c d st pe)) := fun st pe => by
              have := hE.putObj (o' := recOf fn a.tmps ps x c d st pe) hlb (fx := (wbS st pe).fix) (fun p hp => by
                rw [hwbS] at hp
                rcases List.mem_cons.1 hp with rfl | hp
                · exact .inl ⟨rfl, hno _ _⟩
                · refine .inr ⟨List.mem_append.2 (.inr ?_), hfxl p hp⟩
                  rw [hwbS]; exact List.mem_cons_of_mem _ hp)
              rw [hwbS] at this ⊢
              exact this
            have hnx : s.nx ≤ s2.nx := by
              have h1 : s.nx ≤ (headSt I Wr s y).nx := by simp [headSt]
              have h2 : (headSt I Wr s y).nx ≤ s'.nx := k2
              omega
            have hsame' : ∀ st pe, Same ρ.imm W (w2'.putObj l (recOf fn a.tmps ps x c d st pe)) := fun st pe b hb => by
              rw [hkeep (hE' st pe).rel b hb, hsame b hb]
            cases e2 with
            | normal =>
              obtain ⟨z, hz, hzc, hfit⟩ := l1
              refine ⟨_, _, hrun none, hsame' _ _, .inl ⟨rfl, ?_⟩⟩
              obtain ⟨⟨ρ3, h3, hkp3⟩, _⟩ := head_sound (s' := { s2 with t := havoc Wr s.t }) hs (hE' .ready none) (fun j hj => by rw [slot_havoc, if_neg hj]) hfit
              rw [hJ]
              exact ⟨z, ρ3, hz, by omega, hkp2.trans hkp3 (Nat.le_refl _), h3⟩
            | exit j =>
              refine ⟨_, _, hrun (some (.exit j)), hsame' _ _, .inr ⟨rfl, ?_⟩⟩
              rw [hJx]
              exact ⟨.exit j, _, ρ2, .exit j, rfl, l1, hnx, fun j hj => by rw [slot_havoc, if_neg hj], hkp2, hE' .done (some (.exit j))⟩
            | ret =>
              refine ⟨_, _, hrun (some .ret), hsame' _ _, .inr ⟨rfl, ?_⟩⟩
              rw [hJx]
              exact ⟨.ret, _, ρ2, .ret, rfl, l1, hnx, fun j hj => by rw [slot_havoc, if_neg hj], hkp2, hE' .done (some .ret)⟩
          | exit j => exact k1.elim
          | ret => exact k1.elim)
      obtain ⟨eg, hcall⟩ := hcall
      refine ⟨l, mk.map dmark, w1, _, w1, f, _, w1, henter, range_call hge l w1, fun _ _ => trivial, range_invoke eg l w1, fun hd => by simp [Fw, Fence.wide] at hd, ?_⟩
      refine CallsIn.mono (F := Fw ro) hcall ?_
      rintro e W ⟨⟨v, rfl⟩, hj | hj⟩
      · rw [hJ] at hj
        obtain ⟨y, ρy, hoky, hcnt, hkpy, hsr⟩ := hj
        refine ⟨none, _, run_endLoop (hsr.rel.fix _ (hmem .ready none)).2.2.2 (by simp), ?_⟩
        have hsr2 := ((hsr.putObj (o' := recOf fn a.tmps ps x c d .exhausted none) (hmem .ready none) (fx := fx ++ w0.fix) (fun p hp => by
          refine .inr ⟨?_, hfxl p hp⟩
          rw [hwbS]; exact List.mem_cons_of_mem _ hp)).shrink (fx := fx ++ w0.fix) (kp := w0.kept) (fun p hp => hp) (fun p hp => by rw [hwbS]; exact List.mem_append.2 (.inr hp))).dmark (mk.map dmark)
        have hsr3 : SR { w0 with fix := fx ++ w0.fix } ρy (headSt I Wr s y).t (headSt I Wr s y).m (· < (headSt I Wr s y).nx) nt { ds with ds := mk.map dmark ++ ds.ds } { a with defers := mk.map dmark ++ a.defers } (W.putObj l (recOf fn a.tmps ps x c d .exhausted none)) := by
          rw [hwbS] at hsr2; exact hsr2
        exact hK .normal (headSt I Wr s y) _ _ ρy _ _ ⟨fx, mk, rfl, rfl, hmk1, hmk2, hmk3, fun e => by simp [ranges] at e⟩ (hdone y hoky hcnt) (by simp [headSt]) (fun j hj => by
          have e1 : slot (headSt I Wr s y).t j = slot (havoc Wr s.t) j := by simp [headSt, hlive y]
          rw [e1, slot_havoc, if_neg]
          rw [← hWr]; simpa [writes] using hj) hsr3 hkpy
      · rw [hJx] at hj
        obtain ⟨e, s', ρ', jump, h1, h2, h3, h4, hkp, h5⟩ := hj
        refine ⟨some jump, _, run_endLoop (h5.rel.fix _ (hmem .done (some jump))).2.2.2 (by simp), ?_⟩
        have hsr2 := ((h5.putObj (o' := recOf fn a.tmps ps x c d .exhausted (some jump)) (hmem .done (some jump)) (fx := fx ++ w0.fix) (fun p hp => by
          refine .inr ⟨?_, hfxl p hp⟩
          rw [hwbS]; exact List.mem_cons_of_mem _ hp)).shrink (fx := fx ++ w0.fix) (kp := w0.kept) (fun p hp => hp) (fun p hp => by rw [hwbS]; exact List.mem_append.2 (.inr hp))).dmark (mk.map dmark)
        have hsr3 : SR { w0 with fix := fx ++ w0.fix } ρ' s'.t s'.m (· < s'.nx) nt { ds with ds := mk.map dmark ++ ds.ds } { a with defers := mk.map dmark ++ a.defers } (W.putObj l (recOf fn a.tmps ps x c d .exhausted (some jump))) := by
          rw [hwbS] at hsr2; exact hsr2
        have hfin := hK e s' _ _ ρ' _ _ ⟨fx, mk, rfl, rfl, hmk1, hmk2, hmk3, fun e => by simp [ranges] at e⟩ h2 h3 (fun j hj => h4 j (by rw [← hWr]; simpa [writes] using hj)) hsr3 hkp
        cases e with
        | normal => cases h1
        | exit j => cases h1; exact wpIn_exit hfin
        | ret => cases h1; exact wpIn_ret hfin
    · exact h.elim
  | scope c ih =>
    intro ro n s K w0 ds ρ a w Q hok hro hW h hs hK
    simp only [codeOK] at hok
    simp only [awp] at h
    refine wpIn_scope (ih ro n s _ w0 ds ρ a w _ hok hro hW h hs fun e s' w1 ds1 ρ' a' w' k0 k1 k2 k3 k4 k5 => ?_)
    have := hK e s' w1 ds1 ρ' a' w' k0 k1 k2 k3 k4 k5
    cases e <;> exact this
  | label l =>
    intro ro n s K w0 ds ρ a w Q hok hro hW h hs hK
    exact wpIn_label (hK .normal s w0 ds ρ a w (.refl _ _) h (Nat.le_refl _) (fun _ _ => rfl) hs (.refl _ _))
  | _ => intro ro n s K w0 ds ρ a w Q hok hro hW h hs hK; exact (by simp only [awp] at h : False).elim

end
end Go.Ax
end

section
/-
  Functions: what the evaluator says of a body is so of its calls.
-/
set_option linter.unusedSimpArgs false
set_option linter.unusedVariables false
namespace Go.Ax
open Go.RowKit

section
variable {P : Program} {G : Ctx} {w0 : Base} {w : World} {ρ : Env} {m : Mem} {D : Nat → Prop} {t : Slots} {nt : Nat} {ds : Frm} {a : Act}

/-- The checks that a function must pass, called with so many arguments. -/
def funcOK (P : Program) (H : Hots) (fn : Func) (k : Nat) : Bool :=
  P.follows .mixedOrders && !(fn.name == "runtime.NumGoroutine") && decide (k ≤ fn.ntmps) && match fn.body with
  | some c => codeOK H fn.ntmps c
  | none => false

theorem bind_pure' {α : Type} (x : Sem α) : x.bind Sem.pure = x := by
  induction x with
  | pure a => rfl
  | halt h => rfl
  | _ => rename_i ih; simp only [Sem.bind]; first | rw [ih] | (congr 1; funext v; exact ih v)
theorem bind_assoc' {α β γ : Type} (x : Sem α) (f : α → Sem β) (g : β → Sem γ) : (x.bind f).bind g = x.bind fun a => (f a).bind g := by
  induction x with
  | pure a => rfl
  | halt h => rfl
  | _ => rename_i ih; simp only [Sem.bind]; first | rw [ih] | (congr 1; funext v; exact ih v)
theorem lawful : LawfulMonad Sem := LawfulMonad.mk' (id_map := fun x => bind_pure' x) (pure_bind := fun _ _ => rfl) (bind_assoc := fun x f g => bind_assoc' x f g)
attribute [local instance] lawful

theorem asAddr_run {t : TypeId} {v x : Value} (h : (Instr.loadAt t v).run P w = .ok x w) : (do loadVar t (← asAddr v) : Sem Value).run P w = .ok x w := by
  unfold Instr.loadAt at h
  cases v with
  | pointer p =>
    cases p with
    | some q => exact h
    | none => exact absurd h (by simp [Instr.sureAddr, stuck])
  | _ => exact absurd h (by simp [Instr.sureAddr, stuck])

theorem resOf_sound {r : ResultVar} {s : St} {ob : List Prop} {x : AV} (hs : SR w0 ρ s.t s.m D nt ds a w) (h : resOf P r s = some (ob, x)) (hob : ∀ p ∈ ob, p) :
    ∃ v, (match r with | .tmp t => pure (a.tmps.getD t undef) | .cell q t => do loadVar t (← asAddr (a.tmps.getD q undef)) : Sem Value).run P w = .ok v w ∧ R w ρ x v := by
  cases r with
  | tmp t =>
    refine ⟨_, rfl, ?_⟩
    have := hs.slots t
    unfold resOf at h
    dsimp only at h
    split at h
    · cases h
    · cases h; exact this
  | cell q t =>
    obtain ⟨v, h1, h2⟩ := aLoad_sound hs.rel h hob (hs.slots q)
    exact ⟨v, asAddr_run h1, h2⟩

theorem resList_sound {s : St} (hs : SR w0 ρ s.t s.m D nt ds a w) : ∀ {rs : List ResultVar} {ob : List Prop} {xs : List AV}, resList P s rs = some (ob, xs) → (∀ p ∈ ob, p) →
    ∃ vs : List Value, (rs.mapM fun | .tmp t => pure (a.tmps.getD t undef) | .cell q t => do loadVar t (← asAddr (a.tmps.getD q undef)) : Sem (List Value)).run P w = .ok vs w ∧ Rs w ρ xs vs := by
  intro rs
  induction rs with
  | nil =>
    intro ob xs h hob
    simp only [resList] at h
    cases h
    exact ⟨[], rfl, rfl, fun i a x h => by simp at h⟩
  | cons r rest ih =>
    intro ob xs h hob
    simp only [resList] at h
    split at h
    · rename_i o1 x1 h1
      split at h
      · rename_i o2 x2 h2
        cases h
        obtain ⟨v, hv, hR⟩ := resOf_sound hs h1 fun p hp => hob p (by simp [hp])
        obtain ⟨vs, hvs, hRs⟩ := ih h2 fun p hp => hob p (by simp [hp])
        refine ⟨v :: vs, ?_, by simp [hRs.1], fun i c x h3 h4 => ?_⟩
        · rw [List.mapM_cons]
          simp only [Sem.run_bind]
          erw [hv]
          simp only [Result.andThen_ok, Sem.run_bind]
          erw [hvs]
          rfl
        · cases i with
          | zero => simp at h3 h4; subst h3; subst h4; exact hR
          | succ i => simp at h3 h4; exact hRs.2 i c x h3 h4
      · cases h
    · cases h

theorem resAll_sound {s : St} (hs : SR w0 ρ s.t s.m D nt ds a w) {fn : Func} {ob : List Prop} {x : AV} (h : resAll P s fn.results.toList = some (ob, x)) (hob : ∀ p ∈ ob, p) :
    ∃ v, (results fn a.tmps).run P w = .ok v w ∧ R w ρ x v := by
  unfold resAll at h
  have key : ∀ {ob xs}, resList P s fn.results.toList = some (ob, xs) → (∀ p ∈ ob, p) → ∃ vs : List Value, Rs w ρ xs vs ∧ (results fn a.tmps).run P w = .ok (if h : vs.toArray.size = 1 then vs.toArray[0] else .tuple vs.toArray) w := fun h hob => by
    obtain ⟨vs, h1, h2⟩ := resList_sound hs h hob
    refine ⟨vs, h2, ?_⟩
    unfold results
    rw [← Array.toArray_toList (xs := fn.results), List.mapM_toArray]
    simp only [map_eq_pure_bind, bind_assoc, pure_bind]
    rw [Sem.run_bind]
    erw [h1]
    rfl
  split at h
  · rename_i o1 x1 h1
    cases h
    obtain ⟨vs, h2, h3⟩ := key h1 hob
    obtain ⟨v, rfl⟩ : ∃ v, vs = [v] := by
      have := h2.1
      cases vs with
      | nil => simp at this
      | cons v vs => cases vs with
        | nil => exact ⟨v, rfl⟩
        | cons _ _ => simp at this
    exact ⟨v, h3, h2.2 0 x v rfl rfl⟩
  · rename_i o1 ars hne h1
    cases h
    obtain ⟨vs, h2, h3⟩ := key h1 hob
    have hl : ¬ vs.toArray.size = 1 := fun hl => by
      have h4 := h2.1
      rw [List.size_toArray] at hl
      rw [hl] at h4
      cases ars with
      | nil => simp at h4
      | cons c ars => cases ars with
        | nil => exact hne c rfl
        | cons _ _ => simp only [List.length_cons] at h4; omega
    rw [dif_neg hl] at h3
    exact ⟨_, h3, .tup h2.1 h2.2⟩
  · cases h

theorem argSlots_get : ∀ {ars : List AV} {i j : Nat}, slot (argSlots i ars) j = if i ≤ j ∧ j < i + ars.length then ars.getD (j - i) (.v undef) else .v undef
  | [], i, j => by
    simp only [argSlots, slot, List.length_nil]
    rw [if_neg (by omega)]
  | a :: ars, i, j => by
    simp only [argSlots, slot]
    by_cases e : i = j
    · subst e; simp
    · rw [if_neg e, argSlots_get]
      by_cases h : i ≤ j ∧ j < i + (ars.length + 1)
      · have h1 : i + 1 ≤ j ∧ j < i + 1 + ars.length := by omega
        have h2 : j - i = (j - (i + 1)) + 1 := by omega
        simp only [List.length_cons, h, h1, and_self, if_true, h2]
        simp
      · have h1 : ¬ (i + 1 ≤ j ∧ j < i + 1 + ars.length) := by omega
        simp only [List.length_cons, h, h1, if_false]

/-- The marks are taken. -/
theorem leaves_marks {F : Fence} {n : Nat} {fn : Func} {Z : Ending → World → Prop} {a : Act} : ∀ (ms : List Nat) (w0 : Base) (w : World), ms.Nodup → (∀ b ∈ ms, (b, Obj.deferred (some [])) ∈ w0.fix) → SR w0 ρ t m D nt ds a w →
    (∀ (w1 : Base) (w' : World), w1.toWorld = w0.toWorld → w1.old = w0.old → (∀ p ∈ w0.fix, p.1 ∉ ms → p ∈ w1.fix) → w1.kept = w0.kept → SR w1 ρ t m D nt ds a w' → ∃ v, (results fn a.tmps).run P w' = .ok v w' ∧ Z (.returned v) w') →
    LeavesInM F n P fn a.tmps Z (ms.map dmark) .returning w
  | [], w0, w, _, _, h, hZ => by
    have := hZ w0 w rfl rfl (fun p hp _ => hp) rfl h
    simpa only [List.map_nil, LeavesInM, LeavesIn] using this
  | b :: ms, w0, w, hn, hm, h, hZ => by
    have hb := hm b (by simp)
    obtain ⟨n1, n2⟩ := List.nodup_cons.1 hn
    simp only [List.map_cons, LeavesInM]
    refine ⟨by simp, .inl ⟨b, _, rfl, run_takeDeferred (h.rel.fix _ hb).2.2.2, ?_⟩⟩
    refine leaves_marks ms { w0 with fix := w0.fix.filter (fun p => p.1 ≠ b) } _ n2 (fun c hc => ?_) (h.putObj hb (fun p hp => .inr (by simpa using hp))) (fun w1 w' h1 h2 h4 h5 h3 => hZ w1 w' h1 h2 (fun p hp hm => by
      simp only [List.mem_cons, not_or] at hm
      exact h4 p (List.mem_filter.2 ⟨hp, by simpa using hm.1⟩) hm.2) h5 h3)
    refine List.mem_filter.2 ⟨hm c (by simp [hc]), ?_⟩
    simp only [ne_eq, decide_not, Bool.not_eq_true', decide_eq_false_iff_not]
    intro e; subst e; exact n1 hc

/-- A function's calls. -/
theorem fn_sound (hG : CtxOK P G) {f : FuncId} {fn : Func} (hf : P.funcs[f]? = some fn) {ars : List AV} {H : Hots} (hok : funcOK P H fn ars.length = true) {K : AV → Prop} (h : fnVC P G H fn ars K)
    (I : Nat → Prop) (w : World) (vs : List Value) (hI : ∀ b, I b → b < w.heap.size) (hRs : Rs w (.ext I) ars vs) :
    (callFunc f vs.toArray).run P w = .ok (.enter f vs.toArray) w ∧ Calls P f vs.toArray w fun e w' => ∃ v, e = .returned v ∧ (∃ r, K r ∧ R w' (.ext (New I w w')) r v) ∧ Below w.heap.size w w' := by
  unfold funcOK at hok
  simp only [Bool.and_eq_true, Bool.not_eq_true', decide_eq_true_eq] at hok
  obtain ⟨⟨⟨hm, hname⟩, hsz⟩, hbody⟩ := hok
  cases hb : fn.body with
  | none => rw [hb] at hbody; simp at hbody
  | some c =>
    rw [hb] at hbody
    dsimp only at hbody
    unfold fnVC at h
    rw [hb] at h
    dsimp only at h
    refine ⟨?_, callsIn_wide.1 (callsIn_of_wp_marks (n := 0) (F := Fence.wide) hf hb trivial ?_)⟩
    · unfold callFunc
      simp only [Sem.run_bind]
      show Sem.run P (match P.funcs[f]? with | none => _ | some fn => _) w = _
      rw [hf]
      dsimp only
      rw [if_neg (by rw [hname]; simp), if_neg (by rw [hb]; simp)]
      rfl
    · have hlen : vs.length = ars.length := hRs.1
      have hnt : (vs.toArray ++ Array.replicate (fn.ntmps - vs.toArray.size) undef).size = fn.ntmps := by simp; omega
      refine awp_sound hG hm c none 0 _ _ ⟨w, I, [], []⟩ ⟨[], fun _ => True, #[]⟩ (Env.ext I) _ w _ hbody (fun l hl => by cases hl) (fun _ _ => trivial) h ⟨⟨.refl _ _, fun b hb => ⟨hI b hb, .inl hb⟩, fun r hr => hr.elim, fun r x hx => by simp [look] at hx, fun r x f hx => by simp [look] at hx, fun r x f r' x' f' hx => by simp [look] at hx, fun p hp => (by cases hp), fun p hp => (by cases hp)⟩, fun j => ?_, hnt, rfl, fun j hj => absurd trivial hj⟩ fun e s' w1 ds1 ρ' a' w' k0 k1 k2 k3 k4 _ => ?_
      · rw [argSlots_get]
        split
        · rename_i hj
          have hj' : j < ars.length := by omega
          have hj2 : j < vs.length := by omega
          refine hRs.2 j _ _ ?_ ?_
          · simp [List.getD, List.getElem?_eq_getElem hj']
          · simp [Array.getD_eq_getD_getElem?, Array.getElem?_append, hj2]
        · rename_i hj
          have hj2 : vs.length ≤ j := by omega
          have : (vs.toArray ++ Array.replicate (fn.ntmps - vs.toArray.size) undef).getD j undef = undef := by
            rw [Array.getD_eq_getD_getElem?, Array.getElem?_append_right (by simpa using hj2), Array.getElem?_replicate]
            split <;> rfl
          rw [this]
          exact .v
      · obtain ⟨fx, ms, e1, e2, hms, hnd, _⟩ := k0
        have fin : ∀ e, e = AEx.normal ∨ e = AEx.ret → endK P fn K e s' → LeavesInM Fence.wide 0 P fn a'.tmps (fun e w' => ∃ v, e = .returned v ∧ (∃ r, K r ∧ R w' (.ext (New I w w')) r v) ∧ Below w.heap.size w w') a'.defers .returning w' := by
          intro e he h
          have h : match resAll P s' fn.results.toList with
              | some (ob, a) => conj ob (K (pur 3 s'.m a))
              | none => False := by
            rcases he with rfl | rfl <;> exact h
          rw [k4.defers, e2]
          simp only [List.append_nil]
          refine leaves_marks ms w1 w' hnd (fun b hb => by rw [e1]; exact List.mem_append.2 (.inl (hms b hb))) k4 fun w2 w'' g1 g2 _ _ k5 => ?_
          rw [e1] at g1 g2
          split at h
          · rename_i ob x hx
            obtain ⟨hob, hK⟩ := conj_iff.1 h
            obtain ⟨v, h1, h2⟩ := resAll_sound k5 hx hob
            refine ⟨v, h1, v, rfl, ⟨_, hK, pur_sound k5.rel (fun b hb => ?_) (rows_in k5.rel (fun b h1 h2 => .inr ⟨by rw [g1] at h2; exact h2, h1⟩)) 3 _ _ h2⟩, by have := k5.rel.below; rw [g1] at this; exact this⟩
            obtain ⟨l1, l2⟩ := k5.rel.imm2 b hb
            rw [g2, g1] at l2
            rcases l2 with l2 | l2
            · exact .inl l2
            · exact .inr ⟨l2, l1⟩
          · exact h.elim
        cases e with
        | normal => exact fin .normal (.inl rfl) k1
        | ret => exact fin .ret (.inr rfl) k1
        | exit j => exact k1.elim


/-! ### In use -/

/-- A contract that a function's body has earned. -/
theorem ConOK.of {G : Ctx} {H : Hots} (hG : CtxOK P G) {f : FuncId} {fn : Func} (hf : P.funcs[f]? = some fn) {c : Con} (h : ∀ ars ob r, c ars = some (ob, r) → (∀ p ∈ ob, p) → funcOK P H fn ars.length = true ∧ fnVC P G H fn ars (· = r)) : ConOK P f c := by
  intro ars ob r hc hob I w vs hI hRs
  obtain ⟨h1, h2⟩ := h ars ob r hc hob
  obtain ⟨k1, k2⟩ := fn_sound hG hf h1 h2 I w vs hI hRs
  refine .inr ⟨k1, k2.mono fun e w' ⟨v, he, ⟨r', hr, hR⟩, hb⟩ => ⟨v, he, ?_, hb⟩⟩
  subst hr
  exact hR

end
end Go.Ax
end
