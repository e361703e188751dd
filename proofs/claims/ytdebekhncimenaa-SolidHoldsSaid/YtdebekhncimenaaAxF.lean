/-
  Equality; the rest of the operations; all operations in one theorem.
-/
import Derived.Test.YtdebekhncimenaaAxE
set_option linter.unusedSimpArgs false
set_option linter.unusedVariables false
namespace Go.Ax
open Go.RowKit

section
variable {P : Program} {w0 : Base} {w : World} {ρ : Env} {m : Mem} {D : Nat → Prop} {key : Nat} {ev : Operand → Value} {ρ0 : Operand → AV} {o : Oper}

theorem partV_run {t : TypeId} {xs : Array Value} {off : Nat} {a : Value} (h : partV P t xs.toList off = some a) : (part t xs off).run P w = .ok a w := by
  unfold partV at h
  split at h
  · rename_i n hl
    obtain ⟨h1, h2⟩ := layT_run (w := w) hl
    cases h
    simp only [part, Sem.run_bind, h1, Result.andThen_ok, if_true, h2, Sem.run_pure]
    congr 2
    apply Array.ext'
    simp [Array.toList_extract, List.extract_eq_take_drop]
  · rename_i n hl
    obtain ⟨h1, h2⟩ := layT_run (w := w) hl
    have h' : xs[off]? = some a := by simpa using h
    simp [part, h1, h']
  · cases h

theorem eqFs_sound {d : Nat} (ih : ∀ (t : TypeId) (x y : Value) (b : Bool), eqT P d t x y = some b → (Op.equalIn d t x y).run P w = .ok b w) (xs ys : Array Value) :
    ∀ (fs : List Field) (b : Bool), eqFs P (eqT P d) xs.toList ys.toList fs = some b → (Op.eqFields d xs ys fs).run P w = .ok b w
  | [], b, h => by simp [eqFs] at h; subst h; simp [Op.eqFields]
  | f :: fs, b, h => by
    simp only [eqFs] at h
    split at h
    · rename_i hn
      simp at hn
      simp only [Op.eqFields, hn, ne_eq, not_true_eq_false, if_false]
      exact eqFs_sound ih xs ys fs b h
    · rename_i hn
      simp at hn
      split at h
      · rename_i a ha
        split at h
        · rename_i a' ha'
          split at h
          · rename_i r hr
            split at h
            · rename_i q hq
              cases h
              simp only [Op.eqFields, hn, ne_eq, not_false_eq_true, if_true, Sem.run_bind, partV_run (w := w) ha, partV_run (w := w) ha', Result.andThen_ok, ih _ _ _ _ hr]
              cases r
              · simp
              · simpa using eqFs_sound ih xs ys fs q hq
            · cases h
          · cases h
        · cases h
      · cases h

theorem eqT_sound : ∀ (d : Nat) (t : TypeId) (x y : Value) (b : Bool), eqT P d t x y = some b → (Op.equalIn d t x y).run P w = .ok b w
  | 0, _, _, _, _, h => by simp [eqT] at h
  | d + 1, t, x, y, b, h => by
    simp only [eqT] at h
    split at h
    · rename_i hk
      split at h
      · cases h
        have hu : P.underlying t = some .bool := by unfold kindT at hk; (repeat' split at hk) <;> simp_all
        exact run_equalIn_bool w d t _ _ hu
      · cases h
    · rename_i hk
      split at h
      · split at h
        · rename_i hkk
          cases h
          subst hkk
          have hu : ∃ k, P.underlying t = some (.int k) := by unfold kindT at hk; (repeat' split at hk) <;> first | exact ⟨_, ‹_›⟩ | simp_all
          obtain ⟨k, hu⟩ := hu
          exact run_equalIn_int w d t _ k _ _ hu
        · cases h
      · cases h
    · rename_i hk
      split at h
      · cases h
        have hu : P.underlying t = some .string := by unfold kindT at hk; (repeat' split at hk) <;> simp_all
        rw [beq_toListBytes]
        exact run_equalIn_string w d t _ _ hu
      · cases h
    · rename_i fs hk
      split at h
      · rename_i xs ys
        have hu : ∃ gs : Array Field, P.underlying t = some (.struct gs) ∧ P.stoodInHeld t = false ∧ gs.toList = fs := by
          unfold kindT at hk
          split at hk <;> try (simp at hk; done)
          rename_i gs hg
          split at hk
          · simp at hk
          · rename_i hs
            cases hk
            exact ⟨gs, hg, by simpa using hs, rfl⟩
        obtain ⟨gs, hu, hs, rfl⟩ := hu
        have hf : P.fieldsOf t = gs := by simp [Program.fieldsOf, hu]
        rw [run_equalIn_struct w d t xs ys (by rw [hf]; exact hu) hs, hf]
        exact eqFs_sound (eqT_sound d) xs ys gs.toList b h
      · cases h
    · cases h

theorem eqT_mono : ∀ (d : Nat) (t : TypeId) (x y : Value) (b : Bool) (d' : Nat), d ≤ d' → eqT P d t x y = some b → eqT P d' t x y = some b := by
  intro d
  induction d with
  | zero => intro t x y b d' _ h; simp [eqT] at h
  | succ d ih =>
    intro t x y b d' hd h
    obtain ⟨d', rfl⟩ : ∃ e, d' = e + 1 := ⟨d' - 1, by omega⟩
    simp only [eqT] at h ⊢
    split at h <;> rename_i hk <;> try exact h
    · split at h
      · rename_i xs ys
        have : ∀ fs b, eqFs P (eqT P d) xs.toList ys.toList fs = some b → eqFs P (eqT P d') xs.toList ys.toList fs = some b := by
          intro fs
          induction fs with
          | nil => intro b h; simpa [eqFs] using h
          | cons f fs ihf =>
            intro b h
            simp only [eqFs] at h ⊢
            split at h
            · exact ihf b h
            · split at h
              · split at h
                · split at h
                  · rename_i r hr
                    split at h
                    · rename_i q hq
                      rw [ih _ _ _ _ d' (by omega) hr, ihf q hq]
                      exact h
                    · cases h
                  · cases h
                · cases h
              · cases h
        exact this _ _ h
      · cases h

theorem aEq_sound {op : BinOp} (hop : op = .eql ∨ op = .neq) {t : TypeId} {x y : AV} {b : Bool} {xo yo : Operand} {xv yv : Value} (h : aEq P t x y = some b) (hx : R w ρ x xv) (hy : R w ρ y yv) :
    (do eqGuard op t xo yo xv yv; binOp op t xv yv : Sem Value).run P w = .ok (.bool (if op = .eql then b else !b)) w := by
  unfold aEq at h
  split at h
  · rename_i b' hb
    cases h
    unfold aNil at hb
    split at hb
    · split at hb
      · rename_i ms hu
        cases hb
        cases hx
        cases hy
        rename_i u _ _ xv _
        have he : (Op.equal t (.iface u xv) .nilIface).run P w = .ok false w := by
          show (Op.equalIn (9999 + 1) t (.iface u xv) .nilIface).run P w = _
          unfold Op.equalIn
          simp only [Sem.run_bind, run_underlying hu, Result.andThen_ok, Sem.run_pure]
        rcases hop with rfl | rfl
        · show (Sem.bind (Sem.pure ()) fun _ => Sem.bind (Op.equal t (.iface u xv) .nilIface) fun b => Sem.pure (Value.bool b)).run P w = _
          show (Sem.bind (Op.equal t (.iface u xv) .nilIface) fun b => Sem.pure (Value.bool b)).run P w = _
          exact (Sem.run_bind _ _ _ _).trans (by rw [he]; rfl)
        · show (Sem.bind (Op.equal t (.iface u xv) .nilIface) fun b => Sem.pure (Value.bool (!b))).run P w = _
          exact (Sem.run_bind _ _ _ _).trans (by rw [he]; rfl)
      · cases hb
    · cases hb
  split at h
  · rename_i hok
    split at h
    · rename_i xs ys hfx hfy
      cases hx.flat hfx
      cases hy.flat hfy
      have hg : P.eqGuardType P.depth t = false := by simpa [eqOkT] using hok
      have he := eqT_sound (w := w) 10000 t _ _ b (eqT_mono 20 t _ _ b 10000 (by omega) h)
      have h1 := run_eqGuard_agg (P := P) w op t xo yo xs ys hg
      rcases hop with rfl | rfl
      · simp only [Sem.run_bind, h1, Result.andThen_ok, run_eql_struct, he, if_true]
      · simp only [Sem.run_bind, h1, Result.andThen_ok, run_neq_struct, he]
        simp
    · cases h
  · cases h

/-! ### The others -/

theorem lenA_sound {t e : TypeId} {x : AV} {xv : Value} {n : Nat} (ht : sElem P t = some e) (h : lenA x = some n) (hx : R w ρ x xv) {ty : TypeId} : (Builtin.len_ #[t] ty #[xv]).run P w = .ok (.int .i64 n) w := by
  have hu := sElem_run ht
  unfold lenA at h
  split at h <;> cases h
  all_goals
    cases hx
    simp [Builtin.len_, run_underlying hu, goInt]

theorem concreteT_run {t : TypeId} (h : concreteT P t = true) : ∃ d, P.underlying t = some d ∧ ∀ ms, d ≠ .interface ms := by
  unfold concreteT at h
  split at h
  · cases h
  · rename_i d hne hu
    exact ⟨d, hu, fun ms e => by subst e; exact hne ms rfl⟩
  · cases h

theorem aPick_sound (hconst : ∀ v, ev (.const v) = v) {c a b : Operand} {ob : List Prop} {r : AV} (h : aPick ρ0 c a b = some (ob, r)) (hob : ∀ q ∈ ob, q) (hv : ∀ x ∈ [c, a, b], R w ρ (ρ0 x) (ev x)) :
    ∃ t, ev c = .bool t ∧ R w ρ r (if t then ev a else ev b) := by
  unfold aPick at h
  split at h
  · rename_i t ht
    have hc : ∀ ob', (∀ q ∈ needs [ρ0 c] ++ ob', q) → ev c = .bool t := fun ob' hob' => boolOf_sound (strip_sound (hv c (by simp)) fun p hp => hob' p (by simp [hp])) ht
    split at h
    · split at h
      · rename_i q hq
        cases h
        refine ⟨t, hc _ hob, ?_⟩
        cases t
        · have hy := boolOf_sound (strip_sound (hv b (by simp)) (conj_map_imp (q := (false : Bool) = false) (fun p hp => hob p (List.mem_append_right _ hp)) rfl)) hq
          simp only [Bool.false_or, Bool.false_eq_true, if_false, hy]
          exact .v
        · simp only [Bool.true_or, if_true, hconst]
          exact .v
      · cases h
    · split at h
      · rename_i q hq
        cases h
        refine ⟨t, hc _ hob, ?_⟩
        cases t
        · simp only [Bool.false_and, Bool.false_eq_true, if_false, hconst]
          exact .v
        · have hy := boolOf_sound (strip_sound (hv a (by simp)) (conj_map_imp (q := (true : Bool) = true) (fun p hp => hob p (List.mem_append_right _ hp)) rfl)) hq
          simp only [Bool.true_and, if_true, hy]
          exact .v
      · cases h
    · cases h
  · cases h

theorem aField_sound {s : TypeId} {f : Nat} {x a : AV} {v : Value} (h : aField P s f x = some a) (hx : R w ρ x v) : ∃ y, (Instr.field s v f).run P w = .ok y w ∧ R w ρ a y := by
  unfold aField at h
  split at h
  · rename_i cs
    split at h
    · rename_i off hoff
      split at h
      · rename_i t ht
        obtain ⟨fs, fd, n, hu, hfd, rfl, hn, _, hsz⟩ := fOff_run (w := w) hoff
        have e : fd.type = t := by simp [fTy, hu, hfd] at ht; exact ht
        subst e
        cases hx with
        | agg hl hr =>
          rename_i vs
          unfold ofCells at h
          split at h
          · rename_i k hlay
            obtain ⟨h1, h2⟩ := layT_run (w := w) hlay
            split at h
            · rename_i hk
              cases h
              refine ⟨.agg ((vs.drop fd.offset).take k).toArray, ?_, .agg (by simp at hk ⊢; omega) fun i a x e1 e2 => ?_⟩
              · simp only [Instr.field, Sem.run_bind, run_underlying hu, Result.andThen_ok, hfd, asAgg, Sem.run_pure, part, h1, if_true, h2]
                congr 2
                apply Array.ext'
                simp [Array.toList_extract, List.extract_eq_take_drop]
              · rw [List.getElem?_take] at e1 e2
                split at e1
                · rename_i hi
                  rw [if_pos hi] at e2
                  exact hr _ a x (list_drop_get e1) (list_drop_get e2)
                · cases e1
            · cases h
          · rename_i k hlay
            obtain ⟨h1, h2⟩ := layT_run (w := w) hlay
            split at h
            · rename_i c rest hd
              cases h
              have hc : cs[fd.offset]? = some a := by
                have := congrArg (fun l => l[0]?) hd
                simpa [List.getElem?_drop] using this
              have hlt : fd.offset < vs.length := by rw [hl]; exact (List.getElem?_eq_some_iff.1 hc).1
              refine ⟨vs[fd.offset], ?_, hr _ a _ hc (List.getElem?_eq_getElem hlt)⟩
              simp [Instr.field, run_underlying hu, hfd, asAgg, part, h1, hlt]
            · cases h
          · cases h
      · cases h
    · cases h
  · cases h

theorem Rs_map {f : Operand → AV} (xs : List Operand) (h : ∀ x ∈ xs, R w ρ (f x) (ev x)) : Rs w ρ (xs.map f) (xs.map ev) :=
  ⟨by simp, fun i a x h1 h2 => by
    simp only [List.getElem?_map, Option.map_eq_some_iff] at h1 h2
    obtain ⟨y, hy, rfl⟩ := h1
    obtain ⟨z, hz, rfl⟩ := h2
    rw [hy] at hz; cases hz
    exact h y (List.mem_of_getElem? hy)⟩

/-- All operations but the calls of functions. -/
theorem aop_sound (hconst : ∀ v, ev (.const v) = v) (hsel : ∀ cs b, o.op ≠ .select cs b) (hR : Rel w0 ρ m D w) (hk : ¬ D key) {m' : Mem} (hm : ∀ r x, look m' r = some x → look m r = some x) {g : Option Bool} {e : Eff} (h : aop P key g o ρ0 m' = some e) (hob : ∀ q ∈ e.ob, q)
    (hn : (∃ c a b, o.op = .pick c a b) ∨ ∀ p ∈ needs (o.op.operands.toList.map ρ0), p) (hv : ∀ x ∈ o.op.operands, R w ρ (ρ0 x) (ev x)) : Gives P ev o w (Post w0 ρ m D key e w) := by
  have hs : (∀ c a b, o.op ≠ .pick c a b) → ∀ x ∈ o.op.operands, R w ρ (strip (ρ0 x)) (ev x) := fun hnp x hx => by
    rcases hn with ⟨c, a, b, e⟩ | hn
    · exact absurd e (hnp c a b)
    · exact strip_sound (hv x hx) (needs_mem hn (List.mem_map.2 ⟨x, by simpa using hx, rfl⟩))
  have pure_case : ∀ {a : Option AV}, (∀ c x y, o.op ≠ .pick c x y) → effOf (aPure P (fun x => strip (ρ0 x)) o) = some e → Gives P ev o w (Post w0 ρ m D key e w) := by
    intro _ hnp h
    unfold effOf at h
    split at h
    · rename_i x hx
      cases h
      obtain ⟨v, h1, h2⟩ := aPure_sound (ρ := ρ) (w := w) hsel hx (hs hnp)
      exact ⟨v, w, .inl h1, .still hR h2⟩
    · cases h
  obtain ⟨dst, op, type, pos, after, guard⟩ := o
  unfold aop at h
  dsimp only at h hs hsel hv pure_case
  have val : ∀ {s : Sem Value} {v : Value} {w' : World}, s.run P w = .ok v w' → (do pure (Next.value (← s)) : Sem Next).run P w = .ok (.value v) w' := fun h => run_value h
  split at h
  case h_1 x =>
    cases h
    exact ⟨_, w, .inl (by simp [execOp]), .still hR (hs (by simp) x (by simp [Op.operands]))⟩
  case h_2 x =>
    cases h
    exact ⟨_, w, .inl (by simp [execOp]), .still hR (hs (by simp) x (by simp [Op.operands]))⟩
  case h_3 c a b =>
    unfold effOf2 at h
    split at h
    · rename_i ob r hp
      cases h
      obtain ⟨t, h1, h2⟩ := aPick_sound (w := w) (ρ := ρ) hconst hp hob (fun x hx => hv x (by simpa [Op.operands] using hx))
      refine ⟨_, w, .inl ?_, .still hR h2⟩
      simp [execOp, h1, asBool]
    · cases h
  case h_4 t =>
    split at h
    · rename_i z hz
      cases h
      exact alloc_sound hR hk rfl hz
    · cases h
  case h_5 t x =>
    split at h
    · rename_i cs hcs
      cases h
      exact box_sound hR hk rfl (hs (by simp) x (by simp [Op.operands])) hcs
    · cases h
  case h_6 t p =>
    unfold effOf2 at h
    split at h
    · rename_i ob a hp
      cases h
      obtain ⟨x, h1, h2⟩ := aLoad_sound (hR.sub hm fun _ h => h) hp hob (hs (by simp) p (by simp [Op.operands]))
      exact ⟨x, w, .inl (by simp only [execOp]; exact val h1), .still hR h2⟩
    · cases h
  case h_7 t p x =>
    obtain ⟨w', h1, h2⟩ := aStore_sound (key := key) hR hm h hob (hs (by simp) p (by simp [Op.operands])) (hs (by simp) x (by simp [Op.operands]))
    exact ⟨undef, w', .inr ⟨by simp only [execOp]; exact run_skip h1, rfl⟩, h2⟩
  case h_8 t parts =>
    unfold effOf at h
    split at h
    · rename_i a hp
      cases h
      obtain ⟨x, h1, h2⟩ := aBuild_sound (ev := ev) (w := w) (ρ := ρ) hp (fun p hp => hs (by simp) p.2 (by simp [Op.operands]; exact ⟨p.1, by simpa using hp⟩))
      exact ⟨x, w, .inl (by simp only [execOp]; exact val h1), .still hR h2⟩
    · cases h
  case h_9 t len parts =>
    obtain ⟨x, w', h1, h2⟩ := aBuildSlice_sound (ev := ev) hR hk h (fun p hp => hs (by simp) p.2 (by simp [Op.operands]; exact ⟨p.1, by simpa using hp⟩))
    exact ⟨x, w', .inl (by simp only [execOp]; exact val h1), h2⟩
  case h_10 s p f =>
    unfold effOf at h
    split at h
    · rename_i a hp
      cases h
      obtain ⟨x, h1, h2⟩ := aFieldAddr_sound hp (hs (by simp) p (by simp [Op.operands]))
      exact ⟨x, w, .inl (by simp only [execOp]; exact val h1), .still hR h2⟩
    · cases h
  case h_11 s x f =>
    unfold effOf at h
    split at h
    · rename_i a hp
      cases h
      obtain ⟨y, h1, h2⟩ := aField_sound hp (hs (by simp) x (by simp [Op.operands]))
      exact ⟨y, w, .inl (by simp only [execOp]; exact val h1), .still hR h2⟩
    · cases h
  case h_12 t x i =>
    unfold effOf2 at h
    split at h
    · rename_i ob a hp
      cases h
      obtain ⟨y, h1, h2⟩ := aIndexAddr_sound hp hob (hs (by simp) x (by simp [Op.operands])) (hs (by simp) i (by simp [Op.operands]))
      exact ⟨y, w, .inl (by simp only [execOp]; exact val h1), .still hR h2⟩
    · cases h
  case h_13 f first cap =>
    split at h
    · rename_i hf
      cases h
      have hc := Rs_map (ev := ev) (w := w) (ρ := ρ) (f := fun x => strip (ρ0 x)) cap.toList (fun x hx => hs (by simp) x (by simp [Op.operands]; exact .inr (by simpa using hx)))
      have hf' : first = #[] := by simpa using hf
      subst hf'
      refine ⟨.func (.func f) #[] (cap.toList.map ev).toArray, w, .inl ?_, .still hR (.fn hc.1 hc.2)⟩
      simp only [execOp, Instr.makeFunc]
      refine val ?_
      simp only [List.map_toArray, List.map_nil, Array.map_empty, Sem.run_pure]
      congr 2
      apply Array.ext'
      simp
    · cases h
  case h_14 t x =>
    split at h
    · rename_i hc
      cases h
      obtain ⟨d, hu, hne⟩ := concreteT_run hc
      refine ⟨.iface t (ev x), w, .inl ?_, .still hR (.iface (hs (by simp) x (by simp [Op.operands])))⟩
      simp only [execOp]
      refine val ?_
      simp only [Instr.makeInterface, Sem.run_bind, run_underlying hu, Result.andThen_ok]
      cases d <;> first | exact absurd rfl (hne _) | rfl
    · cases h
  case h_15 x i =>
    split at h
    · rename_i cs hx
      unfold effOf at h
      split at h
      · rename_i a ha
        cases h
        have hr := hs (by simp) x (by simp [Op.operands])
        rw [hx] at hr
        generalize hev : ev x = xv at hr
        cases hr with
        | tup hl hh =>
          rename_i vs
          have hlt : i < vs.length := by rw [hl]; exact (List.getElem?_eq_some_iff.1 ha).1
          refine ⟨vs[i], w, .inl ?_, .still hR (hh i a _ ha (List.getElem?_eq_getElem hlt))⟩
          simp only [execOp, hev]
          exact val (by simp [Instr.extract, hlt])
      · cases h
    · exact pure_case (a := none) (by simp) h
  case h_16 x =>
    split at h
    · rename_i hnn
      cases h
      have hr := hs (by simp) x (by simp [Op.operands])
      refine ⟨ev x, w, .inl ?_, .still hR hr⟩
      generalize hev : ev x = xv at hr
      generalize strip (ρ0 x) = a at hr hnn
      cases hr <;> simp [nonNil] at hnn <;> simp [execOp, hev]
    · exact pure_case (a := none) (by simp) h
  case h_17 x xt t =>
    split at h
    · rename_i u y hx
      have hr := hs (by simp) x (by simp [Op.operands])
      rw [hx] at hr
      generalize hev : ev x = xv at hr
      split at h
      · rename_i hc
        obtain ⟨d, hu, hne⟩ := concreteT_run hc
        cases hr with
        | iface hy =>
          rename_i yv
          split at h
          · rename_i ht
            cases h
            subst ht
            refine ⟨.tuple #[yv, .bool true], w, .inl ?_, .still hR (.tup (vs := [yv, .bool true]) (by simp) fun i a x e1 e2 => ?_)⟩
            · simp only [execOp, hev]
              refine val ?_
              simp only [Instr.typeAssert, Sem.run_bind, run_underlying hu, Result.andThen_ok]
              cases d <;> first | exact absurd rfl (hne _) | simp
            · match i with
              | 0 => simp at e1 e2; subst e1 e2; exact hy
              | 1 => simp at e1 e2; subst e1 e2; exact .v
              | i + 2 => simp at e1
          · rename_i ht
            split at h
            · rename_i z hz
              cases h
              have hz' := zeroT_run (w := w) hz
              refine ⟨.tuple #[z, .bool false], w, .inl ?_, .still hR (.tup (vs := [z, .bool false]) (by simp) fun i a x e1 e2 => ?_)⟩
              · simp only [execOp, hev]
                refine val ?_
                simp only [Instr.typeAssert, Sem.run_bind, run_underlying hu, Result.andThen_ok]
                cases d <;> first | exact absurd rfl (hne _) | simp [ht, hz']
              · match i with
                | 0 => simp at e1 e2; subst e1 e2; exact R.ofVal1 _
                | 1 => simp at e1 e2; subst e1 e2; exact .v
                | i + 2 => simp at e1
            · cases h
      · cases h
    · exact pure_case (a := none) (by simp) h
  case h_18 x xt t =>
    split at h
    · rename_i u y hx
      have hr := hs (by simp) x (by simp [Op.operands])
      rw [hx] at hr
      generalize hev : ev x = xv at hr
      split at h
      · rename_i hc
        obtain ⟨d, hu, hne⟩ := concreteT_run hc
        cases hr with
        | iface hy =>
          rename_i yv
          split at h
          · rename_i ht
            cases h
            subst ht
            refine ⟨yv, w, .inl ?_, .still hR hy⟩
            simp only [execOp, hev]
            refine val ?_
            simp only [Instr.typeAssert, Sem.run_bind, run_underlying hu, Result.andThen_ok]
            cases d <;> first | exact absurd rfl (hne _) | simp
          · cases h
      · cases h
    · exact pure_case (a := none) (by simp) h
  case h_19 t x y yt =>
    split at h
    · rename_i b hb
      cases h
      have := aEq_sound (P := P) (w := w) (op := .eql) (.inl rfl) (xo := x) (yo := y) hb (hs (by simp) x (by simp [Op.operands])) (hs (by simp) y (by simp [Op.operands]))
      simp only [if_true] at this
      exact ⟨.bool b, w, .inl (by simp only [execOp]; exact val this), .still hR .v⟩
    · exact pure_case (a := none) (by simp) h
  case h_20 t x y yt =>
    split at h
    · rename_i b hb
      cases h
      have := aEq_sound (P := P) (w := w) (op := .neq) (.inr rfl) (xo := x) (yo := y) hb (hs (by simp) x (by simp [Op.operands])) (hs (by simp) y (by simp [Op.operands]))
      exact ⟨.bool (!b), w, .inl (by simp only [execOp]; exact val (by simpa using this)), .still hR .v⟩
    · exact pure_case (a := none) (by simp) h
  case h_21 args ats =>
    split at h
    · rename_i x t hx ht
      split at h
      · rename_i n hn'
        split at h
        · rename_i e he
          cases h
          obtain ⟨x0, hx0⟩ : ∃ x0, args.toList = [x0] := by
            cases hl : args.toList with
            | nil => rw [hl] at hx; simp at hx
            | cons a rest => cases rest with
              | nil => exact ⟨a, rfl⟩
              | cons b r => rw [hl] at hx; simp at hx
          rw [hx0] at hx
          simp only [List.map_cons, List.map_nil, List.cons.injEq, and_true] at hx
          have hargs : args = #[x0] := by apply Array.ext'; simpa using hx0
          have hats : ats = #[t] := by apply Array.ext'; simpa using ht
          subst hargs hats
          have hr := hs (by simp) x0 (by simp [Op.operands, Call.operands])
          rw [hx] at hr
          refine ⟨_, w, .inl ?_, .still hR .v⟩
          simp [execOp, resolve, invoke, builtin, lenA_sound (w := w) he hn' hr]
        · cases h
      · exact pure_case (a := none) (by simp) h
    · cases h
  case h_22 =>
    refine pure_case (a := none) ?_ h
    intro c x y e
    rename_i h3 _ _ _ _ _ _ _ _ _ _ _ _ _ _ _ _ _ _
    exact absurd e (by first | exact h3 c x y | skip)

end
end Go.Ax
