/-
  The steps of a region.
-/
import Derived.Test.YtdebekhncimenaaAxG
import Derived.Test.YtdebekhncimenaaAxO
set_option linter.unusedSimpArgs false
set_option linter.unusedVariables false
namespace Go.Ax
open Go.RowKit

section
variable {P : Program} {w0 : Base} {w : World} {ρ : Env} {m : Mem} {D : Nat → Prop} {key : Nat} {G : Ctx}

theorem aCall_sound (hG : CtxOK P G) (hR : Rel w0 ρ m D w) {m' : Mem} (hm : ∀ r x, look m' r = some x → look m r = some x) {f : FuncId} {as : List AV} {ob : List Prop} {r : AV} {vs : List Value} (h : aCall G f as m' = some (ob, r)) (hob : ∀ p ∈ ob, p) (hs : Rs w ρ as vs) :
    Invokes P f vs w fun v w' => ∃ ρ', R w' ρ' r v ∧ Rel w0 ρ' m D w' ∧ ρ.le ρ' ∧ Same ρ.imm w w' := by
  unfold aCall at h
  split at h
  · rename_i c hc
    split at h
    · rename_i hcl
      have hcl' : ∀ a ∈ as, clean 3 a = true := by simpa using hcl
      have hs' : Rs w (.ext ρ.imm) as vs := ⟨hs.1, fun i a x h1 h2 => clean_sound 3 (hcl' a (List.mem_of_getElem? h1)) (hs.2 i a x h1 h2)⟩
      refine (hG.call hc as ob r h hob ρ.imm w vs hR.imm hs').mono fun v w' ⟨h1, h2⟩ => ?_
      exact ⟨ρ.grow w w', h1.mono ⟨fun _ h => h.elim, fun _ _ h => h.elim, fun _ _ h => h.elim, fun _ h => h⟩ (.refl _ _), hR.grow h2, Env.le_grow _ _ _, Same.of_below h2 hR.imm⟩
    · split at h
      · rename_i ob' r' hcc
        split at h
        · rename_i hpl
          cases h
          have hs' : Rs w (.ext (All w)) (as.map (purU 3 m')) vs := purUs_sound (J := All w) (hR.sub hm fun _ h => h) hR.imm (fun _ h _ => h) (fun p hp => hob p (List.mem_append_left _ hp)) hs
          refine (hG.call hc _ ob' r hcc (fun p hp => hob p (List.mem_append_right _ hp)) (All w) w vs (fun _ h => h) hs').mono fun v w' ⟨h1, h2⟩ => ?_
          exact ⟨ρ.grow w w', plain_sound 3 hpl h1, hR.grow h2, Env.le_grow _ _ _, Same.of_below h2 hR.imm⟩
        · cases h
      · cases h
  · cases h

variable {ro : Option Nat} {n : Nat} {Q : Exit → Act → World → Prop} {o : Oper} {a : Act} {next : Act → World → Prop}

theorem wpIn_of_gives {R' : Value → World → Prop} (hd : ∀ c, o.op ≠ .defer c) (h : Gives P a.eval o w R') (hn : ∀ v w', R' v w' → next (a.put o.dst v) w') : o.wpIn (Fw ro) n P a w next Q := by
  obtain ⟨v, w', h1, h2⟩ := h
  refine ⟨fun _ _ => trivial, ?_⟩
  rw [Oper.semAt_eq _ _ _ hd]
  rcases h1 with h1 | ⟨h1, rfl⟩
  · rw [h1]; exact hn _ _ h2
  · rw [h1]; exact hn _ _ h2

theorem calls_fw {f : FuncId} {args : Array Value} {R' : Ending → World → Prop} (h : Calls P f args w R') : CallsIn (Fw ro) n P f args w R' := by
  have h1 : CallsIn Fence.wide n P f args w R' := callsIn_wide.2 h
  exact h1

theorem wpIn_of_invokes {f : FuncId} {vs : List Value} {R' : Value → World → Prop} (hd : ∀ c, o.op ≠ .defer c) (he : (execOp a.eval o).run P w = (callFunc f vs.toArray).run P w) (h : Invokes P f vs w R')
    (hn : ∀ v w', R' v w' → next (a.put o.dst v) w') : o.wpIn (Fw ro) n P a w next Q := by
  refine ⟨fun _ _ => trivial, ?_⟩
  rw [Oper.semAt_eq _ _ _ hd, he]
  rcases h with ⟨v, w', h1, h2⟩ | ⟨h1, h2⟩
  · rw [h1]; exact hn _ _ h2
  · rw [h1]
    refine ⟨fun h => by simp [Fw, Fence.wide] at h, calls_fw (h2.mono fun e w' ⟨v, he, hq⟩ => ?_)⟩
    subst he
    exact hn _ _ hq

theorem call_run {f : Operand} {args : Array Operand} {ats : Array TypeId} {h : FuncId} {cap : List Value} (ho : o.op = .call ⟨.value f, args, ats⟩) (hf : a.eval f = .func (.func h) #[] cap.toArray) :
    (execOp a.eval o).run P w = (callFunc h (args.toList.map a.eval ++ cap).toArray).run P w := by
  have e : (args.map a.eval ++ cap.toArray) = (args.toList.map a.eval ++ cap).toArray := by apply Array.ext'; simp
  unfold execOp
  simp only [ho]
  simp only [resolve, hf, Deferred.ofValue, Sem.run_bind, Sem.run_pure, Result.andThen_ok, invoke, Array.empty_append, e]

theorem invoke_run {r : Operand} {name : String} {args : Array Operand} {ats : Array TypeId} {h : FuncId} {t : TypeId} {x : Value} (ho : o.op = .call ⟨.invoke r name, args, ats⟩) (hr : a.eval r = .iface t x) (hm : methT P t name = some h) :
    (execOp a.eval o).run P w = (callFunc h (x :: args.toList.map a.eval).toArray).run P w := by
  have e : (#[x] ++ args.map a.eval) = (x :: args.toList.map a.eval).toArray := by apply Array.ext'; simp
  have hmeth : (method (P.types.size + Made.depth) t x name).run P w = .ok (h, x) w := by
    unfold methT at hm
    split at hm
    · rename_i i hi
      split at hm
      · rename_i mt hmt
        split at hm
        · rename_i f ptr hp hfn
          have hfuel : ∃ k, P.types.size + Made.depth = k + 1 := ⟨P.types.size + Made.depth - 1, by have : 0 < Made.depth := by decide
                                                                                                    omega⟩
          obtain ⟨k, hk⟩ := hfuel
          rw [hk]
          have hti : (typeInfo t).run P w = .ok i w := by simp [typeInfo, hi]
          split at hm
          · rename_i el hu
            split at hm
            · rename_i hpt
              cases hm
              simp [method, hti, hmt, hp, follow, hfn, hpt, receiverAt, run_underlying hu, Place.get]
            · cases hm
          · rename_i d hnp hu
            split at hm
            · cases hm
            · rename_i hpt
              cases hm
              simp only [method, Sem.run_bind, hti, Result.andThen_ok, hmt, hp, follow, Sem.run_pure, hfn]
              have hpt' : ptr = false := by simpa using hpt
              subst hpt'
              simp only [receiverAt, Sem.run_bind, run_underlying hu, Result.andThen_ok]
              cases d <;> first | exact absurd rfl (hnp _) | simp [Place.get]
          · cases hm
        · cases hm
      · cases hm
    · cases hm
  unfold execOp
  simp only [ho]
  simp only [resolve, hr, Sem.run_bind, Sem.run_pure, Result.andThen_ok, invoke]
  have e0 : (#[Value.iface t x] ++ args.map a.eval)[0]? = some (Value.iface t x) := by
    rw [Array.getElem?_append]; rfl
  have e1 : (#[Value.iface t x] ++ args.map a.eval).extract 1 (#[Value.iface t x] ++ args.map a.eval).size = args.map a.eval := by
    apply Array.ext'
    simp [Array.toList_extract, List.extract_eq_take_drop]
    exact List.take_of_length_le (by simp)
  rw [e0, e1]
  simp only [callMethod, Sem.run_bind, run_program, Result.andThen_ok, hmeth, e]

/-- One operation. -/
theorem aStep_sound (hG : CtxOK P G) (hR : Rel w0 ρ m D w) (hk : ¬ D key) {m' : Mem} (hm : ∀ r x, look m' r = some x → look m r = some x) {g : Option Bool} {e : Eff} {ρ0 : Operand → AV} (h : aStep P G key g o ρ0 m' = some e) (hob : ∀ q ∈ owed o ρ0 ++ e.ob, q) (hv : ∀ x, R w ρ (ρ0 x) (a.eval x))
    (hn : ∀ v w', Post w0 ρ m D key e w v w' → next (a.put o.dst v) w') : o.wpIn (Fw ro) n P a w next Q := by
  have hneeds : (∃ c x y, o.op = .pick c x y) ∨ ∀ p ∈ needs (o.op.operands.toList.map ρ0), p := by
    by_cases hp : isPick o.op = true
    · left
      generalize o.op = op at hp
      cases op <;> simp [isPick] at hp
      exact ⟨_, _, _, rfl⟩
    · right
      intro p hp'
      refine hob p (List.mem_append_left _ ?_)
      unfold owed
      rw [if_neg hp]
      exact hp'
  have hs : isPick o.op = false → ∀ x ∈ o.op.operands, R w ρ (strip (ρ0 x)) (a.eval x) := fun hp x hx => by
    rcases hneeds with ⟨c, x, y, e⟩ | hne
    · rw [e] at hp; simp [isPick] at hp
    · exact strip_sound (hv x) (needs_mem hne (List.mem_map.2 ⟨x, by simpa using hx, rfl⟩))
  have hob' : ∀ q ∈ e.ob, q := fun q hq => hob q (List.mem_append_right _ hq)
  have finish : ∀ {ob : List Prop} {r : AV} {v : Value} {w' : World}, (∃ ρ', R w' ρ' r v ∧ Rel w0 ρ' m D w' ∧ ρ.le ρ' ∧ Same ρ.imm w w') → Post w0 ρ m D key ⟨ob, r, .none⟩ w v w' := fun ⟨ρ', h1, h2, h3, h4⟩ =>
    ⟨ρ', h1, h2.sub (fun _ _ h => h) (fun _ h => .inl h), h3, h4⟩
  unfold aStep at h
  split at h
  · rename_i f args ats ho
    split at h
    · rename_i hh cap hf
      unfold effOf2 at h
      split at h
      · rename_i ob r hc
        cases h
        have hfr := hs (by simp [ho, isPick]) f (by simp [ho, Op.operands, Call.operands])
        rw [hf] at hfr
        generalize hev : a.eval f = fv at hfr
        cases hfr with
        | fn hl hh' =>
          rename_i vs
          have hargs : Rs w ρ (args.toList.map (fun x => strip (ρ0 x)) ++ cap) (args.toList.map a.eval ++ vs) :=
            (Rs_map (ev := a.eval) (f := fun x => strip (ρ0 x)) args.toList (fun x hx => hs (by simp [ho, isPick]) x (by simp [ho, Op.operands, Call.operands]; exact .inr (by simpa using hx)))).append ⟨hl, hh'⟩
          exact wpIn_of_invokes (by simp [ho]) (call_run ho hev) (aCall_sound hG hR hm hc hob' hargs) fun v w' hp => hn v w' (finish hp)
      · cases h
    · cases h
  · rename_i r name args ats ho
    split at h
    · rename_i t x hx
      split at h
      · rename_i f hmt
        unfold effOf2 at h
        split at h
        · rename_i ob r' hc
          cases h
          have hrr := hs (by simp [ho, isPick]) r (by simp [ho, Op.operands, Call.operands])
          rw [hx] at hrr
          generalize hev : a.eval r = rv at hrr
          cases hrr with
          | iface hxv =>
            rename_i xv
            have hargs : Rs w ρ (x :: args.toList.map (fun x => strip (ρ0 x))) (xv :: args.toList.map a.eval) :=
              .cons hxv (Rs_map (ev := a.eval) (f := fun x => strip (ρ0 x)) args.toList (fun x hx => hs (by simp [ho, isPick]) x (by simp [ho, Op.operands, Call.operands]; exact .inr (by simpa using hx))))
            exact wpIn_of_invokes (by simp [ho]) (invoke_run ho hev hmt) (aCall_sound hG hR hm hc hob' hargs) fun v w' hp => hn v w' (finish hp)
        · cases h
      · cases h
    · cases h
      exact (hob' False (by simp)).elim
    · cases h
  · split at h
    · rename_i hext
      refine wpIn_of_gives (fun c e => by rw [e] at hext; simp [isExt] at hext) (aExt_sound hR hk hm h hob' (hs (by cases hp : isPick o.op with | false => rfl | true => (exfalso; generalize o.op = op at hext hp; cases op <;> simp [isPick, isExt] at hext hp)))) hn
    · by_cases hdef : ∃ c, o.op = .defer c
      · obtain ⟨c, hc⟩ := hdef
        exfalso
        unfold aop at h
        rw [hc] at h
        simp only [effOf] at h
        split at h
        · rename_i x hx
          unfold aPure at hx
          split at hx
          · split at hx
            · rename_i v hp
              unfold execOp at hp
              rw [hc] at hp
              simp only at hp
              have : ∀ (s : Sem Deferred), pureRun P (do pure (Next.defer (← s))) ≠ some (.value v) := by
                intro s
                induction s with
                | pure d => intro e; simp [pureRun, Bind.bind, Sem.bind, Pure.pure] at e
                | program k ih => intro e; exact ih P e
                | _ => intro e; simp [pureRun, Bind.bind, Sem.bind, Pure.pure] at e
              exact this _ hp
            · cases hx
          · cases hx
        · cases h
      · by_cases hsel : ∃ cs b, o.op = .select cs b
        · obtain ⟨cs, b, hc⟩ := hsel
          exfalso
          unfold aop at h
          rw [hc] at h
          simp only [effOf] at h
          split at h
          · rename_i x hx
            unfold aPure at hx
            split at hx
            · split at hx
              · rename_i v hp
                unfold execOp at hp
                rw [hc] at hp
                simp only at hp
                have : ∀ (s : Sem (Array CommCase)), pureRun P (do pure (Next.comm (← s) b .select)) ≠ some (.value v) := by
                  intro s
                  induction s with
                  | pure d => intro e; simp [pureRun, Bind.bind, Sem.bind, Pure.pure] at e
                  | program k ih => intro e; exact ih P e
                  | _ => intro e; simp [pureRun, Bind.bind, Sem.bind, Pure.pure] at e
                exact this _ hp
              · cases hx
            · cases hx
          · cases h
        · exact wpIn_of_gives (fun c e => hdef ⟨c, e⟩) (aop_sound (fun _ => rfl) (fun cs b e => hsel ⟨cs, b, e⟩) hR hk hm h hob' hneeds (fun x _ => hv x)) hn

end
end Go.Ax
