/-
  Iterators: an iterator's code is walked piece by piece, the calls of yield between them.
-/
import Derived.Test.YtdebekhncimenaaAxP2
set_option linter.unusedSimpArgs false
set_option linter.unusedVariables false
namespace Go.Ax
open Go.RowKit

section
variable {P : Program} {G : Ctx} {w0 : Base} {w : World} {ρ : Env} {m : Mem} {D : Nat → Prop} {t : Slots} {nt : Nat} {ds : Frm} {a : Act} {ro : Option Nat} {n : Nat} {Q : Exit → Act → World → Prop} {H : Hots} {K : AEx → St → Prop} {s : St} {c : Code} {I : Nat → Prop}

/-- A piece of code without ranges over functions. -/
theorem pieceS (hG : CtxOK P G) (hm : P.follows .mixedOrders = true) (hok : codeOK H nt c = true) (hr : ranges c = false) (h : awp P G H c s K) (hW : ∀ k ∈ writes c, ds.W k)
    (hs : SR w0 ρ s.t s.m (· < s.nx) nt ds a w)
    (hK : ∀ e s' ρ' a' w', K e s' → (∀ j, j ∉ writes c → slot s'.t j = slot s.t j) → SR w0 ρ' s'.t s'.m (· < s'.nx) nt ds a' w' → Q (conc e) a' w') : c.wpIn (Fw none) n P Q a w := by
  refine awp_sound hG hm c none n s K w0 ds ρ a w Q hok (fun l hl => by cases hl) hW h hs fun e s' w1 ds1 ρ' a' w' k0 k1 k2 k3 k4 => ?_
  obtain ⟨fx, ms, rfl, rfl, _, _, _, hms⟩ := k0
  have := hms hr
  subst this
  have h5 := k4.shrink (fx := w0.fix) (kp := w0.kept) (fun p hp => List.mem_append.2 (.inr hp)) (fun p hp => hp)
  exact hK e s' ρ' a' w' k1 k3 h5

/-- A world seen anew: nothing of our own is there. -/
theorem SR.anew (hI : ∀ b, I b → b < w.heap.size) (hs : ∀ j, R w (.ext I) (slot t j) (a.tmps.getD j undef)) (hsz : a.tmps.size = nt) (hd : a.defers = ds.ds) (hf : ∀ j, ¬ ds.W j → a.tmps.getD j undef = ds.T.getD j undef) :
    SR ⟨w, I, [], []⟩ (.ext I) t [] (· < 0) nt ds a w :=
  ⟨⟨.refl _ _, fun b hb => ⟨hI b hb, .inl hb⟩, fun r hr => hr.elim, fun r x hx => by simp [look] at hx, fun r x f hx => by simp [look] at hx, fun r x f r' x' f' hx => by simp [look] at hx, fun p hp => (by cases hp), fun p hp => (by cases hp)⟩, hs, hsz, hd, hf⟩
/-- The slots of a list, the others being whatever. -/
theorem slots_R (hsz : a.tmps.size = nt) {l : Slots} (h : ∀ p ∈ l, R w ρ p.2 (a.tmps.getD p.1 undef)) (j : Nat) : R w ρ (slot (l ++ anyS (List.range nt)) j) (a.tmps.getD j undef) := by
  rcases slot_append (l := l) (t := anyS (List.range nt)) (j := j) with ⟨b, h1, h2⟩ | ⟨h1, h2⟩
  · rw [h2]; exact h (j, b) h1
  · rw [h2, ← anyS_eq, slot_anys]
    split
    · exact .any
    · rename_i hj
      have : nt ≤ j := by simpa using hj
      rw [Array.getD_eq_getD_getElem?, Array.getElem?_eq_none (by omega)]
      exact .v

/-- The first operations of a region, in the order of the text. -/
theorem regP_pre (hG : CtxOK P G) {ops : Array Oper} {base : Nat} {K : St → Prop} {back : List Nat} : ∀ (rest : List Oper) (i : Nat) (s : St) (ρ : Env) (a : Act) (w : World),
    regP P G none ops base rest i s K → (∀ j, j < rest.length → rest[j]? = ops[i + j]?) → (∀ o ∈ rest, ∀ k, o.dst = some k → k < nt ∧ ds.W k) → SR w0 ρ s.t s.m (· < base + i) nt ds a w →
    (∀ s' ρ' a' w', K s' → SR w0 ρ' s'.t s'.m (· < base + i + rest.length) nt ds a' w' → wpOpsIn (Fw ro) n P ops Q back a' w') → wpOpsIn (Fw ro) n P ops Q (List.range' i rest.length ++ back) a w
  | [], i, s, ρ, a, w, h, _, _, hs, hK => by
    simp only [regP] at h
    exact hK s ρ a w h hs
  | o :: rest, i, s, ρ, a, w, h, hops, hfit, hs, hK => by
    have ho : ops[i]? = some o := by simpa using (hops 0 (by simp)).symm
    simp only [regP, memFor, rootOK, optK, boolK] at h
    split at h
    · rename_i e he
      obtain ⟨hob, h⟩ := conj_iff.1 h
      simp only [List.length_cons, List.range'_succ, List.cons_append]
      rw [wpOpsIn_cons' ho]
      refine stepE_sound hG hs (by omega) (fun _ _ h => h) he hob (hfit o (by simp)) fun ρ' v w' hs' => ?_
      have hs2 := hs'.weaken (D' := (· < base + (i + 1))) (fun r hr => by rcases hr with hr | hr <;> omega)
      refine regP_pre hG rest (i + 1) _ ρ' _ w' h (fun j hj => by have := hops (j + 1) (by simpa using hj); simpa [Nat.add_assoc, Nat.add_comm 1 j] using this) (fun o ho => hfit o (by simp [ho])) hs2 fun s' ρ'' a' w'' k1 k3 => hK s' ρ'' a' w'' k1 (k3.weaken fun r hr => by simp only [List.length_cons]; omega)
    · exact h.elim

theorem regP_go {ops : Array Oper} {rest : List Oper} {i nx : Nat} {K1 : Slots → Mem → Prop} (h : regC P G [] (fun _ s => K1 s.t s.m) none ops rest i [] t m nx) : regP P G none ops nx rest i ⟨t, m, nx⟩ (fun s => K1 s.t s.m) := h
theorem awp_go {K1 : AEx → Slots → Mem → Prop} {nx : Nat} (h : goC P G H (fun e s => K1 e s.t s.m) c [] ⟨t, m, nx⟩) : awp P G H c ⟨t, m, nx⟩ (fun e s => K1 e s.t s.m) := h
theorem rangeL (n k : Nat) (h : k ≤ n) : List.range n = List.range' 0 k ++ List.range' k (n - k) := by
  rw [List.range_eq_range']
  have := List.range'_append_1 (s := 0) (m := k) (n := n - k)
  rw [Nat.zero_add] at this
  rw [this]
  congr 1
  omega

theorem callFunc_enter {f : FuncId} {fn : Func} {c : Code} (hf : P.funcs[f]? = some fn) (hn : (fn.name == "runtime.NumGoroutine") = false) (hb : fn.body = some c) (args : Array Value) (w : World) : (callFunc f args).run P w = .ok (.enter f args) w := by
  unfold callFunc
  simp only [Sem.run_bind]
  show Sem.run P (match P.funcs[f]? with | none => _ | some fn => _) w = _
  rw [hf]
  dsimp only
  rw [if_neg (by rw [hn]; simp), if_neg (by rw [hb]; simp)]
  rfl
/-- A piece of code, entered where nothing of our own is there. -/
theorem pieceI (hG : CtxOK P G) (hm : P.follows .mixedOrders = true) {l : Slots} {W : List Nat} (hok : codeOK H nt c = true) (hr : ranges c = false) (hW : writes c = W) (h : awp P G H c ⟨l ++ anyS (List.range nt), [], 0⟩ K)
    (hI : ∀ b, I b → b < w.heap.size) (hsz : a.tmps.size = nt) (hs : ∀ p ∈ l, R w (.ext I) p.2 (a.tmps.getD p.1 undef))
    (hK : ∀ e s' ρ' a' w', K e s' → SR ⟨w, I, [], []⟩ ρ' s'.t s'.m (· < s'.nx) nt ⟨a.defers, (· ∈ W), a.tmps⟩ a' w' → Q (conc e) a' w') : c.wpIn (Fw none) n P Q a w :=
  pieceS hG hm hok hr h (by subst hW; exact fun k hk => hk) (SR.anew hI (slots_R hsz hs) hsz rfl (fun _ _ => rfl)) fun e s' ρ' a' w' k1 _ k3 => hK e s' ρ' a' w' k1 k3
/-- The first k operations of a region. -/
theorem region_split (hG : CtxOK P G) {ops : Array Oper} {id : Nat} (k : Nat) (hk : k ≤ ops.size) {K : St → Prop} (hfit : fitsOps nt ops.toList = true) (hW : ∀ j ∈ writesOps ops.toList, ds.W j)
    (h : regP P G none ops s.nx (ops.toList.take k) 0 s K) (hs : SR w0 ρ s.t s.m (· < s.nx) nt ds a w)
    (hK : ∀ s' ρ' a' w', K s' → SR w0 ρ' s'.t s'.m (· < s.nx + k) nt ds a' w' → wpOpsIn (Fw ro) n P ops Q (List.range' k (ops.size - k)) a' w') : (Code.region id ops false).wpIn (Fw ro) n P Q a w := by
  refine wpIn_region ?_
  have hl : (ops.toList.take k).length = k := by simp; omega
  rw [rangeL ops.size k hk]
  have := regP_pre (ro := ro) (n := n) (Q := Q) (back := List.range' k (ops.size - k)) hG (ops.toList.take k) 0 s ρ a w h (fun j hj => by
    rw [hl] at hj
    rw [List.getElem?_take_of_lt hj]; simp) (fun o ho j hj => ⟨fitsOps_mem hfit (List.mem_of_mem_take ho) j hj, hW j (writesOps_mem (List.mem_of_mem_take ho) hj)⟩) (by simpa using hs) (fun s' ρ' a' w' h1 h2 => hK s' ρ' a' w' h1 (h2.weaken fun r hr => by rw [hl] at hr; omega))
  rw [hl] at this
  exact this
/-- The operations of a region from the k-th on. -/
theorem region_rest (hG : CtxOK P G) {ops : Array Oper} (k : Nat) (hk : k ≤ ops.size) {K : St → Prop} (hfit : fitsOps nt ops.toList = true) (hW : ∀ j ∈ writesOps (ops.toList.drop k), ds.W j)
    (h : regP P G none ops s.nx (ops.toList.drop k) k s K) (hs : SR w0 ρ s.t s.m (· < s.nx) nt ds a w)
    (hK : ∀ s' ρ' a' w', K s' → SR w0 ρ' s'.t s'.m (fun _ => True) nt ds a' w' → Q .normal a' w') : wpOpsIn (Fw ro) n P ops Q (List.range' k (ops.size - k)) a w := by
  have hl : (ops.toList.drop k).length = ops.size - k := by simp
  have := regP_text (ro := ro) (n := n) (Q := Q) hG (ops.toList.drop k) k s ρ a w h (fun j => by rw [List.getElem?_drop]; simp) (fun o ho j hj => ⟨fitsOps_mem hfit (List.mem_of_mem_drop ho) j hj, hW j (writesOps_mem ho hj)⟩) (hs.weaken fun r hr => by omega) (fun s' ρ' a' w' h1 _ h2 => hK s' ρ' a' w' h1 (h2.weaken fun r hr => trivial))
  rw [hl] at this
  exact this

theorem start_size {es : Array Value} {k : Nat} (h : es.size ≤ k) : (es ++ Array.replicate (k - es.size) undef).size = k := by simp; omega
theorem start_get {es : Array Value} {k j : Nat} {v : Value} (h : es[j]? = some v) : (es ++ Array.replicate k undef).getD j undef = v := by
  have hlt := (Array.getElem?_eq_some_iff.1 h).1
  rw [Array.getD_eq_getD_getElem?, Array.getElem?_append_left hlt, h]
  rfl

/-- A call of yield. -/
theorem yield_op {o : Oper} {f : Operand} {args : Array Operand} {ats : Array TypeId} {l : Nat} {next : Act → World → Prop} {Rp : Ending → World → Prop} (vals : List Value) (ho : o.op = .call ⟨.value f, args, ats⟩) (hf : a.eval f = .func (.yield l) #[] #[]) (hv : args.map a.eval = vals.toArray)
    (h : YieldAt Fence.wide (n - 1) P l vals.toArray w Rp) (hn : ∀ e w', Rp e w' → ∃ v, e = .returned v ∧ next (a.put o.dst v) w') : o.wpIn (Fw ro) n P a w next Q := by
  rw [← hv] at h
  obtain ⟨fn, tmps, xa, body, hy, hr⟩ := h
  refine ⟨fun _ _ => trivial, ?_⟩
  rw [Oper.semAt_eq _ _ _ (fun c hc => by rw [ho] at hc; cases hc)]
  have e : (execOp a.eval o).run P w = (Instr.yield l (args.map a.eval)).run P w := by
    unfold execOp
    simp only [ho]
    simp only [resolve, hf, Deferred.ofValue, Sem.run_bind, Sem.run_pure, Result.andThen_ok, invoke, Array.empty_append, Array.append_empty]
  rw [e, hy, Oper.uponIn_round]
  refine ⟨fun hd => by simp [Fw, Fence.wide] at hd, RoundIn.mono (F := Fw ro) hr fun e w' he => ?_⟩
  obtain ⟨v, rfl, h2⟩ := hn e w' he
  exact h2
/-- Behind a piece of code: the first operations of a region. -/
def preK (P : Program) (G : Ctx) (ops : Array Oper) (k : Nat) (K1 : Slots → Prop) (e : AEx) (s : St) : Prop := match e with
  | .normal => regP P G none ops s.nx (ops.toList.take k) 0 s (fun s2 => K1 s2.t)
  | _ => False
theorem preK_normal {ops : Array Oper} {k nx : Nat} {K1 : Slots → Prop} : preK P G ops k K1 .normal ⟨t, m, nx⟩ = regC P G [] (fun _ s => K1 s.t) none ops (ops.toList.take k) 0 [] t m nx := (rfl)
/-- The value of a slot. -/
theorem R.val {x y : Value} (h : R w ρ (.v x) y) : y = x := by cases h; rfl
theorem SR.val {j : Nat} {x : Value} (h : SR w0 ρ t m D nt ds a w) (hj : slot t j = .v x) : a.tmps.getD j undef = x := by
  have := h.slots j
  rw [hj] at this
  exact this.val
/-- A cell of memory that is read alone. -/
theorem rop1 {b o : Nat} {av : AV} {x : Value} (hb : I b) (hx : Has w b o x) (h : R w (.ext I) av x) : R w (.ext I) (.rop [av]) (.pointer (some ⟨b, o, none⟩)) := by
  refine .rop b o hb (fun k hk => ?_) (fun k c y hk hy => ?_)
  · have : k = 0 := by simpa using hk
    subst this; exact ⟨x, hx⟩
  · have : k = 0 := by
      have := (List.getElem?_eq_some_iff.1 hk).1
      simpa using this
    subst this
    simp at hk; subst hk
    unfold Has at hx hy
    simp only [Nat.add_zero] at hy
    rw [hx] at hy; cases hy; exact h
/-- Three pieces of code ahead of the region that calls yield. -/
theorem piece3 (hG : CtxOK P G) (hm : P.follows .mixedOrders = true) {x1 x2 x3 y : Code} {ops : Array Oper} {id k : Nat} {K1 : Slots → Prop} {l : Slots} {W : List Nat} (hk : k ≤ ops.size)
    (hok : (codeOK H nt x1 && codeOK H nt x2 && codeOK H nt x3 && fitsOps nt ops.toList) = true) (hr : (ranges x1 || ranges x2 || ranges x3) = false) (hW : writes x1 ++ writes x2 ++ writes x3 ++ writesOps ops.toList = W)
    (h : awp P G H (x1.seq (x2.seq x3)) ⟨l ++ anyS (List.range nt), [], 0⟩ (preK P G ops k K1)) (hI : ∀ b, I b → b < w.heap.size) (hsz : a.tmps.size = nt) (hs : ∀ p ∈ l, R w (.ext I) p.2 (a.tmps.getD p.1 undef))
    (hK : ∀ t' m' D' ρ' a' w', K1 t' → SR ⟨w, I, [], []⟩ ρ' t' m' D' nt ⟨a.defers, (· ∈ W), a.tmps⟩ a' w' → wpOpsIn (Fw none) n P ops (Exit.then (y.wpIn (Fw none) n P Q) Q) (List.range' k (ops.size - k)) a' w') :
    (x1.seq (x2.seq (x3.seq ((Code.region id ops false).seq y)))).wpIn (Fw none) n P Q a w := by
  simp only [Bool.and_eq_true] at hok
  simp only [Bool.or_eq_false_iff] at hr
  have hW' : ∀ j, (j ∈ writes x1 ∨ j ∈ writes x2 ∨ j ∈ writes x3 ∨ j ∈ writesOps ops.toList) → j ∈ W := fun j hj => by
    subst hW; simp only [List.mem_append]
    rcases hj with h | h | h | h
    · exact .inl (.inl (.inl h))
    · exact .inl (.inl (.inr h))
    · exact .inl (.inr h)
    · exact .inr h
  refine wpIn_seq (pieceS (ds := ⟨a.defers, (· ∈ W), a.tmps⟩) hG hm hok.1.1.1 hr.1.1 h (fun j hj => hW' j (.inl hj)) (SR.anew hI (slots_R hsz hs) hsz rfl (fun _ _ => rfl)) fun e s1 ρ1 a1 w1 k1 _ k3 => ?_)
  cases e with
  | exit j => exact k1.elim
  | ret => exact k1.elim
  | normal =>
    refine wpIn_seq (pieceS hG hm hok.1.1.2 hr.1.2 k1 (fun j hj => hW' j (.inr (.inl hj))) k3 fun e s2 ρ2 a2 w2 l1 _ l3 => ?_)
    cases e with
    | exit j => exact l1.elim
    | ret => exact l1.elim
    | normal =>
      refine wpIn_seq (pieceS hG hm hok.1.2 hr.2 l1 (fun j hj => hW' j (.inr (.inr (.inl hj)))) l3 fun e s3 ρ3 a3 w3 q1 _ q3 => ?_)
      cases e with
      | exit j => exact q1.elim
      | ret => exact q1.elim
      | normal =>
        exact wpIn_seq (region_split hG k hk hok.2 (fun j hj => hW' j (.inr (.inr (.inr hj)))) q1 q3 fun s4 ρ4 a4 w4 r1 r2 => hK _ _ _ _ _ _ r1 r2)
theorem wpOps_free {ops : Array Oper} {i : Nat} {rest : List Nat} {o : Oper} (ho : ops[i]? = some o) (hg : o.guard = none) (h : o.wpIn (Fw ro) n P a w (wpOpsIn (Fw ro) n P ops Q rest) Q) : wpOpsIn (Fw ro) n P ops Q (i :: rest) a w := by
  rw [wpOpsIn_cons' ho, if_pos (by simp [Region.wanted, hg])]; exact h
theorem put_at {d : Nat} {v : Value} (hd : d < a.tmps.size) : (a.put (some d) v).tmps.getD d undef = v := by
  rw [put_getD _ _ _ (fun k hk => by cases hk; exact hd), if_pos rfl]
theorem put_not {d j : Nat} {v : Value} (hd : d < a.tmps.size) (hj : d ≠ j) : (a.put (some d) v).tmps.getD j undef = a.tmps.getD j undef := by
  rw [put_getD _ _ _ (fun k hk => by cases hk; exact hd), if_neg (fun e => hj (Option.some.inj e))]
/-- The end of an iterator. -/
theorem leave_nil {F : Fence} {fn : Func} {Z : Ending → World → Prop} (hd : a.defers = []) (hr : fn.results = #[]) (h : ∀ v, Z (.returned v) w) : LeavesInM F n P fn a.tmps Z a.defers .returning w := by
  rw [hd]
  show ∃ v, (results fn a.tmps).run P w = .ok v w ∧ Z (.returned v) w
  exact ⟨_, results_none hr _ _ _, h _⟩
end
end Go.Ax
