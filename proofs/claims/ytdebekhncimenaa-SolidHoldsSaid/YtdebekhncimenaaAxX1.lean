/-
  Equations of first order: slices that are made, cut and appended to; loops that append.
-/
import Derived.Test.YtdebekhncimenaaAxX
set_option linter.unusedVariables false
set_option linter.unusedSimpArgs false
namespace Go.Ax
section
variable {P : Program} {G : Ctx} {H : Hots} {K0 : AEx → St → Prop} {st : List Fr} {n sz i j k key nx : Nat} {t : Slots} {m : Mem} {d : Option Tmp} {ty : TypeId} {pos : String} {af : Array Edge} {gd : Option (Nat × Bool)} {g : Option Bool} {ρ0 : Operand → AV} {a b : AV} {l cs : List AV} {c c' : IntKind} {x y : Int} {q u e : TypeId}

def makeZ (P : Program) (key : Nat) (g : Option Bool) (e : TypeId) (n q : Int) (z : Option Value) : Option Eff := match z with
  | some z => if z.cells.size = sizeT P e then some ⟨[0 ≤ n, n ≤ q, q ≤ 9223372036854775807, (bytesT P e : Int) * q ≤ 281474976710656], .own key 0 n.toNat (sizeT P e), .new (famN n.toNat (sizeT P e) e (fun _ => z.cells.toList.map .v) g)⟩ else none
  | none => none
theorem makeZ_some {z : Value} : makeZ P key g e x y (some z) = if z.cells.size = sizeT P e then some ⟨[0 ≤ x, x ≤ y, y ≤ 9223372036854775807, (bytesT P e : Int) * y ≤ 281474976710656], .own key 0 x.toNat (sizeT P e), .new (famN x.toNat (sizeT P e) e (fun _ => z.cells.toList.map .v) g)⟩ else none := (rfl)
def makeE (P : Program) (key : Nat) (g : Option Bool) (a b : AV) (e : Option TypeId) : Option Eff := match e with
  | some e => match zeroT P e with
    | some z => match intOfA a with
      | some n => match intOfA b with
        | some q => makeZ P key g e n q (some z)
        | none => none
      | none => none
    | none => none
  | none => none
theorem makeE_int : makeE P key g (.v (.int c x)) (.v (.int c' y)) (some e) = makeZ P key g e x y (zeroT P e) := by
  unfold makeE
  dsimp only [intOfA]
  cases zeroT P e <;> rfl
theorem aStep_make2 {xo yo : Operand} : aStep P G key g ⟨d, .makeSlice q xo yo, ty, pos, af, gd⟩ ρ0 m = makeE P key g (strip (ρ0 xo)) (strip (ρ0 yo)) (sElem P q) := by
  show aMake P key g q (strip (ρ0 xo)) (strip (ρ0 yo)) = _
  unfold aMake makeE makeZ
  cases sElem P q with
  | none => rfl
  | some e =>
    dsimp only
    cases zeroT P e with
    | none => rfl
    | some z =>
      dsimp only
      cases intOfA (strip (ρ0 xo)) with
      | none => rfl
      | some n =>
        dsimp only
        cases intOfA (strip (ρ0 yo)) <;> rfl
theorem cells_agg {z : Array Value} : Value.cells (.agg z) = z := (rfl)
theorem cells_int : Value.cells (.int c x) = #[.int c x] := (rfl)
theorem cells_bool {r : Bool} : Value.cells (.bool r) = #[.bool r] := (rfl)
theorem cells_pointer {r : Option Addr} : Value.cells (.pointer r) = #[.pointer r] := (rfl)
theorem cells_slice {r : Option Addr} : Value.cells (.slice r n k) = #[.slice r n k] := (rfl)
theorem cells_nilIface : Value.cells .nilIface = #[.nilIface] := (rfl)

/-! ### Cutting -/
def optV (t : Slots) : Option Operand → Option AV
  | none => none
  | some x => some (strip (opd t x))
theorem optV_none : optV t none = none := (rfl)
theorem optV_some {x : Operand} : optV t (some x) = some (strip (opd t x)) := (rfl)
theorem cutBound_none : cutBound k none = some (k : Int) := (rfl)
theorem cutBound_int : cutBound k (some (.v (.int c x))) = some x := (rfl)
def cutI (P : Program) (e : TypeId) (x : AV) (n : Nat) (lo hi : Option Int) : Option Eff := match lo with
  | some l => match hi with
    | some h => match x with
        | .ro _ sz get => if sizeT P e = sz then some ⟨[0 ≤ l, l ≤ h, h ≤ (n : Int)], .ro (h - l).toNat sz (fun i => get (l.toNat + i)), .none⟩ else none
        | .own r f _ sz => if sizeT P e = sz then some ⟨[0 ≤ l, l ≤ h, h ≤ (n : Int)], .vw r f l.toNat (h - l).toNat sz, .none⟩ else none
        | .vw r f q _ sz => if sizeT P e = sz then some ⟨[0 ≤ l, l ≤ h, h ≤ (n : Int)], .vw r f (q + l.toNat) (h - l).toNat sz, .none⟩ else none
        | _ => none
    | none => none
  | none => none
theorem cutI_ro {f : Nat → List AV} : cutI P e (.ro k sz f) n (some x) (some y) = if sizeT P e = sz then some ⟨[0 ≤ x, x ≤ y, y ≤ (n : Int)], .ro (y - x).toNat sz (fun i => f (x.toNat + i)), .none⟩ else none := (rfl)
theorem cutI_own {r f : Nat} : cutI P e (.own r f k sz) n (some x) (some y) = if sizeT P e = sz then some ⟨[0 ≤ x, x ≤ y, y ≤ (n : Int)], .vw r f x.toNat (y - x).toNat sz, .none⟩ else none := (rfl)
theorem cutI_vw {r f lo : Nat} : cutI P e (.vw r f lo k sz) n (some x) (some y) = if sizeT P e = sz then some ⟨[0 ≤ x, x ≤ y, y ≤ (n : Int)], .vw r f (lo + x.toNat) (y - x).toNat sz, .none⟩ else none := (rfl)
def cutE (P : Program) (x : AV) (lo hi : Option AV) (e : Option TypeId) : Option Eff := match e with
  | some e => if (P.info? e).isSome = true then (match lenA x with
    | some n => cutI P e x n (cutBound 0 lo) (cutBound n hi)
    | none => none) else none
  | none => none
theorem cutE_ro {f : Nat → List AV} {lo hi : Option AV} (h : (P.info? e).isSome = true) : cutE P (.ro n sz f) lo hi (some e) = cutI P e (.ro n sz f) n (cutBound 0 lo) (cutBound n hi) := if_pos h
theorem cutE_own {r f : Nat} {lo hi : Option AV} (h : (P.info? e).isSome = true) : cutE P (.own r f n sz) lo hi (some e) = cutI P e (.own r f n sz) n (cutBound 0 lo) (cutBound n hi) := if_pos h
theorem cutE_vw {r f lo' : Nat} {lo hi : Option AV} (h : (P.info? e).isSome = true) : cutE P (.vw r f lo' n sz) lo hi (some e) = cutI P e (.vw r f lo' n sz) n (cutBound 0 lo) (cutBound n hi) := if_pos h
theorem aStep_cut2 {xo : Operand} {lo hi : Option Operand} : aStep P G key g ⟨d, .slice q xo lo hi none, ty, pos, af, gd⟩ (opd t) m = cutE P (strip (opd t xo)) (optV t lo) (optV t hi) (sElem P q) := by
  show aCut P q (strip (opd t xo)) (lo.map fun y => strip (opd t y)) (hi.map fun y => strip (opd t y)) = _
  have e1 : (lo.map fun y => strip (opd t y)) = optV t lo := by cases lo <;> rfl
  have e2 : (hi.map fun y => strip (opd t y)) = optV t hi := by cases hi <;> rfl
  rw [e1, e2]
  unfold aCut cutE cutI
  cases sElem P q with
  | none => rfl
  | some e =>
    dsimp only
    split
    · cases lenA (strip (opd t xo)) with
      | none => rfl
      | some n =>
        dsimp only
        cases cutBound 0 (optV t lo) with
        | none => rfl
        | some l =>
          dsimp only
          cases cutBound n (optV t hi) <;> rfl
    · rfl

/-! ### Appending -/
theorem srcOf_ro {f : Nat → List AV} : srcOf (.ro n sz f) m = some ([], n, sz, f) := (rfl)
def srcF (f k sz lo : Nat) (x : Option Fam) : Option (List Prop × Nat × Nat × (Nat → List AV)) := match x with
  | some fam => some ((lo + k ≤ (fam f).n) :: (sz = (fam f).sz) :: gOb (fam f).g [], k, sz, fun i => (fam f).get (lo + i))
  | none => none
def srcO (f k sz : Nat) (x : Option Fam) : Option (List Prop × Nat × Nat × (Nat → List AV)) := match x with
  | some fam => some ((k ≤ (fam f).n) :: (sz = (fam f).sz) :: gOb (fam f).g [], k, sz, (fam f).get)
  | none => none
theorem srcOf_own {r f : Nat} : srcOf (.own r f n sz) m = srcO f n sz (look m r) := by
  unfold srcOf srcO
  dsimp only
  cases look m r <;> rfl
theorem srcOf_vw {r f lo : Nat} : srcOf (.vw r f lo n sz) m = srcF f n sz lo (look m r) := by
  unfold srcOf srcF
  dsimp only
  cases look m r <;> rfl
theorem srcO_N {n' sz' : Nat} {f : Nat → List AV} : srcO 0 k sz (some (famN n' sz' e f g)) = some ((k ≤ n') :: (sz = sz') :: gOb g [], k, sz, f) := (rfl)
theorem srcF_N {n' sz' lo : Nat} {f : Nat → List AV} : srcF 0 k sz lo (some (famN n' sz' e f g)) = some ((lo + k ≤ n') :: (sz = sz') :: gOb g [], k, sz, fun i => f (lo + i)) := (rfl)
/-- 'allCells' of each element. -/
def okCells (k : Nat) (f : Nat → List AV) : Prop := ∀ i, i < k → allCells (f i) = true
def appF (P : Program) (key : Nat) (e : TypeId) (r n : Nat) (ob : List Prop) (k sz : Nat) (get : Nat → List AV) (x : Option Fam) : Option Eff := match x with
  | some fam => some ⟨ob ++ [n ≤ (fam 0).n, sz = (fam 0).sz, (fam 0).ty = e, (fam 0).g = none, okCells k get, (n + k) * bytesT P e ≤ 140737488355328, n + k ≤ 9223372036854775807], .own key 0 (n + k) sz, .swap r (famN (n + k) sz e (fun i => if i < n then (fam 0).get i else get (i - n)) none)⟩
  | none => none
theorem appF_N {r n' sz' : Nat} {f f' : Nat → List AV} {ob : List Prop} {e' : TypeId} : appF P key e r n ob k sz f (some (famN n' sz' e' f' g)) = some ⟨ob ++ [n ≤ n', sz = sz', e' = e, g = none, okCells k f, (n + k) * bytesT P e ≤ 140737488355328, n + k ≤ 9223372036854775807], .own key 0 (n + k) sz, .swap r (famN (n + k) sz e (fun i => if i < n then f' i else f (i - n)) none)⟩ := (rfl)
def appS (P : Program) (key : Nat) (e : TypeId) (s : AV) (m : Mem) (x : Option (List Prop × Nat × Nat × (Nat → List AV))) : Option Eff := match x with
  | some (ob, k, sz, getx) => if sz = sizeT P e then (match s with
        | .v (.slice none 0 0) => some ⟨ob ++ [okCells k getx, k * bytesT P e ≤ 140737488355328, k ≤ 9223372036854775807], .own key 0 k sz, .new (famN k sz e getx none)⟩
        | .own r f n sz' => if f = 0 ∧ sz' = sz then appF P key e r n ob k sz getx (look m r) else none
        | _ => none) else none
  | none => none
theorem appS_nil {ob : List Prop} {f : Nat → List AV} (h : sz = sizeT P e) : appS P key e (.v (.slice none 0 0)) m (some (ob, k, sz, f)) = some ⟨ob ++ [okCells k f, k * bytesT P e ≤ 140737488355328, k ≤ 9223372036854775807], .own key 0 k sz, .new (famN k sz e f none)⟩ := if_pos h
theorem appS_own {ob : List Prop} {f : Nat → List AV} {r : Nat} (h : sz = sizeT P e) : appS P key e (.own r 0 n sz) m (some (ob, k, sz, f)) = appF P key e r n ob k sz f (look m r) := by
  unfold appS
  dsimp only
  rw [if_pos h]
  simp
def appE (P : Program) (key : Nat) (s x : AV) (m : Mem) (e : Option TypeId) : Option Eff := match e with
  | some e => match zeroT P e with
    | some z => if z.cells.size = sizeT P e ∧ 0 < sizeT P e then appS P key e s m (srcOf x m) else none
    | none => none
  | none => none
def appZ (P : Program) (key : Nat) (e : TypeId) (s x : AV) (m : Mem) (z : Option Value) : Option Eff := match z with
  | some z => if z.cells.size = sizeT P e ∧ 0 < sizeT P e then appS P key e s m (srcOf x m) else none
  | none => none
theorem appE_some : appE P key a b m (some e) = appZ P key e a b m (zeroT P e) := (rfl)
theorem appZ_some {z : Value} : appZ P key e a b m (some z) = if z.cells.size = sizeT P e ∧ 0 < sizeT P e then appS P key e a m (srcOf b m) else none := (rfl)
theorem aStep_append2 {xo yo : Operand} : aStep P G key none ⟨d, .call ⟨.builtin .append, #[xo, yo], #[q, q]⟩, ty, pos, af, gd⟩ ρ0 m = appE P key (strip (ρ0 xo)) (strip (ρ0 yo)) m (sElem P q) := by
  show (if q = q then aAppend P key q (strip (ρ0 xo)) (strip (ρ0 yo)) m else none) = _
  rw [if_pos rfl]
  unfold aAppend appE appS appF okCells
  cases sElem P q with
  | none => rfl
  | some e =>
    dsimp only
    cases zeroT P e with
    | none => rfl
    | some z =>
      dsimp only
      split
      · cases srcOf (strip (ρ0 yo)) m with
        | none => rfl
        | some s => rfl
      · rfl
/-- Values that are appended one at a time. -/
theorem okCells_1 {f : Nat → List AV} : okCells 1 f = (allCells (f 0) = true) := by
  unfold okCells
  apply propext
  exact ⟨fun h => h 0 (by omega), fun h i hi => by
    have : i = 0 := by omega
    subst this; exact h⟩
theorem okCells_all {f : Nat → List AV} (h : ∀ i, allCells (f i) = true) : okCells k f := fun i _ => h i

/-! ### Loops that append -/
/-- Where a round ends, rows having names. -/
def roundN {X : Type} (P : Program) (G : Ctx) (H : Hots) (K0 : AEx → St → Prop) (st : List Fr) (ok : X → Prop) (μ : X → Nat) (live : X → Slots) (rows : X → Mem) (keep W : List Nat) (names nx : Nat) (m : Mem) (x : X) (e : AEx) (s' : St) : Prop := match e with
  | .normal => ∃ y, ok y ∧ μ y < μ x ∧ ∃ σ : Names, fitSlots nx (nx + names) σ W s'.t (live y) ∧ fitRows nx (nx + names) σ s'.m (rows y) ∧ fitKeep m s'.m keep ∧ goodNames nx names σ (rows y) keep
  | e => retC P G H K0 e st s'
section
variable {X : Type} {ok : X → Prop} {μ : X → Nat} {live : X → Slots} {rows : X → Mem} {keep W : List Nat} {x : X} {m0 : Mem} {names : Nat} {s' : St}
theorem roundN_normal : roundN P G H K0 st ok μ live rows keep W names nx m0 x .normal ⟨t, m, k⟩ = ∃ y, ok y ∧ μ y < μ x ∧ ∃ σ : Names, fitSlots nx (nx + names) σ W t (live y) ∧ fitRows nx (nx + names) σ m (rows y) ∧ fitKeep m0 m keep ∧ goodNames nx names σ (rows y) keep := (rfl)
theorem roundN_ret : roundN P G H K0 st ok μ live rows keep W names nx m0 x .ret s' = retC P G H K0 .ret st s' := (rfl)
theorem roundN_exit : roundN P G H K0 st ok μ live rows keep W names nx m0 x (.exit j) s' = retC P G H K0 (.exit j) st s' := (rfl)
end
theorem loopN_go {X : Type} (ok : X → Prop) (μ : X → Nat) (live : X → Slots) (rows : X → Mem) (keep W : List Nat) (names : Nat) (x0 : X) {c : Code} (hW : writes c = W) (h0 : ok x0)
    (hf : ∃ σ : Names, fitSlots nx (nx + names) σ W t (live x0) ∧ fitRows nx (nx + names) σ m (rows x0) ∧ fitKeep m m keep ∧ goodNames nx names σ (rows x0) keep)
    (hr : ∀ x, ok x → goC P G H (roundN P G H K0 st ok μ live rows keep W names nx m x) c [] ⟨live x ++ (dropB W t ++ anyS W), rows x ++ keptRows keep m, nx + names⟩) : goC P G H K0 (.loop c) st ⟨t, m, nx⟩ := by
  subst hW
  refine ⟨X, ⟨live, rows, keep, names, ok, μ⟩, ⟨x0, h0, hf⟩, fun x hx => ?_⟩
  have h1 := hr x hx
  unfold goC at h1
  rw [← dropB_eq, ← anyS_eq] at h1
  refine awp_mono (fun e s' h => ?_) h1
  cases e with
  | normal =>
    obtain ⟨y, h1, h2, σ, h3, h4, h5, h6⟩ := h
    exact ⟨y, h1, h2, σ, h3, h4, h5, h6⟩
  | ret => exact h
  | exit j => exact h
/-- One row that is appended to. -/
theorem goodNames_one {N k : Nat} {x : Fam} {y : Option Nat} {keep : List Nat} (hk : keep.Nodup) (hy : ∀ z, y = some z → z ∉ keep) : goodNames N 1 [(N, y)] [(N, x)] keep := by
  refine ⟨fun p hp => by simp at hp; subst hp; simp, by simp, ?_, fun e he => by simp at he; subst he; simp⟩
  cases y with
  | none => simpa [asg] using hk
  | some z =>
    have := hy z rfl
    simp [asg, hk, this]
/-! ### Ranges over functions -/
/-- Behind the assignments of a round. -/
def asgK (P : Program) (G : Ctx) (H : Hots) (c : Code) (K1 : AEx → St → Prop) (e : AEx) (s : St) : Prop := match e with
  | .normal => goC P G H K1 c [] s
  | _ => False
section
variable {K1 : AEx → St → Prop} {c : Code}
theorem asgK_normal {s : St} : asgK P G H c K1 .normal s = goC P G H K1 c [] s := (rfl)
end
/-- Where a round ends. -/
def roundR {X : Type} (P : Program) (G : Ctx) (H : Hots) (K0 : AEx → St → Prop) (st : List Fr) (ok : X → Prop) (cnt : X → Nat) (rows : X → Mem) (keep : List Nat) (names nx : Nat) (tb : Slots) (m : Mem) (x : X) (e : AEx) (s' : St) : Prop := match e with
  | .normal => ∃ y, ok y ∧ cnt y = cnt x + 1 ∧ ∃ σ : Names, fitRows nx (nx + names) σ s'.m (rows y) ∧ fitKeep m s'.m keep ∧ goodNames nx names σ (rows y) keep
  | e => retC P G H K0 e st { s' with t := tb }
section
variable {X : Type} {ok : X → Prop} {cnt : X → Nat} {rows : X → Mem} {keep W : List Nat} {x : X} {m0 : Mem} {names : Nat} {tb : Slots}
theorem roundR_normal : roundR P G H K0 st ok cnt rows keep names nx tb m0 x .normal ⟨t, m, k⟩ = ∃ y, ok y ∧ cnt y = cnt x + 1 ∧ ∃ σ : Names, fitRows nx (nx + names) σ m (rows y) ∧ fitKeep m0 m keep ∧ goodNames nx names σ (rows y) keep := (rfl)
theorem roundR_ret : roundR P G H K0 st ok cnt rows keep names nx tb m0 x .ret ⟨t, m, k⟩ = retC P G H K0 .ret st ⟨tb, m, k⟩ := (rfl)
theorem roundR_exit : roundR P G H K0 st ok cnt rows keep names nx tb m0 x (.exit j) ⟨t, m, k⟩ = retC P G H K0 (.exit j) st ⟨tb, m, k⟩ := (rfl)
end
theorem slotsOf_nil {l : List AV} : slotsOf [] l t = t := by cases l <;> rfl
theorem slotsOf_cons {ps : List Nat} : slotsOf (k :: ps) (a :: l) t = slotsOf ps l ((k, a) :: t) := (rfl)
/-- A range over a function. -/
theorem rangeC_go {X : Type} (ok : X → Prop) (cnt : X → Nat) (rows : X → Mem) (keep W : List Nat) (names : Nat) (x0 : X) {gg : Operand} {ps : Array Tmp} {xa c : Code} {ob : List Prop} {N : Nat} {sq : Nat → List AV} {tb : Slots}
    (hq : seqOf G (opd t gg) = some (ob, N, sq)) (hob : ∀ p ∈ ob, p) (hW : ps.toList ++ writes xa ++ writes c = W) (htb : dropB W t ++ anyS W = tb)
    (hsq : ∀ i, i < N → (sq i).length = ps.toList.length ∧ (sq i).all (plain 3) = true) (h0 : ok x0) (hc0 : cnt x0 = 0)
    (hf : ∃ σ : Names, fitRows nx (nx + names) σ m (rows x0) ∧ fitKeep m m keep ∧ goodNames nx names σ (rows x0) keep)
    (hr : ∀ x, ok x → cnt x < N → goC P G H (asgK P G H c (roundR P G H K0 st ok cnt rows keep names nx tb m x)) xa [] ⟨slotsOf ps.toList (sq (cnt x)) tb, rows x ++ keptRows keep m, nx + names⟩)
    (hd : ∀ x, ok x → cnt x = N → retC P G H K0 .normal st ⟨tb, rows x ++ keptRows keep m, nx + names⟩) : goC P G H K0 (.rangeFunc gg ps xa c) st ⟨t, m, nx⟩ := by
  subst hW
  have htb' : havoc (ps.toList ++ writes xa ++ writes c) t = tb := by
    rw [← htb, ← dropB_eq, ← anyS_eq]; rfl
  unfold goC
  simp only [awp, hq, optK]
  refine conj_iff.2 ⟨hob, hsq, X, ⟨fun _ => [], rows, keep, names, ok, fun _ => 0⟩, cnt, fun _ => rfl, ?_, fun x hx hc => ?_, fun x hx hc => ?_⟩
  · obtain ⟨σ, h1, h2, h3⟩ := hf
    exact ⟨x0, h0, hc0, σ, trivial, h1, h2, h3⟩
  · have h1 := hr x hx hc
    unfold goC at h1
    simp only [headSt, List.nil_append]
    rw [htb']
    refine awp_mono (fun e s' h => ?_) h1
    cases e with
    | normal =>
      refine awp_mono (fun e2 s2 h => ?_) h
      cases e2 with
      | normal =>
        obtain ⟨y, h1, h2, σ, h3, h4, h5⟩ := h
        exact ⟨y, h1, h2, σ, trivial, h3, h4, h5⟩
      | ret => simp only [rangeK]; rw [htb']; exact h
      | exit j => simp only [rangeK]; rw [htb']; exact h
    | ret => exact h
    | exit j => exact h
  · have := hd x hx hc
    simp only [headSt, List.nil_append]
    rw [htb']
    exact this
end
end Go.Ax
