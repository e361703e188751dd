/-
  Tables that are restored: the program's, and the reference's.
-/
import Derived.Test.YtfpgjkeelegdpaaGreatCM7
import Derived.ShutString
import Derived.ChangeOld
import Derived.Below
section
set_option linter.unusedVariables false
set_option linter.unusedSimpArgs false
set_option maxHeartbeats 4000000
set_option maxRecDepth 100000
namespace Go.Ax
open Go.Proofs
/-! ### A mark in a table whose generations are a row of their own -/
open Classical in
noncomputable def dW (fam : Fam) : Option (Int × Nat × Nat) := if h : ∃ q : Int × Nat × Nat, fam = fam1 100 2 [u64 q.1, .own q.2.1 0 q.2.2 1] none then some (Classical.choose h) else none
open Classical in
noncomputable def dG (n : Nat) (fam : Fam) : Option (Nat → Int) := if h : ∃ X : Nat → Int, fam = famN n 1 3 (fun i => [i64 (X i)]) none then some (Classical.choose h) else none
noncomputable def w89c (K : Nat) (i x : Int) (b n : Nat) : Option (Nat → Int) → Option Eff
  | some X => some ⟨[K ≠ b, 0 ≤ x, x < 18446744073709551616, 0 ≤ i, i < 64], .tup [], .many [(K, fam1 100 2 [u64 (setX x i), .own b 0 n 1] none), (b, famN n 1 3 (fun i => [i64 (X i)]) none)] none⟩
  | none => none
noncomputable def w89b (K : Nat) (i x : Int) (b n : Nat) : Option Fam → Option Eff
  | some fam => w89c K i x b n (dG n fam)
  | none => none
noncomputable def w89d (K : Nat) (i : Int) (m : Mem) : Option (Int × Nat × Nat) → Option Eff
  | some (x, b, n) => w89b K i x b n (look m b)
  | none => none
noncomputable def w89a (K : Nat) (i : Int) (m : Mem) : Option Fam → Option Eff
  | some fam => w89d K i m (dW fam)
  | none => none
noncomputable def m89W : MCon := fun key m es => match es with
  | [.bx K 0, .v (.int .i64 i)] => w89a K i m (look m K)
  | _ => none
/-! ### Restored -/
def roB : AV → Option (List Prop × Nat × (Nat → Bool))
  | .ro n 1 g => some ([bools n g], n, fun i => gz (g i))
  | .v (.slice none 0 0) => some ([], 0, fun _ => false)
  | _ => none
def roJ : AV → Option (List Prop × Nat × (Nat → Int))
  | .ro n 1 g => some ([ints n g], n, gx g 0)
  | .v (.slice none 0 0) => some ([], 0, fun _ => 0)
  | _ => none
def badG (G : Nat → Int) (i : Nat) : Bool := decide (G i < 0) || decide (2147483647 < G i)
def badT (G : Nat → Int) (T : Nat → Bool) (i : Nat) : Bool := T i && (G i == 0)
def rsE (n m : Nat) (G : Nat → Int) (T : Nat → Bool) : Int := if n < 1 ∨ 64 < n then 3 else if lst (badG G) n < n then 3 else if m ≠ n then 4 else if lst (badT G T) n < n then 4 else 0
def xOf (T : Nat → Bool) : Nat → Int
  | 0 => 0
  | i + 1 => if T i = true then setX (xOf T i) i else xOf T i
noncomputable def F55f : Option (List Prop × Nat × (Nat → Int)) → Option (List Prop × Nat × (Nat → Bool)) → Option (List Prop × (Nat → AV) × (Nat → Option Fam))
  | some (o1, n, G), some (o2, m, T) => if rsE n m G T = 0 then some (o1 ++ o2, fun k => .tup [.bx k 0, i64 0], fun k => some (slF k ⟨xOf T n, n, G, noRows⟩)) else some (o1 ++ o2, fun _ => .tup [.v (.pointer none), i64 (rsE n m G T)], fun _ => none)
  | _, _ => none
noncomputable def F55 : List AV → Option (List Prop × (Nat → AV) × (Nat → Option Fam))
  | [a, b] => F55f (roJ a) (roB b)
  | _ => none
noncomputable def mN55 : MCon := mcKU F55
noncomputable def F56f : Option (List Prop × Nat × (Nat → Int)) → Option (List Prop × Nat × (Nat → Bool)) → Option (List Prop × (Nat → AV) × (Nat → Option Fam))
  | some (o1, n, G), some (o2, m, T) => if rsE n m G T = 0 then some (o1 ++ o2, fun k => .tup [.bx k 0, i64 0], fun k => some (rtF k ⟨n, G, T, noRows⟩)) else some (o1 ++ o2, fun _ => .tup [.v (.pointer none), i64 (rsE n m G T)], fun _ => none)
  | _, _ => none
noncomputable def F56 : List AV → Option (List Prop × (Nat → AV) × (Nat → Option Fam))
  | [a, b] => F56f (roJ a) (roB b)
  | _ => none
noncomputable def mN56 : MCon := mcKU F56
end Go.Ax
end

section
/-
  Lists of handles, ars rows of one's own; tables that are alike.
-/
set_option linter.unusedVariables false
set_option linter.unusedSimpArgs false
set_option maxHeartbeats 4000000
set_option maxRecDepth 100000
namespace Go.Ax
open Go.Proofs
attribute [go_sem] Tryz.underlying4
def FN35 : List AV → Option (List Prop × (Nat → AV) × (Nat → Option Fam))
  | [.rop [.v (.int .u64 x), .ro n 1 g]] => some ([0 ≤ x, x < 18446744073709551616, 0 < n, n ≤ 64, ints n g], fun k => .own k 0 (allL x n (gx g 0) n).length 2, fun k => some (famN (allL x n (gx g 0) n).length 2 64 (lsF (allL x n (gx g 0) n)) none))
  | _ => none
noncomputable def mN35W : MCon := mcKU FN35
theorem mN35W_eq : mN35W = mcKU FN35 := (rfl)
theorem FN35_eq {x : Int} {n : Nat} {g : Nat → List AV} : FN35 [.rop [u64 x, .ro n 1 g]] = some ([0 ≤ x, x < 18446744073709551616, 0 < n, n ≤ 64, ints n g], fun k => .own k 0 (allL x n (gx g 0) n).length 2, fun k => some (famN (allL x n (gx g 0) n).length 2 64 (lsF (allL x n (gx g 0) n)) none)) := (rfl)
attribute [go_sem] mN35W_eq FN35_eq
def FN93 : List AV → Option (List Prop × (Nat → AV) × (Nat → Option Fam))
  | [.rop [.ro n 1 g, .ro m 1 h]] => some ([m = n, 0 < n, n ≤ 64, ints n g, bools n h], fun k => .own k 0 (rtL n (gx g 0) (fun i => gz (h i)) n).length 2, fun k => some (famN (rtL n (gx g 0) (fun i => gz (h i)) n).length 2 64 (lsF (rtL n (gx g 0) (fun i => gz (h i)) n)) none))
  | _ => none
noncomputable def mN93W : MCon := mcKU FN93
theorem mN93W_eq : mN93W = mcKU FN93 := (rfl)
theorem FN93_eq {n m : Nat} {g h : Nat → List AV} : FN93 [.rop [.ro n 1 g, .ro m 1 h]] = some ([m = n, 0 < n, n ≤ 64, ints n g, bools n h], fun k => .own k 0 (rtL n (gx g 0) (fun i => gz (h i)) n).length 2, fun k => some (famN (rtL n (gx g 0) (fun i => gz (h i)) n).length 2 64 (lsF (rtL n (gx g 0) (fun i => gz (h i)) n)) none)) := (rfl)
attribute [go_sem] mN93W_eq FN93_eq
end Go.Ax
end

section
/-
  What the laws' tables go through: the plain law.
-/
set_option linter.unusedVariables false
set_option linter.unusedSimpArgs false
set_option maxHeartbeats 4000000
set_option maxRecDepth 100000
namespace Go.Ax
open Go.Proofs
/-- A table to which something was done. -/
structure TdS where
  s : SlS
  live : List (Int × Int)
  given : List (Int × Int)
def tdStep (n : Nat) (t : TdS) (k : Nat) : TdS :=
  if k % 3 = 2 ∧ t.live ≠ [] then
    let i := k / 3 % t.live.length
    ⟨frS t.s (t.live.getD i (0, 0)).1 (t.live.getD i (0, 0)).2, t.live.eraseIdx i, t.given⟩
  else if t.live.length = n then t
  else ⟨tkS t.s, t.live ++ [tkH t.s], t.given ++ [tkH t.s]⟩
/-- What holds of it, at most r handles having been given. -/
structure TdI (n r : Nat) (t : TdS) : Prop where
  sn : t.s.n = n
  n1 : 1 ≤ n ∧ n ≤ 64
  x0 : 0 ≤ t.s.x ∧ t.s.x < 18446744073709551616
  hi : ∀ j, n ≤ j → t.s.x.toNat.testBit j = false
  cnt : t.live.length = cntB t.s.x.toNat.testBit n
  liv : ∀ h ∈ t.live, ∃ i : Nat, i < n ∧ h = ((i : Int), t.s.G i) ∧ t.s.x.toNat.testBit i = true
  nod : t.live.Pairwise fun a b => a.1 ≠ b.1
  has : ∀ i, i < n → t.s.x.toNat.testBit i = true → ((i : Int), t.s.G i) ∈ t.live
  giv : ∀ h ∈ t.given, ∃ i : Nat, i < n ∧ h.1 = i ∧ 1 ≤ h.2 ∧ h.2 ≤ t.s.G i
  gen : ∀ i, i < n → 0 ≤ t.s.G i ∧ t.s.G i ≤ r
  sub : ∀ h ∈ t.live, h ∈ t.given
  gl : t.given.length ≤ r
theorem cntB_full {T : Nat → Bool} : ∀ {n : Nat}, cntB T n = n ↔ ∀ i, i < n → T i = true
  | 0 => by simp [cntB]
  | n + 1 => by
    have h1 := cntB_le (T := T) n
    have ih := cntB_full (T := T) (n := n)
    simp only [cntB]
    constructor
    · intro h i hi
      have h2 : T n = true := by
        by_cases h3 : T n = true
        · exact h3
        · rw [if_neg h3] at h; omega
      rw [if_pos h2] at h
      by_cases e : i = n
      · rw [e]; exact h2
      · exact ih.1 (by omega) i (by omega)
    · intro h
      rw [if_pos (h n (by omega)), ih.2 fun i hi => h i (by omega)]
theorem cntB_add1 {T T' : Nat → Bool} {k : Nat} : ∀ {n : Nat}, k < n → T k = false → T' k = true → (∀ j, j ≠ k → T' j = T j) → cntB T' n = cntB T n + 1
  | 0, h, _, _, _ => by omega
  | n + 1, h, h1, h2, h3 => by
    simp only [cntB]
    by_cases e : k = n
    · subst e
      rw [if_pos h2, if_neg (by rw [h1]; decide), cntB_congr fun i hi => h3 i (by omega)]
    · rw [cntB_add1 (by omega) h1 h2 h3, h3 n (fun e2 => e e2.symm)]
      omega
theorem TdI.full {n r : Nat} {t : TdS} (h : TdI n r t) (hr : r < 2147483647) : t.live.length = n ↔ tkI t.s = n := by
  have hn := h.sn
  rw [h.cnt, cntB_full]
  constructor
  · intro h1
    unfold tkI
    rw [hn]
    exact lst_full fun j hj => by unfold mayT; rw [h1 j hj]; rfl
  · intro h1 i hi
    by_cases h2 : t.s.x.toNat.testBit i = true
    · exact h2
    · exfalso
      have h3 := h.gen i hi
      have h4 : mayT t.s.x t.s.G i = true := by
        unfold mayT
        have : t.s.x.toNat.testBit i = false := by simpa using h2
        rw [this, decide_eq_true (by omega)]; rfl
      unfold tkI at h1
      rw [hn] at h1
      have h5 := lst_no (p := mayT t.s.x t.s.G) (n := n) (i := i) (by omega)
      rw [h4] at h5
      cases h5
theorem TdI.slOK {n r : Nat} {t : TdS} (h : TdI n r t) : slOK t.s := ⟨h.x0, by rw [h.sn]; exact ⟨by have := h.n1.1; omega, h.n1.2⟩, fun i hi => (h.gen i (by rw [h.sn] at hi; exact hi)).1⟩
theorem setX_bit {x : Int} {i j : Nat} : (setX x (i : Int)).toNat.testBit j = (x.toNat.testBit j || decide (j = i)) := by
  unfold setX
  rw [Int.toNat_natCast, Int.toNat_natCast, setN_bit]
theorem TdI.take {n r : Nat} {t : TdS} (h : TdI n r t) (hr : r < 2147483647) (hl : t.live.length ≠ n) : TdI n (r + 1) ⟨tkS t.s, t.live ++ [tkH t.s], t.given ++ [tkH t.s]⟩ ∧ tkE t.s = 0 ∧ tkH t.s ∉ t.given := by
  have hn := h.sn
  have hne : tkI t.s ≠ n := fun e => hl ((h.full hr).2 e)
  have hle : tkI t.s ≤ n := by unfold tkI; rw [hn]; exact lst_le n
  have hlt : tkI t.s < t.s.n := by rw [hn]; omega
  have hm : mayT t.s.x t.s.G (tkI t.s) = true := lst_yes (p := mayT t.s.x t.s.G) (n := t.s.n) hlt
  have hS : tkS t.s = ⟨setX t.s.x (tkI t.s : Nat), t.s.n, upI t.s.G (tkI t.s) (t.s.G (tkI t.s) + 1), t.s.tl⟩ := by unfold tkS; rw [if_pos hlt]
  have hH : tkH t.s = ((tkI t.s : Int), t.s.G (tkI t.s) + 1) := by unfold tkH; rw [if_pos hlt]
  have hE : tkE t.s = 0 := by unfold tkE; rw [if_pos hlt]
  rw [hn] at hlt
  have hb : t.s.x.toNat.testBit (tkI t.s) = false := by
    unfold mayT at hm
    rw [Bool.and_eq_true] at hm
    simpa using hm.1
  generalize tkI t.s = i at *
  have hgi := h.gen i hlt
  have hn1 := h.n1
  refine ⟨?_, hE, fun hg => ?_⟩
  · rw [hS, hH]
    refine ⟨hn, hn1, ⟨?_, ?_⟩, fun j hj => ?_, ?_, fun z hz => ?_, ?_, fun j hj hb2 => ?_, fun z hz => ?_, fun j hj => ?_, fun z hz => ?_, by rw [List.length_append, List.length_singleton]; have := h.gl; omega⟩
    · show (0 : Int) ≤ setX _ _
      unfold setX; omega
    · show setX _ _ < _
      unfold setX
      rw [Int.toNat_natCast]
      have := h.x0
      have := setN_lt (a := t.s.x.toNat) (k := i) (by omega) (by omega)
      omega
    · show (setX _ _).toNat.testBit j = false
      rw [setX_bit, h.hi j hj, decide_eq_false (by omega)]; rfl
    · show (t.live ++ [_]).length = cntB (setX _ _).toNat.testBit n
      rw [List.length_append, List.length_singleton, h.cnt]
      exact (cntB_add1 hlt hb (by rw [setX_bit, decide_eq_true rfl, Bool.or_true]) fun j hj => by rw [setX_bit, decide_eq_false hj, Bool.or_false]).symm
    · rcases List.mem_append.1 hz with hz | hz
      · obtain ⟨j, h1, h2, h3⟩ := h.liv z hz
        have hji : j ≠ i := fun e => by rw [e, hb] at h3; cases h3
        exact ⟨j, h1, by show z = ((j : Int), upI _ _ _ j); unfold upI; rw [if_neg hji]; exact h2, by show (setX _ _).toNat.testBit j = true; rw [setX_bit, h3]; rfl⟩
      · simp only [List.mem_cons, List.not_mem_nil, or_false] at hz
        exact ⟨i, hlt, by show z = ((i : Int), upI _ _ _ i); unfold upI; rw [if_pos rfl]; exact hz, by show (setX _ _).toNat.testBit i = true; rw [setX_bit, decide_eq_true rfl, Bool.or_true]⟩
    · refine List.pairwise_append.2 ⟨h.nod, List.pairwise_singleton _ _, fun a ha b hb2 => ?_⟩
      simp only [List.mem_cons, List.not_mem_nil, or_false] at hb2
      obtain ⟨j, h1, h2, h3⟩ := h.liv a ha
      rw [hb2, h2]
      intro e
      have e : (j : Int) = i := e
      have : j = i := by omega
      rw [this, hb] at h3; cases h3
    · have hb2 : (setX t.s.x (i : Int)).toNat.testBit j = true := hb2
      rw [setX_bit] at hb2
      show ((j : Int), upI _ _ _ j) ∈ _
      unfold upI
      by_cases e : j = i
      · rw [if_pos e, e]; simp
      · rw [if_neg e]
        rw [decide_eq_false e, Bool.or_false] at hb2
        exact List.mem_append_left _ (h.has j hj hb2)
    · rcases List.mem_append.1 hz with hz | hz
      · obtain ⟨j, h1, h2, h3, h4⟩ := h.giv z hz
        refine ⟨j, h1, h2, h3, ?_⟩
        show z.2 ≤ upI _ _ _ j
        unfold upI
        split
        · rename_i e; rw [e] at h4; omega
        · exact h4
      · simp only [List.mem_cons, List.not_mem_nil, or_false] at hz
        refine ⟨i, hlt, by rw [hz], by rw [hz]; show (1 : Int) ≤ _ + 1; omega, ?_⟩
        show z.2 ≤ upI _ _ _ i
        unfold upI
        rw [if_pos rfl, hz]
        exact Int.le_refl _
    · show 0 ≤ upI _ _ _ j ∧ upI _ _ _ j ≤ _
      unfold upI
      have := h.gen j hj
      split <;> omega
    · rcases List.mem_append.1 hz with hz | hz
      · exact List.mem_append_left _ (h.sub z hz)
      · exact List.mem_append_right _ hz
  · rw [hH] at hg
    obtain ⟨j, h1, h2, h3, h4⟩ := h.giv _ hg
    have h2 : (i : Int) = j := h2
    have h4 : t.s.G i + 1 ≤ t.s.G j := h4
    have : i = j := by omega
    rw [this] at h4
    omega
theorem clrX_bit {x : Int} {i j : Nat} (hi : i < 64) (hx : 0 ≤ x ∧ x < 18446744073709551616) : (clrX x (i : Int)).toNat.testBit j = (x.toNat.testBit j && decide (j ≠ i)) := by
  unfold clrX
  rw [Int.toNat_natCast, Int.toNat_natCast]
  by_cases hj : j < 64
  · exact clrN_bit hi hj
  · have h1 : x.toNat.testBit j = false := Nat.testBit_lt_two_pow (Nat.lt_of_lt_of_le (show x.toNat < 2 ^ 64 by omega) (Nat.pow_le_pow_right (by omega) (by omega)))
    rw [h1, clrN_hi h1]; rfl
theorem TdI.free {n r : Nat} {t : TdS} (h : TdI n r t) {k : Nat} (hk : k < t.live.length) : TdI n r ⟨frS t.s (t.live.getD k (0, 0)).1 (t.live.getD k (0, 0)).2, t.live.eraseIdx k, t.given⟩ ∧ hasI t.s (t.live.getD k (0, 0)).1 (t.live.getD k (0, 0)).2 = true := by
  have hz : t.live[k]? = some (t.live.getD k (0, 0)) := by rw [List.getD_eq_getElem?_getD, List.getElem?_eq_getElem hk]; rfl
  obtain ⟨i, h1, h2, h3⟩ := h.liv _ (List.mem_of_getElem? hz)
  rw [h2] at hz ⊢
  have hn := h.sn
  have hn1 := h.n1
  have hhas : hasI t.s i (t.s.G i) = true := by
    unfold hasI atOk
    rw [hn, Int.toNat_natCast, h3, decide_eq_true (by omega)]
    simp
  refine ⟨?_, hhas⟩
  have hS : frS t.s i (t.s.G i) = ⟨clrX t.s.x i, t.s.n, t.s.G, t.s.tl⟩ := by unfold frS; rw [if_pos hhas]
  show TdI n r ⟨frS t.s (i : Int) (t.s.G i), _, _⟩
  rw [hS]
  have hbit : ∀ j, (clrX t.s.x (i : Int)).toNat.testBit j = (t.s.x.toNat.testBit j && decide (j ≠ i)) := fun j => clrX_bit (by omega) h.x0
  have hmem : ∀ z, z ∈ t.live.eraseIdx k → z ∈ t.live ∧ z.1 ≠ i := fun z hz2 => by
    obtain ⟨q, hq, hq2⟩ := List.mem_eraseIdx_iff_getElem?.1 hz2
    refine ⟨List.mem_of_getElem? hq2, fun e => ?_⟩
    have hp := List.pairwise_iff_getElem.1 h.nod
    obtain ⟨q1, q2⟩ := List.getElem?_eq_some_iff.1 hq2
    obtain ⟨k1, k2⟩ := List.getElem?_eq_some_iff.1 hz
    rcases Nat.lt_or_gt_of_ne hq with h5 | h5
    · have := hp q k q1 k1 h5
      rw [q2, k2] at this
      exact this e
    · have := hp k q k1 q1 h5
      rw [q2, k2] at this
      exact this e.symm
  have hback : ∀ z, z ∈ t.live → z.1 ≠ i → z ∈ t.live.eraseIdx k := fun z hz2 hne => by
    obtain ⟨q, hq⟩ := List.mem_iff_getElem?.1 hz2
    refine List.mem_eraseIdx_iff_getElem?.2 ⟨q, fun e => ?_, hq⟩
    rw [e, hz] at hq
    cases hq
    exact hne rfl
  refine ⟨hn, hn1, ⟨?_, ?_⟩, fun j hj => ?_, ?_, fun z hz2 => ?_, ?_, fun j hj hb2 => ?_, h.giv, h.gen, fun z hz2 => h.sub z (hmem z hz2).1, h.gl⟩
  · show (0 : Int) ≤ clrX _ _
    unfold clrX; omega
  · show clrX _ _ < _
    unfold clrX
    have := h.x0
    have := clrN_lt (a := t.s.x.toNat) (k := 2 ^ (i : Int).toNat) (by omega)
    omega
  · show (clrX _ _).toNat.testBit j = false
    rw [hbit, h.hi j hj]; rfl
  · show (t.live.eraseIdx k).length = cntB (clrX _ _).toNat.testBit n
    have h4 := cntB_add1 (T := (clrX t.s.x (i : Int)).toNat.testBit) (T' := t.s.x.toNat.testBit) h1 (by rw [hbit]; simp) h3 (fun j hj => by rw [hbit, decide_eq_true hj, Bool.and_true])
    rw [List.length_eraseIdx_of_lt hk, h.cnt, h4]
    rfl
  · obtain ⟨m1, m2⟩ := hmem z hz2
    obtain ⟨j, j1, j2, j3⟩ := h.liv z m1
    refine ⟨j, j1, j2, ?_⟩
    show (clrX _ _).toNat.testBit j = true
    rw [hbit, j3, decide_eq_true (by rintro rfl; exact m2 (by rw [j2]))]
    rfl
  · exact h.nod.sublist (List.eraseIdx_sublist _ _)
  · have hb2 : (clrX t.s.x (i : Int)).toNat.testBit j = true := hb2
    rw [hbit, Bool.and_eq_true, decide_eq_true_iff] at hb2
    exact hback _ (h.has j hj hb2.1) (by show (j : Int) ≠ i; omega)
theorem TdI.more {n r : Nat} {t : TdS} (h : TdI n r t) : TdI n (r + 1) t := ⟨h.sn, h.n1, h.x0, h.hi, h.cnt, h.liv, h.nod, h.has, h.giv, fun i hi => by have := h.gen i hi; omega, h.sub, Nat.le_succ_of_le h.gl⟩
theorem TdI.step {n r : Nat} {t : TdS} (h : TdI n r t) (hr : r < 2147483647) (k : Nat) : TdI n (r + 1) (tdStep n t k) := by
  unfold tdStep
  split
  · rename_i hc
    have hl : 0 < t.live.length := List.length_pos_iff.2 hc.2
    exact (h.free (Nat.mod_lt _ hl)).1.more
  · split
    · exact h.more
    · rename_i hl
      exact (h.take hr hl).1
def td0 (n : Nat) : TdS := ⟨⟨0, n, fun _ => 0, noRows⟩, [], []⟩
theorem cntB_zero {n : Nat} : cntB (Int.toNat 0).testBit n = 0 := by
  induction n with
  | zero => rfl
  | succ n ih => simp only [cntB, ih]; simp
theorem TdI.init {n : Nat} (h : 1 ≤ n ∧ n ≤ 64) : TdI n 0 (td0 n) := by
  refine ⟨rfl, h, ⟨Int.le_refl 0, by show (0 : Int) < _; omega⟩, fun j _ => ?_, ?_, fun z hz => (by cases hz), List.Pairwise.nil, fun i _ hb => ?_, fun z hz => (by cases hz), fun i _ => ⟨Int.le_refl 0, Int.le_refl 0⟩, fun z hz => (by cases hz), Nat.le_refl 0⟩
  · show (Int.toNat 0).testBit j = false
    simp
  · exact cntB_zero.symm
  · have hb : (Int.toNat 0).testBit i = true := hb
    simp at hb
def tdRun (n : Nat) (ks : List Nat) : TdS := ks.foldl (tdStep n) (td0 n)
theorem TdI.run {n : Nat} (h : 1 ≤ n ∧ n ≤ 64) (ks : List Nat) : ks.length < 2147483647 → TdI n ks.length (tdRun n ks) := by
  have main : ∀ (ks : List Nat) (r : Nat) (t : TdS), TdI n r t → r + ks.length < 2147483647 → TdI n (r + ks.length) (ks.foldl (tdStep n) t) := fun ks => by
    induction ks with
    | nil => exact fun r t ht _ => ht
    | cons k ks ih =>
      intro r t ht hr
      rw [List.length_cons] at hr ⊢
      have := ih (r + 1) _ (ht.step (by omega) k) (by omega)
      rw [show r + (ks.length + 1) = r + 1 + ks.length by omega]
      exact this
  intro hl
  have := main ks 0 (td0 n) (.init h) (by omega)
  rw [Nat.zero_add] at this
  exact this
end Go.Ax
end

section
/-
  The laws' tables: told.
-/
set_option linter.unusedVariables false
set_option linter.unusedSimpArgs false
set_option maxHeartbeats 4000000
set_option maxRecDepth 100000
namespace Go.Ax
open Go.Proofs
/-- What a number says. -/
def tdK (X : Nat → Int) (i : Nat) : Nat := (modS (X i) 1048576).toNat
def tdN (most : Int) : Nat := (1 + modS most 64).toNat
def tdAt (n : Nat) (X : Nat → Int) : Nat → TdS
  | 0 => td0 n
  | i + 1 => tdStep n (tdAt n X i) (tdK X i)
def c38g (z : Int × Int) : Option (List Prop × Nat × (Nat → Int × Int)) → Option (List Prop × AV)
  | some (ob, n, X) => some (c38f n X z ob)
  | none => none
theorem c38_eq {a : AV} {z1 z2 : Int} : c38 [a, .agg [i64 z1, i64 z2]] = c38g (z1, z2) (roP a) := by
  show (match roP a with
    | some (ob, n, X) => some (c38f n X (z1, z2) ob)
    | none => none) = _
  unfold c38g
  cases roP a <;> rfl
theorem c38g_some {z : Int × Int} {ob : List Prop} {n : Nat} {X : Nat → Int × Int} : c38g z (some (ob, n, X)) = some ((n ≤ 100000) :: ob, bo (decide (z ∈ lP n X))) := (rfl)
attribute [go_sem] c38_eq c38g_some
abbrev tdA (K : Nat) (t : TdS) : AV := .agg [.bx K 0, .own K 2 t.live.length 2, .own K 3 t.given.length 2, bo true]
def tdF (K : Nat) (t : TdS) : Fam := slF K { t.s with tl := famR [⟨t.live.length, 2, 64, lsF t.live, none⟩, ⟨t.given.length, 2, 64, lsF t.given, none⟩] noRows }
def F34f (most : Int) : Option (List Prop × Nat × (Nat → Int)) → Option (List Prop × (Nat → AV) × (Nat → Option Fam))
  | some (ob, k, X) => some ((k ≤ 1000) :: inR most :: (∀ i, inR (X i)) :: ob, fun K => tdA K (tdAt (tdN most) X k), fun K => some (tdF K (tdAt (tdN most) X k)))
  | none => none
def F34 : List AV → Option (List Prop × (Nat → AV) × (Nat → Option Fam))
  | [.v (.int .i64 most), nums] => F34f most (roI nums)
  | _ => none
noncomputable def mN34 : MCon := mcKU F34
theorem mN34_eq : mN34 = mcKU F34 := (rfl)
attribute [go_sem] mN34_eq
end Go.Ax
end

section
/-
  The laws' tables: what is in them.
-/
set_option linter.unusedVariables false
set_option linter.unusedSimpArgs false
set_option maxHeartbeats 4000000
set_option maxRecDepth 100000
namespace Go.Ax
open Go.Proofs
theorem F34_eq {most : Int} {n : Nat} {g : Nat → List AV} : F34 [i64 most, .ro n 1 g] = some ((n ≤ 1000) :: inR most :: (∀ i, inR (gx g 0 i)) :: [ints n g], fun K => tdA K (tdAt (tdN most) (gx g 0) n), fun K => some (tdF K (tdAt (tdN most) (gx g 0) n))) := (rfl)
theorem tdF_eq {K : Nat} {t : TdS} : tdF K t = famR [⟨1, 2, 100, fun _ => [u64 t.s.x, .own K 1 t.s.n 1], none⟩, ⟨t.s.n, 1, 3, fun i => [i64 (t.s.G i)], none⟩] (famR [⟨t.live.length, 2, 64, lsF t.live, none⟩, ⟨t.given.length, 2, 64, lsF t.given, none⟩] noRows) := (rfl)
theorem famNK_td {K : Nat} {t : TdS} : famNK K (tdF K t) = True := eq_true fun f j hj c hc => by
  match f with
  | 0 =>
    have hc : c ∈ [u64 t.s.x, .own K 1 t.s.n 1] := hc
    simp only [List.mem_cons, List.not_mem_nil, or_false] at hc
    rcases hc with rfl | rfl
    · trivial
    · rfl
  | 1 =>
    have hc : c ∈ [i64 (t.s.G j)] := hc
    simp only [List.mem_cons, List.not_mem_nil, or_false] at hc
    subst hc; trivial
  | 2 =>
    have hc : c ∈ lsF t.live j := hc
    simp only [lsF, List.mem_cons, List.not_mem_nil, or_false] at hc
    rcases hc with rfl | rfl <;> trivial
  | 3 =>
    have hc : c ∈ lsF t.given j := hc
    simp only [lsF, List.mem_cons, List.not_mem_nil, or_false] at hc
    rcases hc with rfl | rfl <;> trivial
  | f + 4 => have hj : j < 0 := hj; omega
theorem famNK_td' {K : Nat} {t : TdS} : famNK K (famR [⟨1, 2, 100, fun _ => [u64 t.s.x, .own K 1 t.s.n 1], none⟩, ⟨t.s.n, 1, 3, fun i => [i64 (t.s.G i)], none⟩] (famR [⟨t.live.length, 2, 64, lsF t.live, none⟩, ⟨t.given.length, 2, 64, lsF t.given, none⟩] noRows)) = True := famNK_td
theorem tlOK_td {t : TdS} : tlOK (famR [⟨t.live.length, 2, 64, lsF t.live, none⟩, ⟨t.given.length, 2, 64, lsF t.given, none⟩] noRows) = True := eq_true fun f => match f with
  | 0 => ⟨rfl, fun j hj c hc => by
    have hc : c ∈ lsF t.live j := hc
    simp only [lsF, List.mem_cons, List.not_mem_nil, or_false] at hc
    rcases hc with rfl | rfl <;> rfl⟩
  | 1 => ⟨rfl, fun j hj c hc => by
    have hc : c ∈ lsF t.given j := hc
    simp only [lsF, List.mem_cons, List.not_mem_nil, or_false] at hc
    rcases hc with rfl | rfl <;> rfl⟩
  | f + 2 => ⟨rfl, fun j hj => by have hj : j < 0 := hj; omega⟩
theorem c15_eq : c15 [] = some ([], bo true) := (rfl)
attribute [go_sem] F34_eq tdF_eq famNK_td' tlOK_td c15_eq
/-! ### What is in the list of all handles -/
end Go.Ax
end

section
/-
  The laws' tables: Copy, Take, Free.
-/
set_option linter.unusedVariables false
set_option linter.unusedSimpArgs false
set_option maxHeartbeats 4000000
set_option maxRecDepth 100000
namespace Go.Ax
open Go.Proofs
theorem F42_eq {x : Int} {n : Nat} {g : Nat → List AV} : F42 [.rop [u64 x, .ro n 1 g]] = some ([0 < n, n ≤ 64, ints n g], fun k => .bx k 0, fun k => some (slF k ⟨x, n, gx g 0, noRows⟩)) := (rfl)
theorem c43_eq {a b : AV} : c43 [a, b] = c43f (roP a) (roP b) := (rfl)
theorem c43f_some {o1 o2 : List Prop} {n m : Nat} {X Y : Nat → Int × Int} : c43f (some (o1, n, X)) (some (o2, m, Y)) = some ((n ≤ 100000) :: (o1 ++ o2), bo (decide (lP n X = lP m Y))) := (rfl)
theorem famNK_S' {key : Nat} {x : Int} {n : Nat} {X : Nat → Int} : famNK key (famR [⟨1, 2, 100, fun _ => [u64 x, .own key 1 n 1], none⟩, ⟨n, 1, 3, fun i => [i64 (X i)], none⟩] noRows) = True := famNK_S
theorem famR_n2 {x y z : Row} {l : List Row} {T0 : Fam} : famR [x, y] (famR (z :: l) T0) 2 = z := (rfl)
theorem famR_n3 {x y z u : Row} {l : List Row} {T0 : Fam} : famR [x, y] (famR (z :: u :: l) T0) 3 = u := (rfl)
attribute [go_sem] famR_n2 famR_n3 F42_eq c43_eq c43f_some famNK_S' tlOK_no
theorem slOK_tk {s : SlS} (h : slOK s) : slOK (tkS s) := by
  obtain ⟨⟨h0, h1⟩, ⟨h2, h3⟩, h4⟩ := h
  have hle : tkI s ≤ s.n := lst_le s.n
  unfold tkS
  split
  · rename_i hlt
    refine ⟨⟨?_, ?_⟩, ⟨h2, h3⟩, fun i hi => ?_⟩
    · show 0 ≤ setX _ _
      unfold setX; omega
    · show setX _ _ < _
      unfold setX
      have := setN_lt (a := s.x.toNat) (k := tkI s) (by omega) (by omega)
      rw [Int.toNat_natCast]; omega
    · show 0 ≤ upI _ _ _ i
      unfold upI
      have := h4 i hi
      have := h4 _ hlt
      split <;> omega
  · exact ⟨⟨h0, h1⟩, ⟨h2, h3⟩, h4⟩
theorem slOK_fr {s : SlS} {a g : Int} (h : slOK s) : slOK (frS s a g) := by
  obtain ⟨⟨h0, h1⟩, ⟨h2, h3⟩, h4⟩ := h
  unfold frS
  split
  · refine ⟨⟨?_, ?_⟩, ⟨h2, h3⟩, h4⟩
    · show 0 ≤ clrX _ _
      unfold clrX; omega
    · show clrX _ _ < _
      unfold clrX
      have := clrN_lt (a := s.x.toNat) (k := 2 ^ a.toNat) (by omega)
      omega
  · exact ⟨⟨h0, h1⟩, ⟨h2, h3⟩, h4⟩
end Go.Ax
end

section
/-
  A table of the program's against the reference's: alike.
-/
set_option linter.unusedVariables false
set_option linter.unusedSimpArgs false
set_option maxHeartbeats 4000000
set_option maxRecDepth 100000
namespace Go.Ax
open Go.Proofs
/-- The reference's table is ars the program's. -/
structure Alk (s : SlS) (r : RtS) : Prop where
  ok : slOK s
  n : r.n = s.n
  hi : ∀ j, s.n ≤ j → s.x.toNat.testBit j = false
  bit : ∀ j, j < s.n → r.T j = s.x.toNat.testBit j
  gen : ∀ j, j < s.n → r.G j = s.G j
  ts : s.tl = noRows
  tr : r.tl = noRows
theorem lst_congr {p q : Nat → Bool} : ∀ {n}, (∀ j, j < n → p j = q j) → lst p n = lst q n
  | 0, _ => rfl
  | n + 1, h => by
    unfold lst
    rw [lst_congr (n := n) fun j hj => h j (by omega), h n (by omega)]
theorem Alk.tkJ {s : SlS} {r : RtS} (h : Alk s r) : tkJ r = tkI s := by
  unfold Ax.tkJ tkI
  rw [h.n]
  refine lst_congr fun j hj => ?_
  unfold mayR mayT
  rw [h.bit j hj, h.gen j hj]
theorem Alk.tkH {s : SlS} {r : RtS} (h : Alk s r) : rkH r = tkH s := by
  unfold rkH Ax.tkH
  rw [h.tkJ, h.n]
  split
  · rename_i hl
    rw [h.gen _ hl]
  · rfl
theorem Alk.tkE {s : SlS} {r : RtS} (h : Alk s r) : rkE r = tkE s := by
  unfold rkE Ax.tkE
  rw [h.tkJ, h.n]
theorem Alk.tkS {s : SlS} {r : RtS} (h : Alk s r) : Alk (tkS s) (rkS r) := by
  have hsl := slOK_tk h.ok
  unfold rkS
  unfold Ax.tkS at hsl ⊢
  rw [h.tkJ, h.n]
  split
  · rename_i hl
    rw [if_pos hl] at hsl
    have hx := h.ok.1
    refine ⟨hsl, rfl, fun j hj => ?_, fun j hj => ?_, fun j hj => ?_, h.ts, h.tr⟩
    · show (setX _ _).toNat.testBit j = false
      rw [setX_bit, h.hi j hj]
      have hj : s.n ≤ j := hj
      rw [decide_eq_false (by omega)]; rfl
    · show upB r.T (tkI s) true j = (setX _ _).toNat.testBit j
      rw [setX_bit]
      unfold upB
      split
      · rename_i e
        rw [e]; simp
      · rename_i e
        rw [decide_eq_false e, h.bit j hj]; simp
    · show upI r.G (tkI s) (r.G (tkI s) + 1) j = upI s.G (tkI s) (s.G (tkI s) + 1) j
      unfold upI
      rw [h.gen _ hl]
      split
      · rfl
      · exact h.gen j hj
  · exact h
theorem Alk.at {s : SlS} {r : RtS} (h : Alk s r) (a : Int) : rtOk r.n r.T a = atOk s.x s.n a := by
  unfold rtOk atOk
  rw [h.n]
  by_cases hb : 0 ≤ a ∧ a < (s.n : Int)
  · rw [decide_eq_true hb, h.bit a.toNat (by omega)]
  · rw [decide_eq_false hb]; rfl
theorem Alk.has {s : SlS} {r : RtS} (h : Alk s r) (a g : Int) : rsI r a g = hasI s a g := by
  unfold rsI hasI
  rw [h.at]
  cases hb : atOk s.x s.n a with
  | false => rfl
  | true =>
    unfold atOk at hb
    rw [Bool.and_eq_true, decide_eq_true_iff] at hb
    rw [h.gen a.toNat (by omega)]
theorem Alk.frS {s : SlS} {r : RtS} (h : Alk s r) (a g : Int) : Alk (frS s a g) (rrS r a g) := by
  have hsl := slOK_fr (a := a) (g := g) h.ok
  unfold rrS
  unfold Ax.frS at hsl ⊢
  rw [h.has]
  split
  · rename_i hl
    rw [if_pos hl] at hsl
    have hx := h.ok.1
    have hb : 0 ≤ a ∧ a < (s.n : Int) := by
      unfold hasI atOk at hl
      rw [Bool.and_eq_true, Bool.and_eq_true, decide_eq_true_iff] at hl
      exact hl.1.1
    obtain ⟨k, rfl⟩ : ∃ k : Nat, a = k := ⟨a.toNat, by omega⟩
    have hn := h.ok.2.1.2
    have hcb : ∀ q, (clrX s.x (k : Int)).toNat.testBit q = (s.x.toNat.testBit q && decide (q ≠ k)) := fun q => clrX_bit (by omega) hx
    refine ⟨hsl, h.n, fun j hj => ?_, fun j hj => ?_, h.gen, h.ts, h.tr⟩
    · show (clrX _ _).toNat.testBit j = false
      rw [hcb, h.hi j hj]; rfl
    · show upB r.T (Int.toNat (k : Int)) false j = (clrX _ _).toNat.testBit j
      rw [hcb, Int.toNat_natCast]
      unfold upB
      split
      · rename_i e
        rw [e]; simp
      · rename_i e
        have hj : j < s.n := hj
        rw [h.bit j hj, decide_eq_true e]; simp
  · exact h
end Go.Ax
end

section
/-
  A table of the program's against the reference's: acts.
-/
set_option linter.unusedVariables false
set_option linter.unusedSimpArgs false
set_option maxHeartbeats 4000000
set_option maxRecDepth 100000
namespace Go.Ax
open Go.Proofs
section
variable {P : Program} {G : Ctx} {H : Hots} {f : FuncId} {fn : Func} {X Y : Type} {O : Obj X} {Q : Obj Y}
/-- A contract of a function that uses two objects up. -/
def mcDf (O : Obj X) (Q : Obj Y) (K K' : Nat) (x : X) (y : Y) : Option (List Prop × AV) → Option Eff
  | some (ob, v) => some ⟨(K ≠ K') :: O.ok x :: Q.ok y :: ob, v, .many [(K, dead), (K', dead)] none⟩
  | none => none
noncomputable def mcDe (O : Obj X) (Q : Obj Y) (F : X → Y → List AV → Option (List Prop × AV)) (K K' : Nat) (rest : List AV) : Option Fam → Option Fam → Option Eff
  | some a, some b => match O.dec K a, Q.dec K' b with
    | some x, some y => mcDf O Q K K' x y (F x y rest)
    | _, _ => none
  | _, _ => none
noncomputable def mcD (O : Obj X) (Q : Obj Y) (F : X → Y → List AV → Option (List Prop × AV)) : MCon := fun key m es => match es with
  | .bx K 0 :: .bx K' 0 :: rest => mcDe O Q F K K' rest (look m K) (look m K')
  | _ => none
def DOK (P : Program) (G : Ctx) (H : Hots) (fn : Func) (O : Obj X) (Q : Obj Y) (F : X → Y → List AV → Option (List Prop × AV)) : Prop :=
  ∀ x y rest ob v, F x y rest = some (ob, v) → O.ok x → Q.ok y → (∀ p ∈ ob, p) → clean 3 v = true ∧ (∀ a ∈ rest, clean 3 a = true) ∧ funcOK P H fn (rest.length + 2) = true ∧
    bodyM P G H fn (.bx 0 0 :: .bx 1 0 :: rest) [(1, Q.fm 1 y), (0, O.fm 0 x)] 2 fun a _ => a = v
theorem MConOK.mcD (hG : CtxOK P G) (hf : P.funcs[f]? = some fn) {F : X → Y → List AV → Option (List Prop × AV)} (h : DOK P G H fn O Q F) : MConOK P f (mcD O Q F) := by
  refine MConOK.of (H := H) hG hf fun key m es e hc hob => ?_
  unfold Ax.mcD at hc
  split at hc
  · rename_i K K' rest
    unfold mcDe at hc
    split at hc
    · rename_i fa fb hl hl2
      split at hc
      · rename_i x y hx hy
        obtain rfl := Obj.dec_some hx
        obtain rfl := Obj.dec_some hy
        unfold mcDf at hc
        split at hc
        · rename_i ob v hF
          cases hc
          have hne : K ≠ K' := hob _ (by simp)
          have hok : O.ok x := hob _ (by simp)
          have hok' : Q.ok y := hob _ (by simp)
          obtain ⟨hv, h1, h3, h4⟩ := h _ _ _ _ _ hF hok hok' fun p hp => hob p (by simp [hp])
          obtain ⟨a1, a2⟩ := cleans_ren (θ := thE [K, K']) (g := lowG 2) (B := lowB 2) h1
          refine ⟨[K, K'], [(1, Q.fm 1 y), (0, O.fm 0 x)], .bx 0 0 :: .bx 1 0 :: rest, ⟨by simp [hne], by rw [List.map_cons, List.map_cons, a1]; rfl, fun a ha => ?_, fun j hj => ?_, fun q z hq => ?_⟩, h3, h4.mono fun a m1 hN => ?_⟩
          · rcases List.mem_cons.1 ha with rfl | ha
            · exact (by show (0 : Nat) < 2; omega)
            · rcases List.mem_cons.1 ha with rfl | ha
              · exact (by show (1 : Nat) < 2; omega)
              · exact a2 a ha
          · match j, hj with
            | 0, _ => exact ⟨_, _, (by simp [look]), hl, fun f => ⟨O.gn _ _ hok _, O.ren x hok _ _ _ 0 K (fun _ => rfl) (fun _ => (by show (0 : Nat) < 2; omega)) f⟩⟩
            | 1, _ => exact ⟨_, _, (by simp [look]), hl2, fun f => ⟨Q.gn _ _ hok' _, Q.ren y hok' _ _ _ 1 K' (fun _ => rfl) (fun _ => (by show (1 : Nat) < 2; omega)) f⟩⟩
            | j + 2, hj => simp at hj; omega
          · by_cases e : q = 0
            · subst e; simp
            · by_cases e1 : q = 1
              · subst e1; simp
              · simp [look, Ne.symm e, Ne.symm e1] at hq
          · subst hN
            obtain ⟨k1, k2⟩ := clean_ren (θ := thL [K, K'] key fun _ _ => 0) (g := newG 2 (fun _ => none) fun _ _ => 0) (B := newB 2 fun _ => none) 3 a hv
            refine ⟨fun _ => none, fun _ _ => 0, [dead, dead], none, rfl, ⟨fun f r g h => by simp at h, k1.symm, k2, rfl, fun j hj => .inl ?_, fun _ => rfl⟩⟩
            match j, hj with
            | 0, _ => rfl
            | 1, _ => rfl
            | j + 2, hj => simp at hj; omega
        · cases hc
      · cases hc
    · cases hc
  · cases hc
end
end Go.Ax
end

section
/-
  Two sweeps and the reference's at a loop's head.
-/
set_option linter.unusedVariables false
set_option linter.unusedSimpArgs false
set_option maxHeartbeats 4000000
set_option maxRecDepth 100000
namespace Go.Ax
open Go.Proofs
theorem famNK_qN {key : Nat} {l : List En} : famNK key (qN key l) = True := eq_true fun f j hj c hc => by
  match f with
  | 0 =>
    have hc : c ∈ [bo true, AV.own key 1 l.length 5] := hc
    simp only [List.mem_cons, List.not_mem_nil, or_false] at hc
    rcases hc with rfl | rfl
    · trivial
    · rfl
  | 1 =>
    have hc : c ∈ enF l j := hc
    simp only [enF, enC, List.mem_cons, List.not_mem_nil, or_false] at hc
    rcases hc with rfl | rfl | rfl | rfl | rfl <;> trivial
  | f + 2 => have hj : j < 0 := hj; omega
structure PwS where
  i : Nat
  L : Ents
  l : List En
  L' : Ents
  l' : List En
structure PwI (k : Nat) (p : PwS) : Prop where
  i : p.i ≤ k
  a : RelW p.L p.l
  b : RelW p.L' p.l'
noncomputable abbrev pwR (N : Nat) (p : PwS) : Mem := [(N, swF N ⟨p.L, noRows⟩), (N + 1, qS (N + 2) p.l.length), (N + 2, qE p.l), (N + 3, swF (N + 3) ⟨p.L', noRows⟩), (N + 4, qS (N + 5) p.l'.length), (N + 5, qE p.l')]
section
variable {N kw kr kv kq : Nat} {ea za : Option (Nat × Nat)}
theorem fitA_sw {M r k : Nat} {θ : Alias} {m : Mem} {L : Ents} (hθ : ∀ f, θ r f = some (k, f)) (hr : r < M) (hl : look m k = some (swF k ⟨L, noRows⟩)) : ∀ f, match θ r f with
    | some (k, g) => ∃ y, look m k = some y ∧ fitRowA N M θ (swF r ⟨L, noRows⟩ f) (y g)
    | none => (swF r ⟨L, noRows⟩ f).n = 0 ∧ (swF r ⟨L, noRows⟩ f).g = none := fun f => by
  rw [hθ]
  refine ⟨_, hl, ?_⟩
  match f with
  | 0 => exact ⟨rfl, rfl, rfl, rfl, rfl, fun j _ => ⟨⟨hr, by rw [hθ]⟩, trivial⟩⟩
  | 1 => exact ⟨rfl, rfl, rfl, rfl, rfl, fun j hj => by have hj : j < 0 := hj; omega⟩
  | f + 2 => exact ⟨rfl, rfl, rfl, rfl, rfl, fun j hj => by have hj : j < 0 := hj; omega⟩
end
end Go.Ax
end

section
/-
  The law of sweeps, act by act.
-/
set_option linter.unusedVariables false
set_option linter.unusedSimpArgs false
set_option maxHeartbeats 4000000
set_option maxRecDepth 100000
namespace Go.Ax
open Go.Proofs
attribute [go_sem] mcW_eq mcWd_W mcWe_S mcWg_E mcWh_some
theorem purL_en {d : Nat} {m : Mem} {l : List En} {i : Nat} : purL (d + 1) m (enF l i) = enF l i := (rfl)
attribute [go_sem] purL_en famNK_qN c33_eq c33f_some
/-- What an act makes of the two. -/
theorem dn_cases {L : Ents} {l : List En} {m i a b c d : Int} (h : RelW L l) : (∃ L1 l1, RelW L1 l1 ∧ l1.length = l.length ∧ dnS ⟨L, noRows⟩ m i a b c d = ⟨L1, noRows⟩ ∧ (dnU L l m i a b c d = .set l1 ∨ (dnU L l m i a b c d = .keep ∧ l1 = l ∧ L1 = L))) ∨ ∃ L1 l1, RelW L1 l1 ∧ dnS ⟨L, noRows⟩ m i a b c d = ⟨L1, noRows⟩ ∧ dnU L l m i a b c d = .new l1 := by
  unfold dnS dnU putW movW drpW
  by_cases h0 : m = 0
  · rw [if_pos h0, if_pos h0]
    by_cases he : putE L i a b c d = 0
    · dsimp only; rw [if_pos he, if_pos he]; exact .inr ⟨_, _, h.put he, rfl, rfl⟩
    · dsimp only; rw [if_neg he, if_neg he]; exact .inl ⟨L, l, h, rfl, rfl, .inr ⟨rfl, rfl, rfl⟩⟩
  rw [if_neg h0, if_neg h0]
  by_cases h1 : m = 1
  · rw [if_pos h1, if_pos h1]
    by_cases he : movE L i a b c d = 0
    · dsimp only; rw [if_pos he, if_pos he]; exact .inl ⟨_, _, h.mov he, List.length_set, rfl, .inl rfl⟩
    · dsimp only; rw [if_neg he, if_neg he]; exact .inl ⟨L, l, h, rfl, rfl, .inr ⟨rfl, rfl, rfl⟩⟩
  rw [if_neg h1, if_neg h1]
  by_cases h2 : m = 2
  · rw [if_pos h2, if_pos h2]
    by_cases he : drpE L i = 0
    · dsimp only; rw [if_pos he, if_pos he]; exact .inr ⟨_, _, h.drp he, rfl, rfl⟩
    · dsimp only; rw [if_neg he, if_neg he]; exact .inl ⟨L, l, h, rfl, rfl, .inr ⟨rfl, rfl, rfl⟩⟩
  · rw [if_neg h2, if_neg h2]; exact .inl ⟨L, l, h, rfl, rfl, .inr ⟨rfl, rfl, rfl⟩⟩
end Go.Ax
end

section
/-
  The reference's sweep: what it sees, ars new slices.
-/
set_option linter.unusedVariables false
set_option linter.unusedSimpArgs false
set_option maxHeartbeats 4000000
set_option maxRecDepth 100000
namespace Go.Ax
open Go.Proofs
def ownI (l : List Int) (k : Nat) : Option Fam := some (famN l.length 1 3 (fun j => [i64 (l.getD j 0)]) none)
theorem ownI_eq {l : List Int} {k : Nat} : ownI l k = some (famN l.length 1 3 (fun j => [i64 (l.getD j 0)]) none) := (rfl)
def F52nf (a b c d : Int) : Option (List Prop × List En) → Option (List Prop × (Nat → AV) × (Nat → Option Fam))
  | some (ob, l) => some ((l.length ≤ 1000) :: enIn l :: inR a :: inR b :: inR c :: inR d :: ob, fun k => .own k 0 (seeL (fun x y z t => alS x y z t a b c d) l).length 1, ownI (seeL (fun x y z t => alS x y z t a b c d) l))
  | none => none
def F52n : List AV → Option (List Prop × (Nat → AV) × (Nat → Option Fam))
  | [.rop [.v (.bool true), S], .agg [.v (.int .i64 a), .v (.int .i64 b)], .agg [.v (.int .i64 c), .v (.int .i64 d)]] => F52nf a b c d (roE S)
  | _ => none
noncomputable def mN52 : MCon := mcKU F52n
theorem mN52_eq : mN52 = mcKU F52n := (rfl)
theorem F52n_eq {S : AV} {a b c d : Int} : F52n [.rop [bo true, S], .agg [i64 a, i64 b], .agg [i64 c, i64 d]] = F52nf a b c d (roE S) := (rfl)
theorem F52nf_some {a b c d : Int} {ob : List Prop} {l : List En} : F52nf a b c d (some (ob, l)) = some ((l.length ≤ 1000) :: enIn l :: inR a :: inR b :: inR c :: inR d :: ob, fun k => .own k 0 (seeL (fun x y z t => alS x y z t a b c d) l).length 1, ownI (seeL (fun x y z t => alS x y z t a b c d) l)) := (rfl)
attribute [go_sem] ownI_eq mN52_eq F52n_eq F52nf_some
theorem mon52 : MConOK Tryz.prog 52 mN52 := MConOK.mkU (G := [(80, k80), (105, c105)]) (H := []) (.cons con80 (.cons con105 .nil)) Tryz.func52 fun es ob v nw hF hob => by
  unfold F52n at hF
  split at hF
  · rename_i S a b c d
    unfold F52nf at hF
    split at hF
    · rename_i ob1 l hS
      cases hF
      have hl : l.length ≤ 1000 := hob _ (by simp)
      have hi : enIn l := hob _ (by simp)
      have ha : inR a := hob _ (by simp)
      have hb : inR b := hob _ (by simp)
      have hc : inR c := hob _ (by simp)
      have hd : inR d := hob _ (by simp)
      have h1 := fun i => (hi i).1
      have h2 := fun i => (hi i).2.1
      have h3 := fun i => (hi i).2.2.1
      have h4 := fun i => (hi i).2.2.2
      refine ⟨[qR l, .agg [i64 a, i64 b], .agg [i64 c, i64 d]], fun w I vs hR => ?_, by simp [clean, cleanCs, cleanC], by kernel_rfl, fun key => bodyM_go (rs := [.tmp 6]) rfl rfl ?_⟩
      · obtain ⟨y, ys, rfl, k1, k2⟩ := hR.inv
        exact .cons (R_qR hS (fun p hp => hob p (by simp [hp])) k1) k2
      simp only [go_sem, k80, c105, F80, enF_eq]
      rintro z rfl
      refine ⟨fun h => (by cases h), fun _ => ?_⟩
      refine loopN_go (fun (i : Nat) => i ≤ l.length) (fun i => l.length - i) (fun i => [(8, i64 i), (7, .own 8 0 (seeN (fun x y z t => alS x y z t a b c d) l i).length 1)]) (fun i => [(8, famN (seeN (fun x y z t => alS x y z t a b c d) l i).length 1 3 (fun j => [i64 ((seeN (fun x y z t => alS x y z t a b c d) l i).getD j 0)]) none)]) [1, 0] [12, 13, 14, 15, 16, 17, 18, 21, 22, 23, 24, 25, 26, 27, 28, 29, 30, 31, 32, 33, 34, 35, 36, 37, 38, 39, 40, 41, 42, 7, 19, 20, 8] 1 0 (by kernel_rfl) (Nat.zero_le _) ⟨[(8, none)], ?_, ?_, ?_, ?_⟩ ?_
      · simp only [go_sem, Int.cast_ofNat_Int, seeN, List.length_nil]
      · simp only [go_sem, seeN, List.length_nil]
      · simp only [go_sem]
      · simp [goodNames, asg]
      intro i hi
      have hle := seeN_le (p := fun x y z t => alS x y z t a b c d) (l := l) i
      simp only [go_sem, k80, c105, enF_eq, h1, h2, h3, h4, ha, hb, hc, hd]
      have hby : bytesT Tryz.prog 3 = 8 := by kernel_rfl
      refine ⟨fun hlt => ⟨by omega, hlt, fun z hz => ⟨fun ht => ⟨by omega, hlt, by rw [hby]; omega, by omega, fun z1 k1 => ⟨i + 1, by omega, by omega, [(8, some 37)], ?_⟩⟩, fun hf z1 k1 => ⟨i + 1, by omega, by omega, [(8, some 8)], ?_⟩⟩⟩, fun hge => ?_⟩
      · have e : seeN (fun x y z t => alS x y z t a b c d) l (i + 1) = seeN (fun x y z t => alS x y z t a b c d) l i ++ [(l.getD i e0).1] := by
          rw [seeN, if_pos (by rw [← ht, hz])]
        rw [e, List.length_append, List.length_singleton]
        simp only [go_sem]
        refine ⟨by rw [k1, wrap_in (by unfold inR; omega)]; omega, fun q hq => ?_, by simp [goodNames, asg]⟩
        rw [push1 hq]
        exact fitL_clean rfl
      · have e : seeN (fun x y z t => alS x y z t a b c d) l (i + 1) = seeN (fun x y z t => alS x y z t a b c d) l i := by
          rw [seeN, if_neg (by rw [hf] at hz; rw [← hz]; decide), List.append_nil]
        rw [e]
        simp only [go_sem]
        exact ⟨by rw [k1, wrap_in (by unfold inR; omega)]; omega, fun _ _ => trivial, by simp [goodNames, asg]⟩
      · have e : i = l.length := by omega
        subst e
        rw [seeN_all]
        exact newN (by simp [look]) (Nat.zero_le _) fun j hj => ⟨rfl, fun c hc => by
          simp only [List.mem_cons, List.not_mem_nil, or_false] at hc
          subst hc; rfl⟩
    · cases hF
  · cases hF
/-- Nothing is seen from a box that is none. -/
theorem see_no {l : List En} {a b c d : Int} (hne : checkBoxS a b c d ≠ 0) : seeL (fun x y z t => meetsS x y z t a b c d) l = [] := by
  unfold seeL
  rw [List.filter_eq_nil_iff.2 fun e _ => ?_]; rfl
  unfold meetsS
  rw [decide_eq_true_iff]
  exact fun h => hne h.2.1
def F51ng (a b c d : Int) (l : List En) (e : Int) (ob : List Prop) : Option (List Prop × (Nat → AV) × (Nat → Option Fam)) :=
  if e = 0 then some (ob, fun k => .own k 0 (seeL (fun x y z t => meetsS x y z t a b c d) l).length 1, ownI (seeL (fun x y z t => meetsS x y z t a b c d) l)) else some (ob, fun _ => .v (.slice none 0 0), fun _ => none)
theorem F51ng_0 {a b c d : Int} {l : List En} {ob : List Prop} : F51ng a b c d l 0 ob = some (ob, fun k => .own k 0 (seeL (fun x y z t => meetsS x y z t a b c d) l).length 1, ownI (seeL (fun x y z t => meetsS x y z t a b c d) l)) := (rfl)
theorem F51ng_n {a b c d : Int} {l : List En} {e : Int} {ob : List Prop} (h : ¬ e = 0) : F51ng a b c d l e ob = some (ob, fun _ => .v (.slice none 0 0), fun _ => none) := if_neg h
def F51nf (a b c d : Int) : Option (List Prop × List En) → Option (List Prop × (Nat → AV) × (Nat → Option Fam))
  | some (ob, l) => F51ng a b c d l (checkBoxS a b c d) ((l.length ≤ 1000) :: enIn l :: inR a :: inR b :: inR c :: inR d :: ob)
  | none => none
def F51n : List AV → Option (List Prop × (Nat → AV) × (Nat → Option Fam))
  | [.rop [.v (.bool true), S], .agg [.v (.int .i64 a), .v (.int .i64 b), .v (.int .i64 c), .v (.int .i64 d)]] => F51nf a b c d (roE S)
  | _ => none
noncomputable def mN51 : MCon := mcKU F51n
theorem mN51_eq : mN51 = mcKU F51n := (rfl)
theorem F51n_eq {S : AV} {a b c d : Int} : F51n [.rop [bo true, S], .agg [i64 a, i64 b, i64 c, i64 d]] = F51nf a b c d (roE S) := (rfl)
theorem F51nf_some {a b c d : Int} {ob : List Prop} {l : List En} : F51nf a b c d (some (ob, l)) = F51ng a b c d l (checkBoxS a b c d) ((l.length ≤ 1000) :: enIn l :: inR a :: inR b :: inR c :: inR d :: ob) := (rfl)
attribute [go_sem] mN51_eq F51n_eq F51nf_some F51ng_0
theorem mon51 : MConOK Tryz.prog 51 mN51 := MConOK.mkU (G := [(80, k80), (103, c103), (104, c104)]) (H := []) (.cons con80 (.cons con103 (.cons con104 .nil))) Tryz.func51 fun es ob v nw hF hob => by
  unfold F51n at hF
  split at hF
  · rename_i S a b c d
    unfold F51nf at hF
    split at hF
    · rename_i ob1 l hS
      unfold F51ng at hF
      have hob : ∀ p ∈ (l.length ≤ 1000) :: enIn l :: inR a :: inR b :: inR c :: inR d :: ob1, p := by
        split at hF <;> (cases hF; exact hob)
      have hl : l.length ≤ 1000 := hob _ (by simp)
      have hi : enIn l := hob _ (by simp)
      have ha : inR a := hob _ (by simp)
      have hb : inR b := hob _ (by simp)
      have hc : inR c := hob _ (by simp)
      have hd : inR d := hob _ (by simp)
      have h1 := fun i => (hi i).1
      have h2 := fun i => (hi i).2.1
      have h3 := fun i => (hi i).2.2.1
      have h4 := fun i => (hi i).2.2.2
      refine ⟨[qR l, .agg [i64 a, i64 b, i64 c, i64 d]], fun w I vs hR => ?_, by simp [clean, cleanCs, cleanC], by kernel_rfl, fun key => bodyM_go (rs := [.tmp 4]) rfl rfl ?_⟩
      · obtain ⟨y, ys, rfl, k1, k2⟩ := hR.inv
        exact .cons (R_qR hS (fun p hp => hob p (by simp [hp])) k1) k2
      simp only [go_sem, k80, c103, c104, F80, enF_eq]
      rintro z rfl z1 hz1
      refine ⟨fun h => ?_, fun h => ?_⟩
      · have hne : checkBoxS a b c d ≠ 0 := by
          rcases h with h | h
          · cases h
          · rw [hz1] at h; simpa using h
        rw [if_neg hne] at hF
        cases hF
        exact newP_none rfl
      have h00 : checkBoxS a b c d = 0 := by rw [← hz1]; simpa using h
      rw [if_pos h00] at hF
      cases hF
      refine loopN_go (fun (i : Nat) => i ≤ l.length) (fun i => l.length - i) (fun i => [(6, i64 i), (5, .own 12 0 (seeN (fun x y z t => meetsS x y z t a b c d) l i).length 1)]) (fun i => [(12, famN (seeN (fun x y z t => meetsS x y z t a b c d) l i).length 1 3 (fun j => [i64 ((seeN (fun x y z t => meetsS x y z t a b c d) l i).getD j 0)]) none)]) [0] [15, 16, 17, 18, 19, 20, 21, 24, 25, 26, 27, 28, 29, 30, 31, 32, 33, 34, 35, 36, 37, 38, 39, 40, 41, 42, 43, 44, 5, 22, 23, 6] 1 0 (by kernel_rfl) (Nat.zero_le _) ⟨[(12, none)], ?_, ?_, ?_, ?_⟩ ?_
      · simp only [go_sem, Int.cast_ofNat_Int, seeN, List.length_nil]
      · simp only [go_sem, seeN, List.length_nil]
      · simp only [go_sem]
      · simp [goodNames, asg]
      intro i hi
      have hle := seeN_le (p := fun x y z t => meetsS x y z t a b c d) (l := l) i
      simp only [go_sem, k80, c103, c104, enF_eq, h1, h2, h3, h4, ha, hb, hc, hd]
      have hby : bytesT Tryz.prog 3 = 8 := by kernel_rfl
      refine ⟨fun hlt => ⟨by omega, hlt, fun z hz => ⟨fun ht => ⟨by omega, hlt, by rw [hby]; omega, by omega, fun z1 k1 => ⟨i + 1, by omega, by omega, [(12, some 40)], ?_⟩⟩, fun hf z1 k1 => ⟨i + 1, by omega, by omega, [(12, some 12)], ?_⟩⟩⟩, fun hge => ?_⟩
      · have e : seeN (fun x y z t => meetsS x y z t a b c d) l (i + 1) = seeN (fun x y z t => meetsS x y z t a b c d) l i ++ [(l.getD i e0).1] := by
          rw [seeN, if_pos (by rw [← ht, hz])]
        rw [e, List.length_append, List.length_singleton]
        simp only [go_sem]
        refine ⟨by rw [k1, wrap_in (by unfold inR; omega)]; omega, fun q hq => ?_, by simp [goodNames, asg]⟩
        rw [push1 hq]
        exact fitL_clean rfl
      · have e : seeN (fun x y z t => meetsS x y z t a b c d) l (i + 1) = seeN (fun x y z t => meetsS x y z t a b c d) l i := by
          rw [seeN, if_neg (by rw [hf] at hz; rw [← hz]; decide), List.append_nil]
        rw [e]
        simp only [go_sem]
        exact ⟨by rw [k1, wrap_in (by unfold inR; omega)]; omega, fun _ _ => trivial, by simp [goodNames, asg]⟩
      · have e : i = l.length := by omega
        subst e
        rw [seeN_all]
        exact newN (by simp [look]) (Nat.zero_le _) fun j hj => ⟨rfl, fun c hc => by
          simp only [List.mem_cons, List.not_mem_nil, or_false] at hc
          subst hc; rfl⟩
    · cases hF
  · cases hF
end Go.Ax
end

section
/-
  The frame of a law: its arguments ars abstract values, and what they read ars behind the call.
-/
set_option linter.unusedSimpArgs false
set_option linter.unusedVariables false
namespace Go.Ax
open Go.ChangeShapes Go.WideShapes Go.ChangeAt Go.RowKit

/-- What an argument is. -/
inductive ShV where
  | int (k : IntKind)
  | bool
  | agg (es : List Sh)
  | slice (sz : Nat) (es : List Sh)

def shV (P : Program) (t : TypeId) : Option ShV :=
  match P.underlying t with
  | some .bool => some .bool
  | some (.int k) => some (.int k)
  | some (.slice _) => match shT P 6 t with
    | some [.slice sz es] => some (.slice sz es)
    | _ => none
  | some (.struct _) => (shT P 6 t).map .agg
  | some (.array _ _) => (shT P 6 t).map .agg
  | _ => none

def fitV : ShV → AV → Prop
  | .int k, a => ∃ n, a = .v (.int k n) ∧ (Lit.int k n).wf = true
  | .bool, a => ∃ b, a = .v (.bool b)
  | .agg es, a => ∃ l, a = .agg l ∧ fitS es l
  | .slice sz es, a => ∃ (n : Nat) (get : Nat → List AV), a = .ro n sz get ∧ n ≤ maxLen ∧ ∀ i, fitS es (get i)

def shVs (P : Program) : List TypeId → Option (List ShV)
  | [] => some []
  | t :: ts => match shV P t, shVs P ts with
    | some s, some r => some (s :: r)
    | _, _ => none
def fitVs : List ShV → List AV → Prop
  | [], l => l = []
  | s :: ss, l => ∃ a r, l = a :: r ∧ fitV s a ∧ fitVs ss r

section
variable {H : Type} {enc : TypeId × Value → H} {P : Program} {w : World} {spare : Nat → Bool} {held : Bool} {base : Nat}

theorem okWide_agg_struct {t : TypeId} {fs : Array Field} {v : Value} (ht : P.underlying t = some (.struct fs)) (h : Value.okWide P w .any base t v) : ∃ cs, v = .agg cs := by
  obtain ⟨cs, h, _⟩ := okWide_struct ht h
  exact ⟨cs, h⟩
theorem trod_agg_array {t e : TypeId} {n : Nat} {v : Value} {x : DataW H} {ps : List MemPlace} (ht : P.underlying t = some (.array n e)) (h : Value.okWide P w .any base t v) : ∃ cs, v = .agg cs := by
  cases v <;> simp [Value.okWide, Value.ok, ht] at h <;> exact ⟨_, rfl⟩

theorem arg_read {t : TypeId} {s : ShV} {v : Value} {x : DataW H} {ps : List MemPlace} (hs : shV P t = some s) (ho : Value.okWide P w .any base t v) (h : DataW.Trod enc P w 0 spare held t v x ps) : ∃ a, fitV s a ∧ R w (.ext (All w)) a v := by
  unfold shV at hs
  split at hs
  · rename_i hu
    cases hs
    obtain ⟨b, rfl⟩ := okWide_bool hu ho
    exact ⟨_, ⟨b, rfl⟩, .v⟩
  · rename_i k hu
    cases hs
    obtain ⟨n, rfl, _, _, hw⟩ := open_int hu ho h
    exact ⟨_, ⟨n, rfl, hw⟩, .v⟩
  · rename_i e hu
    split at hs
    · rename_i sz es he
      cases hs
      obtain ⟨a, len, cap, rfl⟩ := okWide_slice hu ho
      obtain ⟨n, get, h1, h2, h3⟩ := slice_read he h
      exact ⟨_, ⟨n, get, rfl, h1, h2⟩, h3⟩
    · cases hs
  · rename_i fs hu
    obtain ⟨es, he, rfl⟩ := Option.map_eq_some_iff.1 hs
    obtain ⟨cs, rfl⟩ := okWide_agg_struct hu ho
    obtain ⟨l, h1, h2⟩ := agg_read he h
    exact ⟨_, ⟨l, rfl, h1⟩, h2⟩
  · rename_i n e hu
    obtain ⟨es, he, rfl⟩ := Option.map_eq_some_iff.1 hs
    obtain ⟨cs, rfl⟩ := trod_agg_array (x := x) (ps := ps) hu ho
    obtain ⟨l, h1, h2⟩ := agg_read he h
    exact ⟨_, ⟨l, rfl, h1⟩, h2⟩
  · cases hs

theorem args_read : ∀ {ts : List TypeId} {ss : List ShV} {vs : List Value} {ds : List (DataW H)} {ps : List MemPlace}, shVs P ts = some ss → (∀ (j : Nat) t v, ts[j]? = some t → vs[j]? = some v → Value.okWide P w .any base t v) →
    DataW.TrodAll enc P w 0 spare held ts vs ds ps → ∃ l, fitVs ss l ∧ Rs w (.ext (All w)) l vs
  | [], ss, vs, ds, ps, hs, ho, h => by
    simp only [shVs, Option.some.injEq] at hs
    subst hs
    obtain ⟨rfl, rfl, rfl⟩ := trodAll_nil h
    exact ⟨[], rfl, .nil⟩
  | t :: ts, ss, vs, ds, ps, hs, ho, h => by
    simp only [shVs] at hs
    split at hs
    · rename_i s r h1 h2
      cases hs
      obtain ⟨v, vs', d, ds', p, q, rfl, rfl, rfl, h3, h4⟩ := trodAll_cons h
      obtain ⟨a, a1, a2⟩ := arg_read h1 (ho 0 t v rfl rfl) h3
      obtain ⟨l, b1, b2⟩ := args_read h2 (fun j t v hj hv => ho (j + 1) t v (by simpa using hj) (by simpa using hv)) h4
      exact ⟨a :: l, ⟨a, l, rfl, a1, b1⟩, Rs.cons a2 b2⟩
    · cases hs

/-- Types that may be read whole. -/
def readOK (P : Program) (ts : List TypeId) : Bool := ts.all fun t => P.readableRec t && decide (t < P.types.size)

theorem args_stay {W W' : World} (hl : laidOutB P = true) (hb : Below W.heap.size W W') : ∀ {ts : List TypeId} {vs : List Value} {ds : List (DataW H)} {ps : List MemPlace}, readOK P ts = true →
    DataW.TrodAll enc P W 0 (fun _ => true) true ts vs ds ps → ∃ ps, DataW.TrodAll enc P W' 0 (fun b => decide (b < W.heap.size)) true ts vs ds ps
  | [], vs, ds, ps, _, h => by
    obtain ⟨rfl, rfl, rfl⟩ := trodAll_nil h
    exact ⟨[], rfl⟩
  | t :: ts, vs, ds, ps, hr, h => by
    obtain ⟨v, vs', d, ds', p, q, rfl, rfl, rfl, h3, h4⟩ := trodAll_cons h
    simp only [readOK, List.all_cons, Bool.and_eq_true, decide_eq_true_eq] at hr
    obtain ⟨q', h5⟩ := args_stay hl hb (by simpa [readOK] using hr.2) h4
    refine ⟨_, trodAll_cons_mk (Below.trod hl hr.1.1 hr.1.2 h3 hb ?_) h5⟩
    obtain ⟨m, hm⟩ := h3
    exact DataW.trod_lt m _ _ _ hm
end
end Go.Ax
end

section
/-
  Laws about tables and sweeps: their arguments.
-/
set_option linter.unusedVariables false
set_option linter.unusedSimpArgs false
set_option maxHeartbeats 4000000
set_option maxRecDepth 100000
namespace Go.Ax
open Go.Proofs Go.ChangeShapes Go.WideShapes Go.ChangeAt Go.RowKit
theorem rowS {l : List AV} (h : fitS [.int .i64, .int .i64, .int .i64, .int .i64, .int .i64, .int .i64] l) : l = [i64 (gi l 0), i64 (gi l 1), i64 (gi l 2), i64 (gi l 3), i64 (gi l 4), i64 (gi l 5)] ∧ inR (gi l 0) ∧ inR (gi l 1) ∧ inR (gi l 2) ∧ inR (gi l 3) ∧ inR (gi l 4) ∧ inR (gi l 5) := by
  obtain ⟨_, _, rfl, ⟨x0, rfl, k0⟩, _, _, rfl, ⟨x1, rfl, k1⟩, _, _, rfl, ⟨x2, rfl, k2⟩, _, _, rfl, ⟨x3, rfl, k3⟩, _, _, rfl, ⟨x4, rfl, k4⟩, _, _, rfl, ⟨x5, rfl, k5⟩, rfl⟩ := h
  exact ⟨rfl, wf_i64 k0, wf_i64 k1, wf_i64 k2, wf_i64 k3, wf_i64 k4, wf_i64 k5⟩
theorem rowsS {get : Nat → List AV} (h : ∀ i, fitS [.int .i64, .int .i64, .int .i64, .int .i64, .int .i64, .int .i64] (get i)) : get = (fun i => [i64 (gx get 0 i), i64 (gx get 1 i), i64 (gx get 2 i), i64 (gx get 3 i), i64 (gx get 4 i), i64 (gx get 5 i)]) ∧ ∀ i, inR (gx get 0 i) ∧ inR (gx get 1 i) ∧ inR (gx get 2 i) ∧ inR (gx get 3 i) ∧ inR (gx get 4 i) ∧ inR (gx get 5 i) :=
  ⟨funext fun i => (rowS (h i)).1, fun i => (rowS (h i)).2⟩
end Go.Ax
end
