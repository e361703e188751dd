/-
  Forms: their boxes; the law of spots in forms.
-/
import Derived.Test.YtdebekhncimenaaAxF2
set_option linter.unusedVariables false
set_option linter.unusedSimpArgs false
set_option maxHeartbeats 2000000
set_option maxRecDepth 100000
namespace Go.Ax
open Go.Proofs

def c138 : Con
  | [.agg [.v (.int .i64 x), .v (.int .i64 y), .v (.int .i64 r)]] => some ([], .agg [i64 (IntKind.i64.wrap (x - r)), i64 (IntKind.i64.wrap (y - r)), i64 (IntKind.i64.wrap (x + r)), i64 (IntKind.i64.wrap (y + r))])
  | _ => none
theorem con138 : ConOK Try.prog 138 c138 := ConOK.of (G := [(41, c41)]) (H := []) (.cons con41 .nil) Try.func138 fun l ob r hc hob => by
  unfold c138 at hc
  split at hc
  · cases hc
    refine ⟨by kernel_rfl, fnVC_go (rs := [.cell 2 23]) rfl rfl ?_⟩
    simp only [go_sem, c41]
    intro z h z1 h1 z2 h2 z3 h3
    subst h h1 h2 h3
    rfl
  · cases hc
/-- The box of some spots. -/
def bxS (n : Nat) (X Y : Nat → Int) : Nat → Int
  | 0 => mnS X n
  | 1 => mnS Y n
  | 2 => mxS X n
  | _ => mxS Y n
/-- The first i values. -/
def upto (i : Nat) (Z : Nat → Int) (j : Nat) : Int := if j < i then Z j else 0
theorem upto_zero {Z : Nat → Int} {j : Nat} : upto 0 Z j = 0 := by unfold upto; rw [if_neg (by omega)]
theorem upto_self {i : Nat} {Z : Nat → Int} : upto (i + 1) Z i = Z i := by unfold upto; rw [if_pos (by omega)]
theorem upto_lt {i j : Nat} {Z : Nat → Int} (h : j < i) : upto i Z j = Z j := by unfold upto; rw [if_pos h]
theorem upto_ne {i j : Nat} {Z : Nat → Int} (h : j ≠ i) : upto (i + 1) Z j = upto i Z j := by
  unfold upto
  by_cases e : j < i
  · rw [if_pos e, if_pos (by omega)]
  · rw [if_neg e, if_neg (by omega)]
theorem mnS_upto {Z : Nat → Int} : ∀ {n m : Nat}, n ≤ m → mnS (upto m Z) n = mnS Z n
  | 0, m, _ => rfl
  | n + 1, m, h => by
    simp only [mnS]
    rw [mnS_upto (Z := Z) (n := n) (by omega), upto_lt (i := m) (j := n) (by omega), upto_lt (i := m) (j := 0) (by omega)]
theorem mxS_upto {Z : Nat → Int} : ∀ {n m : Nat}, n ≤ m → mxS (upto m Z) n = mxS Z n
  | 0, m, _ => rfl
  | n + 1, m, h => by
    simp only [mxS]
    rw [mxS_upto (Z := Z) (n := n) (by omega), upto_lt (i := m) (j := n) (by omega), upto_lt (i := m) (j := 0) (by omega)]
def c137 : Con
  | [.agg [.ro n 2 g]] => some ([spots n g, n ≤ 1000, ∀ i, i < n → validS (gx g 0 i) (gx g 1 i) = true], .agg [i64 (bxS n (gx g 0) (gx g 1) 0), i64 (bxS n (gx g 0) (gx g 1) 1), i64 (bxS n (gx g 0) (gx g 1) 2), i64 (bxS n (gx g 0) (gx g 1) 3)])
  | _ => none
theorem vc137 (n : Nat) (X Y : Nat → Int) (hX : ∀ i, i < n → inR (X i) ∧ inR (Y i)) (hn : n ≤ 1000) (hv : ∀ i, i < n → validS (X i) (Y i) = true) : fnVC Try.prog [(16, c16), (41, c41)] [] Try.f137 [.agg [.ro n 2 fun i => [i64 (X i), i64 (Y i)]]] (· = .agg [i64 (bxS n X Y 0), i64 (bxS n X Y 1), i64 (bxS n X Y 2), i64 (bxS n X Y 3)]) := by
  refine fnVC_go (rs := [.cell 2 23]) rfl rfl ?_
  simp only [go_sem]
  refine ⟨by omega, by omega, by rw [show bytesT Try.prog 23 = 32 by kernel_rfl]; omega, ?_⟩
  refine loopC_go (fun (i : Nat) => i ≤ n) (fun i => n - i) (fun i => [(13, i64 i)]) (fun i => [(5, famN n 4 23 (fun j => [i64 (upto i X j), i64 (upto i Y j), i64 (upto i X j), i64 (upto i Y j)]) none)]) [1, 0] [14, 15, 16, 17, 5, 4, 18, 19, 20, 21, 22, 23, 13] 0 (by kernel_rfl) ?_ (Nat.zero_le _) ?_ ?_
  · intro x _; simp [goodNames, asg]
  · simp only [go_sem, upto_zero, implies_true]
  · intro i hi
    simp only [go_sem, c16, c41]
    refine ⟨fun hin => ?_, fun hin => ?_⟩
    · have hin' : i < n := by omega
      have v := validS_iff.1 (hv i hin')
      refine ⟨by omega, hin, fun z hz z1 hz1 z2 hz2 z3 hz3 => ⟨by omega, hin, hin', fun z4 hz4 => ⟨i + 1, by omega, by omega, ?_, fun j hj => ?_⟩⟩⟩
      · rw [hz4, wrap_in (by unfold inR; omega)]; rfl
      · rw [wrap_in (by unfold inR; omega)] at hz hz1 hz2 hz3
        by_cases e : j = i
        · subst e
          rw [if_pos rfl]
          simp only [go_sem, upto_self]
          omega
        · rw [if_neg e]
          have : ∀ Z, upto (i + 1) Z j = upto i Z j := fun Z => upto_ne e
          simp only [go_sem, this]
    · have e : i = n := by omega
      subst e
      have ok : okB i (upto i X) (upto i Y) (upto i X) (upto i Y) := fun j hj => by
        rw [upto_lt hj, upto_lt hj]
        have v := validS_iff.1 (hv j hj)
        unfold checkBoxS
        rw [if_pos ⟨hv j hj, hv j hj⟩, if_neg (by omega)]
      have hb : boxes i (fun j => [i64 (upto i X j), i64 (upto i Y j), i64 (upto i X j), i64 (upto i Y j)]) := fun j hj => by
        simp only [gx, gi_0, gi_1, gi_2, gi_3, upto_lt hj]
        exact ⟨trivial, (hX j hj).1, (hX j hj).2, (hX j hj).1, (hX j hj).2⟩
      obtain ⟨j1, j2, j3, j4⟩ := joinS_ok ok
      intro z hz z1 hz1 z2 hz2 z3 hz3
      have hz : z = joinS i (upto i X) (upto i Y) (upto i X) (upto i Y) 0 := hz
      have hz1 : z1 = joinS i (upto i X) (upto i Y) (upto i X) (upto i Y) 1 := hz1
      have hz2 : z2 = joinS i (upto i X) (upto i Y) (upto i X) (upto i Y) 2 := hz2
      have hz3 : z3 = joinS i (upto i X) (upto i Y) (upto i X) (upto i Y) 3 := hz3
      rw [j1, mnS_upto (Nat.le_refl _)] at hz
      rw [j2, mnS_upto (Nat.le_refl _)] at hz1
      rw [j3, mxS_upto (Nat.le_refl _)] at hz2
      rw [j4, mxS_upto (Nat.le_refl _)] at hz3
      subst hz hz1 hz2 hz3
      exact ⟨hb, by omega, rfl⟩
theorem con137 : ConOK Try.prog 137 c137 := ConOK.go (G := [(16, c16), (41, c41)]) (H := []) (.cons con16 (.cons con41 .nil)) Try.func137 fun l ob r hc hob => by
  unfold c137 at hc
  split at hc
  · rename_i n g
    cases hc
    have hs : spots n g := hob _ (by simp)
    exact ⟨[.agg [.ro n 2 fun i => [i64 (gx g 0 i), i64 (gx g 1 i)]]], fun w I vs h => Rs_one (Rs_poly hs) h, by kernel_rfl, vc137 n _ _ (fun i hi => (hs i hi).2) (hob _ (by simp)) (hob _ (by simp))⟩
  · cases hc

/-- The box of a form. -/
def boxS (k x y r : Int) (n : Nat) (X Y : Nat → Int) (q : Nat) : Int :=
  if checkS k x y r n X Y = 0 then (if k = 1 then (match q with
    | 0 => x - r
    | 1 => y - r
    | 2 => x + r
    | _ => y + r) else bxS n X Y q) else 0
def c32 : Con
  | [.agg [.v (.int .i64 k), .v (.int .i64 x), .v (.int .i64 y), .v (.int .i64 r), .ro n 2 g]] => some ([spots n g, n ≤ 9223372036854775806, inR x, inR y, inR r], .agg [i64 (boxS k x y r n (gx g 0) (gx g 1) 0), i64 (boxS k x y r n (gx g 0) (gx g 1) 1), i64 (boxS k x y r n (gx g 0) (gx g 1) 2), i64 (boxS k x y r n (gx g 0) (gx g 1) 3)])
  | _ => none
theorem boxS_disc {k x y r : Int} {n : Nat} {X Y : Nat → Int} {q : Nat} (hc : checkS k x y r n X Y = 0) (hk : k = 1) : boxS k x y r n X Y q = match q with
    | 0 => x - r
    | 1 => y - r
    | 2 => x + r
    | _ => y + r := by unfold boxS; rw [if_pos hc, if_pos hk]
theorem boxS_poly {k x y r : Int} {n : Nat} {X Y : Nat → Int} {q : Nat} (hc : checkS k x y r n X Y = 0) (hk : k ≠ 1) : boxS k x y r n X Y q = bxS n X Y q := by unfold boxS; rw [if_pos hc, if_neg hk]
theorem boxS_none {k x y r : Int} {n : Nat} {X Y : Nat → Int} {q : Nat} (hc : ¬ checkS k x y r n X Y = 0) : boxS k x y r n X Y q = 0 := by unfold boxS; rw [if_neg hc]
theorem con32 : ConOK Try.prog 32 c32 := ConOK.of (G := [(46, c46), (137, c137), (138, c138)]) (H := []) (.cons con46 (.cons con137 (.cons con138 .nil))) Try.func32 fun l ob rr hc hob => by
  unfold c32 at hc
  split at hc
  · rename_i k x y r n g
    cases hc
    have hs : spots n g := hob _ (by simp)
    have hn : n ≤ 9223372036854775806 := hob _ (by simp)
    have hx : inR x := hob _ (by simp)
    have hy : inR y := hob _ (by simp)
    have hr : inR r := hob _ (by simp)
    refine ⟨by kernel_rfl, fnVC_go (rs := [.cell 2 23]) rfl rfl ?_⟩
    simp only [go_sem, c46, c137, c138]
    refine ⟨fun hc => ?_, fun hc => ⟨hs, hn, hx, hy, hr, fun h => h.elim, fun _ => by simp only [boxS_none hc]⟩⟩
    obtain ⟨hk, v1, v2, h1, h2⟩ := check_1 hc
    refine ⟨fun hk1 => ⟨hs, hn, hx, hy, hr, fun _ z hz z1 hz1 z2 hz2 z3 hz3 => ?_, fun h => by cases h⟩, fun hk1 => ⟨hs, hn, hx, hy, hr, fun _ z hz z1 hz1 z2 hz2 z3 hz3 => ⟨hs, by have := h2 hk1; omega, v2, ?_⟩, fun h => by cases h⟩⟩
    · have h1 := h1 hk1
      have v := validS_iff.1 v1
      rw [wrap_in (by unfold inR; omega)] at hz hz1 hz2 hz3
      simp only [boxS_disc hc hk1]
      rw [hz, hz1, hz2, hz3]
    · simp only [boxS_poly hc hk1]
      rw [hz, hz1, hz2, hz3]
  · cases hc
theorem mn_bd {Z : Nat → Int} {B : Int} : ∀ {i : Nat}, (∀ j, j < i → -B ≤ Z j ∧ Z j ≤ B) → 1 ≤ i → -B ≤ mnS Z i ∧ mnS Z i ≤ mxS Z i ∧ mxS Z i ≤ B
  | 0, _, h => by omega
  | i + 1, h, _ => by
    have h0 := h 0 (by omega)
    have hi := h i (by omega)
    simp only [mnS, mxS]
    by_cases e : i = 0
    · rw [if_pos e, if_pos e]; omega
    · rw [if_neg e, if_neg e]
      have := mn_bd (Z := Z) (B := B) (i := i) (fun j hj => h j (by omega)) (by omega)
      omega
theorem vc33 (k x y r : Int) (n : Nat) (X Y : Nat → Int) (hX : ∀ i, i < n → inR (X i) ∧ inR (Y i)) (hn : n ≤ 9223372036854775806) (hx : inR x) (hy : inR y) (hr : inR r) : fnVC Try.prog [(17, c17), (47, c58), (49, c41)] [(9, ⟨[(9, .slot 3)], []⟩)] Try.f33 [formA k x y r n fun i => [i64 (X i), i64 (Y i)]] (· = .agg [i64 (boxS k x y r n X Y 0), i64 (boxS k x y r n X Y 1), i64 (boxS k x y r n X Y 2), i64 (boxS k x y r n X Y 3)]) := by
  refine fnVC_go (rs := [.cell 2 23]) rfl rfl ?_
  simp only [go_sem, c58, c41]
  have hg : spots n fun i => [i64 (X i), i64 (Y i)] := fun i hi => ⟨rfl, hX i hi⟩
  intro z hz
  have hz : z = checkS k x y r n X Y := hz
  refine ⟨hg, hn, hx, hy, hr, fun h => ?_, fun h => ⟨fun hk1 z1 hz1 z2 hz2 z3 hz3 z4 hz4 => ?_, fun hk1 => ?_⟩⟩
  · have hc : ¬ checkS k x y r n X Y = 0 := by rw [← hz]; simpa using h
    simp only [boxS_none hc]
  all_goals
    have hc : checkS k x y r n X Y = 0 := by rw [← hz]; simpa using h
    obtain ⟨hk, v1, v2, h1, h2⟩ := check_1 hc
  · have hk1 : k = 1 := by simpa using hk1
    have h1 := h1 hk1
    have v := validS_iff.1 v1
    rw [wrap_in (by unfold inR; omega)] at hz1 hz2 hz3 hz4
    simp only [boxS_disc hc hk1]
    rw [hz1, hz2, hz3, hz4]
  have hk1 : k ≠ 1 := by simpa using hk1
  have h2 := h2 hk1
  have h3 := (convexS_iff.1 h2.2.2).1
  refine ⟨by omega, fun z1 hz1 z2 hz2 z3 hz3 z4 hz4 => ?_⟩
  have w0 := validS_iff.1 (v2 0 (by omega))
  rw [wrap_in (by unfold inR; omega)] at hz1 hz2 hz3 hz4
  simp only [boxS_poly hc hk1]
  refine loopC_go (fun (i : Nat) => i ≤ n ∧ 1 ≤ i) (fun i => n - i) (fun i => [(4, i64 i)]) (fun i => [(13, fam1 23 4 [i64 (mnS X i), i64 (mnS Y i), i64 (mxS X i), i64 (mxS Y i)] none)]) [1, 0] [22, 23, 24, 25, 26, 29, 30, 31, 32, 33, 34, 35, 36, 37, 27, 28, 4] 1 (by kernel_rfl) ?_ ⟨by omega, by omega⟩ ?_ ?_
  · intro x _; simp [goodNames, asg]
  · simp only [go_sem]
    simp [mnS, mxS, hz1, hz2, hz3, hz4]
  · intro i hi
    simp only [go_sem, c17, c16, c41]
    obtain ⟨x1, x2, x3⟩ := mn_bd (Z := X) (B := 2097152) (i := i) (fun j hj => by have := validS_iff.1 (v2 j (by omega)); omega) hi.2
    obtain ⟨y1, y2, y3⟩ := mn_bd (Z := Y) (B := 2097152) (i := i) (fun j hj => by have := validS_iff.1 (v2 j (by omega)); omega) hi.2
    refine ⟨fun hin => ⟨by omega, hin, fun a ha b hb c hcc d hd e he f hf g hg' q hq => ?_⟩, fun hin => ?_⟩
    · have hin' : i < n := by omega
      have v := validS_iff.1 (v2 i hin')
      rw [wrap_in (by unfold inR; omega)] at ha hb hcc hd
      have k1 : checkBoxS (mnS X i) (mnS Y i) (mxS X i) (mxS Y i) = 0 := by
        unfold checkBoxS
        rw [if_pos ⟨validS_iff.2 (by omega), validS_iff.2 (by omega)⟩, if_neg (by omega)]
      have k2 : checkBoxS a b c d = 0 := by
        unfold checkBoxS
        rw [if_pos ⟨validS_iff.2 (by omega), validS_iff.2 (by omega)⟩, if_neg (by omega)]
      refine ⟨⟨⟨by unfold inR; omega, by unfold inR; omega, by unfold inR; omega, by unfold inR; omega⟩, by unfold inR; omega, by unfold inR; omega, by unfold inR; omega, by unfold inR; omega⟩, fun z5 hz5 => ⟨i + 1, by omega, by omega, ?_, ?_⟩⟩
      · rw [hz5, wrap_in (by unfold inR; omega)]; rfl
      · have e0 : ¬ i = 0 := by omega
        simp only [joinT, k1, k2, and_self, if_true] at he hf hg' hq
        simp only [mnS, mxS, if_neg e0]
        rw [he, hf, hg', hq, ha, hb, hcc, hd]
        simp
    · have e : i = n := by omega
      subst e; rfl
theorem con33 : ConOK Try.prog 33 c32 := ConOK.go (G := [(17, c17), (47, c58), (49, c41)]) (H := [(9, ⟨[(9, .slot 3)], []⟩)]) (.cons con17 (.cons con47 (.cons con49 .nil))) Try.func33 fun l ob rr hc hob => by
  unfold c32 at hc
  split at hc
  · rename_i k x y r n g
    cases hc
    have hs : spots n g := hob _ (by simp)
    exact ⟨[formA k x y r n fun i => [i64 (gx g 0 i), i64 (gx g 1 i)]], fun w I vs h => Rs_one (Rs_form hs) h, by kernel_rfl, vc33 k x y r n _ _ (fun i hi => (hs i hi).2) (hob _ (by simp)) (hob _ (by simp)) (hob _ (by simp)) (hob _ (by simp))⟩
  · cases hc

theorem sameF_self {k x y r : Int} {n : Nat} {g : Nat → List AV} : sameF k x y r n g k x y r n g = true := by unfold sameF; simp
theorem vc6 (k x y r : Int) (n : Nat) (X Y : Nat → Int) (px py : Int) (hX : ∀ i, i < n → inR (X i) ∧ inR (Y i)) (hx : inR x) (hy : inR y) (hr : inR r) (hpx : inR px) (hpy : inR py) :
    fnVC Try.prog [(9, c9), (28, c28), (29, c29), (30, c30), (31, c30), (32, c32), (33, c32), (34, c34)] [] Try.f6 [formA k x y r n fun i => [i64 (X i), i64 (Y i)], .agg [i64 px, i64 py]] (· = bo true) := by
  refine fnVC_go (rs := [.tmp 4]) rfl rfl ?_
  simp only [go_sem, c9, c28, c29, c30, c32, c34]
  have hg : spots n fun i => [i64 (X i), i64 (Y i)] := fun i hi => ⟨rfl, hX i hi⟩
  intro z hz
  refine ⟨fun _ _ => trivial, fun h => ?_⟩
  have hn : n ≤ 12 := by rw [hz] at h; have := of_decide_eq_true h; omega
  have hn2 : n ≤ 1000 := by omega
  have hn3 : n ≤ 9223372036854775806 := by omega
  simp only [forall_eq, hg, hn2, hn3, hx, hy, hr, hpx, hpy, and_self, implies_true, true_and, beq_self_eq_true, sameF_self]
end Go.Ax
