/-
  The box of several boxes.
-/
import Derived.Test.YtdebekhncimenaaAxZ1
set_option linter.unusedVariables false
set_option linter.unusedSimpArgs false
set_option maxHeartbeats 1000000
set_option maxRecDepth 100000
namespace Go.Ax
open Go.Proofs
def boxes (n : Nat) (g : Nat → List AV) : Prop := ∀ i, i < n → g i = [i64 (gx g 0 i), i64 (gx g 1 i), i64 (gx g 2 i), i64 (gx g 3 i)] ∧ inR (gx g 0 i) ∧ inR (gx g 1 i) ∧ inR (gx g 2 i) ∧ inR (gx g 3 i)
def mnS (A : Nat → Int) : Nat → Int
  | 0 => 0
  | i + 1 => if i = 0 then A 0 else min (mnS A i) (A i)
def mxS (A : Nat → Int) : Nat → Int
  | 0 => 0
  | i + 1 => if i = 0 then A 0 else max (mxS A i) (A i)
def okB (n : Nat) (A B C D : Nat → Int) : Prop := ∀ i, i < n → checkBoxS (A i) (B i) (C i) (D i) = 0
instance {n : Nat} {A B C D : Nat → Int} : Decidable (okB n A B C D) := by unfold okB; exact inferInstance
def joinS (n : Nat) (A B C D : Nat → Int) (k : Nat) : Int := if okB n A B C D then (match k with
  | 0 => mnS A n
  | 1 => mnS B n
  | 2 => mxS C n
  | _ => mxS D n) else 0
def c16 : Con
  | [.ro n 4 g] => some ([boxes n g, n ≤ 9223372036854775807], .agg [i64 (joinS n (gx g 0) (gx g 1) (gx g 2) (gx g 3) 0), i64 (joinS n (gx g 0) (gx g 1) (gx g 2) (gx g 3) 1), i64 (joinS n (gx g 0) (gx g 1) (gx g 2) (gx g 3) 2), i64 (joinS n (gx g 0) (gx g 1) (gx g 2) (gx g 3) 3)])
  | _ => none
theorem joinS_ok {n : Nat} {A B C D : Nat → Int} (h : okB n A B C D) : joinS n A B C D 0 = mnS A n ∧ joinS n A B C D 1 = mnS B n ∧ joinS n A B C D 2 = mxS C n ∧ joinS n A B C D 3 = mxS D n := by
  unfold joinS; rw [if_pos h, if_pos h, if_pos h, if_pos h]; exact ⟨rfl, rfl, rfl, rfl⟩
theorem joinS_no {n : Nat} {A B C D : Nat → Int} (h : ¬ okB n A B C D) {k : Nat} : joinS n A B C D k = 0 := by
  simp only [joinS, if_neg h]
theorem okB_succ {i : Nat} {A B C D : Nat → Int} (h : okB i A B C D) (h0 : checkBoxS (A i) (B i) (C i) (D i) = 0) : okB (i + 1) A B C D := fun k hk => by
  by_cases e : k = i
  · subst e; exact h0
  · exact h k (by omega)
theorem vc16 (n : Nat) (A B C D : Nat → Int) (hX : ∀ i, i < n → inR (A i) ∧ inR (B i) ∧ inR (C i) ∧ inR (D i)) (hn : n ≤ 9223372036854775807) : fnVC Try.prog [(10, c10)] [(9, ⟨[(11, .slot 3), (13, .slot 3)], [(8, [.slot 3])]⟩), (10, ⟨[(11, .slot 3), (13, .slot 3)], [(8, [.slot 3])]⟩)] Try.f16 [.ro n 4 fun i => [i64 (A i), i64 (B i), i64 (C i), i64 (D i)]] (· = .agg [i64 (joinS n A B C D 0), i64 (joinS n A B C D 1), i64 (joinS n A B C D 2), i64 (joinS n A B C D 3)]) := by
  refine fnVC_go (rs := [.cell 2 23]) rfl rfl ?_
  simp only [go_sem]
  refine loopC_go (fun (i : Nat) => i ≤ n ∧ okB i A B C D) (fun i => n - i) (fun i => [(8, i64 i)]) (fun i => [(1, fam1 23 4 [i64 (mnS A i), i64 (mnS B i), i64 (mxS C i), i64 (mxS D i)] none)]) [0] [9, 10, 11, 12, 5, 4, 13, 14, 15, 16, 17, 18, 19, 20, 21, 22, 23, 24, 25, 26, 27, 28, 29, 30, 31, 32, 33, 34, 35, 36, 37, 38, 39, 40, 41, 42, 43, 44, 8] 0 (by kernel_rfl) ?_ ?_ ?_ ?_
  · intro x _; simp [goodNames, asg]
  · simp [okB]
  · simp only [go_sem]; simp [mnS, mxS]
  · intro i hi
    simp only [go_sem, c10]
    obtain ⟨hi1, hi2⟩ := hi
    refine ⟨fun h => ?_, fun h => ?_⟩
    · have h1 : i < n := by omega
      obtain ⟨r1, r2, r3, r4⟩ := hX i h1
      refine ⟨by omega, h, fun z hz => ⟨r1, r2, r3, r4, fun hb => ?_, fun hb => ?_⟩⟩
      · have hno : ¬ okB n A B C D := fun hf => by
          have := hf i h1
          rw [← hz] at this
          simp [this] at hb
        simp only [joinS_no hno]
      · have hz0 : checkBoxS (A i) (B i) (C i) (D i) = 0 := by rw [← hz]; simpa using hb
        have hok := okB_succ hi2 hz0
        refine ⟨fun h0 z hz' z1 k1 z2 k2 z3 k3 z4 k4 => ⟨i + 1, ⟨by omega, hok⟩, by omega, by rw [wrap_i64] at k4; omega, ?_⟩, fun h0 z hz' z1 k1 z2 k2 z3 k3 z4 k4 => ⟨i + 1, ⟨by omega, hok⟩, by omega, by rw [wrap_i64] at k4; omega, ?_⟩⟩
        · have e : i = 0 := by simpa using h0
          subst e
          simp only [mnS, mxS, if_true]
          omega
        · have e : ¬ i = 0 := by simpa using h0
          simp only [mnS, mxS, if_neg e]
          exact ⟨hz', k1, k2, k3⟩
    · have e : i = n := by omega
      subst e
      obtain ⟨j1, j2, j3, j4⟩ := joinS_ok hi2
      rw [j1, j2, j3, j4]
theorem vc17 (n : Nat) (A B C D : Nat → Int) (hX : ∀ i, i < n → inR (A i) ∧ inR (B i) ∧ inR (C i) ∧ inR (D i)) (hn : n ≤ 9223372036854775807) : fnVC Try.prog [(11, c11)] [(9, ⟨[(33, .slot 3)], []⟩)] Try.f17 [.ro n 4 fun i => [i64 (A i), i64 (B i), i64 (C i), i64 (D i)]] (· = .agg [i64 (joinS n A B C D 0), i64 (joinS n A B C D 1), i64 (joinS n A B C D 2), i64 (joinS n A B C D 3)]) := by
  refine fnVC_go (rs := [.cell 2 23]) rfl rfl ?_
  simp only [go_sem]
  refine loopC_go (fun (i : Nat) => i ≤ n ∧ okB i A B C D) (fun i => n - i) (fun i => [(4, i64 i)]) (fun i => [(2, fam1 23 4 [i64 (mnS A i), i64 (mnS B i), i64 (mxS C i), i64 (mxS D i)] none)]) [0] [6, 7, 8, 9, 12, 13, 14, 15, 16, 17, 18, 19, 20, 21, 22, 23, 24, 25, 26, 27, 28, 29, 30, 31, 32, 33, 34, 35, 36, 37, 38, 39, 40, 41, 42, 43, 44, 45, 46, 47, 48, 49, 50, 51, 52, 53, 54, 55, 56, 10, 11, 4] 0 (by kernel_rfl) ?_ ?_ ?_ ?_
  · intro x _; simp [goodNames, asg]
  · simp [okB]
  · simp only [go_sem]; simp [mnS, mxS]
  · intro i hi
    simp only [go_sem, c11]
    obtain ⟨hi1, hi2⟩ := hi
    refine ⟨fun h => ?_, fun h => ?_⟩
    · have h1 : i < n := by omega
      refine ⟨by omega, h, fun z hz => ⟨fun hb => ?_, fun hb => ?_⟩⟩
      · have hno : ¬ okB n A B C D := fun hf => by
          have := hf i h1
          rw [← hz] at this
          simp [this] at hb
        simp only [joinS_no hno]
      · have hz0 : checkBoxS (A i) (B i) (C i) (D i) = 0 := by rw [← hz]; simpa using hb
        have hok := okB_succ hi2 hz0
        refine ⟨fun h0 => ⟨by omega, fun z4 k4 => ⟨i + 1, ⟨by omega, hok⟩, by omega, by rw [wrap_i64] at k4; omega, ?_⟩⟩, fun h0 => ⟨by omega, h, fun z hz' => ⟨by omega, h, fun z1 k1 => ⟨by omega, h, fun z2 k2 => ⟨by omega, h, fun z3 k3 z4 k4 => ⟨i + 1, ⟨by omega, hok⟩, by omega, by rw [wrap_i64] at k4; omega, ?_⟩⟩⟩⟩⟩⟩
        · have e : i = 0 := by simpa using h0
          subst e
          simp only [mnS, mxS, if_true, and_self]
        · have e : ¬ i = 0 := by simpa using h0
          simp only [mnS, mxS, if_neg e]
          exact ⟨hz', k1, k2, k3⟩
    · have e : i = n := by omega
      subst e
      obtain ⟨j1, j2, j3, j4⟩ := joinS_ok hi2
      rw [j1, j2, j3, j4]
theorem con16 : ConOK Try.prog 16 c16 := ConOK.go (G := [(10, c10)]) (H := [(9, ⟨[(11, .slot 3), (13, .slot 3)], [(8, [.slot 3])]⟩), (10, ⟨[(11, .slot 3), (13, .slot 3)], [(8, [.slot 3])]⟩)]) (.cons con10 .nil) Try.func16 fun l ob r hc hob => by
  unfold c16 at hc
  split at hc
  · rename_i n g
    cases hc
    have hs : boxes n g := hob _ (by simp)
    exact ⟨[.ro n 4 fun i => [i64 (gx g 0 i), i64 (gx g 1 i), i64 (gx g 2 i), i64 (gx g 3 i)]], fun w I vs h => Rs_one (fun v => ro_alike fun i hi => (hs i hi).1) h, by kernel_rfl, vc16 n _ _ _ _ (fun i hi => (hs i hi).2) (hob _ (by simp))⟩
  · cases hc
def c17 : Con := c16
theorem con17 : ConOK Try.prog 17 c17 := ConOK.go (G := [(11, c11)]) (H := [(9, ⟨[(33, .slot 3)], []⟩)]) (.cons con11 .nil) Try.func17 fun l ob r hc hob => by
  unfold c17 c16 at hc
  split at hc
  · rename_i n g
    cases hc
    have hs : boxes n g := hob _ (by simp)
    exact ⟨[.ro n 4 fun i => [i64 (gx g 0 i), i64 (gx g 1 i), i64 (gx g 2 i), i64 (gx g 3 i)]], fun w I vs h => Rs_one (fun v => ro_alike fun i hi => (hs i hi).1) h, by kernel_rfl, vc17 n _ _ _ _ (fun i hi => (hs i hi).2) (hob _ (by simp))⟩
  · cases hc

/-! ### Spots and boxes that numbers make -/
def c38 : Con
  | [.v (.int .i64 x), .v (.int .i64 y), .v (.int .i64 s)] => some ([0 ≤ s, s ≤ 4611686018427387904], .agg [i64 (x.tmod (s + 1)), i64 (y.tmod (s + 1))])
  | _ => none
theorem con38 : ConOK Try.prog 38 c38 := ConOK.of (G := []) (H := []) .nil Try.func38 fun l ob r hc hob => by
  unfold c38 at hc
  split at hc
  · rename_i x y s
    cases hc
    refine ⟨by kernel_rfl, fnVC_go (rs := [.cell 6 25]) rfl rfl ?_⟩
    have h0 : 0 ≤ s := hob _ (by simp)
    have h1 : s ≤ 4611686018427387904 := hob _ (by simp)
    simp only [go_sem]
    have e : IntKind.i64.wrap (s + 1) = s + 1 := wrap_in (by unfold inR; omega)
    rw [e]
    intro z hz
    subst hz
    refine ⟨by omega, fun z1 k1 z hz => ?_⟩
    subst hz k1
    refine ⟨by omega, fun z2 k2 => ?_⟩
    subst k2
    rfl
  · cases hc
def c20 : Con
  | [.v (.int .i64 x), .v (.int .i64 y), .v (.int .i64 w), .v (.int .i64 h), .v (.int .i64 s)] => some ([0 ≤ s, s ≤ 4611686018427387904], .agg [i64 (min (x.tmod (s + 1)) (w.tmod (s + 1))), i64 (min (y.tmod (s + 1)) (h.tmod (s + 1))), i64 (max (x.tmod (s + 1)) (w.tmod (s + 1))), i64 (max (y.tmod (s + 1)) (h.tmod (s + 1)))])
  | _ => none
theorem con20 : ConOK Try.prog 20 c20 := ConOK.of (G := [(38, c38)]) (H := []) (.cons con38 .nil) Try.func20 fun l ob r hc hob => by
  unfold c20 at hc
  split at hc
  · rename_i x y w h s
    cases hc
    refine ⟨by kernel_rfl, fnVC_go (rs := [.cell 10 23]) rfl rfl ?_⟩
    have h0 : 0 ≤ s := hob _ (by simp)
    have h1 : s ≤ 4611686018427387904 := hob _ (by simp)
    simp only [go_sem, c38]
    intro z k z1 k1
    subst k k1
    refine ⟨h0, h1, fun z2 k2 z3 k3 => ?_⟩
    subst k2 k3
    refine ⟨h0, h1, fun z4 k4 z5 k5 z6 k6 z7 k7 => ?_⟩
    subst k4 k5 k6 k7
    rfl
  · cases hc
/-- A remainder that is not below 0. -/
def modS (n m : Int) : Int := if n.tmod m < 0 then n.tmod m + m else n.tmod m
def c21 : Con
  | [.v (.int .i64 n), .v (.int .i64 m)] => some ([0 < m, inR n, inR m], i64 (modS n m))
  | _ => none
theorem con21 : ConOK Try.prog 21 c21 := ConOK.of (G := []) (H := []) .nil Try.func21 fun l ob r hc hob => by
  unfold c21 at hc
  split at hc
  · rename_i n m
    cases hc
    refine ⟨by kernel_rfl, fnVC_go (rs := [.tmp 4]) rfl rfl ?_⟩
    have h0 : 0 < m := hob _ (by simp)
    have h1 : inR n := hob _ (by simp)
    have h2 : inR m := hob _ (by simp)
    simp only [go_sem]
    refine ⟨by omega, fun z hz => ⟨fun hn z1 k1 => ?_, fun hn => ?_⟩⟩
    · have hb : -m < z := by rw [hz]; have := Int.lt_tmod_of_pos n h0; omega
      unfold inR at h2
      rw [wrap_in (by unfold inR; omega)] at k1
      unfold modS
      rw [← hz, if_pos hn, k1]
    · unfold modS
      rw [← hz, if_neg hn]
  · cases hc

/-! ### Sides -/
theorem mul_bd {x y A B : Int} (hA : 0 ≤ A) (hx : -A ≤ x ∧ x ≤ A) (hy : -B ≤ y ∧ y ≤ B) : -(A * B) ≤ x * y ∧ x * y ≤ A * B := by
  have h1 : (x * y).natAbs = x.natAbs * y.natAbs := Int.natAbs_mul x y
  have h2 : x.natAbs * y.natAbs ≤ A.natAbs * B.natAbs := Nat.mul_le_mul (by omega) (by omega)
  have h3 : (A * B).natAbs = A.natAbs * B.natAbs := Int.natAbs_mul A B
  have h4 : 0 ≤ A * B := Int.mul_nonneg hA (by omega)
  omega
/-- An even smaller number. -/
def sm (x : Int) : Prop := -4194304 ≤ x ∧ x ≤ 4194304
theorem sm_mul {x y : Int} (hx : sm x) (hy : sm y) : -17592186044416 ≤ x * y ∧ x * y ≤ 17592186044416 := by
  have := mul_bd (A := 4194304) (B := 4194304) (by omega) hx hy
  omega
def c56 : Con
  | [.agg [.v (.int .i64 a), .v (.int .i64 b)], .agg [.v (.int .i64 c), .v (.int .i64 d)]] => some ([], .agg [i64 (IntKind.i64.wrap (c - a)), i64 (IntKind.i64.wrap (d - b))])
  | _ => none
theorem con56 : ConOK Try.prog 56 c56 := ConOK.of (G := []) (H := []) .nil Try.func56 fun l ob r hc hob => by
  unfold c56 at hc
  split at hc
  · cases hc
    refine ⟨by kernel_rfl, fnVC_go (rs := [.cell 4 25]) rfl rfl ?_⟩
    simp only [go_sem]
    intro z h z1 h1
    subst h h1
    rfl
  · cases hc
def c44 : Con
  | [.agg [.v (.int .i64 a), .v (.int .i64 b)], .agg [.v (.int .i64 c), .v (.int .i64 d)]] => some ([], .agg [i64 (IntKind.i64.wrap (a - c)), i64 (IntKind.i64.wrap (b - d))])
  | _ => none
theorem con44 : ConOK Try.prog 44 c44 := ConOK.of (G := []) (H := []) .nil Try.func44 fun l ob r hc hob => by
  unfold c44 at hc
  split at hc
  · cases hc
    refine ⟨by kernel_rfl, fnVC_go (rs := [.cell 4 25]) rfl rfl ?_⟩
    simp only [go_sem]
    intro z h z1 h1
    subst h h1
    rfl
  · cases hc
def c55 : Con
  | [.agg [.v (.int .i64 a), .v (.int .i64 b)], .agg [.v (.int .i64 c), .v (.int .i64 d)]] => some ([], i64 (IntKind.i64.wrap (IntKind.i64.wrap (a * d) - IntKind.i64.wrap (b * c))))
  | _ => none
theorem con55 : ConOK Try.prog 55 c55 := ConOK.of (G := []) (H := []) .nil Try.func55 fun l ob r hc hob => by
  unfold c55 at hc
  split at hc
  · cases hc
    refine ⟨by kernel_rfl, fnVC_go (rs := [.tmp 4]) rfl rfl ?_⟩
    simp only [go_sem]
    intro z h z1 h1 z2 h2
    rw [h2, h1, h]
  · cases hc
theorem con43 : ConOK Try.prog 43 c55 := ConOK.of (G := []) (H := []) .nil Try.func43 fun l ob r hc hob => by
  unfold c55 at hc
  split at hc
  · cases hc
    refine ⟨by kernel_rfl, fnVC_go (rs := [.tmp 4]) rfl rfl ?_⟩
    simp only [go_sem]
    intro z h z1 h1 z2 h2
    rw [h2, h1, h]
  · cases hc
/-- (b - a) x (c - a). -/
def turnS (ax ay bx byy cx cy : Int) : Int := (bx - ax) * (cy - ay) - (byy - ay) * (cx - ax)
theorem turn_wrap {ax ay bx byy cx cy : Int} (ha : validS ax ay = true) (hb : validS bx byy = true) (hc : validS cx cy = true) :
    IntKind.i64.wrap (IntKind.i64.wrap (IntKind.i64.wrap (bx - ax) * IntKind.i64.wrap (cy - ay)) - IntKind.i64.wrap (IntKind.i64.wrap (byy - ay) * IntKind.i64.wrap (cx - ax))) = turnS ax ay bx byy cx cy := by
  rw [validS_iff] at ha hb hc
  rw [wrap_in (x := bx - ax) (by unfold inR; omega), wrap_in (x := cy - ay) (by unfold inR; omega), wrap_in (x := byy - ay) (by unfold inR; omega), wrap_in (x := cx - ax) (by unfold inR; omega)]
  have h1 := sm_mul (x := bx - ax) (y := cy - ay) (by unfold sm; omega) (by unfold sm; omega)
  have h2 := sm_mul (x := byy - ay) (y := cx - ax) (by unfold sm; omega) (by unfold sm; omega)
  rw [wrap_in (x := (bx - ax) * (cy - ay)) (by unfold inR; omega), wrap_in (x := (byy - ay) * (cx - ax)) (by unfold inR; omega), wrap_in (by unfold inR; omega)]
  rfl
def c42 : Con
  | [.agg [.v (.int .i64 a), .v (.int .i64 b)], .agg [.v (.int .i64 c), .v (.int .i64 d)], .agg [.v (.int .i64 e), .v (.int .i64 f)]] => some ([validS a b = true, validS c d = true, validS e f = true], i64 (turnS a b c d e f))
  | _ => none
theorem con42 : ConOK Try.prog 42 c42 := ConOK.of (G := [(55, c55), (56, c56)]) (H := []) (.cons con55 (.cons con56 .nil)) Try.func42 fun l ob r hc hob => by
  unfold c42 at hc
  split at hc
  · rename_i a b c d e f
    cases hc
    have h1 : validS a b = true := hob _ (by simp)
    have h2 : validS c d = true := hob _ (by simp)
    have h3 : validS e f = true := hob _ (by simp)
    refine ⟨by kernel_rfl, fnVC_go (rs := [.tmp 6]) rfl rfl ?_⟩
    simp only [go_sem, c55, c56]
    intro z k z1 k1 z2 k2 z3 k3 z4 k4
    subst k k1 k2 k3
    rw [k4, turn_wrap h1 h2 h3]
  · cases hc
def sideS (a b c d e f : Int) : Int := if validS a b = true ∧ validS c d = true ∧ validS e f = true then (if 0 < turnS a b c d e f then 1 else if turnS a b c d e f < 0 then -1 else 0) else 0
def c23 : Con
  | [.agg [.v (.int .i64 a), .v (.int .i64 b)], .agg [.v (.int .i64 c), .v (.int .i64 d)], .agg [.v (.int .i64 e), .v (.int .i64 f)]] => some ([inR a, inR b, inR c, inR d, inR e, inR f], i64 (sideS a b c d e f))
  | _ => none
theorem fair3 {a b c d e f : Int} {g : Nat → List AV} (h0 : g 0 = [i64 a, i64 b]) (h1 : g 1 = [i64 c, i64 d]) (h2 : g 2 = [i64 e, i64 f]) : fairS 3 (gx g 0) (gx g 1) = true ↔ (validS a b = true ∧ validS c d = true ∧ validS e f = true) := by
  rw [fairS_iff]
  constructor
  · intro h
    have k0 := h 0 (by omega)
    have k1 := h 1 (by omega)
    have k2 := h 2 (by omega)
    simp only [gx, h0, h1, h2, gi_0, gi_1] at k0 k1 k2
    exact ⟨k0, k1, k2⟩
  · intro h i hi
    have : i = 0 ∨ i = 1 ∨ i = 2 := by omega
    rcases this with rfl | rfl | rfl
    · simp only [gx, h0, gi_0, gi_1]; exact h.1
    · simp only [gx, h1, gi_0, gi_1]; exact h.2.1
    · simp only [gx, h2, gi_0, gi_1]; exact h.2.2
theorem spots3 {a b c d e f : Int} {g : Nat → List AV} (h0 : g 0 = [i64 a, i64 b]) (h1 : g 1 = [i64 c, i64 d]) (h2 : g 2 = [i64 e, i64 f]) (ha : inR a) (hb : inR b) (hc : inR c) (hd : inR d) (he : inR e) (hf : inR f) : spots 3 g := by
  intro i hi
  have : i = 0 ∨ i = 1 ∨ i = 2 := by omega
  rcases this with rfl | rfl | rfl
  · simp only [gx, h0, gi_0, gi_1]; exact ⟨trivial, ha, hb⟩
  · simp only [gx, h1, gi_0, gi_1]; exact ⟨trivial, hc, hd⟩
  · simp only [gx, h2, gi_0, gi_1]; exact ⟨trivial, he, hf⟩
theorem con23 : ConOK Try.prog 23 c23 := ConOK.of (G := [(39, c39), (42, c42)]) (H := []) (.cons con39 (.cons con42 .nil)) Try.func23 fun l ob r hc hob => by
  unfold c23 at hc
  split at hc
  · rename_i a b c d e f
    cases hc
    have ha : inR a := hob _ (by simp)
    have hb : inR b := hob _ (by simp)
    have hc : inR c := hob _ (by simp)
    have hd : inR d := hob _ (by simp)
    have he : inR e := hob _ (by simp)
    have hf : inR f := hob _ (by simp)
    refine ⟨by kernel_rfl, fnVC_go (rs := [.tmp 6]) rfl rfl ?_⟩
    simp only [go_sem, c39, c42]
    intro z hz
    have hfair := (Bool.eq_iff_iff.1 hz).trans (fair3 (a := a) (b := b) (c := c) (d := d) (e := e) (f := f) rfl rfl rfl)
    refine ⟨spots3 (a := a) (b := b) (c := c) (d := d) (e := e) (f := f) rfl rfl rfl ha hb hc hd he hf, ?_⟩
    clear hz
    refine ⟨fun h t ht => ?_, fun h => ⟨fun x => x.elim, fun _ => ⟨fun x => x.elim, fun _ => ?_⟩⟩⟩
    · have hv := hfair.1 h
      refine ⟨hv.1, hv.2.1, hv.2.2, fun k => ?_, fun k => ⟨fun k2 => ?_, fun k2 => ?_⟩⟩
      · unfold sideS; rw [if_pos hv, ← ht, if_pos k]
      · unfold sideS; rw [if_pos hv, ← ht, if_neg k, if_pos k2]
      · unfold sideS; rw [if_pos hv, ← ht, if_neg k, if_neg k2]
    · unfold sideS
      rw [if_neg (fun hv => by rw [hfair.2 hv] at h; cases h)]
  · cases hc
end Go.Ax
