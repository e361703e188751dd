/-
  Forms: what is valid; copies; which spots a form has.
-/
import Derived.Test.YtdebekhncimenaaAxZ7
set_option linter.unusedVariables false
set_option linter.unusedSimpArgs false
set_option maxHeartbeats 1000000
set_option maxRecDepth 100000
namespace Go.Ax
open Go.Proofs

/-- A form: its kind, its center, its radius, its corners. -/
abbrev formA (k x y r : Int) (n : Nat) (g : Nat → List AV) : AV := .agg [i64 k, i64 x, i64 y, i64 r, .ro n 2 g]
theorem Rs_form {w : World} {ρ : Env} {k x y r : Int} {n : Nat} {g : Nat → List AV} (hs : spots n g) (v : Value) (h : R w ρ (formA k x y r n g) v) : R w ρ (formA k x y r n fun i => [i64 (gx g 0 i), i64 (gx g 1 i)]) v := by
  cases h with
  | agg hl hh =>
    refine .agg hl fun i a z h1 h2 => ?_
    match i with
    | 0 => exact hh 0 a z h1 h2
    | 1 => exact hh 1 a z h1 h2
    | 2 => exact hh 2 a z h1 h2
    | 3 => exact hh 3 a z h1 h2
    | 4 =>
      simp at h1; subst h1
      exact ro_alike (fun i hi => (hs i hi).1) (hh 4 _ z rfl h2)
    | j + 5 => simp at h1
theorem Rs_poly {w : World} {ρ : Env} {n : Nat} {g : Nat → List AV} (hs : spots n g) (v : Value) (h : R w ρ (.agg [.ro n 2 g]) v) : R w ρ (.agg [.ro n 2 fun i => [i64 (gx g 0 i), i64 (gx g 1 i)]]) v := by
  cases h with
  | agg hl hh =>
    refine .agg hl fun i a z h1 h2 => ?_
    match i with
    | 0 =>
      simp at h1; subst h1
      exact ro_alike (fun i hi => (hs i hi).1) (hh 0 _ z rfl h2)
    | j + 1 => simp at h1
theorem Rs_two {w : World} {ρ : Env} {a a' b b' : AV} {vs : List Value} (h : ∀ v, R w ρ a v → R w ρ a' v) (k : ∀ v, R w ρ b v → R w ρ b' v) (hR : Rs w ρ [a, b] vs) : Rs w ρ [a', b'] vs := by
  obtain ⟨x, xs, rfl, h1, h2⟩ := hR.inv
  exact .cons (h x h1) (Rs_one k h2)

def c28 : Con
  | [.agg [.v (.int .i64 k), .v (.int .i64 x), .v (.int .i64 y), .v (.int .i64 r), .ro n 2 g]] => some ([], bo (decide ((n : Int) ≤ 12)))
  | _ => none
theorem con28 : ConOK Try.prog 28 c28 := ConOK.of (G := []) (H := []) .nil Try.func28 fun l ob r hc hob => by
  unfold c28 at hc
  split at hc
  · cases hc
    refine ⟨by kernel_rfl, fnVC_go (rs := [.tmp 2]) rfl rfl ?_⟩
    simp only [go_sem]
  · cases hc
def c29 : Con
  | [.agg [.v (.int .i64 k), .v (.int .i64 x), .v (.int .i64 y), .v (.int .i64 r), .ro n 2 g]] => some ([spots n g, n ≤ 1000], formA k x y r n fun i => [i64 (gx g 0 i), i64 (gx g 1 i)])
  | _ => none
theorem con29 : ConOK Try.prog 29 c29 := ConOK.of (G := [(22, c22)]) (H := []) (.cons con22 .nil) Try.func29 fun l ob r hc hob => by
  unfold c29 at hc
  split at hc
  · rename_i k x y r n g
    cases hc
    have hs : spots n g := hob _ (by simp)
    have hn : n ≤ 1000 := hob _ (by simp)
    refine ⟨by kernel_rfl, fnVC_go (rs := [.cell 2 46]) rfl rfl ?_⟩
    simp only [go_sem, c22]
    exact ⟨hs, hn⟩
  · cases hc
/-- The forms are equal. -/
def sameF (k x y r : Int) (n : Nat) (g : Nat → List AV) (k' x' y' r' : Int) (n' : Nat) (g' : Nat → List AV) : Bool :=
  (k == k') && (x == x' && y == y') && (r == r') && decide (n = n' ∧ ∀ i, i < n → gx g 0 i = gx g' 0 i ∧ gx g 1 i = gx g' 1 i)
def c34 : Con
  | [.agg [.v (.int .i64 k), .v (.int .i64 x), .v (.int .i64 y), .v (.int .i64 r), .ro n 2 g], .agg [.v (.int .i64 k'), .v (.int .i64 x'), .v (.int .i64 y'), .v (.int .i64 r'), .ro n' 2 g']] => some ([spots n g, spots n' g', n ≤ 9223372036854775806, n' ≤ 9223372036854775806], bo (sameF k x y r n g k' x' y' r' n' g'))
  | _ => none
theorem con34 : ConOK Try.prog 34 c34 := ConOK.of (G := [(27, c27)]) (H := []) (.cons con27 .nil) Try.func34 fun l ob r hc hob => by
  unfold c34 at hc
  split at hc
  · rename_i k x y r n g k' x' y' r' n' g'
    cases hc
    have hs : spots n g := hob _ (by simp)
    have hs' : spots n' g' := hob _ (by simp)
    have hn : n ≤ 9223372036854775806 := hob _ (by simp)
    have hn' : n' ≤ 9223372036854775806 := hob _ (by simp)
    refine ⟨by kernel_rfl, fnVC_go (rs := [.tmp 4]) rfl rfl ?_⟩
    simp only [go_sem, c27]
    intro z hz
    refine ⟨fun _ => hs, fun _ => hs', fun _ => hn, fun _ => hn', ?_⟩
    rw [hz]; rfl
  · cases hc
def c69 : Con
  | [.agg [.v (.int .i64 a), .v (.int .i64 b)], .agg [.v (.int .i64 c), .v (.int .i64 d)]] => some ([], i64 (IntKind.i64.wrap (IntKind.i64.wrap (a * c) + IntKind.i64.wrap (b * d))))
  | _ => none
theorem con69 : ConOK Try.prog 69 c69 := ConOK.of (G := []) (H := []) .nil Try.func69 fun l ob r hc hob => by
  unfold c69 at hc
  split at hc
  · cases hc
    refine ⟨by kernel_rfl, fnVC_go (rs := [.tmp 4]) rfl rfl ?_⟩
    simp only [go_sem]
    intro z h z1 h1 z2 h2
    rw [h2, h1, h]
  · cases hc
theorem con59 : ConOK Try.prog 59 c69 := ConOK.of (G := []) (H := []) .nil Try.func59 fun l ob r hc hob => by
  unfold c69 at hc
  split at hc
  · cases hc
    refine ⟨by kernel_rfl, fnVC_go (rs := [.tmp 4]) rfl rfl ?_⟩
    simp only [go_sem]
    intro z h z1 h1 z2 h2
    rw [h2, h1, h]
  · cases hc
theorem con49 : ConOK Try.prog 49 c41 := ConOK.of (G := []) (H := []) .nil Try.func49 fun l ob r hc hob => by
  unfold c41 at hc
  split at hc
  · cases hc
    refine ⟨by kernel_rfl, fnVC_go (rs := [.cell 4 23]) rfl rfl ?_⟩
    simp only [go_sem]
    intro z h z1 h1 z2 h2 z3 h3
    subst h h1 h2 h3
    rfl
  · cases hc

theorem wrap_inR (x : Int) : inR (IntKind.i64.wrap x) := by rw [wrap_i64]; unfold inR; omega
theorem fair1 {a b : Int} {g : Nat → List AV} (h0 : g 0 = [i64 a, i64 b]) : fairS 1 (gx g 0) (gx g 1) = validS a b := by
  rw [Bool.eq_iff_iff, fairS_iff]
  constructor
  · intro h
    have k0 := h 0 (by omega)
    simp only [gx, h0, gi_0, gi_1] at k0
    exact k0
  · intro h i hi
    have : i = 0 := by omega
    subst this
    simp only [gx, h0, gi_0, gi_1]; exact h
theorem spots1 {a b : Int} {g : Nat → List AV} (h0 : g 0 = [i64 a, i64 b]) (ha : inR a) (hb : inR b) : spots 1 g := by
  intro i hi
  have : i = 0 := by omega
  subst this
  simp only [gx, h0, gi_0, gi_1]; exact ⟨trivial, ha, hb⟩
/-- The error of a form. -/
def checkS (k x y r : Int) (n : Nat) (X Y : Nat → Int) : Int :=
  if k ≠ 1 ∧ k ≠ 2 then 8
  else if ¬ (validS x y = true ∧ ∀ i, i < n → validS (X i) (Y i) = true) then 3
  else if k = 1 then (if 1 ≤ r ∧ (2097152 < r ∨ checkBoxS (x - r) (y - r) (x + r) (y + r) ≠ 0) then 3 else if r < 1 ∨ 0 < n then 5 else 0)
  else if r ≠ 0 ∨ 8 < n ∨ convexS n X Y = false then 5 else 0
instance {n : Nat} {X Y : Nat → Int} : Decidable (∀ i, i < n → validS (X i) (Y i) = true) := inferInstance
def c58 : Con
  | [.agg [.v (.int .i64 k), .v (.int .i64 x), .v (.int .i64 y), .v (.int .i64 r), .ro n 2 g]] => some ([spots n g, n ≤ 9223372036854775806, inR x, inR y, inR r], i64 (checkS k x y r n (gx g 0) (gx g 1)))
  | _ => none
theorem con58 : ConOK Try.prog 58 c58 := ConOK.of (G := [(10, c10), (25, c25), (39, c39), (41, c41)]) (H := []) (.cons con10 (.cons con25 (.cons con39 (.cons con41 .nil)))) Try.func58 fun l ob r hc hob => by
  unfold c58 at hc
  split at hc
  · rename_i k x y r n g
    cases hc
    have hs : spots n g := hob _ (by simp)
    have hn : n ≤ 9223372036854775806 := hob _ (by simp)
    have hx : inR x := hob _ (by simp)
    have hy : inR y := hob _ (by simp)
    have hr : inR r := hob _ (by simp)
    refine ⟨by kernel_rfl, fnVC_go (rs := [.tmp 2]) rfl rfl ?_⟩
    simp only [go_sem, c10, c25, c39, c41]
    have hfa : fairS 1 (gx (rowsOf 2 [AV.v (Value.int IntKind.i64 x), AV.v (Value.int IntKind.i64 y)]) 0) (gx (rowsOf 2 [AV.v (Value.int IntKind.i64 x), AV.v (Value.int IntKind.i64 y)]) 1) = validS x y := fair1 rfl
    have hsp : spots 1 (rowsOf 2 [AV.v (Value.int IntKind.i64 x), AV.v (Value.int IntKind.i64 y)]) := spots1 rfl hx hy
    rw [hfa]
    refine ⟨fun h => ?_, fun h z hz => ⟨hsp, fun z1 hz1 => ⟨fun _ => hs, fun _ => by omega, fun h3 => ?_, fun h3 z2 hz2 => ⟨fun _ => wrap_inR _, fun _ => wrap_inR _, fun _ => wrap_inR _, fun _ => wrap_inR _, fun a b => ⟨a, b⟩, fun h4 => ?_, fun h4 => ⟨fun a b => ⟨a, b⟩, fun h5 => ?_, fun h5 => ⟨fun a b => ⟨a, b⟩, fun z3 hz3 => ⟨fun _ => hs, fun _ => hn, fun a b => ⟨a, b⟩, fun h6 => ?_, fun h6 => ?_⟩⟩⟩⟩⟩⟩⟩
    · have h1 : k ≠ 1 ∧ k ≠ 2 := by simpa using h
      unfold checkS; rw [if_pos h1]
    · have h1 : ¬ (k ≠ 1 ∧ k ≠ 2) := by simp at h; omega
      have h2 : ¬ (validS x y = true ∧ ∀ i, i < n → validS (gx g 0 i) (gx g 1 i) = true) := by
        rintro ⟨v1, v2⟩
        rw [← fairS_iff] at v2
        rw [v1] at hz; rw [v2] at hz1
        simp [hz, hz1] at h3
      unfold checkS; rw [if_neg h1, if_pos h2]
    all_goals
      have h1 : ¬ (k ≠ 1 ∧ k ≠ 2) := by simp at h; omega
      have v1 : validS x y = true := by rw [← hz]; exact h3.1
      have v2 : ∀ i, i < n → validS (gx g 0 i) (gx g 1 i) = true := by rw [← fairS_iff, ← hz1]; exact h3.2
      have v3 := validS_iff.1 v1
      have h2 : ¬ ¬ (validS x y = true ∧ ∀ i, i < n → validS (gx g 0 i) (gx g 1 i) = true) := fun hn => hn ⟨v1, v2⟩
      have hb : 0 < r → ¬ 2097152 < r → z2 = checkBoxS (x - r) (y - r) (x + r) (y + r) := fun a b => by
        rw [hz2, wrap_in (x := x - r) (by unfold inR; omega), wrap_in (x := y - r) (by unfold inR; omega), wrap_in (x := x + r) (by unfold inR; omega), wrap_in (x := y + r) (by unfold inR; omega)]
      unfold checkS
      rw [if_neg h1, if_neg h2]
    · simp only [beq_iff_eq, bne_iff_ne, ne_eq] at h4
      rw [if_pos h4.1.1, if_pos]
      refine ⟨by omega, ?_⟩
      by_cases hr2 : 2097152 < r
      · exact .inl hr2
      · rw [← hb h4.1.2 hr2]; exact .inr (h4.2.resolve_left hr2)
    all_goals
      have h4' : k = 1 → ¬ (1 ≤ r ∧ (2097152 < r ∨ checkBoxS (x - r) (y - r) (x + r) (y + r) ≠ 0)) := by
        rintro hk ⟨a, b⟩
        have a' : 0 < r := by omega
        simp only [hk, beq_self_eq_true, Bool.true_and, a', decide_true, Bool.or_eq_false_iff, decide_eq_false_iff_not, bne_eq_false_iff_eq] at h4
        rw [← hb a' h4.1] at b
        rcases b with b | b
        · exact h4.1 b
        · exact b h4.2
    · have hk : k = 1 := by simpa using h5.1
      rw [if_pos hk, if_neg (h4' hk), if_pos (by have := h5.2; omega)]
    · have hk : k ≠ 1 := by simpa using h6.1
      rw [if_neg hk, if_pos]
      rw [← hz3]
      have := h6.2
      simp only [bne_iff_ne] at this
      rcases this with (a | a) | a
      · exact .inl a
      · exact .inr (.inl (by omega))
      · exact .inr (.inr a)
    · by_cases hk : k = 1
      · simp only [hk, beq_self_eq_true, Bool.true_and, Bool.or_eq_false_iff, decide_eq_false_iff_not] at h5
        rw [if_pos hk, if_neg (h4' hk), if_neg (by omega)]
      · have hk' : (k == 1) = false := by simpa using hk
        rw [if_neg hk, if_neg]
        rw [← hz3]
        simp only [hk', Bool.not_false, Bool.true_and, Bool.or_eq_false_iff, bne_eq_false_iff_eq, decide_eq_false_iff_not, Bool.not_eq_false'] at h6
        rintro (a | a | a)
        · exact a h6.1.1
        · exact h6.1.2 (by omega)
        · rw [h6.2] at a; cases a
  · cases hc
end Go.Ax
