/-
  Boxes: what is valid, what meets, what is within, what grows.
-/
import Derived.Test.YtdebekhncimenaaAxP2
set_option linter.unusedVariables false
set_option linter.unusedSimpArgs false
set_option maxHeartbeats 1000000
set_option maxRecDepth 100000
namespace Go.Ax
open Go.Proofs

theorem okX_iff {x : Int} : okX x = true ↔ -2097152 ≤ x ∧ x ≤ 2097152 := by unfold okX; simp
theorem validS_iff {x y : Int} : validS x y = true ↔ -2097152 ≤ x ∧ x ≤ 2097152 ∧ -2097152 ≤ y ∧ y ≤ 2097152 := by
  unfold validS; rw [Bool.and_eq_true, okX_iff, okX_iff]; omega
theorem fairS_iff {n : Nat} {X Y : Nat → Int} : fairS n X Y = true ↔ ∀ i, i < n → validS (X i) (Y i) = true := by unfold fairS; simp
theorem bool_of {a b : Bool} (h : a = true ↔ b = true) : a = b := Bool.eq_iff_iff.2 h
theorem false_of {b : Bool} (h : ¬ b = true) : false = b := by cases b <;> simp_all
theorem bo_inj {a b : Bool} (h : a = b) : bo a = bo b := by rw [h]

def c39 : Con
  | [.ro n 2 g] => some ([spots n g, n ≤ 9223372036854775807], bo (fairS n (gx g 0) (gx g 1)))
  | _ => none
theorem vc39 (n : Nat) (X Y : Nat → Int) (hX : ∀ i, i < n → inR (X i) ∧ inR (Y i)) (hn : n ≤ 9223372036854775807) : fnVC Try.prog [] [] Try.f39 [.ro n 2 fun i => [i64 (X i), i64 (Y i)]] (· = bo (fairS n X Y)) := by
  refine fnVC_go (rs := [.tmp 2]) rfl rfl ?_
  simp only [go_sem]
  refine loopC_go (fun (i : Nat) => i ≤ n ∧ ∀ k < i, validS (X k) (Y k) = true) (fun i => n - i) (fun i => [(7, i64 i)]) (fun _ => []) [] [8, 9, 10, 4, 11, 12, 13, 14, 15, 16, 17, 18, 19, 20, 21, 22, 23, 24, 25, 26, 27, 28, 29, 30, 31, 32, 2, 33, 7] 0 (by kernel_rfl) ?_ ?_ ?_ ?_
  · intro x _; simp [goodNames]
  · simp
  · simp only [go_sem]
  · intro i hi
    simp only [go_sem]
    obtain ⟨hi1, hi2⟩ := hi
    refine ⟨fun h => ?_, fun h => (fairS_iff.2 fun k hk => hi2 k (by omega)).symm⟩
    have h1 : i < n := by omega
    have hr := hX i h1
    unfold inR at hr
    refine ⟨by omega, h, fun z hz z1 hz1 z2 hz2 => ?_⟩
    rw [wrap_i64] at hz hz1
    have hv := validS_iff (x := X i) (y := Y i)
    refine ⟨fun hb => false_of fun hf => ?_, fun hg z hz => ⟨i + 1, ⟨by omega, fun k hk => ?_⟩, by omega, ?_⟩⟩
    · have := hv.1 (fairS_iff.1 hf i h1)
      omega
    · by_cases e : k = i
      · subst e; exact hv.2 (by omega)
      · exact hi2 k (by omega)
    · rw [wrap_i64] at hz; omega
theorem con39 : ConOK Try.prog 39 c39 := ConOK.go (G := []) (H := []) .nil Try.func39 fun l ob r hc hob => by
  unfold c39 at hc
  split at hc
  · rename_i n g
    cases hc
    have hs : spots n g := hob _ (by simp)
    refine ⟨[.ro n 2 fun i => [i64 (gx g 0 i), i64 (gx g 1 i)]], fun w I vs h => Rs_one (fun v => ro_alike fun i hi => (hs i hi).1) h, by kernel_rfl, vc39 n _ _ (fun i hi => (hs i hi).2) (hob _ (by simp))⟩
  · cases hc

def c40 : Con
  | [.agg [.v (.int .i64 x), .v (.int .i64 y)]] => some ([], bo (validS x y))
  | _ => none
theorem con40 : ConOK Try.prog 40 c40 := ConOK.of (G := []) (H := []) .nil Try.func40 fun l ob r hc hob => by
  unfold c40 at hc
  split at hc
  · rename_i x y
    cases hc
    refine ⟨by kernel_rfl, fnVC_go (rs := [.tmp 2]) rfl rfl ?_⟩
    simp only [go_sem]
    unfold validS okX
    rw [Bool.eq_iff_iff]
    simp
    omega
  · cases hc

/-! ### The error of a box -/
def checkBoxS (a b c d : Int) : Int := if validS a b = true ∧ validS c d = true then (if c < a ∨ d < b then 5 else 0) else 3
def c10 : Con
  | [.agg [.v (.int .i64 a), .v (.int .i64 b), .v (.int .i64 c), .v (.int .i64 d)]] => some ([inR a, inR b, inR c, inR d], i64 (checkBoxS a b c d))
  | _ => none
theorem fair2 {a b c d : Int} {g : Nat → List AV} (h0 : g 0 = [i64 a, i64 b]) (h1 : g 1 = [i64 c, i64 d]) : fairS 2 (gx g 0) (gx g 1) = (validS a b && validS c d) := by
  rw [Bool.eq_iff_iff, fairS_iff, Bool.and_eq_true]
  constructor
  · intro h
    have k0 := h 0 (by omega)
    have k1 := h 1 (by omega)
    simp only [gx, h0, h1, gi_0, gi_1] at k0 k1
    exact ⟨k0, k1⟩
  · intro h i hi
    have : i = 0 ∨ i = 1 := by omega
    rcases this with rfl | rfl
    · simp only [gx, h0, gi_0, gi_1]; exact h.1
    · simp only [gx, h1, gi_0, gi_1]; exact h.2
theorem spots2 {a b c d : Int} {g : Nat → List AV} (h0 : g 0 = [i64 a, i64 b]) (h1 : g 1 = [i64 c, i64 d]) (ha : inR a) (hb : inR b) (hc : inR c) (hd : inR d) : spots 2 g := by
  intro i hi
  have : i = 0 ∨ i = 1 := by omega
  rcases this with rfl | rfl
  · simp only [gx, h0, gi_0, gi_1]; exact ⟨trivial, ha, hb⟩
  · simp only [gx, h1, gi_0, gi_1]; exact ⟨trivial, hc, hd⟩
theorem con10 : ConOK Try.prog 10 c10 := ConOK.of (G := [(39, c39)]) (H := [(1, ⟨[(12, .made 10), (13, .made 11)], [(6, [.made 10]), (8, [.made 10])]⟩)]) (.cons con39 .nil) Try.func10 fun l ob r hc hob => by
  unfold c10 at hc
  split at hc
  · rename_i a b c d
    cases hc
    refine ⟨by kernel_rfl, fnVC_go (rs := [.tmp 2]) rfl rfl ?_⟩
    simp only [go_sem, c39]
    have ha : inR a := hob _ (by simp)
    have hb : inR b := hob _ (by simp)
    have hc : inR c := hob _ (by simp)
    have hd : inR d := hob _ (by simp)
    intro z hz
    refine ⟨spots2 (a := a) (b := b) (c := c) (d := d) rfl rfl ha hb hc hd, ?_⟩
    rw [fair2 (a := a) (b := b) (c := c) (d := d) rfl rfl] at hz
    subst hz
    simp only [checkBoxS, Bool.and_eq_true, Bool.and_eq_false_iff]
    refine ⟨fun h => ?_, fun h => ⟨fun h2 => ?_, fun h2 => ?_⟩⟩
    · rw [if_neg (by rintro ⟨h1, h2⟩; rcases h with h | h <;> simp_all)]
    · rw [if_pos h, if_pos h2]
    · rw [if_pos h, if_neg (by omega)]
  · cases hc
def c11 : Con
  | [.agg [.v (.int .i64 a), .v (.int .i64 b), .v (.int .i64 c), .v (.int .i64 d)]] => some ([], i64 (checkBoxS a b c d))
  | _ => none
theorem con11 : ConOK Try.prog 11 c11 := ConOK.of (G := [(40, c40)]) (H := []) (.cons con40 .nil) Try.func11 fun l ob r hc hob => by
  unfold c11 at hc
  split at hc
  · rename_i a b c d
    cases hc
    refine ⟨by kernel_rfl, fnVC_go (rs := [.tmp 2]) rfl rfl ?_⟩
    simp only [go_sem, c40]
    intro z hz z1 hz1
    subst hz hz1
    unfold checkBoxS
    refine ⟨fun h => ?_, fun h => ⟨fun h2 => ?_, fun h2 => ?_⟩⟩
    · rw [if_neg (by rintro ⟨h1, h2⟩; rcases h with h | h <;> simp_all)]
    · rw [if_pos h, if_pos h2]
    · rw [if_pos h, if_neg (by omega)]
  · cases hc

/-! ### Boxes that meet -/
theorem checkBoxS_iff {a b c d : Int} : checkBoxS a b c d = 0 ↔ -2097152 ≤ a ∧ a ≤ c ∧ c ≤ 2097152 ∧ -2097152 ≤ b ∧ b ≤ d ∧ d ≤ 2097152 := by
  simp only [checkBoxS, validS_iff]
  split
  · split <;> omega
  · omega
def meetsS (a b c d x y z t : Int) : Bool := decide (checkBoxS a b c d = 0 ∧ checkBoxS x y z t = 0 ∧ a ≤ z ∧ x ≤ c ∧ b ≤ t ∧ y ≤ d)
def c12 : Con
  | [.agg [.v (.int .i64 a), .v (.int .i64 b), .v (.int .i64 c), .v (.int .i64 d)], .agg [.v (.int .i64 x), .v (.int .i64 y), .v (.int .i64 z), .v (.int .i64 t)]] => some ([inR a, inR b, inR c, inR d, inR x, inR y, inR z, inR t], bo (meetsS a b c d x y z t))
  | _ => none
theorem con12 : ConOK Try.prog 12 c12 := ConOK.of (G := [(10, c10)]) (H := []) (.cons con10 .nil) Try.func12 fun l ob r hc hob => by
  unfold c12 at hc
  split at hc
  · rename_i a b c d x y z t
    cases hc
    refine ⟨by kernel_rfl, fnVC_go (rs := [.tmp 4]) rfl rfl ?_⟩
    simp only [go_sem, c10]
    have ha : inR a := hob _ (by simp)
    have hb : inR b := hob _ (by simp)
    have hc : inR c := hob _ (by simp)
    have hd : inR d := hob _ (by simp)
    have hx : inR x := hob _ (by simp)
    have hy : inR y := hob _ (by simp)
    have hz : inR z := hob _ (by simp)
    have ht : inR t := hob _ (by simp)
    intro z1 h1
    refine ⟨ha, hb, hc, hd, fun z2 h2 => ⟨fun _ => hx, fun _ => hy, fun _ => hz, fun _ => ht, fun h => ?_, fun h z3 h3 z4 h4 z5 h5 z6 h6 => ?_⟩⟩
    · refine false_of fun hf => ?_
      simp only [meetsS, decide_eq_true_eq] at hf
      rw [← h1, ← h2] at hf
      simp only [bne_iff_ne] at h
      omega
    · rw [Bool.eq_iff_iff]
      simp only [meetsS, Bool.and_eq_true, decide_eq_true_eq, bne_eq_false_iff_eq] at h ⊢
      have k1 := checkBoxS_iff.1 (h1.symm.trans h.1)
      have k2 := checkBoxS_iff.1 (h2.symm.trans h.2)
      rw [← h1, ← h2]
      omega
  · cases hc
def c13 : Con
  | [.agg [.v (.int .i64 a), .v (.int .i64 b), .v (.int .i64 c), .v (.int .i64 d)], .agg [.v (.int .i64 x), .v (.int .i64 y), .v (.int .i64 z), .v (.int .i64 t)]] => some ([], bo (meetsS a b c d x y z t))
  | _ => none
theorem con13 : ConOK Try.prog 13 c13 := ConOK.of (G := [(11, c11)]) (H := []) (.cons con11 .nil) Try.func13 fun l ob r hc hob => by
  unfold c13 at hc
  split at hc
  · rename_i a b c d x y z t
    cases hc
    refine ⟨by kernel_rfl, fnVC_go (rs := [.tmp 4]) rfl rfl ?_⟩
    simp only [go_sem, c11]
    intro z1 h1 z2 h2
    rw [Bool.eq_iff_iff]
    simp only [meetsS, Bool.and_eq_true, decide_eq_true_eq, beq_iff_eq]
    rw [← h1, ← h2]
    omega
  · cases hc
def c41 : Con
  | [.agg [.v (.int .i64 x), .v (.int .i64 y)], .v (.int .i64 r)] => some ([], .agg [i64 (IntKind.i64.wrap (x - r)), i64 (IntKind.i64.wrap (y - r)), i64 (IntKind.i64.wrap (x + r)), i64 (IntKind.i64.wrap (y + r))])
  | _ => none
theorem con41 : ConOK Try.prog 41 c41 := ConOK.of (G := []) (H := []) .nil Try.func41 fun l ob r hc hob => by
  unfold c41 at hc
  split at hc
  · cases hc
    refine ⟨by kernel_rfl, fnVC_go (rs := [.cell 4 23]) rfl rfl ?_⟩
    simp only [go_sem]
    intro z h z1 h1 z2 h2 z3 h3
    subst h h1 h2 h3
    rfl
  · cases hc
def withinS (a b c d x y : Int) : Bool := decide (checkBoxS a b c d = 0 ∧ a ≤ x ∧ x ≤ c ∧ b ≤ y ∧ y ≤ d)
def c14 : Con
  | [.agg [.v (.int .i64 a), .v (.int .i64 b), .v (.int .i64 c), .v (.int .i64 d)], .agg [.v (.int .i64 x), .v (.int .i64 y)]] => some ([inR a, inR b, inR c, inR d, inR x, inR y], bo (withinS a b c d x y))
  | _ => none
theorem con14 : ConOK Try.prog 14 c14 := ConOK.of (G := [(12, c12), (41, c41)]) (H := []) (.cons con12 (.cons con41 .nil)) Try.func14 fun l ob r hc hob => by
  unfold c14 at hc
  split at hc
  · rename_i a b c d x y
    cases hc
    refine ⟨by kernel_rfl, fnVC_go (rs := [.tmp 4]) rfl rfl ?_⟩
    simp only [go_sem, c12, c41]
    have ha : inR a := hob _ (by simp)
    have hb : inR b := hob _ (by simp)
    have hc : inR c := hob _ (by simp)
    have hd : inR d := hob _ (by simp)
    have hx : inR x := hob _ (by simp)
    have hy : inR y := hob _ (by simp)
    intro z h z1 h1 z2 h2 z3 h3 z4 h4
    rw [Int.sub_zero, wrap_in hx] at h
    rw [Int.sub_zero, wrap_in hy] at h1
    rw [Int.add_zero, wrap_in hx] at h2
    rw [Int.add_zero, wrap_in hy] at h3
    subst h h1 h2 h3
    refine ⟨ha, hb, hc, hd, hx, hy, hx, hy, ?_⟩
    rw [h4, Bool.eq_iff_iff]
    simp only [meetsS, withinS, decide_eq_true_eq, checkBoxS_iff]
    omega
  · cases hc
def c15 : Con
  | [.agg [.v (.int .i64 a), .v (.int .i64 b), .v (.int .i64 c), .v (.int .i64 d)], .agg [.v (.int .i64 x), .v (.int .i64 y)]] => some ([], bo (withinS a b c d x y))
  | _ => none
theorem con15 : ConOK Try.prog 15 c15 := ConOK.of (G := [(11, c11)]) (H := []) (.cons con11 .nil) Try.func15 fun l ob r hc hob => by
  unfold c15 at hc
  split at hc
  · rename_i a b c d x y
    cases hc
    refine ⟨by kernel_rfl, fnVC_go (rs := [.tmp 4]) rfl rfl ?_⟩
    simp only [go_sem, c11]
    intro z h
    rw [Bool.eq_iff_iff]
    simp only [withinS, Bool.and_eq_true, decide_eq_true_eq, beq_iff_eq]
    rw [← h]
    omega
  · cases hc
/-! ### Boxes that grow -/
def growN (n : Int) : Int := max 0 (min n 4194304)
def growS (a b c d n : Int) (k : Nat) : Int := if checkBoxS a b c d = 0 then (match k with
  | 0 => max (a - growN n) (-2097152)
  | 1 => max (b - growN n) (-2097152)
  | 2 => min (c + growN n) 2097152
  | _ => min (d + growN n) 2097152) else (match k with
  | 0 => a
  | 1 => b
  | 2 => c
  | _ => d)
def c18 : Con
  | [.agg [.v (.int .i64 a), .v (.int .i64 b), .v (.int .i64 c), .v (.int .i64 d)], .v (.int .i64 n)] => some ([inR a, inR b, inR c, inR d], .agg [i64 (growS a b c d n 0), i64 (growS a b c d n 1), i64 (growS a b c d n 2), i64 (growS a b c d n 3)])
  | _ => none
theorem agg4 {a b c d x y z t : Int} (h1 : a = x) (h2 : b = y) (h3 : c = z) (h4 : d = t) : AV.agg [i64 a, i64 b, i64 c, i64 d] = .agg [i64 x, i64 y, i64 z, i64 t] := by rw [h1, h2, h3, h4]
theorem con18 : ConOK Try.prog 18 c18 := ConOK.of (G := [(10, c10)]) (H := []) (.cons con10 .nil) Try.func18 fun l ob r hc hob => by
  unfold c18 at hc
  split at hc
  · rename_i a b c d n
    cases hc
    refine ⟨by kernel_rfl, fnVC_go (rs := [.cell 4 23]) rfl rfl ?_⟩
    simp only [go_sem, c10]
    have ha : inR a := hob _ (by simp)
    have hb : inR b := hob _ (by simp)
    have hc : inR c := hob _ (by simp)
    have hd : inR d := hob _ (by simp)
    intro z1 h1
    refine ⟨ha, hb, hc, hd, fun h => ?_, fun h z hz z2 h2 z3 h3 z4 h4 z5 h5 z6 h6 z7 h7 z8 h8 z9 h9 z10 h10 => ?_⟩
    · have h0 : ¬ checkBoxS a b c d = 0 := by rw [← h1]; simpa using h
      simp only [growS, if_neg h0]
    · have h0 : checkBoxS a b c d = 0 := by rw [← h1]; simpa using h
      have hv := checkBoxS_iff.1 h0
      have hz2 : 0 ≤ z2 ∧ z2 ≤ 4194304 := by omega
      rw [wrap_in (by unfold inR; omega)] at h3 h5 h7 h9
      simp only [growS, if_pos h0, growN]
      rw [hz] at h2
      subst h2 h3 h5 h7 h9
      rw [h4, h6, h8, h10]
  · cases hc
def c19 : Con
  | [.agg [.v (.int .i64 a), .v (.int .i64 b), .v (.int .i64 c), .v (.int .i64 d)], .v (.int .i64 n)] => some ([inR a, inR b, inR c, inR d], .agg [i64 (growS a b c d n 0), i64 (growS a b c d n 1), i64 (growS a b c d n 2), i64 (growS a b c d n 3)])
  | _ => none
theorem con19 : ConOK Try.prog 19 c19 := ConOK.of (G := [(11, c11)]) (H := []) (.cons con11 .nil) Try.func19 fun l ob r hc hob => by
  unfold c19 at hc
  split at hc
  · rename_i a b c d n
    cases hc
    refine ⟨by kernel_rfl, fnVC_go (rs := [.cell 4 23]) rfl rfl ?_⟩
    simp only [go_sem, c11]
    intro z1 h1
    refine ⟨fun h => ?_, fun h z hz z2 h2 z3 h3 z4 h4 z5 h5 z6 h6 z7 h7 z8 h8 z9 h9 => ?_⟩
    · by_cases h0 : checkBoxS a b c d = 0
      · have hv := checkBoxS_iff.1 h0
        have hn : n ≤ 0 := by
          rcases h with h | h
          · rw [h1, h0] at h; simp at h
          · exact h
        have e : max 0 (min n 4194304) = 0 := by omega
        simp only [growS, if_pos h0, growN, e]
        exact agg4 (by omega) (by omega) (by omega) (by omega)
      · simp only [growS, if_neg h0]
    · have h0 : checkBoxS a b c d = 0 := by rw [← h1]; simpa using h.1
      have hv := checkBoxS_iff.1 h0
      have hn := h.2
      have hz2 : 0 ≤ z ∧ z ≤ 4194304 := by omega
      rw [wrap_in (by unfold inR; omega)] at h2 h4 h6 h8
      have e : max 0 (min n 4194304) = z := by omega
      simp only [growS, if_pos h0, growN, e]
      subst h2 h4 h6 h8
      rw [h3, h5, h7, h9]
  · cases hc
end Go.Ax
