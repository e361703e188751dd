/-
  Shapes: which are sound.
-/
import Derived.Test.YtiikkfegcmejcaaGreatCM5
section
set_option linter.unusedVariables false
set_option linter.unusedSimpArgs false
set_option maxHeartbeats 4000000
set_option maxRecDepth 100000
namespace Go.Ax
open Go.Proofs
def c189 : Con
  | [.agg [.v (.int .i64 a), .v (.int .i64 b)], .agg [.v (.int .i64 c), .v (.int .i64 d)]] => some ([], .agg [i64 (IntKind.i64.wrap (a - c)), i64 (IntKind.i64.wrap (b - d))])
  | _ => none
theorem con189 : ConOK Tryz.prog 189 c189 := ConOK.of (G := []) (H := []) .nil Tryz.func189 fun l ob r hc hob => by
  unfold c189 at hc
  split at hc
  · rename_i a b c d
    cases hc
    refine ⟨by kernel_rfl, fnVC_go (rs := [.cell 4 193]) rfl rfl ?_⟩
    simp only [go_sem]
    simp only [forall_eq]
  · cases hc
def c190 : Con
  | [.agg [.v (.int .i64 a), .v (.int .i64 b)], .agg [.v (.int .i64 c), .v (.int .i64 d)]] => some ([], i64 (IntKind.i64.wrap (IntKind.i64.wrap (a * d) - IntKind.i64.wrap (b * c))))
  | _ => none
theorem con190 : ConOK Tryz.prog 190 c190 := ConOK.of (G := []) (H := []) .nil Tryz.func190 fun l ob r hc hob => by
  unfold c190 at hc
  split at hc
  · rename_i a b c d
    cases hc
    refine ⟨by kernel_rfl, fnVC_go (rs := [.tmp 4]) rfl rfl ?_⟩
    simp only [go_sem]
    simp only [forall_eq]
  · cases hc
def c191 : Con
  | [.agg [.v (.int .i64 a), .v (.int .i64 b)]] => some ([-1000000 ≤ a ∧ a ≤ 1000000, -1000000 ≤ b ∧ b ≤ 1000000], i64 (ab a + ab b))
  | _ => none
theorem con191 : ConOK Tryz.prog 191 c191 := ConOK.of (G := []) (H := []) .nil Tryz.func191 fun l ob r hc hob => by
  unfold c191 at hc
  split at hc
  · rename_i a b
    cases hc
    have h_0 : -1000000 ≤ a ∧ a ≤ 1000000 := hob _ (by simp)
    have h_1 : -1000000 ≤ b ∧ b ≤ 1000000 := hob _ (by simp)
    refine ⟨by kernel_rfl, fnVC_go (rs := [.tmp 2]) rfl rfl ?_⟩
    simp only [go_sem]
    simp only [forall_eq]
    rw [wrap_in (x := 0 - a) (by unfold inR; omega), wrap_in (x := 0 - b) (by unfold inR; omega), wrap_in (by unfold inR; omega)]
    unfold ab
    split <;> split <;> omega
  · cases hc
def c188 : Con
  | [.ro n 2 g] => some ([], .fn 219 [.rop [.ro n 2 g]])
  | _ => none
theorem con188 : ConOK Tryz.prog 188 c188 := ConOK.of (G := []) (H := []) .nil Tryz.func188 fun l ob r hc hob => by
  unfold c188 at hc
  split at hc
  · rename_i n g
    cases hc
    refine ⟨by kernel_rfl, fnVC_go (rs := [.tmp 2]) rfl rfl ?_⟩
    simp only [go_sem]
    trace_state
  · cases hc
def c122 : Con
  | [.v (.int .i64 n)] => some ([], bo (decide (16 ≤ n ∧ n ≤ 4096)))
  | _ => none
theorem con122 : ConOK Tryz.prog 122 c122 := ConOK.of (G := []) (H := []) .nil Tryz.func122 fun l ob r hc hob => by
  unfold c122 at hc
  split at hc
  · rename_i n
    cases hc
    refine ⟨by kernel_rfl, fnVC_go (rs := [.tmp 2]) rfl rfl ?_⟩
    simp only [go_sem]
    rw [Bool.eq_iff_iff]; simp
  · cases hc
/-- Small coordinates. -/
def lo (x : Int) : Prop := -4096 ≤ x ∧ x ≤ 4096
theorem lo_mul {x y : Int} (hx : lo x) (hy : lo y) : -16777216 ≤ x * y ∧ x * y ≤ 16777216 := by
  have := mul_bd (A := 4096) (B := 4096) (by omega) hx hy
  omega
def lo2 (x : Int) : Prop := -8192 ≤ x ∧ x ≤ 8192
theorem lo2_mul {x y : Int} (hx : lo2 x) (hy : lo2 y) : -67108864 ≤ x * y ∧ x * y ≤ 67108864 := by
  have := mul_bd (A := 8192) (B := 8192) (by omega) hx hy
  omega
/-- A corner of a shape is ars it has to be. -/
def cvx1 (ax ay bx byy cx cy : Int) : Prop := 0 < ax * byy - ay * bx ∧ 4 * (ab (bx - ax) + ab (byy - ay) + (ab (cx - bx) + ab (cy - byy))) ≤ (bx - ax) * (cy - byy) - (byy - ay) * (cx - bx)
/-- Corners are convex, ars those of shapes. -/
def cvxS (n : Nat) (X Y : Nat → Int) : Bool := decide (∀ i, i < n → (0 < X i * Y (nxt n i) - Y i * X (nxt n i) ∧ 4 * (ab (X (nxt n i) - X i) + ab (Y (nxt n i) - Y i) + (ab (X (nxt2 n i) - X (nxt n i)) + ab (Y (nxt2 n i) - Y (nxt n i)))) ≤ (X (nxt n i) - X i) * (Y (nxt2 n i) - Y (nxt n i)) - (Y (nxt n i) - Y i) * (X (nxt2 n i) - X (nxt n i))) ∧ ∀ j, j < n → j ≠ i → j ≠ nxt n i → 0 < (X (nxt n i) - X i) * (Y j - Y i) - (Y (nxt n i) - Y i) * (X j - X i))
def c123 : Con
  | [.ro n 2 g] => some ([spots n g, n ≤ 1000, ∀ i, i < n → lo (gx g 0 i) ∧ lo (gx g 1 i)], bo (cvxS n (gx g 0) (gx g 1)))
  | _ => none
theorem vc123 (n : Nat) (X Y : Nat → Int) (hn : n ≤ 1000) (hl : ∀ i, i < n → lo (X i) ∧ lo (Y i)) : fnVC Tryz.prog [(188, c188), (189, c189), (190, c190), (191, c191), (1000000 + 219, c219)] [(3, ⟨[(12, .made 10), (13, .made 11)], []⟩)] Tryz.f123 [.ro n 2 fun i => [i64 (X i), i64 (Y i)]] (· = bo (cvxS n X Y)) := by
  refine fnVC_go (rs := [.cell 2 4]) rfl rfl ?_
  simp only [go_sem, c188]
  have hg : spots n fun i => [i64 (X i), i64 (Y i)] := fun i hi => ⟨rfl, by have := (hl i hi).1; unfold lo at this; show inR (X i); unfold inR; omega, by have := (hl i hi).2; unfold lo at this; show inR (Y i); unfold inR; omega⟩
  obtain ⟨A, hA⟩ : ∃ A : Nat → Prop, A = fun i => 0 < X i * Y (nxt n i) - Y i * X (nxt n i) ∧ 4 * (ab (X (nxt n i) - X i) + ab (Y (nxt n i) - Y i) + (ab (X (nxt2 n i) - X (nxt n i)) + ab (Y (nxt2 n i) - Y (nxt n i)))) ≤ (X (nxt n i) - X i) * (Y (nxt2 n i) - Y (nxt n i)) - (Y (nxt n i) - Y i) * (X (nxt2 n i) - X (nxt n i)) := ⟨_, rfl⟩
  obtain ⟨T, hT⟩ : ∃ T : Nat → Nat → Int, T = fun i j => (X (nxt n i) - X i) * (Y j - Y i) - (Y (nxt n i) - Y i) * (X j - X i) := ⟨_, rfl⟩
  have hcv : cvxS n X Y = true ↔ ∀ i, i < n → A i ∧ ∀ j, j < n → j ≠ i → j ≠ nxt n i → 0 < T i j := by
    subst hA hT
    unfold cvxS
    rw [decide_eq_true_eq]
  refine rangeC_go (fun (i : Nat) => i ≤ n ∧ ∀ j, j < i → A j ∧ ∀ k, k < n → k ≠ j → k ≠ nxt n j → 0 < T j k) (fun i => i) (fun _ => []) [1, 0] [10, 3, 11, 12, 13, 14, 15, 16, 17, 18, 19, 20, 4, 5, 21, 22, 23, 24, 25, 26, 27, 28, 29, 30, 31, 32, 33, 34, 35, 36, 37, 38, 39, 40, 41, 42, 43, 44, 45, 7, 6, 46, 47, 48, 49, 50, 51, 52, 53, 54, 55, 56, 57, 58, 59, 60, 61, 62, 63, 64, 65, 66, 67, 68, 69, 41] 0 0 (N := n) (sq := cornerE n fun i => [i64 (X i), i64 (Y i)]) (ob := [spots n fun i => [i64 (X i), i64 (Y i)], n ≤ 9223372036854775800]) rfl (by intro p hp; simp only [List.mem_cons, List.mem_singleton, List.not_mem_nil, or_false] at hp; rcases hp with rfl | rfl; exact hg; omega) (by kernel_rfl) rfl (fun i _ => ⟨rfl, rfl⟩) ⟨Nat.zero_le _, fun j hj => by omega⟩ rfl ⟨[], ?_, ?_, ?_⟩ ?_ ?_
  · simp only [go_sem]
  · simp only [go_sem]
  · simp [goodNames, asg]
  · intro i hi hlt
    have hlt : i < n := hlt
    have l1 := nxt_lt hlt
    have l2 := nxt2_lt hlt
    have b1 := hl i hlt
    have b2 := hl _ l1
    have b3 := hl _ l2
    have m1 := lo_mul b1.1 b2.2
    have m2 := lo_mul b1.2 b2.1
    have d1 : lo2 (X (nxt n i) - X i) := by unfold lo at b1 b2; unfold lo2; omega
    have d2 : lo2 (Y (nxt n i) - Y i) := by unfold lo at b1 b2; unfold lo2; omega
    have d3 : lo2 (X (nxt2 n i) - X (nxt n i)) := by unfold lo at b3 b2; unfold lo2; omega
    have d4 : lo2 (Y (nxt2 n i) - Y (nxt n i)) := by unfold lo at b3 b2; unfold lo2; omega
    have m3 := lo2_mul d1 d4
    have m4 := lo2_mul d2 d3
    unfold lo2 at d1 d2 d3 d4
    have w1 : IntKind.i64.wrap (X (nxt n i) - X i) = X (nxt n i) - X i := wrap_in (by unfold inR; omega)
    have w2 : IntKind.i64.wrap (Y (nxt n i) - Y i) = Y (nxt n i) - Y i := wrap_in (by unfold inR; omega)
    have w3 : IntKind.i64.wrap (X (nxt2 n i) - X (nxt n i)) = X (nxt2 n i) - X (nxt n i) := wrap_in (by unfold inR; omega)
    have w4 : IntKind.i64.wrap (Y (nxt2 n i) - Y (nxt n i)) = Y (nxt2 n i) - Y (nxt n i) := wrap_in (by unfold inR; omega)
    have w5 : IntKind.i64.wrap (IntKind.i64.wrap (X i * Y (nxt n i)) - IntKind.i64.wrap (Y i * X (nxt n i))) = X i * Y (nxt n i) - Y i * X (nxt n i) := by
      rw [wrap_in (x := X i * Y (nxt n i)) (by unfold inR; omega), wrap_in (x := Y i * X (nxt n i)) (by unfold inR; omega), wrap_in (by unfold inR; omega)]
    have w6 : IntKind.i64.wrap (IntKind.i64.wrap ((X (nxt n i) - X i) * (Y (nxt2 n i) - Y (nxt n i))) - IntKind.i64.wrap ((Y (nxt n i) - Y i) * (X (nxt2 n i) - X (nxt n i)))) = (X (nxt n i) - X i) * (Y (nxt2 n i) - Y (nxt n i)) - (Y (nxt n i) - Y i) * (X (nxt2 n i) - X (nxt n i)) := by
      rw [wrap_in (x := (X (nxt n i) - X i) * _) (by unfold inR; omega), wrap_in (x := (Y (nxt n i) - Y i) * _) (by unfold inR; omega), wrap_in (by unfold inR; omega)]
    simp only [go_sem, cornerE, c189, c190, c191, w1, w2, w3, w4, w5, w6]
    intro z hz z1 hz1 z2 hz2 z3 hz3 z4 hz4 z5 hz5 z6 hz6
    subst hz hz1 hz2 hz3
    rw [w6] at hz5
    have ab1 : 0 ≤ ab (X (nxt n i) - X i) ∧ ab (X (nxt n i) - X i) ≤ 8192 := by unfold ab; split <;> omega
    have ab2 : 0 ≤ ab (Y (nxt n i) - Y i) ∧ ab (Y (nxt n i) - Y i) ≤ 8192 := by unfold ab; split <;> omega
    have ab3 : 0 ≤ ab (X (nxt2 n i) - X (nxt n i)) ∧ ab (X (nxt2 n i) - X (nxt n i)) ≤ 8192 := by unfold ab; split <;> omega
    have ab4 : 0 ≤ ab (Y (nxt2 n i) - Y (nxt n i)) ∧ ab (Y (nxt2 n i) - Y (nxt n i)) ≤ 8192 := by unfold ab; split <;> omega
    have hAi : A i ↔ 0 < z4 ∧ 4 * (ab (X (nxt n i) - X i) + ab (Y (nxt n i) - Y i) + (ab (X (nxt2 n i) - X (nxt n i)) + ab (Y (nxt2 n i) - Y (nxt n i)))) ≤ z5 := by rw [hA, hz4, hz5]
    refine ⟨fun _ => by omega, fun _ => by omega, fun z7 hz7 => ⟨fun _ => by omega, fun _ => by omega, fun z8 hz8 z9 hz9 => ⟨fun h => ?_, fun h => ?_⟩⟩⟩
    · rw [hz6, hz7, wrap_in (by unfold inR; omega)] at hz8
      rw [hz8, wrap_in (by unfold inR; omega)] at hz9
      refine false_of fun hc => ?_
      have := (hcv.1 hc i hlt).1
      rw [hAi] at this
      omega
    rw [hz6, hz7, wrap_in (by unfold inR; omega)] at hz8
    rw [hz8, wrap_in (by unfold inR; omega)] at hz9
    have hAi : A i := hAi.2 (by omega)
    clear hz4 hz5 hz6 hz7 hz8 hz9 w1 w2 w3 w4 w5 w6 m1 m2 m3 m4
    refine loopC_go (fun (j : Nat) => j ≤ n ∧ ∀ k, k < j → k ≠ i → k ≠ nxt n i → 0 < T i k) (fun j => n - j) (fun j => [(41, i64 j)]) (fun _ => []) [17, 16, 4, 1, 0] [42, 43, 44, 45, 7, 6, 46, 47, 48, 49, 50, 51, 52, 53, 54, 55, 56, 57, 58, 59, 60, 61, 62, 63, 64, 65, 66, 67, 68, 69, 41] 0 (by kernel_rfl) ?_ ⟨Nat.zero_le _, fun j hj => by omega⟩ ?_ ?_
    · intro x _; simp [goodNames]
    · simp only [go_sem]
    · intro j hj
      have hn0 : ((n : Int) = 0) = False := eq_false (by omega)
      simp only [go_sem, c189, c190, hn0]
      refine ⟨fun hjn => ?_, fun hjn => ?_⟩
      · have hjn' : j < n := by omega
        have b4 := hl j hjn'
        have d5 : lo2 (Y j - Y i) := by unfold lo at b1 b4; unfold lo2; omega
        have d6 : lo2 (X j - X i) := by unfold lo at b1 b4; unfold lo2; omega
        have m5 := lo2_mul (show lo2 _ from d1) d5
        have m6 := lo2_mul (show lo2 _ from d2) d6
        unfold lo2 at d5 d6
        have ew : IntKind.i64.wrap (IntKind.i64.wrap ((X (nxt n i) - X i) * IntKind.i64.wrap (Y j - Y i)) - IntKind.i64.wrap ((Y (nxt n i) - Y i) * IntKind.i64.wrap (X j - X i))) = T i j := by
          rw [wrap_in (x := Y j - Y i) (by unfold inR; omega), wrap_in (x := X j - X i) (by unfold inR; omega), wrap_in (x := _ * (Y j - Y i)) (by unfold inR; omega), wrap_in (x := _ * (X j - X i)) (by unfold inR; omega), wrap_in (by unfold inR; omega), hT]
        refine ⟨by omega, hjn, fun z hz z1 hz1 z2 hz2 => ?_⟩
        rw [hz, wrap_in (by unfold inR; omega), tmod_nxt hlt] at hz1
        rw [ew] at hz2
        subst hz1 hz2
        refine ⟨fun h => false_of fun hc => ?_, fun h z3 hz3 => ⟨j + 1, ⟨by omega, fun k hk k1 k2 => ?_⟩, by omega, ?_⟩⟩
        · have := (hcv.1 hc i hlt).2 j hjn' (by have := h.1.1; simp at this; omega) (by have := h.1.2; simp at this; omega)
          omega
        · by_cases e : k = j
          · subst e
            simp only [Bool.and_eq_false_iff, bne_eq_false_iff_eq, decide_eq_false_iff_not] at h
            omega
          · exact hj.2 k (by omega) k1 k2
        · rw [hz3, wrap_in (by unfold inR; omega)]; rfl
      · refine ⟨i + 1, ⟨by omega, fun j' hj' => ?_⟩, rfl, [], by simp [goodNames, asg]⟩
        by_cases e : j' = i
        · subst e; exact ⟨hAi, fun k hk k1 k2 => hj.2 k (by omega) k1 k2⟩
        · exact hi.2 j' (by omega)
  · intro i hi he
    have he : i = n := he
    subst he
    simp only [go_sem]
    exact (hcv.2 hi.2).symm
theorem con123 : ConOK Tryz.prog 123 c123 := ConOK.go (G := [(188, c188), (189, c189), (190, c190), (191, c191), (1000000 + 219, c219)]) (H := [(3, ⟨[(12, .made 10), (13, .made 11)], []⟩)]) (.cons con188 (.cons con189 (.cons con190 (.cons con191 (.seq seq219 .nil))))) Tryz.func123 fun l ob r hc hob => by
  unfold c123 at hc
  split at hc
  · rename_i n g
    cases hc
    have hs : spots n g := hob _ (by simp)
    exact ⟨[.ro n 2 fun i => [i64 (gx g 0 i), i64 (gx g 1 i)]], fun w I vs h => Rs_one (fun v => ro_alike fun i hi => (hs i hi).1) h, by kernel_rfl, vc123 n _ _ (hob _ (by simp)) (hob _ (by simp))⟩
  · cases hc
/-! ### The reference's -/
theorem tmod_cast {n k : Nat} (h : 0 < n) : Int.tmod (k : Int) n = ((k % n : Nat) : Int) := by
  rw [Int.tmod_eq_emod_of_nonneg (by omega), ← Int.natCast_emod]
theorem ix_all {n i j : Nat} (hi : i < n) (hj : j < n) (h1 : j ≠ i) (h2 : j ≠ nxt n i) : ∃ k, 2 ≤ k ∧ k < n ∧ (i + k) % n = j := by
  unfold nxt at h2
  by_cases h : i < j
  · refine ⟨j - i, ?_, by omega, ?_⟩
    · rw [if_pos (by omega)] at h2; omega
    · rw [show i + (j - i) = j by omega, Nat.mod_eq_of_lt hj]
  · refine ⟨n + j - i, ?_, by omega, ?_⟩
    · split at h2 <;> omega
    · rw [show i + (n + j - i) = j + n by omega, Nat.add_mod_right, Nat.mod_eq_of_lt hj]
theorem ix_ne {n i k : Nat} (hi : i < n) (h2 : 2 ≤ k) (hk : k < n) : (i + k) % n < n ∧ (i + k) % n ≠ i ∧ (i + k) % n ≠ nxt n i := by
  refine ⟨Nat.mod_lt _ (by omega), ?_⟩
  unfold nxt
  by_cases h : i + k < n
  · rw [Nat.mod_eq_of_lt h]
    refine ⟨by omega, ?_⟩
    split <;> omega
  · rw [Nat.mod_eq_sub_mod (by omega), Nat.mod_eq_of_lt (by omega)]
    refine ⟨by omega, ?_⟩
    split <;> omega
theorem vc135 (n : Nat) (X Y : Nat → Int) (hn : n ≤ 1000) (hl : ∀ i, i < n → lo (X i) ∧ lo (Y i)) : fnVC Tryz.prog [(203, c203), (204, c204), (205, c205)] [(5, ⟨[(21, .made 18), (22, .made 19), (23, .made 20)], [(10, [.made 18]), (17, [.made 18, .made 19])]⟩)] Tryz.f135 [.ro n 2 fun i => [i64 (X i), i64 (Y i)]] (· = bo (cvxS n X Y)) := by
  refine fnVC_go (rs := [.tmp 2]) rfl rfl ?_
  simp only [go_sem]
  obtain ⟨A, hA⟩ : ∃ A : Nat → Prop, A = fun i => 0 < X i * Y (nxt n i) - Y i * X (nxt n i) ∧ 4 * (ab (X (nxt n i) - X i) + ab (Y (nxt n i) - Y i) + (ab (X (nxt2 n i) - X (nxt n i)) + ab (Y (nxt2 n i) - Y (nxt n i)))) ≤ (X (nxt n i) - X i) * (Y (nxt2 n i) - Y (nxt n i)) - (Y (nxt n i) - Y i) * (X (nxt2 n i) - X (nxt n i)) := ⟨_, rfl⟩
  obtain ⟨T, hT⟩ : ∃ T : Nat → Nat → Int, T = fun i j => (X (nxt n i) - X i) * (Y j - Y i) - (Y (nxt n i) - Y i) * (X j - X i) := ⟨_, rfl⟩
  have hcv : cvxS n X Y = true ↔ ∀ i, i < n → A i ∧ ∀ j, j < n → j ≠ i → j ≠ nxt n i → 0 < T i j := by
    subst hA hT
    unfold cvxS
    rw [decide_eq_true_eq]
  refine loopC_go (fun (i : Nat) => i ≤ n ∧ ∀ j, j < i → A j ∧ ∀ k, k < n → k ≠ j → k ≠ nxt n j → 0 < T j k) (fun i => n - i) (fun i => [(4, i64 i)]) (fun _ => []) [] [11, 12, 13, 16, 17, 18, 19, 20, 21, 22, 23, 24, 25, 26, 27, 28, 29, 30, 31, 32, 33, 5, 6, 7, 34, 35, 36, 37, 38, 39, 40, 41, 42, 43, 44, 45, 46, 47, 48, 49, 50, 51, 52, 53, 54, 55, 56, 57, 2, 8, 58, 59, 60, 63, 64, 65, 66, 67, 68, 69, 70, 71, 72, 73, 74, 75, 76, 77, 2, 61, 62, 8, 14, 15, 4] 0 (by kernel_rfl) ?_ ⟨Nat.zero_le _, fun j hj => by omega⟩ ?_ ?_
  · intro x _; simp [goodNames]
  · simp only [go_sem]
  · intro i hi
    by_cases hlt : i < n
    · have hn0 : ((n : Int) = 0) = False := eq_false (by omega)
      have l1 := nxt_lt hlt
      have l2 := nxt2_lt hlt
      have b1 := hl i hlt
      have b2 := hl _ l1
      have b3 := hl _ l2
      have m1 := lo_mul b1.1 b2.2
      have m2 := lo_mul b1.2 b2.1
      have d1 : lo2 (X (nxt n i) - X i) := by unfold lo at b1 b2; unfold lo2; omega
      have d2 : lo2 (Y (nxt n i) - Y i) := by unfold lo at b1 b2; unfold lo2; omega
      have d3 : lo2 (X (nxt2 n i) - X (nxt n i)) := by unfold lo at b3 b2; unfold lo2; omega
      have d4 : lo2 (Y (nxt2 n i) - Y (nxt n i)) := by unfold lo at b3 b2; unfold lo2; omega
      have m3 := lo2_mul d1 d4
      have m4 := lo2_mul d2 d3
      unfold lo2 at d1 d2 d3 d4
      have w1 : IntKind.i64.wrap (X (nxt n i) - X i) = X (nxt n i) - X i := wrap_in (by unfold inR; omega)
      have w2 : IntKind.i64.wrap (Y (nxt n i) - Y i) = Y (nxt n i) - Y i := wrap_in (by unfold inR; omega)
      have w3 : IntKind.i64.wrap (X (nxt2 n i) - X (nxt n i)) = X (nxt2 n i) - X (nxt n i) := wrap_in (by unfold inR; omega)
      have w4 : IntKind.i64.wrap (Y (nxt2 n i) - Y (nxt n i)) = Y (nxt2 n i) - Y (nxt n i) := wrap_in (by unfold inR; omega)
      have w5 : IntKind.i64.wrap (X i * Y (nxt n i) - Y i * X (nxt n i)) = X i * Y (nxt n i) - Y i * X (nxt n i) := wrap_in (by unfold inR; omega)
      have w6 : IntKind.i64.wrap ((X (nxt n i) - X i) * (Y (nxt2 n i) - Y (nxt n i)) - (Y (nxt n i) - Y i) * (X (nxt2 n i) - X (nxt n i))) = (X (nxt n i) - X i) * (Y (nxt2 n i) - Y (nxt n i)) - (Y (nxt n i) - Y i) * (X (nxt2 n i) - X (nxt n i)) := wrap_in (by unfold inR; omega)
      have v1 : IntKind.i64.wrap ((i : Int) + 1) = i + 1 := wrap_in (by unfold inR; omega)
      have v2 : IntKind.i64.wrap ((i : Int) + 2) = i + 2 := wrap_in (by unfold inR; omega)
      simp only [go_sem, hn0, c203, c204, c205]
      refine ⟨fun _ => ?_, fun h => absurd (by omega) h⟩
      refine ⟨by omega, by omega, fun z hz z1 hz1 => ?_⟩
      rw [hz, v1, tmod_nxt hlt] at hz1
      subst hz1
      refine ⟨by omega, by omega, fun z2 hz2 z3 hz3 => ?_⟩
      rw [hz2, v2, tmod_nxt2 hlt] at hz3
      subst hz3
      refine ⟨by omega, by omega, ?_⟩
      simp only [Int.toNat_natCast, w1, w2, w3, w4, w5, w6]
      intro z4 hz4 z5 hz5 z6 hz6
      have ab1 : 0 ≤ ab (X (nxt n i) - X i) ∧ ab (X (nxt n i) - X i) ≤ 8192 := by unfold ab; split <;> omega
      have ab2 : 0 ≤ ab (Y (nxt n i) - Y i) ∧ ab (Y (nxt n i) - Y i) ≤ 8192 := by unfold ab; split <;> omega
      have ab3 : 0 ≤ ab (X (nxt2 n i) - X (nxt n i)) ∧ ab (X (nxt2 n i) - X (nxt n i)) ≤ 8192 := by unfold ab; split <;> omega
      have ab4 : 0 ≤ ab (Y (nxt2 n i) - Y (nxt n i)) ∧ ab (Y (nxt2 n i) - Y (nxt n i)) ≤ 8192 := by unfold ab; split <;> omega
      have hAi : A i ↔ 0 < z4 ∧ 4 * (ab (X (nxt n i) - X i) + ab (Y (nxt n i) - Y i) + (ab (X (nxt2 n i) - X (nxt n i)) + ab (Y (nxt2 n i) - Y (nxt n i)))) ≤ z5 := by rw [hA, hz4, hz5]
      refine ⟨fun _ => by omega, fun _ => by omega, fun z7 hz7 => ⟨fun _ => by omega, fun _ => by omega, fun z8 hz8 z9 hz9 => ⟨fun h => ?_, fun h => ?_⟩⟩⟩
      · rw [hz6, hz7, wrap_in (by unfold inR; omega)] at hz8
        rw [hz8, wrap_in (by unfold inR; omega)] at hz9
        refine false_of fun hc => ?_
        have := (hcv.1 hc i hlt).1
        rw [hAi] at this
        omega
      rw [hz6, hz7, wrap_in (by unfold inR; omega)] at hz8
      rw [hz8, wrap_in (by unfold inR; omega)] at hz9
      have hAi : A i := hAi.2 (by omega)
      clear hz4 hz5 hz6 hz7 hz8 hz9 w5 w6 m1 m2 m3 m4
      refine loopC_go (fun (k : Nat) => (2 ≤ k ∧ k ≤ max n 2) ∧ ∀ k', 2 ≤ k' → k' < k → 0 < T i ((i + k') % n)) (fun k => max n 2 - k) (fun k => [(8, i64 k)]) (fun _ => []) [28, 27, 26] [58, 59, 60, 63, 64, 65, 66, 67, 68, 69, 70, 71, 72, 73, 74, 75, 76, 77, 2, 61, 62, 8] 2 (by kernel_rfl) ?_ ⟨by omega, fun j hj hj2 => by omega⟩ ?_ ?_
      · intro x _; simp [goodNames]
      · simp only [go_sem]
      · intro k hk
        simp only [go_sem, hn0, c203, c204]
        refine ⟨fun hkn => ?_, fun hkn => ?_⟩
        · have hk2 := hk.1.1
          · have hkn' : k < n := by omega
            obtain ⟨j1, j2, j3⟩ := ix_ne hlt hk2 hkn'
            have b4 := hl _ j1
            have d5 : lo2 (Y ((i + k) % n) - Y i) := by unfold lo at b1 b4; unfold lo2; omega
            have d6 : lo2 (X ((i + k) % n) - X i) := by unfold lo at b1 b4; unfold lo2; omega
            have m5 := lo2_mul (show lo2 _ from d1) d5
            have m6 := lo2_mul (show lo2 _ from d2) d6
            unfold lo2 at d5 d6
            intro za hza zb hzb zc hzc zd hzd
            rw [hzc, wrap_in (by unfold inR; omega), show (i : Int) + k = ((i + k : Nat) : Int) from rfl, tmod_cast (by omega)] at hzd
            subst hzd
            refine ⟨by omega, by omega, fun ze hze zf hzf zg hzg => ?_⟩
            rw [Int.toNat_natCast] at hze hzf
            have ew : zg = T i ((i + k) % n) := by
              rw [hzg, hza, hzb, hze, hzf, w1, w2, wrap_in (x := Y ((i + k) % n) - Y i) (by unfold inR; omega), wrap_in (x := X ((i + k) % n) - X i) (by unfold inR; omega), wrap_in (by unfold inR; omega), hT]
            rw [ew]
            refine ⟨fun h => false_of fun hc => ?_, fun h z3 hz3 => ⟨k + 1, ⟨by omega, fun k' hk' k1 => ?_⟩, by omega, ?_⟩⟩
            · have := (hcv.1 hc i hlt).2 _ j1 j2 j3
              omega
            · by_cases e : k' = k
              · subst e; omega
              · exact hk.2 k' hk' (by omega)
            · rw [hz3, wrap_in (by unfold inR; omega)]; rfl
        · have hkn' : n ≤ k := by omega
          refine fun z hz => ⟨i + 1, ⟨by omega, fun j' hj' => ?_⟩, by omega, ?_⟩
          · by_cases e : j' = i
            · subst e
              refine ⟨hAi, fun k' k1 k2 k3 => ?_⟩
              obtain ⟨q, q1, q2, q3⟩ := ix_all hlt k1 k2 k3
              rw [← q3]
              exact hk.2 q q1 (by omega)
            · exact hi.2 j' (by omega)
          · rw [hz, v1]; rfl
    · simp only [go_sem]
      refine ⟨fun h => absurd (by omega) hlt, fun _ => ?_⟩
      have he : i = n := by omega
      subst he
      exact (hcv.2 hi.2).symm
theorem con135 : ConOK Tryz.prog 135 c123 := ConOK.go (G := [(203, c203), (204, c204), (205, c205)]) (H := [(5, ⟨[(21, .made 18), (22, .made 19), (23, .made 20)], [(10, [.made 18]), (17, [.made 18, .made 19])]⟩)]) (.cons con203 (.cons con204 (.cons con205 .nil))) Tryz.func135 fun l ob r hc hob => by
  unfold c123 at hc
  split at hc
  · rename_i n g
    cases hc
    have hs : spots n g := hob _ (by simp)
    exact ⟨[.ro n 2 fun i => [i64 (gx g 0 i), i64 (gx g 1 i)]], fun w I vs h => Rs_one (fun v => ro_alike fun i hi => (hs i hi).1) h, by kernel_rfl, vc135 n _ _ (hob _ (by simp)) (hob _ (by simp))⟩
  · cases hc
end Go.Ax
end

section
/-
  Shapes: their errors.
-/
set_option linter.unusedVariables false
set_option linter.unusedSimpArgs false
set_option maxHeartbeats 4000000
set_option maxRecDepth 100000
namespace Go.Ax
open Go.Proofs
instance {x : Int} : Decidable (lo x) := by unfold lo; infer_instance
/-- The error of a shape. -/
def chkS (k r w t : Int) (n : Nat) (X Y : Nat → Int) : Int :=
  if k = 1 then (if w ≠ 0 ∨ t ≠ 0 ∨ n ≠ 0 then 4 else if 16 ≤ r ∧ r ≤ 4096 then 0 else 3)
  else if k = 2 then (if r ≠ 0 ∨ n ≠ 0 then 4 else if (16 ≤ w ∧ w ≤ 4096) ∧ (16 ≤ t ∧ t ≤ 4096) then 0 else 3)
  else if k = 3 then (if r ≠ 0 ∨ w ≠ 0 ∨ t ≠ 0 ∨ n < 3 ∨ 8 < n then 4 else if ∀ i, i < n → lo (X i) ∧ lo (Y i) then (if cvxS n X Y = true then 0 else 5) else 3)
  else 8
abbrev shapeA (k r w t : Int) (n : Nat) (g : Nat → List AV) : AV := .agg [i64 k, i64 r, i64 w, i64 t, .ro n 2 g]
theorem vc57 (k r w t : Int) (n : Nat) (X Y : Nat → Int) (hX : ∀ i, i < n → inR (X i) ∧ inR (Y i)) (hn : n ≤ 9223372036854775806) : fnVC Tryz.prog [(122, c122), (123, c123)] [] Tryz.f57 [shapeA k r w t n fun i => [i64 (X i), i64 (Y i)]] (· = i64 (chkS k r w t n X Y)) := by
  refine fnVC_go (rs := [.tmp 2]) rfl rfl ?_
  have hg : spots n fun i => [i64 (X i), i64 (Y i)] := fun i hi => ⟨rfl, hX i hi⟩
  have eX : gx (fun i => [i64 (X i), i64 (Y i)]) 0 = X := rfl
  have eY : gx (fun i => [i64 (X i), i64 (Y i)]) 1 = Y := rfl
  simp only [go_sem, c122, c123]
  refine ⟨fun hk => ?_, fun hk => ⟨fun hk2 => ?_, fun hk2 => ⟨fun hk3 => ?_, fun hk3 => ?_⟩⟩⟩
  · have hk : k = 1 := by simpa using hk
    refine ⟨fun h => ?_, fun h z hz => ⟨fun h2 => ?_, fun h2 => ?_⟩⟩
    · unfold chkS; rw [if_pos hk, if_pos (by simp only [bne_iff_ne] at h; omega)]
    · unfold chkS; rw [if_pos hk, if_neg (by simp at h; omega), if_neg (by rw [hz] at h2; exact of_decide_eq_false h2)]
    · unfold chkS; rw [if_pos hk, if_neg (by simp at h; omega), if_pos (by rw [hz] at h2; exact of_decide_eq_true h2)]
  · have hk : ¬ k = 1 := by simpa using hk
    have hk2 : k = 2 := by simpa using hk2
    refine ⟨fun h => ?_, fun h z hz z1 hz1 => ⟨fun h2 => ?_, fun h2 => ?_⟩⟩
    · unfold chkS; rw [if_neg hk, if_pos hk2, if_pos (by simp only [bne_iff_ne] at h; omega)]
    · unfold chkS; rw [if_neg hk, if_pos hk2, if_neg (by simp at h; omega), if_neg (by
        rintro ⟨p, q⟩
        rw [hz, hz1, decide_eq_true p, decide_eq_true q] at h2
        simp at h2)]
    · unfold chkS; rw [if_neg hk, if_pos hk2, if_neg (by simp at h; omega), if_pos (by
        rw [hz, hz1] at h2
        exact ⟨of_decide_eq_true h2.1, of_decide_eq_true h2.2⟩)]
  · have hk : ¬ k = 1 := by simpa using hk
    have hk2 : ¬ k = 2 := by simpa using hk2
    have hk3 : k = 3 := by simpa using hk3
    refine ⟨fun h => ?_, fun h => ?_⟩
    · unfold chkS; rw [if_neg hk, if_neg hk2, if_pos hk3, if_pos (by simp only [bne_iff_ne] at h; omega)]
    have h4 : ¬ (r ≠ 0 ∨ w ≠ 0 ∨ t ≠ 0 ∨ n < 3 ∨ 8 < n) := by simp at h; omega
    have e0 : chkS k r w t n X Y = if ∀ i, i < n → lo (X i) ∧ lo (Y i) then (if cvxS n X Y = true then 0 else 5) else 3 := by unfold chkS; rw [if_neg hk, if_neg hk2, if_pos hk3, if_neg h4]
    rw [e0]
    refine loopC_go (fun (i : Nat) => i ≤ n ∧ ∀ j, j < i → lo (X j) ∧ lo (Y j)) (fun i => n - i) (fun i => [(78, i64 i)]) (fun _ => []) [0] [79, 80, 81, 4, 82, 83, 84, 85, 86, 87, 88, 89, 90, 91, 92, 93, 94, 95, 2, 96, 78] 0 (by kernel_rfl) ?_ ⟨Nat.zero_le _, fun j hj => by omega⟩ ?_ ?_
    · intro x _; simp [goodNames]
    · simp only [go_sem]
    · intro i hi
      simp only [go_sem, c123, eX, eY]
      refine ⟨fun hin => ⟨by omega, hin, fun z hz z1 hz1 => ⟨fun h5 => ?_, fun h5 z2 hz2 => ⟨i + 1, ⟨by omega, fun j hj => ?_⟩, by omega, ?_⟩⟩⟩, fun hin z hz => ⟨hg, by omega, fun j hj => hi.2 j (by omega), fun h5 => ?_, fun h5 => ?_⟩⟩
      · rw [if_neg fun hc => ?_]
        have := hc i (by omega)
        unfold lo at this
        omega
      · by_cases e : j = i
        · subst e; unfold lo; omega
        · exact hi.2 j (by omega)
      · rw [hz2, wrap_in (by unfold inR; omega)]; rfl
      · rw [if_pos (fun j hj => hi.2 j (by omega)), if_neg (by rw [← hz, h5]; decide)]
      · rw [if_pos (fun j hj => hi.2 j (by omega)), if_pos (by rw [← hz, h5])]
  · have hk : ¬ k = 1 := by simpa using hk
    have hk2 : ¬ k = 2 := by simpa using hk2
    have hk3 : ¬ k = 3 := by simpa using hk3
    unfold chkS; rw [if_neg hk, if_neg hk2, if_neg hk3]
theorem Rs_shape {w : World} {ρ : Env} {k x y r : Int} {n : Nat} {g : Nat → List AV} (hs : spots n g) (v : Value) (h : R w ρ (shapeA k x y r n g) v) : R w ρ (shapeA k x y r n fun i => [i64 (gx g 0 i), i64 (gx g 1 i)]) v := Rs_form hs v h
def c57 : Con
  | [.agg [.v (.int .i64 k), .v (.int .i64 r), .v (.int .i64 w), .v (.int .i64 t), .ro n 2 g]] => some ([spots n g, n ≤ 9223372036854775806], i64 (chkS k r w t n (gx g 0) (gx g 1)))
  | _ => none
theorem con57 : ConOK Tryz.prog 57 c57 := ConOK.go (G := [(122, c122), (123, c123)]) (H := []) (.cons con122 (.cons con123 .nil)) Tryz.func57 fun l ob rr hc hob => by
  unfold c57 at hc
  split at hc
  · rename_i k r w t n g
    cases hc
    have hs : spots n g := hob _ (by simp)
    exact ⟨[shapeA k r w t n fun i => [i64 (gx g 0 i), i64 (gx g 1 i)]], fun w I vs h => Rs_one (Rs_shape hs) h, by kernel_rfl, vc57 k r w t n _ _ (fun i hi => (hs i hi).2) (hob _ (by simp))⟩
  · cases hc
theorem vc64 (k r w t : Int) (n : Nat) (X Y : Nat → Int) (hX : ∀ i, i < n → inR (X i) ∧ inR (Y i)) (hn : n ≤ 9223372036854775806) : fnVC Tryz.prog [(133, c133), (134, c134), (135, c123)] [] Tryz.f64 [shapeA k r w t n fun i => [i64 (X i), i64 (Y i)]] (· = i64 (chkS k r w t n X Y)) := by
  refine fnVC_go (rs := [.tmp 2]) rfl rfl ?_
  have hg : spots n fun i => [i64 (X i), i64 (Y i)] := fun i hi => ⟨rfl, hX i hi⟩
  have eX : gx (fun i => [i64 (X i), i64 (Y i)]) 0 = X := rfl
  have eY : gx (fun i => [i64 (X i), i64 (Y i)]) 1 = Y := rfl
  simp only [go_sem, c133, c134, c123]
  refine ⟨fun hk => ?_, fun hk => ⟨fun hk2 => ?_, fun hk2 => ⟨fun hk3 => ?_, fun hk3 => ?_⟩⟩⟩
  · have hk : k = 1 := by simpa using hk
    refine ⟨fun h => ?_, fun h z hz => ⟨fun h2 => ?_, fun h2 => ?_⟩⟩
    · unfold chkS; rw [if_pos hk, if_pos (by simp only [bne_iff_ne] at h; omega)]
    · unfold chkS; rw [if_pos hk, if_neg (by simp at h; omega), if_neg (by rw [hz] at h2; exact of_decide_eq_false h2)]
    · unfold chkS; rw [if_pos hk, if_neg (by simp at h; omega), if_pos (by rw [hz] at h2; exact of_decide_eq_true h2)]
  · have hk : ¬ k = 1 := by simpa using hk
    have hk2 : k = 2 := by simpa using hk2
    refine ⟨fun h => ?_, fun h z hz z1 hz1 => ⟨fun h2 => ?_, fun h2 => ?_⟩⟩
    · unfold chkS; rw [if_neg hk, if_pos hk2, if_pos (by simp only [bne_iff_ne] at h; omega)]
    · unfold chkS; rw [if_neg hk, if_pos hk2, if_neg (by simp at h; omega), if_neg (by
        rintro ⟨p, q⟩
        rw [hz, hz1, decide_eq_true p, decide_eq_true q] at h2
        simp at h2)]
    · unfold chkS; rw [if_neg hk, if_pos hk2, if_neg (by simp at h; omega), if_pos (by
        rw [hz, hz1] at h2
        exact ⟨of_decide_eq_true h2.1, of_decide_eq_true h2.2⟩)]
  · have hk : ¬ k = 1 := by simpa using hk
    have hk2 : ¬ k = 2 := by simpa using hk2
    have hk3 : k = 3 := by simpa using hk3
    refine ⟨fun h => ?_, fun h => ?_⟩
    · unfold chkS; rw [if_neg hk, if_neg hk2, if_pos hk3, if_pos (by simp only [bne_iff_ne] at h; omega)]
    have h4 : ¬ (r ≠ 0 ∨ w ≠ 0 ∨ t ≠ 0 ∨ n < 3 ∨ 8 < n) := by simp at h; omega
    have e0 : chkS k r w t n X Y = if ∀ i, i < n → lo (X i) ∧ lo (Y i) then (if cvxS n X Y = true then 0 else 5) else 3 := by unfold chkS; rw [if_neg hk, if_neg hk2, if_pos hk3, if_neg h4]
    rw [e0]
    refine loopC_go (fun (i : Nat) => i ≤ n ∧ ∀ j, j < i → lo (X j) ∧ lo (Y j)) (fun i => n - i) (fun i => [(3, i64 i)]) (fun _ => []) [0] [74, 75, 76, 77, 78, 81, 82, 83, 84, 85, 86, 87, 88, 89, 90, 91, 92, 93, 94, 95, 96, 97, 98, 2, 79, 80, 3] 0 (by kernel_rfl) ?_ ⟨Nat.zero_le _, fun j hj => by omega⟩ ?_ ?_
    · intro x _; simp [goodNames]
    · simp only [go_sem]
    · intro i hi
      simp only [go_sem, c134, c123, eX, eY]
      refine ⟨fun hin => ⟨by omega, hin, fun z hz => ⟨fun _ => by omega, fun _ => hin, fun z1 hz1 => ⟨fun h5 => ?_, fun h5 z2 hz2 => ⟨i + 1, ⟨by omega, fun j hj => ?_⟩, by omega, ?_⟩⟩⟩⟩, fun hin z hz => ⟨hg, by omega, fun j hj => hi.2 j (by omega), fun h5 => ?_, fun h5 => ?_⟩⟩
      · rw [if_neg fun hc => ?_]
        have := hc i (by omega)
        unfold lo at this
        rw [hz, hz1] at h5
        rcases h5 with h5 | h5
        · exact absurd (of_decide_eq_false h5) (by simp only [Decidable.not_not]; exact this.1)
        · exact absurd (of_decide_eq_false h5) (by simp only [Decidable.not_not]; exact this.2)
      · by_cases e : j = i
        · subst e
          rw [hz, hz1] at h5
          exact ⟨of_decide_eq_true h5.1, of_decide_eq_true h5.2⟩
        · exact hi.2 j (by omega)
      · rw [hz2, wrap_in (by unfold inR; omega)]; rfl
      · rw [if_pos (fun j hj => hi.2 j (by omega)), if_neg (by rw [← hz, h5]; decide)]
      · rw [if_pos (fun j hj => hi.2 j (by omega)), if_pos (by rw [← hz, h5])]
  · have hk : ¬ k = 1 := by simpa using hk
    have hk2 : ¬ k = 2 := by simpa using hk2
    have hk3 : ¬ k = 3 := by simpa using hk3
    unfold chkS; rw [if_neg hk, if_neg hk2, if_neg hk3]
theorem con64 : ConOK Tryz.prog 64 c57 := ConOK.go (G := [(133, c133), (134, c134), (135, c123)]) (H := []) (.cons con133 (.cons con134 (.cons con135 .nil))) Tryz.func64 fun l ob rr hc hob => by
  unfold c57 at hc
  split at hc
  · rename_i k r w t n g
    cases hc
    have hs : spots n g := hob _ (by simp)
    exact ⟨[shapeA k r w t n fun i => [i64 (gx g 0 i), i64 (gx g 1 i)]], fun w I vs h => Rs_one (Rs_shape hs) h, by kernel_rfl, vc64 k r w t n _ _ (fun i hi => (hs i hi).2) (hob _ (by simp))⟩
  · cases hc
end Go.Ax
end

section
/-
  Shapes placed: the small parts.
-/
set_option linter.unusedVariables false
set_option linter.unusedSimpArgs false
set_option maxHeartbeats 4000000
set_option maxRecDepth 100000
namespace Go.Ax
open Go.Proofs
def c59 : Con
  | [.agg [.v (.int .i64 a), .v (.bool e)]] => some ([inR a], bo (! (whF a e || decide (17592186044416 < ab (whV a)))))
  | _ => none
theorem con59 : ConOK Tryz.prog 59 c59 := ConOK.of (G := [(126, c126), (127, c127), (88, c88)]) (H := []) (.cons con126 (.cons con127 (.cons con88 .nil))) Tryz.func59 fun l ob r hc hob => by
  unfold c59 at hc
  split at hc
  · rename_i a e
    cases hc
    have h_0 : inR a := hob _ (by simp)
    refine ⟨by kernel_rfl, fnVC_go (rs := [.tmp 2]) rfl rfl ?_⟩
    simp only [go_sem, c126, c127, c88]
    simp only [forall_eq]
    refine ⟨h_0, fun _ => by unfold inR; omega, ?_⟩
    have e1 : whV (ab (whV a)) = ab (whV a) := whV_of (by have := whV_rg h_0; unfold rg at *; unfold ab; split <;> omega)
    have e2 : whV (ftV (4096 * 4294967296)) = 17592186044416 := by decide
    rw [e1, e2, Bool.eq_iff_iff]
    simp [cmpS]
    intro _
    split
    · simp; omega
    · split
      · simp; omega
      · simp; omega
  · cases hc
def c60 : Con
  | [.agg [.v (.int .i64 a), .v (.bool e), .v (.int .i64 b), .v (.bool f)]] => some ([inR a, inR b], .agg [i64 (spV (a, e)), i64 (spV (b, f))])
  | _ => none
theorem con60 : ConOK Tryz.prog 60 c60 := ConOK.of (G := [(127, c127), (128, c128), (129, c129)]) (H := [(2, ⟨[(11, .slot 2)], []⟩)]) (.cons con127 (.cons con128 (.cons con129 .nil))) Tryz.func60 fun l ob r hc hob => by
  unfold c60 at hc
  split at hc
  · rename_i a e b f
    cases hc
    have h_0 : inR a := hob _ (by simp)
    have h_1 : inR b := hob _ (by simp)
    refine ⟨by kernel_rfl, fnVC_go (rs := [.cell 2 34]) rfl rfl ?_⟩
    simp only [go_sem, c127, c128, c129]
    simp only [forall_eq]
    exact ⟨h_0, rg_inR (ftV_rg _), rg_inR (ftV_rg _), h_1, rg_inR (ftV_rg _), rg_inR (ftV_rg _), rfl⟩
  · cases hc
theorem vfS_one {x y : Int} {e f : Bool} : vfS 1 (rowsOf 4 [i64 x, bo e, i64 y, bo f]) = (whF x e || whF y f) := by
  unfold vfS anyB anyB
  rw [Bool.false_or]; rfl
def c58 : Con
  | [.agg [.v (.int .i64 x), .v (.bool e), .v (.int .i64 y), .v (.bool f)]] => some ([inR x, inR y], i64 (if (whF x e = true ∨ whF y f = true) ∨ (65536 < (nDot (x, e) (x, e) (y, f) (y, f)).1 - 4294967296 ∨ 65536 < 4294967296 - (nDot (x, e) (x, e) (y, f) (y, f)).1) then 3 else 0))
  | _ => none
theorem con58 : ConOK Tryz.prog 58 c58 := ConOK.of (G := [(124, c124), (125, c125)]) (H := []) (.cons con124 (.cons con125 .nil)) Tryz.func58 fun l ob r hc hob => by
  unfold c58 at hc
  split at hc
  · rename_i x e y f
    cases hc
    have h_0 : inR x := hob _ (by simp)
    have h_1 : inR y := hob _ (by simp)
    refine ⟨by kernel_rfl, fnVC_go (rs := [.tmp 2]) rfl rfl ?_⟩
    simp only [go_sem, c124, c125]
    simp only [forall_eq, vfS_one]
    have k0 : 0 ≤ (whV x * whV x + whV y * whV y).tdiv 4294967296 := Int.tdiv_nonneg (by have := sq_nonneg (a := whV x); have := sq_nonneg (a := whV y); omega) (by omega)
    have k1 : 0 ≤ ftV ((whV x * whV x + whV y * whV y).tdiv 4294967296) ∧ ftV ((whV x * whV x + whV y * whV y).tdiv 4294967296) ≤ 9223372036854775807 := by unfold ftV; (repeat' split) <;> omega
    have eD : (nDot (x, e) (x, e) (y, f) (y, f)).1 = ftV ((whV x * whV x + whV y * whV y).tdiv 4294967296) := rfl
    rw [eD]
    generalize ftV ((whV x * whV x + whV y * whV y).tdiv 4294967296) = n at *
    rw [wrap_in (x := n - 4294967296) (by unfold inR; omega)]
    refine ⟨⟨h_0, h_1⟩, fun h => ?_, fun h => ⟨h_0, h_0, h_1, h_1, fun h2 => ?_, fun h2 => ?_⟩⟩
    · rw [if_pos (.inl (by simpa using h))]
    · rw [if_pos (.inr (by omega))]
    · rw [if_neg (by
        rintro (k | k)
        · have : (whF x e || whF y f) = true := by simpa using k
          rw [h] at this; cases this
        · omega)]
  · cases hc
def k131 : Con
  | [.agg [.v (.int .i64 x), .v (.bool e), .v (.int .i64 y), .v (.bool f)], .agg [.v (.int .i64 z), .v (.bool g), .v (.int .i64 t), .v (.bool h)]] => some ([inR x, inR y, inR z, inR t], veA (vApply ((x, e), (y, f)) ((z, g), (t, h))))
  | _ => none
theorem kon131 : ConOK Tryz.prog 131 k131 := ConOK.of (G := [(125, c125), (179, c179)]) (H := [(1, ⟨[(20, .slot 4)], []⟩)]) (.cons con125 (.cons con179 .nil)) Tryz.func131 fun l ob r hc hob => by
  unfold k131 at hc
  split at hc
  · rename_i x e y f z g t h
    cases hc
    have h_0 : inR x := hob _ (by simp)
    have h_1 : inR y := hob _ (by simp)
    have h_2 : inR z := hob _ (by simp)
    have h_3 : inR t := hob _ (by simp)
    refine ⟨by kernel_rfl, fnVC_go (rs := [.cell 4 28]) rfl rfl ?_⟩
    simp only [go_sem, c125, c179]
    simp only [forall_eq]
    exact ⟨h_1, h_0, h_2, rg_inR (by have := whV_rg h_1; unfold rg at *; omega), h_3, h_1, h_2, h_0, h_3, rfl⟩
  · cases hc
def k62 : Con
  | [.agg [.v (.int .i64 x), .v (.bool e), .v (.int .i64 y), .v (.bool f), .v (.int .i64 c), .v (.bool o), .v (.int .i64 s), .v (.bool p)], .agg [.v (.int .i64 z), .v (.bool g), .v (.int .i64 t), .v (.bool h)]] => some ([inR x, inR y, inR c, inR s, inR z, inR t], veA (vAdd ((x, e), (y, f)) (vApply ((c, o), (s, p)) ((z, g), (t, h)))))
  | _ => none
theorem kon62 : ConOK Tryz.prog 62 k62 := ConOK.of (G := [(130, k130), (131, k131)]) (H := [(1, ⟨[(8, .slot 4)], []⟩)]) (.cons kon130 (.cons kon131 .nil)) Tryz.func62 fun l ob r hc hob => by
  unfold k62 at hc
  split at hc
  · rename_i x e y f c o s p z g t h
    cases hc
    have h_0 : inR x := hob _ (by simp)
    have h_1 : inR y := hob _ (by simp)
    have h_2 : inR c := hob _ (by simp)
    have h_3 : inR s := hob _ (by simp)
    have h_4 : inR z := hob _ (by simp)
    have h_5 : inR t := hob _ (by simp)
    refine ⟨by kernel_rfl, fnVC_go (rs := [.cell 4 28]) rfl rfl ?_⟩
    simp only [go_sem, k130, k131]
    exact ⟨h_2, h_3, h_4, h_5, ⟨h_0, h_1⟩, rfl⟩
  · cases hc
def k68 : Con
  | [.agg [.v (.int .i64 x), .v (.bool e), .v (.int .i64 y), .v (.bool f), .v (.int .i64 c), .v (.bool o), .v (.int .i64 s), .v (.bool p)], .agg [.v (.int .i64 z), .v (.bool g), .v (.int .i64 t), .v (.bool h)]] => some ([inR x, inR y, inR c, inR s, inR z, inR t], veA (vAdd ((x, e), (y, f)) (vApply ((c, o), (s, p)) ((z, g), (t, h)))))
  | _ => none
theorem kon68 : ConOK Tryz.prog 68 k68 := ConOK.of (G := [(138, k138), (139, k139)]) (H := [(1, ⟨[(8, .slot 4)], []⟩)]) (.cons kon138 (.cons kon139 .nil)) Tryz.func68 fun l ob r hc hob => by
  unfold k68 at hc
  split at hc
  · rename_i x e y f c o s p z g t h
    cases hc
    have h_0 : inR x := hob _ (by simp)
    have h_1 : inR y := hob _ (by simp)
    have h_2 : inR c := hob _ (by simp)
    have h_3 : inR s := hob _ (by simp)
    have h_4 : inR z := hob _ (by simp)
    have h_5 : inR t := hob _ (by simp)
    refine ⟨by kernel_rfl, fnVC_go (rs := [.cell 4 28]) rfl rfl ?_⟩
    simp only [go_sem, k138, k139]
    exact ⟨h_2, h_3, h_4, h_5, ⟨h_0, h_1⟩, rfl⟩
  · cases hc
end Go.Ax
end

section
/-
  The corners of a shape.
-/
set_option linter.unusedVariables false
set_option linter.unusedSimpArgs false
set_option maxHeartbeats 4000000
set_option maxRecDepth 100000
namespace Go.Ax
open Go.Proofs
/-- Whatever is ars the one says is ars the other says. -/
def alk (r r' : AV) : Prop := ∀ w ρ v, R w ρ r' v → R w ρ r v
theorem ConOK.goR {P : Program} {G : Ctx} {H : Hots} (hG : CtxOK P G) {f : FuncId} {fn : Func} (hf : P.funcs[f]? = some fn) {c : Con}
    (h : ∀ es1 ob r, c es1 = some (ob, r) → (∀ p ∈ ob, p) → ∃ es, (∀ w I vs, Rs w (.ext I) es1 vs → Rs w (.ext I) es vs) ∧ funcOK P H fn es.length = true ∧ fnVC P G H fn es (alk r)) : ConOK P f c := by
  intro es0 ob r hc hob I w vs hI hRs
  obtain ⟨es, h0, h1, h2⟩ := h es0 ob r hc hob
  obtain ⟨k1, k2⟩ := fn_sound hG hf h1 h2 I w vs hI (h0 w I vs hRs)
  exact .inr ⟨k1, k2.mono fun e w' ⟨v, he, ⟨r', hr, hR⟩, hb⟩ => ⟨v, he, hr _ _ _ hR, hb⟩⟩
theorem alk_refl {r : AV} : alk r r := fun _ _ _ h => h
theorem alk_ro {n : Nat} {f g : Nat → List AV} (h : ∀ i, i < n → g i = f i) : alk (.ro n 2 f) (.ro n 2 g) := fun w ρ v hR => ro_alike h hR
theorem alk_nil {f : Nat → List AV} : alk (.ro 0 2 f) (.v (.slice none 0 0)) := fun w ρ v hR => by
  cases hR
  exact .ro 0 0 (Nat.le_refl _) (fun h => absurd h (by omega)) (fun h => absurd h (by omega)) (fun i h => absurd h (by omega)) (fun i k h => absurd h (by omega)) (fun i k c x h => absurd h (by omega))
/-- How many corners a shape has. -/
def corN (k r w t : Int) (n : Nat) (X Y : Nat → Int) : Nat := if chkS k r w t n X Y = 0 then (if k = 2 then 4 else n) else 0
def corX (k w t : Int) (X : Nat → Int) (i : Nat) : Int := if k = 2 then (match i with | 0 => -w | 1 => w | 2 => w | _ => -w) else X i
def corY (k w t : Int) (Y : Nat → Int) (i : Nat) : Int := if k = 2 then (match i with | 0 => -t | 1 => -t | 2 => t | _ => t) else Y i
abbrev corA (k r w t : Int) (n : Nat) (X Y : Nat → Int) : AV := .ro (corN k r w t n X Y) 2 fun i => [i64 (corX k w t X i), i64 (corY k w t Y i)]
theorem chk_cases {k r w t : Int} {n : Nat} {X Y : Nat → Int} (h : chkS k r w t n X Y = 0) : (k = 1 ∧ n = 0 ∧ 16 ≤ r ∧ r ≤ 4096) ∨ (k = 2 ∧ n = 0 ∧ 16 ≤ w ∧ w ≤ 4096 ∧ 16 ≤ t ∧ t ≤ 4096) ∨ (k = 3 ∧ 3 ≤ n ∧ n ≤ 8 ∧ r = 0 ∧ ∀ i, i < n → lo (X i) ∧ lo (Y i)) := by
  unfold chkS at h
  split at h
  · rename_i h1
    split at h
    · omega
    · split at h
      · exact .inl ⟨h1, by omega⟩
      · omega
  · split at h
    · rename_i h1 h2
      split at h
      · omega
      · split at h
        · exact .inr (.inl ⟨h2, by omega⟩)
        · omega
    · split at h
      · rename_i h1 h2 h3
        split at h
        · omega
        · split at h
          · rename_i h5 h6
            exact .inr (.inr ⟨h3, by omega, by omega, by omega, h6⟩)
          · omega
      · omega
theorem vc61 (k r w t : Int) (n : Nat) (X Y : Nat → Int) (hX : ∀ i, i < n → inR (X i) ∧ inR (Y i)) (hn : n ≤ 9223372036854775806) : fnVC Tryz.prog [(57, c57)] [] Tryz.f61 [shapeA k r w t n fun i => [i64 (X i), i64 (Y i)]] (alk (corA k r w t n X Y)) := by
  refine fnVC_go (rs := [.tmp 2]) rfl rfl ?_
  have hg : spots n fun i => [i64 (X i), i64 (Y i)] := fun i hi => ⟨rfl, hX i hi⟩
  have eX : gx (fun i => [i64 (X i), i64 (Y i)]) 0 = X := rfl
  have eY : gx (fun i => [i64 (X i), i64 (Y i)]) 1 = Y := rfl
  simp only [go_sem, c57, eX, eY]
  have hb : bytesT Tryz.prog 34 = 16 := by kernel_rfl
  rw [hb]
  simp only [forall_eq]
  refine ⟨hg, hn, fun h => ?_, fun h => ⟨fun h2 => ?_, fun h2 => ?_⟩⟩
  · have : corN k r w t n X Y = 0 := if_neg (by simpa using h)
    unfold corA
    rw [this]
    exact alk_nil
  · have hk : k = 2 := by simpa using h2
    have hc : chkS k r w t n X Y = 0 := by simpa using h
    have : corN k r w t n X Y = 4 := by unfold corN; rw [if_pos hc, if_pos hk]
    have hb := chk_cases hc
    rw [wrap_in (x := 0 - w) (by unfold inR; omega), wrap_in (x := 0 - t) (by unfold inR; omega), Int.zero_sub, Int.zero_sub]
    unfold corA
    rw [this]
    refine alk_ro fun i hi => ?_
    unfold corX corY
    rw [if_pos hk, if_pos hk]
    match i with
    | 0 => rfl
    | 1 => rfl
    | 2 => rfl
    | 3 => rfl
    | j + 4 => omega
  · have hk : ¬ k = 2 := by simpa using h2
    have hc : chkS k r w t n X Y = 0 := by simpa using h
    have : corN k r w t n X Y = n := by unfold corN; rw [if_pos hc, if_neg hk]
    have hb := chk_cases hc
    unfold corA
    rw [this]
    refine ⟨fun i hi => by simp only [go_sem], by omega, by omega, ?_⟩
    refine alk_ro fun i hi => ?_
    unfold corX corY
    rw [if_neg hk, if_neg hk]
theorem vc27 (k r w t : Int) (n : Nat) (X Y : Nat → Int) (hX : ∀ i, i < n → inR (X i) ∧ inR (Y i)) (hn : n ≤ 9223372036854775806) : fnVC Tryz.prog [(64, c57)] [] Tryz.f27 [shapeA k r w t n fun i => [i64 (X i), i64 (Y i)]] (alk (corA k r w t n X Y)) := by
  refine fnVC_go (rs := [.tmp 2]) rfl rfl ?_
  have hg : spots n fun i => [i64 (X i), i64 (Y i)] := fun i hi => ⟨rfl, hX i hi⟩
  have eX : gx (fun i => [i64 (X i), i64 (Y i)]) 0 = X := rfl
  have eY : gx (fun i => [i64 (X i), i64 (Y i)]) 1 = Y := rfl
  simp only [go_sem, c57, eX, eY]
  have hb : bytesT Tryz.prog 34 = 16 := by kernel_rfl
  rw [hb]
  simp only [forall_eq]
  refine ⟨hg, hn, fun h => ?_, fun h => ⟨fun h2 => ?_, fun h2 => ?_⟩⟩
  · have : corN k r w t n X Y = 0 := if_neg (by simpa using h)
    unfold corA
    rw [this]
    exact alk_nil
  · have hk : k = 2 := by simpa using h2
    have hc : chkS k r w t n X Y = 0 := by simpa using h
    have : corN k r w t n X Y = 4 := by unfold corN; rw [if_pos hc, if_pos hk]
    have hb := chk_cases hc
    rw [wrap_in (x := 0 - w) (by unfold inR; omega), wrap_in (x := 0 - t) (by unfold inR; omega), Int.zero_sub, Int.zero_sub]
    unfold corA
    rw [this]
    refine alk_ro fun i hi => ?_
    unfold corX corY
    rw [if_pos hk, if_pos hk]
    match i with
    | 0 => rfl
    | 1 => rfl
    | 2 => rfl
    | 3 => rfl
    | j + 4 => omega
  · have hk : ¬ k = 2 := by simpa using h2
    have hc : chkS k r w t n X Y = 0 := by simpa using h
    have : corN k r w t n X Y = n := by unfold corN; rw [if_pos hc, if_neg hk]
    have hb := chk_cases hc
    unfold corA
    rw [this]
    refine ⟨fun i hi => by simp only [go_sem], by omega, by omega, ?_⟩
    rw [Nat.zero_add]
    refine alk_ro fun i hi => ?_
    unfold corX corY
    rw [if_neg hk, if_neg hk, if_neg (Nat.not_lt_zero i), Nat.sub_zero]
    simp only [go_sem]
def c61 : Con
  | [.agg [.v (.int .i64 k), .v (.int .i64 r), .v (.int .i64 w), .v (.int .i64 t), .ro n 2 g]] => some ([spots n g, n ≤ 9223372036854775806], corA k r w t n (gx g 0) (gx g 1))
  | _ => none
theorem con61 : ConOK Tryz.prog 61 c61 := ConOK.goR (G := [(57, c57)]) (H := []) (.cons con57 .nil) Tryz.func61 fun l ob rr hc hob => by
  unfold c61 at hc
  split at hc
  · rename_i k r w t n g
    cases hc
    have hs : spots n g := hob _ (by simp)
    exact ⟨[shapeA k r w t n fun i => [i64 (gx g 0 i), i64 (gx g 1 i)]], fun w I vs h => Rs_one (Rs_shape hs) h, by kernel_rfl, vc61 k r w t n _ _ (fun i hi => (hs i hi).2) (hob _ (by simp))⟩
  · cases hc
theorem con27 : ConOK Tryz.prog 27 c61 := ConOK.goR (G := [(64, c57)]) (H := []) (.cons con64 .nil) Tryz.func27 fun l ob rr hc hob => by
  unfold c61 at hc
  split at hc
  · rename_i k r w t n g
    cases hc
    have hs : spots n g := hob _ (by simp)
    exact ⟨[shapeA k r w t n fun i => [i64 (gx g 0 i), i64 (gx g 1 i)]], fun w I vs h => Rs_one (Rs_shape hs) h, by kernel_rfl, vc27 k r w t n _ _ (fun i hi => (hs i hi).2) (hob _ (by simp))⟩
  · cases hc
end Go.Ax
end

section
/-
  Shapes placed.
-/
set_option linter.unusedVariables false
set_option linter.unusedSimpArgs false
set_option maxHeartbeats 4000000
set_option maxRecDepth 100000
namespace Go.Ax
open Go.Proofs
theorem alk_form {a b c d e p q : AV} (h : alk p q) : alk (.tup [.agg [a, b, c, d, p], e]) (.tup [.agg [a, b, c, d, q], e]) := fun w ρ v hR => by
  cases hR with
  | tup hl hh =>
    refine .tup hl fun i x z h1 h2 => ?_
    match i with
    | 0 =>
      simp at h1; subst h1
      have := hh 0 _ z rfl h2
      cases this with
      | agg hl' hh' =>
        refine .agg hl' fun j x y h3 h4 => ?_
        match j with
        | 0 => exact hh' 0 x y h3 h4
        | 1 => exact hh' 1 x y h3 h4
        | 2 => exact hh' 2 x y h3 h4
        | 3 => exact hh' 3 x y h3 h4
        | 4 =>
          simp at h3; subst h3
          exact h _ _ _ (hh' 4 _ y rfl h4)
        | m + 5 => simp at h3
    | 1 => exact hh 1 x z h1 h2
    | m + 2 => simp at h1
/-- The error of a turn. -/
def rotS (x : Int) (e : Bool) (y : Int) (f : Bool) : Int := if (whF x e = true ∨ whF y f = true) ∨ (65536 < (nDot (x, e) (x, e) (y, f) (y, f)).1 - 4294967296 ∨ 65536 < 4294967296 - (nDot (x, e) (x, e) (y, f) (y, f)).1) then 3 else 0
def farB (a : Nb) : Bool := whF a.1 a.2 || decide (17592186044416 < ab (whV a.1))
/-- The error of a shape that is to be placed so. -/
def plErr (k r w t : Int) (n : Nat) (X Y : Nat → Int) (at' rot : V2) : Int :=
  if chkS k r w t n X Y ≠ 0 then chkS k r w t n X Y else if rotS rot.1.1 rot.1.2 rot.2.1 rot.2.2 ≠ 0 then rotS rot.1.1 rot.1.2 rot.2.1 rot.2.2 else if farB at'.1 = true ∨ farB at'.2 = true then 3 else 0
/-- Where a corner of it comes to lie. -/
def plPt (at' rot : V2) (x y : Int) : V2 := vAdd at' (vApply rot (vLoc x y))
def plX (k w t : Int) (X Y : Nat → Int) (at' rot : V2) (i : Nat) : Int := spV (plPt at' rot (corX k w t X i) (corY k w t Y i)).1
def plY (k w t : Int) (X Y : Nat → Int) (at' rot : V2) (i : Nat) : Int := spV (plPt at' rot (corX k w t X i) (corY k w t Y i)).2
def plN (k r w t : Int) (n : Nat) (X Y : Nat → Int) (at' rot : V2) : Nat := if plErr k r w t n X Y at' rot = 0 then (if k = 1 then 0 else corN k r w t n X Y) else 0
def plK (k r w t : Int) (n : Nat) (X Y : Nat → Int) (at' rot : V2) : Int := if plErr k r w t n X Y at' rot = 0 then (if k = 1 then 1 else 2) else 0
def plC (k r w t : Int) (n : Nat) (X Y : Nat → Int) (at' rot : V2) (a : Nb) : Int := if plErr k r w t n X Y at' rot = 0 then spV a else 0
def plR (k r w t : Int) (n : Nat) (X Y : Nat → Int) (at' rot : V2) : Int := if plErr k r w t n X Y at' rot = 0 then r else 0
abbrev plA (k r w t : Int) (n : Nat) (X Y : Nat → Int) (at' rot : V2) : AV :=
  .tup [formA (plK k r w t n X Y at' rot) (plC k r w t n X Y at' rot at'.1) (plC k r w t n X Y at' rot at'.2) (plR k r w t n X Y at' rot) (plN k r w t n X Y at' rot) fun i => [i64 (plX k w t X Y at' rot i), i64 (plY k w t X Y at' rot i)], i64 (plErr k r w t n X Y at' rot)]
abbrev poseA (at' rot : V2) : AV := .agg [i64 at'.1.1, bo at'.1.2, i64 at'.2.1, bo at'.2.2, i64 rot.1.1, bo rot.1.2, i64 rot.2.1, bo rot.2.2]
theorem vc17 (k r w t : Int) (n : Nat) (X Y : Nat → Int) (hX : ∀ i, i < n → inR (X i) ∧ inR (Y i)) (hn : n ≤ 9223372036854775806) (at' rot : V2) (h0 : inR at'.1.1) (h1 : inR at'.2.1) (h2 : inR rot.1.1) (h3 : inR rot.2.1) :
    fnVC Tryz.prog [(57, c57), (58, c58), (59, c59), (60, c60), (61, c61), (62, k62), (63, c63)] [(9, ⟨[(7, .made 6)], []⟩), (15, ⟨[(10, .slot 8)], []⟩)] Tryz.f17 [shapeA k r w t n fun i => [i64 (X i), i64 (Y i)], poseA at' rot] (alk (plA k r w t n X Y at' rot)) := by
  refine fnVC_go (rs := [.cell 4 36, .tmp 5]) rfl rfl ?_
  have hg : spots n fun i => [i64 (X i), i64 (Y i)] := fun i hi => ⟨rfl, hX i hi⟩
  have eX : gx (fun i => [i64 (X i), i64 (Y i)]) 0 = X := rfl
  have eY : gx (fun i => [i64 (X i), i64 (Y i)]) 1 = Y := rfl
  simp only [go_sem, c57, c58, c59, c60, c61, eX, eY]
  simp only [forall_eq]
  have pos : ∀ e : Int, plErr k r w t n X Y at' rot = e → e ≠ 0 → alk (plA k r w t n X Y at' rot) (.tup [.agg [i64 0, i64 0, i64 0, i64 0, .v (.slice none 0 0)], i64 e]) := fun e he hne => by
    subst he
    unfold plA formA
    have q : plN k r w t n X Y at' rot = 0 := if_neg hne
    rw [q, show plK k r w t n X Y at' rot = 0 from if_neg hne, show plC k r w t n X Y at' rot at'.1 = 0 from if_neg hne, show plC k r w t n X Y at' rot at'.2 = 0 from if_neg hne, show plR k r w t n X Y at' rot = 0 from if_neg hne]
    exact alk_form alk_nil
  refine ⟨hg, hn, fun h => ?_, fun h => ⟨h2, h3, fun h4 => ?_, fun h4 => ⟨h0, fun _ => h1, fun h5 => ?_, fun h5 => ⟨h0, h1, fun h6 => ⟨hg, hn, ?_⟩, fun h6 => ?_⟩⟩⟩⟩
  · have hne : chkS k r w t n X Y ≠ 0 := by simpa using h
    exact pos _ (by unfold plErr; rw [if_pos hne]) hne
  · have hne : rotS rot.1.1 rot.1.2 rot.2.1 rot.2.2 ≠ 0 := bne_iff_ne.1 h4
    refine pos _ ?_ hne
    unfold plErr; rw [if_neg (by simpa using h), if_pos hne]; rfl
  · refine pos _ ?_ (by omega)
    unfold plErr
    rw [if_neg (by simpa using h), if_neg (show ¬ rotS rot.1.1 rot.1.2 rot.2.1 rot.2.2 ≠ 0 from not_not_intro (bne_eq_false_iff_eq.1 h4)), if_pos]
    unfold farB
    rcases h5 with h5 | h5
    · exact .inl (by rw [Bool.not_eq_false'] at h5; exact h5)
    · exact .inr (by rw [Bool.not_eq_false'] at h5; exact h5)
  · have he : plErr k r w t n X Y at' rot = 0 := by
      unfold plErr
      rw [if_neg (by simpa using h), if_neg (show ¬ rotS rot.1.1 rot.1.2 rot.2.1 rot.2.2 ≠ 0 from not_not_intro (bne_eq_false_iff_eq.1 h4)), if_neg]
      unfold farB
      rw [Bool.not_eq_true', Bool.not_eq_true'] at h5
      rintro (h7 | h7)
      · rw [h5.1] at h7; cases h7
      · rw [h5.2] at h7; cases h7
    have hk : ¬ k = 1 := by simpa using h6
    have hc : chkS k r w t n X Y = 0 := by simpa using h
    have hcs := chk_cases hc
    have hN : corN k r w t n X Y ≤ 8 := by unfold corN; rw [if_pos hc]; split <;> omega
    have hb : bytesT Tryz.prog 34 = 16 := by kernel_rfl
    have hx : ∀ i, i < corN k r w t n X Y → inR (corX k w t X i) ∧ inR (corY k w t Y i) := fun i hi => by
      unfold corN at hi; rw [if_pos hc] at hi
      unfold corX corY
      split
      · constructor <;> (split <;> (unfold inR; omega))
      · rename_i h7
        rw [if_neg h7] at hi
        exact hX i hi
    generalize hM : corN k r w t n X Y = M at *
    refine loopN_go (fun (i : Nat) => i ≤ M) (fun i => M - i) (fun i => [(50, i64 i)]) (fun i => [(33, fam1 36 5 [i64 2, i64 (spV at'.1), i64 (spV at'.2), i64 r, .own 44 0 i 2] none), (44, famN i 2 34 (fun j => [i64 (plX k w t X Y at' rot j), i64 (plY k w t X Y at' rot j)]) none)]) [2, 1, 0] [51, 52, 53, 10, 54, 55, 56, 57, 58, 59, 60, 61, 62, 63, 64, 50] 1 0 (by kernel_rfl) (Nat.zero_le _) ⟨[(44, none)], ?_, ?_, ?_, ?_⟩ ?_
    · simp only [go_sem]
    · simp only [go_sem]
    · simp only [go_sem]
    · simp [goodNames, asg]
    intro i hi
    simp only [go_sem, c60, c63, k62]
    have hb : bytesT Tryz.prog 34 = 16 := by kernel_rfl
    rw [hb]
    simp only [forall_eq]
    refine ⟨fun hin => ?_, fun hin => ?_⟩
    · have hi' : i < M := by omega
      have hxi := hx i hi'
      refine ⟨by omega, hin, hxi.1, hxi.2, h0, h1, h2, h3, rg_inR nRat_rg, rg_inR nRat_rg, by omega, by omega, i + 1, by omega, by omega, [(44, some 58)], ?_⟩
      simp only [go_sem]
      refine ⟨by rw [wrap_in (by unfold inR; omega)]; rfl, fun j hj => ?_, by simp [goodNames, asg]⟩
      by_cases e : j < i
      · rw [if_pos e]; simp only [go_sem]
      · have e : j = i := by omega
        subst e
        rw [if_neg (by omega), Nat.sub_self]
        simp only [Nat.zero_mul, go_sem]
        exact ⟨rfl, rfl⟩
    · have e : i = M := by omega
      subst e
      unfold plA formA
      rw [show plN k r w t n X Y at' rot = i by unfold plN; rw [if_pos he, if_neg hk, hM], show plK k r w t n X Y at' rot = 2 by unfold plK; rw [if_pos he, if_neg hk], show plC k r w t n X Y at' rot at'.1 = _ from if_pos he, show plC k r w t n X Y at' rot at'.2 = _ from if_pos he, show plR k r w t n X Y at' rot = r from if_pos he, he]
      exact alk_refl
  · have he : plErr k r w t n X Y at' rot = 0 := by
      unfold plErr
      rw [if_neg (by simpa using h), if_neg (show ¬ rotS rot.1.1 rot.1.2 rot.2.1 rot.2.2 ≠ 0 from not_not_intro (bne_eq_false_iff_eq.1 h4)), if_neg]
      unfold farB
      rw [Bool.not_eq_true', Bool.not_eq_true'] at h5
      rintro (h7 | h7)
      · rw [h5.1] at h7; cases h7
      · rw [h5.2] at h7; cases h7
    have hk : k = 1 := by simpa using h6
    unfold plA formA
    rw [show plN k r w t n X Y at' rot = 0 by unfold plN; rw [if_pos he, if_pos hk], show plK k r w t n X Y at' rot = 1 by unfold plK; rw [if_pos he, if_pos hk], show plC k r w t n X Y at' rot at'.1 = _ from if_pos he, show plC k r w t n X Y at' rot at'.2 = _ from if_pos he, show plR k r w t n X Y at' rot = r from if_pos he, he]
    exact alk_form alk_nil
def c17 : Con
  | [.agg [.v (.int .i64 k), .v (.int .i64 r), .v (.int .i64 w), .v (.int .i64 t), .ro n 2 g], .agg [.v (.int .i64 x), .v (.bool e), .v (.int .i64 y), .v (.bool f), .v (.int .i64 c), .v (.bool o), .v (.int .i64 s), .v (.bool p)]] => some ([spots n g, n ≤ 9223372036854775806, inR x, inR y, inR c, inR s], plA k r w t n (gx g 0) (gx g 1) ((x, e), (y, f)) ((c, o), (s, p)))
  | _ => none
theorem con17 : ConOK Tryz.prog 17 c17 := ConOK.goR (G := [(57, c57), (58, c58), (59, c59), (60, c60), (61, c61), (62, k62), (63, c63)]) (H := [(9, ⟨[(7, .made 6)], []⟩), (15, ⟨[(10, .slot 8)], []⟩)]) (.cons con57 (.cons con58 (.cons con59 (.cons con60 (.cons con61 (.cons kon62 (.cons con63 .nil))))))) Tryz.func17 fun l ob rr hc hob => by
  unfold c17 at hc
  split at hc
  · rename_i k r w t n g x e y f c o s p
    cases hc
    have hs : spots n g := hob _ (by simp)
    refine ⟨[shapeA k r w t n fun i => [i64 (gx g 0 i), i64 (gx g 1 i)], poseA ((x, e), (y, f)) ((c, o), (s, p))], fun w I vs h => ?_, by kernel_rfl, vc17 k r w t n _ _ (fun i hi => (hs i hi).2) (hob _ (by simp)) ((x, e), (y, f)) ((c, o), (s, p)) (hob _ (by simp)) (hob _ (by simp)) (hob _ (by simp)) (hob _ (by simp))⟩
    obtain ⟨x, xs, rfl, h1, h2⟩ := h.inv
    exact .cons (Rs_shape hs _ h1) h2
  · cases hc
theorem chk_r {k r w t : Int} {n : Nat} {X Y : Nat → Int} (h : chkS k r w t n X Y = 0) (hk : ¬ k = 1) : r = 0 := by
  unfold chkS at h
  rw [if_neg hk] at h
  split at h
  · split at h <;> omega
  · split at h
    · split at h <;> omega
    · omega
theorem vc18 (k r w t : Int) (n : Nat) (X Y : Nat → Int) (hX : ∀ i, i < n → inR (X i) ∧ inR (Y i)) (hn : n ≤ 9223372036854775806) (at' rot : V2) (h0 : inR at'.1.1) (h1 : inR at'.2.1) (h2 : inR rot.1.1) (h3 : inR rot.2.1) :
    fnVC Tryz.prog [(27, c61), (64, c57), (65, c65), (66, c66), (67, c67), (68, k68), (69, c69)] [(9, ⟨[(6, .slot 4)], []⟩), (15, ⟨[(13, .slot 7)], []⟩)] Tryz.f18 [shapeA k r w t n fun i => [i64 (X i), i64 (Y i)], poseA at' rot] (alk (plA k r w t n X Y at' rot)) := by
  refine fnVC_go (rs := [.cell 4 36, .tmp 5]) rfl rfl ?_
  have hg : spots n fun i => [i64 (X i), i64 (Y i)] := fun i hi => ⟨rfl, hX i hi⟩
  have eX : gx (fun i => [i64 (X i), i64 (Y i)]) 0 = X := rfl
  have eY : gx (fun i => [i64 (X i), i64 (Y i)]) 1 = Y := rfl
  simp only [go_sem, c57, c65, c66, c67, c61, eX, eY]
  simp only [forall_eq]
  have pos : ∀ e : Int, plErr k r w t n X Y at' rot = e → e ≠ 0 → alk (plA k r w t n X Y at' rot) (.tup [.agg [i64 0, i64 0, i64 0, i64 0, .v (.slice none 0 0)], i64 e]) := fun e he hne => by
    subst he
    unfold plA formA
    have q : plN k r w t n X Y at' rot = 0 := if_neg hne
    rw [q, show plK k r w t n X Y at' rot = 0 from if_neg hne, show plC k r w t n X Y at' rot at'.1 = 0 from if_neg hne, show plC k r w t n X Y at' rot at'.2 = 0 from if_neg hne, show plR k r w t n X Y at' rot = 0 from if_neg hne]
    exact alk_form alk_nil
  refine ⟨hg, hn, fun h => ⟨h2, h3, fun h4 => ?_, fun h4 => ⟨h0, fun _ => h1, fun h5 => ?_, fun h5 => ?_⟩⟩, fun h => ⟨fun h4 => ?_, fun h4 => ?_⟩⟩
  · have hne : rotS rot.1.1 rot.1.2 rot.2.1 rot.2.2 ≠ 0 := bne_iff_ne.1 h4
    refine pos _ ?_ hne
    unfold plErr; rw [if_neg (by simpa using h), if_pos hne]; rfl
  · refine pos _ ?_ (by omega)
    unfold plErr
    rw [if_neg (by simpa using h), if_neg (show ¬ rotS rot.1.1 rot.1.2 rot.2.1 rot.2.2 ≠ 0 from not_not_intro (bne_eq_false_iff_eq.1 h4)), if_pos]
    unfold farB
    exact h5
  · have he : plErr k r w t n X Y at' rot = 0 := by
      unfold plErr
      rw [if_neg (by simpa using h), if_neg (show ¬ rotS rot.1.1 rot.1.2 rot.2.1 rot.2.2 ≠ 0 from not_not_intro (bne_eq_false_iff_eq.1 h4)), if_neg]
      unfold farB
      rintro (h7 | h7)
      · rw [h5.1] at h7; cases h7
      · rw [h5.2] at h7; cases h7
    have hc : chkS k r w t n X Y = 0 := by simpa using h
    have hcs := chk_cases hc
    refine ⟨fun h6 => ⟨h0, h1, ?_⟩, fun h6 => ⟨h0, h1, hg, hn, ?_⟩⟩
    · have hk : k = 1 := by simpa using h6
      unfold plA formA
      rw [show plN k r w t n X Y at' rot = 0 by unfold plN; rw [if_pos he, if_pos hk], show plK k r w t n X Y at' rot = 1 by unfold plK; rw [if_pos he, if_pos hk], show plC k r w t n X Y at' rot at'.1 = _ from if_pos he, show plC k r w t n X Y at' rot at'.2 = _ from if_pos he, show plR k r w t n X Y at' rot = r from if_pos he, he]
      exact alk_form alk_nil
    · have hk : ¬ k = 1 := by simpa using h6
      have hN : corN k r w t n X Y ≤ 8 := by unfold corN; rw [if_pos hc]; split <;> omega
      have hx : ∀ i, i < corN k r w t n X Y → inR (corX k w t X i) ∧ inR (corY k w t Y i) := fun i hi => by
        unfold corN at hi; rw [if_pos hc] at hi
        unfold corX corY
        split
        · constructor <;> (split <;> (unfold inR; omega))
        · rename_i h7
          rw [if_neg h7] at hi
          exact hX i hi
      generalize hM : corN k r w t n X Y = M at *
      refine loopN_go (fun (i : Nat) => i ≤ M) (fun i => M - i) (fun i => [(9, i64 i)]) (fun i => [(32, fam1 36 5 [i64 2, i64 (spV at'.1), i64 (spV at'.2), i64 0, .own 38 0 i 2] none), (38, famN i 2 34 (fun j => [i64 (plX k w t X Y at' rot j), i64 (plY k w t X Y at' rot j)]) none)]) [2, 1, 0] [47, 48, 49, 50, 53, 54, 55, 56, 57, 58, 59, 60, 61, 62, 63, 64, 65, 51, 52, 9] 1 0 (by kernel_rfl) (Nat.zero_le _) ⟨[(38, none)], ?_, ?_, ?_, ?_⟩ ?_
      · simp only [go_sem]
      · simp only [go_sem]
      · simp only [go_sem]
      · simp [goodNames, asg]
      intro i hi
      simp only [go_sem, c67, c69, k68]
      have hb : bytesT Tryz.prog 34 = 16 := by kernel_rfl
      rw [hb]
      simp only [forall_eq]
      refine ⟨fun hin => ?_, fun hin => ?_⟩
      · have hi' : i < M := by omega
        have hxi := hx i hi'
        refine ⟨by omega, hin, hxi.1, hxi.2, h0, h1, h2, h3, rg_inR nRat_rg, rg_inR nRat_rg, by omega, by omega, i + 1, by omega, by omega, [(38, some 54)], ?_⟩
        simp only [go_sem]
        refine ⟨by rw [wrap_in (by unfold inR; omega)]; rfl, fun j hj => ?_, by simp [goodNames, asg]⟩
        by_cases e : j < i
        · rw [if_pos e]; simp only [go_sem]
        · have e : j = i := by omega
          subst e
          rw [if_neg (by omega), Nat.sub_self]
          simp only [Nat.zero_mul, go_sem]
          exact ⟨rfl, rfl⟩
      · have e : i = M := by omega
        subst e
        unfold plA formA
        rw [show plN k r w t n X Y at' rot = i by unfold plN; rw [if_pos he, if_neg hk, hM], show plK k r w t n X Y at' rot = 2 by unfold plK; rw [if_pos he, if_neg hk], show plC k r w t n X Y at' rot at'.1 = _ from if_pos he, show plC k r w t n X Y at' rot at'.2 = _ from if_pos he, show plR k r w t n X Y at' rot = 0 by unfold plR; rw [if_pos he, chk_r hc hk], he]
        exact alk_refl
  · have hne : chkS k r w t n X Y ≠ 0 := by simpa using h
    exact pos _ (by unfold plErr; rw [if_pos hne]) hne
  · simp at h h4; omega
theorem con18 : ConOK Tryz.prog 18 c17 := ConOK.goR (G := [(27, c61), (64, c57), (65, c65), (66, c66), (67, c67), (68, k68), (69, c69)]) (H := [(9, ⟨[(6, .slot 4)], []⟩), (15, ⟨[(13, .slot 7)], []⟩)]) (.cons con27 (.cons con64 (.cons con65 (.cons con66 (.cons con67 (.cons kon68 (.cons con69 .nil))))))) Tryz.func18 fun l ob rr hc hob => by
  unfold c17 at hc
  split at hc
  · rename_i k r w t n g x e y f c o s p
    cases hc
    have hs : spots n g := hob _ (by simp)
    refine ⟨[shapeA k r w t n fun i => [i64 (gx g 0 i), i64 (gx g 1 i)], poseA ((x, e), (y, f)) ((c, o), (s, p))], fun w I vs h => ?_, by kernel_rfl, vc18 k r w t n _ _ (fun i hi => (hs i hi).2) (hob _ (by simp)) ((x, e), (y, f)) ((c, o), (s, p)) (hob _ (by simp)) (hob _ (by simp)) (hob _ (by simp)) (hob _ (by simp))⟩
    obtain ⟨x, xs, rfl, h1, h2⟩ := h.inv
    exact .cons (Rs_shape hs _ h1) h2
  · cases hc
end Go.Ax
end

section
/-
  Shapes placed, the law's body.
-/
set_option linter.unusedVariables false
set_option linter.unusedSimpArgs false
set_option maxHeartbeats 4000000
set_option maxRecDepth 100000
namespace Go.Ax
open Go.Proofs
theorem spV_inR {a : Nb} : inR (spV a) := by
  have : rg (whV (nMul a (nInt 256)).1) := whV_rg (rg_inR nMul_rg)
  unfold spV
  unfold rg at this
  unfold inR
  omega
theorem pl_spots {N : Nat} {k w t : Int} {X Y : Nat → Int} {at' rot : V2} : (spots N fun i => [i64 (plX k w t X Y at' rot i), i64 (plY k w t X Y at' rot i)]) = True := eq_true fun i _ => ⟨rfl, spV_inR, spV_inR⟩
theorem plN_le {k r w t : Int} {n : Nat} {X Y : Nat → Int} {at' rot : V2} : plN k r w t n X Y at' rot ≤ 8 := by
  unfold plN
  split
  · split
    · omega
    · unfold corN
      split
      · rename_i h
        have := chk_cases h
        split <;> omega
      · omega
  · omega
theorem plN_max {k r w t : Int} {n : Nat} {X Y : Nat → Int} {at' rot : V2} : (plN k r w t n X Y at' rot ≤ 9223372036854775806) = True := eq_true (Nat.le_trans plN_le (by omega))
theorem vc3 (k r w t : Int) (n : Nat) (X Y : Nat → Int) (at' rot : V2) (l x y s : Int) (m : Nat) (Z T : Nat → Int) (hX : ∀ i, i < n → inR (X i) ∧ inR (Y i)) (h0 : inR at'.1.1) (h1 : inR at'.2.1) (h2 : inR rot.1.1) (h3 : inR rot.2.1) (hZ : ∀ i, i < m → inR (Z i) ∧ inR (T i)) (hx : inR x) (hy : inR y) (hs : inR s) :
    fnVC Tryz.prog [(13, c13), (14, c14), (15, c15), (16, c16), (17, c17), (18, c17), (19, c19), (20, c20), (21, c20), (22, c22)] [(3, ⟨[(5, .made 3), (6, .made 4)], []⟩)] Tryz.f3 [shapeA k r w t n fun i => [i64 (X i), i64 (Y i)], poseA at' rot, formA l x y s m fun i => [i64 (Z i), i64 (T i)]] (· = bo true) := by
  refine fnVC_go (rs := [.tmp 6]) rfl rfl ?_
  simp only [go_sem, c13, c14, c15, c16, c17, c19, c20, c22]
  have hg : spots n fun i => [i64 (X i), i64 (Y i)] := fun i hi => ⟨rfl, hX i hi⟩
  have hg2 : spots m fun i => [i64 (Z i), i64 (T i)] := fun i hi => ⟨rfl, hZ i hi⟩
  intro z hz
  refine ⟨fun _ _ => trivial, fun h => ?_⟩
  have hm : m ≤ 12 := by have h := h.2; rw [hz] at h; have := of_decide_eq_true h; omega
  have hm2 : m ≤ 1000 := by omega
  have hm3 : m ≤ 9223372036854775806 := by omega
  have hn : n ≤ 1000 := by omega
  have hn3 : n ≤ 9223372036854775806 := by omega
  simp only [forall_eq, hg, hg2, hm2, hm3, hn, hn3, hx, hy, hs, h0, h1, h2, h3, pl_spots, plN_max, and_self, implies_true, true_and, beq_self_eq_true, sameF_self]
  exact ⟨by simp, trivial⟩
end Go.Ax
end

section
/-
  Forms made of numbers.
-/
set_option linter.unusedVariables false
set_option linter.unusedSimpArgs false
set_option maxHeartbeats 4000000
set_option maxRecDepth 100000
namespace Go.Ax
open Go.Proofs
theorem alk_shape {a b c d p q : AV} (h : alk p q) : alk (.agg [a, b, c, d, p]) (.agg [a, b, c, d, q]) := fun w ρ v hR => by
  cases hR with
  | agg hl' hh' =>
    refine .agg hl' fun j x y h3 h4 => ?_
    match j with
    | 0 => exact hh' 0 x y h3 h4
    | 1 => exact hh' 1 x y h3 h4
    | 2 => exact hh' 2 x y h3 h4
    | 3 => exact hh' 3 x y h3 h4
    | 4 =>
      simp at h3; subst h3
      exact h _ _ _ (hh' 4 _ y rfl h4)
    | m + 5 => simp at h3
def mkW (a b : Int) : Int := if a.tmod 4 ≠ 0 then 16 + (16 + modS b 4081).tmod 600 else 16 + modS b 4081
def mkM (a b : Int) : Int := max 64 (mkW a b)
def mkK (a : Int) : Int := if modS a 5 = 0 then 1 else if modS a 5 = 1 then 2 else 3
def mkR (a b : Int) : Int := if modS a 5 = 0 then mkW b b else 0
def mkH (a b c : Int) : Int := if modS a 5 = 0 then 0 else if modS a 5 = 1 then mkW b c else 0
def mkN (a : Int) : Nat := if modS a 5 = 0 then 0 else if modS a 5 = 1 then 0 else if modS a 5 = 2 then 3 else if modS a 5 = 3 then 5 else 8
def mkP (a w t : Int) : List AV :=
  if modS a 5 = 2 then [i64 (-w), i64 (-t), i64 w, i64 (-t), i64 0, i64 t]
  else if modS a 5 = 3 then [i64 ((-w).tdiv 2), i64 (-t), i64 (w.tdiv 2), i64 (-t), i64 w, i64 0, i64 0, i64 t, i64 (-w), i64 0]
  else [i64 w, i64 ((-w).tdiv 2), i64 w, i64 (w.tdiv 2), i64 (w.tdiv 2), i64 w, i64 ((-w).tdiv 2), i64 w, i64 (-w), i64 (w.tdiv 2), i64 (-w), i64 ((-w).tdiv 2), i64 ((-w).tdiv 2), i64 (-w), i64 (w.tdiv 2), i64 (-w)]
def mkX (a b c : Int) (i : Nat) : Int := gx (rowsOf 2 (mkP a (mkM b b) (mkM b c))) 0 i
def mkY (a b c : Int) (i : Nat) : Int := gx (rowsOf 2 (mkP a (mkM b b) (mkM b c))) 1 i
abbrev mkA (a b c : Int) : AV := .agg [i64 (mkK a), i64 (mkR a b), i64 (mkH a b b), i64 (mkH a b c), .ro (mkN a) 2 fun i => [i64 (mkX a b c i), i64 (mkY a b c i)]]
theorem modS_bd {n m : Int} (hm : 0 < m) : 0 ≤ modS n m ∧ modS n m < m := by
  have h1 : n.tmod m < m := Int.tmod_lt_of_pos n hm
  have h2 : -m < n.tmod m := Int.lt_tmod_of_pos n hm
  unfold modS
  split <;> omega
theorem mkW_bd {a b : Int} : 16 ≤ mkW a b ∧ mkW a b ≤ 4096 := by
  have h := modS_bd (n := b) (m := 4081) (by omega)
  have h1 : (16 + modS b 4081).tmod 600 < 600 := Int.tmod_lt_of_pos _ (by omega)
  have h2 : 0 ≤ (16 + modS b 4081).tmod 600 := Int.tmod_nonneg _ (by omega)
  unfold mkW
  split <;> omega
theorem mkM_bd {a b : Int} : 64 ≤ mkM a b ∧ mkM a b ≤ 4096 := by
  have := @mkW_bd a b
  unfold mkM
  omega
theorem wrW {b : Int} : IntKind.i64.wrap (16 + modS b 4081) = 16 + modS b 4081 := by
  have h := modS_bd (n := b) (m := 4081) (by omega)
  exact wrap_in (by unfold inR; omega)
theorem wrW2 {b : Int} : IntKind.i64.wrap (16 + (16 + modS b 4081).tmod 600) = 16 + (16 + modS b 4081).tmod 600 := by
  have h := modS_bd (n := b) (m := 4081) (by omega)
  have h1 : (16 + modS b 4081).tmod 600 < 600 := Int.tmod_lt_of_pos _ (by omega)
  have h2 : 0 ≤ (16 + modS b 4081).tmod 600 := Int.tmod_nonneg _ (by omega)
  exact wrap_in (by unfold inR; omega)
theorem wrM {a b : Int} : IntKind.i64.wrap (0 - mkM a b) = -mkM a b := by
  have := @mkM_bd a b
  rw [wrap_in (by unfold inR; omega), Int.zero_sub]
theorem wrM2 {a b : Int} : IntKind.i64.wrap ((-mkM a b).tdiv 2) = (-mkM a b).tdiv 2 := by
  have := @mkM_bd a b
  exact wrap_in (by rw [Int.neg_tdiv, Int.tdiv_eq_ediv_of_nonneg (by omega)]; unfold inR; omega)
theorem wrM3 {a b : Int} : IntKind.i64.wrap ((mkM a b).tdiv 2) = (mkM a b).tdiv 2 := by
  have := @mkM_bd a b
  exact wrap_in (by rw [Int.tdiv_eq_ediv_of_nonneg (by omega)]; unfold inR; omega)
theorem mkM_eq {a b : Int} : max 64 (mkW a b) = mkM a b := rfl
theorem vc25 (a b c d e f : Int) (ha : inR a) (hb : inR b) (hc : inR c) : fnVC Tryz.prog [(84, c84)] [] Tryz.f25 [.agg [i64 a, i64 b, i64 c, i64 d, i64 e, i64 f]] (alk (mkA a b c)) := by
  refine fnVC_go (rs := [.cell 2 24]) rfl rfl ?_
  simp only [go_sem, c84]
  simp only [forall_eq]
  simp only [wrW, wrW2]
  refine ⟨hb, by unfold inR; omega, hc, by unfold inR; omega, fun h => ?_, fun h => ?_⟩
  · have e : ∀ v, 16 + (16 + modS v 4081).tmod 600 = mkW b v := fun v => by unfold mkW; rw [if_pos (by simpa using h)]
    simp only [e]
    simp only [mkM_eq, wrM, wrM2, wrM3]
    refine ⟨ha, by unfold inR; omega, fun h0 => ?_, fun h0 => ⟨fun h1 => ?_, fun h1 => ⟨fun h2 => ?_, fun h2 => ⟨fun h3 => ?_, fun h3 => ?_⟩⟩⟩⟩
    · have k0 : modS a 5 = 0 := by simpa using h0
      unfold mkA
      rw [show mkK a = 1 by unfold mkK; rw [if_pos k0], show mkR a b = mkW b b by unfold mkR; rw [if_pos k0], show mkH a b b = 0 by unfold mkH; rw [if_pos k0], show mkH a b c = 0 by unfold mkH; rw [if_pos k0], show mkN a = 0 by unfold mkN; rw [if_pos k0]]
      exact alk_shape alk_nil
    · have k0 : ¬ modS a 5 = 0 := by simpa using h0
      have k1 : modS a 5 = 1 := by simpa using h1
      unfold mkA
      rw [show mkK a = 2 by unfold mkK; rw [if_neg k0, if_pos k1], show mkR a b = 0 by unfold mkR; rw [if_neg k0], show mkH a b b = mkW b b by unfold mkH; rw [if_neg k0, if_pos k1], show mkH a b c = mkW b c by unfold mkH; rw [if_neg k0, if_pos k1], show mkN a = 0 by unfold mkN; rw [if_neg k0, if_pos k1]]
      exact alk_shape alk_nil
    · have k0 : ¬ modS a 5 = 0 := by simpa using h0
      have k1 : ¬ modS a 5 = 1 := by simpa using h1
      have k2 : modS a 5 = 2 := by simpa using h2
      unfold mkA
      rw [show mkK a = 3 by unfold mkK; rw [if_neg k0, if_neg k1], show mkR a b = 0 by unfold mkR; rw [if_neg k0], show mkH a b b = 0 by unfold mkH; rw [if_neg k0, if_neg k1], show mkH a b c = 0 by unfold mkH; rw [if_neg k0, if_neg k1], show mkN a = 3 by unfold mkN; rw [if_neg k0, if_neg k1, if_pos k2]]
      refine alk_shape (alk_ro fun i hi => ?_)
      unfold mkX mkY mkP
      rw [if_pos k2]
      match i with
      | 0 => rfl
      | 1 => rfl
      | 2 => rfl
      | q + 3 => omega
    · have k0 : ¬ modS a 5 = 0 := by simpa using h0
      have k1 : ¬ modS a 5 = 1 := by simpa using h1
      have k2 : ¬ modS a 5 = 2 := by simpa using h2
      have k3 : modS a 5 = 3 := by simpa using h3
      unfold mkA
      rw [show mkK a = 3 by unfold mkK; rw [if_neg k0, if_neg k1], show mkR a b = 0 by unfold mkR; rw [if_neg k0], show mkH a b b = 0 by unfold mkH; rw [if_neg k0, if_neg k1], show mkH a b c = 0 by unfold mkH; rw [if_neg k0, if_neg k1], show mkN a = 5 by unfold mkN; rw [if_neg k0, if_neg k1, if_neg k2, if_pos k3]]
      refine alk_shape (alk_ro fun i hi => ?_)
      unfold mkX mkY mkP
      rw [if_neg k2, if_pos k3]
      match i with
      | 0 => rfl
      | 1 => rfl
      | 2 => rfl
      | 3 => rfl
      | 4 => rfl
      | q + 5 => omega
    · have k0 : ¬ modS a 5 = 0 := by simpa using h0
      have k1 : ¬ modS a 5 = 1 := by simpa using h1
      have k2 : ¬ modS a 5 = 2 := by simpa using h2
      have k3 : ¬ modS a 5 = 3 := by simpa using h3
      unfold mkA
      rw [show mkK a = 3 by unfold mkK; rw [if_neg k0, if_neg k1], show mkR a b = 0 by unfold mkR; rw [if_neg k0], show mkH a b b = 0 by unfold mkH; rw [if_neg k0, if_neg k1], show mkH a b c = 0 by unfold mkH; rw [if_neg k0, if_neg k1], show mkN a = 8 by unfold mkN; rw [if_neg k0, if_neg k1, if_neg k2, if_neg k3]]
      refine alk_shape (alk_ro fun i hi => ?_)
      unfold mkX mkY mkP
      rw [if_neg k2, if_neg k3]
      match i with
      | 0 => rfl
      | 1 => rfl
      | 2 => rfl
      | 3 => rfl
      | 4 => rfl
      | 5 => rfl
      | 6 => rfl
      | 7 => rfl
      | q + 8 => omega
  · have e : ∀ v, 16 + modS v 4081 = mkW b v := fun v => by unfold mkW; rw [if_neg (by simpa using h)]
    simp only [e]
    simp only [mkM_eq, wrM, wrM2, wrM3]
    refine ⟨ha, by unfold inR; omega, fun h0 => ?_, fun h0 => ⟨fun h1 => ?_, fun h1 => ⟨fun h2 => ?_, fun h2 => ⟨fun h3 => ?_, fun h3 => ?_⟩⟩⟩⟩
    · have k0 : modS a 5 = 0 := by simpa using h0
      unfold mkA
      rw [show mkK a = 1 by unfold mkK; rw [if_pos k0], show mkR a b = mkW b b by unfold mkR; rw [if_pos k0], show mkH a b b = 0 by unfold mkH; rw [if_pos k0], show mkH a b c = 0 by unfold mkH; rw [if_pos k0], show mkN a = 0 by unfold mkN; rw [if_pos k0]]
      exact alk_shape alk_nil
    · have k0 : ¬ modS a 5 = 0 := by simpa using h0
      have k1 : modS a 5 = 1 := by simpa using h1
      unfold mkA
      rw [show mkK a = 2 by unfold mkK; rw [if_neg k0, if_pos k1], show mkR a b = 0 by unfold mkR; rw [if_neg k0], show mkH a b b = mkW b b by unfold mkH; rw [if_neg k0, if_pos k1], show mkH a b c = mkW b c by unfold mkH; rw [if_neg k0, if_pos k1], show mkN a = 0 by unfold mkN; rw [if_neg k0, if_pos k1]]
      exact alk_shape alk_nil
    · have k0 : ¬ modS a 5 = 0 := by simpa using h0
      have k1 : ¬ modS a 5 = 1 := by simpa using h1
      have k2 : modS a 5 = 2 := by simpa using h2
      unfold mkA
      rw [show mkK a = 3 by unfold mkK; rw [if_neg k0, if_neg k1], show mkR a b = 0 by unfold mkR; rw [if_neg k0], show mkH a b b = 0 by unfold mkH; rw [if_neg k0, if_neg k1], show mkH a b c = 0 by unfold mkH; rw [if_neg k0, if_neg k1], show mkN a = 3 by unfold mkN; rw [if_neg k0, if_neg k1, if_pos k2]]
      refine alk_shape (alk_ro fun i hi => ?_)
      unfold mkX mkY mkP
      rw [if_pos k2]
      match i with
      | 0 => rfl
      | 1 => rfl
      | 2 => rfl
      | q + 3 => omega
    · have k0 : ¬ modS a 5 = 0 := by simpa using h0
      have k1 : ¬ modS a 5 = 1 := by simpa using h1
      have k2 : ¬ modS a 5 = 2 := by simpa using h2
      have k3 : modS a 5 = 3 := by simpa using h3
      unfold mkA
      rw [show mkK a = 3 by unfold mkK; rw [if_neg k0, if_neg k1], show mkR a b = 0 by unfold mkR; rw [if_neg k0], show mkH a b b = 0 by unfold mkH; rw [if_neg k0, if_neg k1], show mkH a b c = 0 by unfold mkH; rw [if_neg k0, if_neg k1], show mkN a = 5 by unfold mkN; rw [if_neg k0, if_neg k1, if_neg k2, if_pos k3]]
      refine alk_shape (alk_ro fun i hi => ?_)
      unfold mkX mkY mkP
      rw [if_neg k2, if_pos k3]
      match i with
      | 0 => rfl
      | 1 => rfl
      | 2 => rfl
      | 3 => rfl
      | 4 => rfl
      | q + 5 => omega
    · have k0 : ¬ modS a 5 = 0 := by simpa using h0
      have k1 : ¬ modS a 5 = 1 := by simpa using h1
      have k2 : ¬ modS a 5 = 2 := by simpa using h2
      have k3 : ¬ modS a 5 = 3 := by simpa using h3
      unfold mkA
      rw [show mkK a = 3 by unfold mkK; rw [if_neg k0, if_neg k1], show mkR a b = 0 by unfold mkR; rw [if_neg k0], show mkH a b b = 0 by unfold mkH; rw [if_neg k0, if_neg k1], show mkH a b c = 0 by unfold mkH; rw [if_neg k0, if_neg k1], show mkN a = 8 by unfold mkN; rw [if_neg k0, if_neg k1, if_neg k2, if_neg k3]]
      refine alk_shape (alk_ro fun i hi => ?_)
      unfold mkX mkY mkP
      rw [if_neg k2, if_neg k3]
      match i with
      | 0 => rfl
      | 1 => rfl
      | 2 => rfl
      | 3 => rfl
      | 4 => rfl
      | 5 => rfl
      | 6 => rfl
      | 7 => rfl
      | q + 8 => omega
def c25 : Con
  | [.agg [.v (.int .i64 a), .v (.int .i64 b), .v (.int .i64 c), .v (.int .i64 d), .v (.int .i64 e), .v (.int .i64 f)]] => some ([inR a, inR b, inR c], mkA a b c)
  | _ => none
theorem con25 : ConOK Tryz.prog 25 c25 := ConOK.goR (G := [(84, c84)]) (H := []) (.cons con84 .nil) Tryz.func25 fun l ob rr hc hob => by
  unfold c25 at hc
  split at hc
  · rename_i a b c d e f
    cases hc
    exact ⟨_, fun w I vs h => h, by kernel_rfl, vc25 a b c d e f (hob _ (by simp)) (hob _ (by simp)) (hob _ (by simp))⟩
  · cases hc
def foAt (x y s : Int) : V2 := ((x.tmod (s * 4294967296), false), (y.tmod (s * 4294967296), false))
def foRot (u : Int) : V2 := ((csV (u.tmod (8 * 4294967296)) false, csF (u.tmod (8 * 4294967296)) false), (snV (u.tmod (8 * 4294967296)) false, snF (u.tmod (8 * 4294967296)) false))
theorem tmod_inR {x s : Int} (h : 1 ≤ s ∧ s ≤ 1000000) : inR (x.tmod (s * 4294967296)) := by
  have h1 : x.tmod (s * 4294967296) < s * 4294967296 := Int.tmod_lt_of_pos x (by omega)
  have h2 : -(s * 4294967296) < x.tmod (s * 4294967296) := Int.lt_tmod_of_pos x (by omega)
  unfold inR
  omega
def c26 : Con
  | [.agg [.v (.int .i64 a), .v (.int .i64 b), .v (.int .i64 c), .v (.int .i64 x), .v (.int .i64 y), .v (.int .i64 u)], .v (.int .i64 s)] => some ([inR x, inR y, inR u, 1 ≤ s ∧ s ≤ 1000000], poseA (foAt x y s) (foRot u))
  | _ => none
theorem con26 : ConOK Tryz.prog 26 c26 := ConOK.of (G := [(85, c85), (86, c86)]) (H := [(1, ⟨[(14, .slot 4)], []⟩)]) (.cons con85 (.cons con86 .nil)) Tryz.func26 fun l ob r hc hob => by
  unfold c26 at hc
  split at hc
  · rename_i a b c x y u s
    cases hc
    have h_0 : inR x := hob _ (by simp)
    have h_1 : inR y := hob _ (by simp)
    have h_2 : inR u := hob _ (by simp)
    have h_3 : 1 ≤ s ∧ s ≤ 1000000 := hob _ (by simp)
    refine ⟨by kernel_rfl, fnVC_go (rs := [.cell 4 32]) rfl rfl ?_⟩
    simp only [go_sem, c85, c86]
    simp only [forall_eq]
    exact ⟨h_0, h_3, h_1, h_3, h_2, tmod_inR (by omega), rfl⟩
  · cases hc
theorem mk_inR {a b c : Int} (i : Nat) (hi : i < mkN a) : inR (mkX a b c i) ∧ inR (mkY a b c i) := by
  have b1 := @mkM_bd b b
  have b2 := @mkM_bd b c
  have t1 : (mkM b b).tdiv 2 = mkM b b / 2 := Int.tdiv_eq_ediv_of_nonneg (by omega)
  have t2 : (-mkM b b).tdiv 2 = -(mkM b b / 2) := by rw [Int.neg_tdiv, t1]
  unfold mkX mkY mkP
  unfold mkN at hi
  by_cases k0 : modS a 5 = 0
  · rw [if_pos k0] at hi; omega
  rw [if_neg k0] at hi
  by_cases k1 : modS a 5 = 1
  · rw [if_pos k1] at hi; omega
  rw [if_neg k1] at hi
  rw [t1, t2]
  generalize mkM b b = M at *
  generalize mkM b c = T at *
  by_cases k2 : modS a 5 = 2
  · rw [if_pos k2] at hi
    rw [if_pos k2]
    match i with
    | 0 => show inR (-M) ∧ inR (-T); unfold inR; omega
    | 1 => show inR M ∧ inR (-T); unfold inR; omega
    | 2 => show inR 0 ∧ inR T; unfold inR; omega
    | q + 3 => omega
  rw [if_neg k2] at hi
  rw [if_neg k2]
  by_cases k3 : modS a 5 = 3
  · rw [if_pos k3] at hi
    rw [if_pos k3]
    match i with
    | 0 => show inR (-(M / 2)) ∧ inR (-T); unfold inR; omega
    | 1 => show inR (M / 2) ∧ inR (-T); unfold inR; omega
    | 2 => show inR M ∧ inR 0; unfold inR; omega
    | 3 => show inR 0 ∧ inR T; unfold inR; omega
    | 4 => show inR (-M) ∧ inR 0; unfold inR; omega
    | q + 5 => omega
  rw [if_neg k3] at hi
  rw [if_neg k3]
  match i with
  | 0 => show inR M ∧ inR (-(M / 2)); unfold inR; omega
  | 1 => show inR M ∧ inR (M / 2); unfold inR; omega
  | 2 => show inR (M / 2) ∧ inR M; unfold inR; omega
  | 3 => show inR (-(M / 2)) ∧ inR M; unfold inR; omega
  | 4 => show inR (-M) ∧ inR (M / 2); unfold inR; omega
  | 5 => show inR (-M) ∧ inR (-(M / 2)); unfold inR; omega
  | 6 => show inR (-(M / 2)) ∧ inR (-M); unfold inR; omega
  | 7 => show inR (M / 2) ∧ inR (-M); unfold inR; omega
  | q + 8 => omega
theorem mkN_le {a : Int} : mkN a ≤ 9223372036854775806 := by
  unfold mkN
  (repeat' split) <;> omega
def foK (a b c x y u s : Int) : Int := plK (mkK a) (mkR a b) (mkH a b b) (mkH a b c) (mkN a) (mkX a b c) (mkY a b c) (foAt x y s) (foRot u)
def foX (a b c x y u s : Int) : Int := plC (mkK a) (mkR a b) (mkH a b b) (mkH a b c) (mkN a) (mkX a b c) (mkY a b c) (foAt x y s) (foRot u) (foAt x y s).1
def foY (a b c x y u s : Int) : Int := plC (mkK a) (mkR a b) (mkH a b b) (mkH a b c) (mkN a) (mkX a b c) (mkY a b c) (foAt x y s) (foRot u) (foAt x y s).2
def foR (a b c x y u s : Int) : Int := plR (mkK a) (mkR a b) (mkH a b b) (mkH a b c) (mkN a) (mkX a b c) (mkY a b c) (foAt x y s) (foRot u)
def foN (a b c x y u s : Int) : Nat := plN (mkK a) (mkR a b) (mkH a b b) (mkH a b c) (mkN a) (mkX a b c) (mkY a b c) (foAt x y s) (foRot u)
def foP (a b c x y u s : Int) (i : Nat) : Int := plX (mkK a) (mkH a b b) (mkH a b c) (mkX a b c) (mkY a b c) (foAt x y s) (foRot u) i
def foQ (a b c x y u s : Int) (i : Nat) : Int := plY (mkK a) (mkH a b b) (mkH a b c) (mkX a b c) (mkY a b c) (foAt x y s) (foRot u) i
def c33 : Con
  | [.agg [.v (.int .i64 a), .v (.int .i64 b), .v (.int .i64 c), .v (.int .i64 x), .v (.int .i64 y), .v (.int .i64 u)], .v (.int .i64 s)] => some ([inR a, inR b, inR c, inR x, inR y, inR u, 1 ≤ s ∧ s ≤ 1000000], formA (foK a b c x y u s) (foX a b c x y u s) (foY a b c x y u s) (foR a b c x y u s) (foN a b c x y u s) fun i => [i64 (foP a b c x y u s i), i64 (foQ a b c x y u s i)])
  | _ => none
theorem con33 : ConOK Tryz.prog 33 c33 := ConOK.of (G := [(25, c25), (26, c26), (18, c17)]) (H := [(1, ⟨[(10, .made 9)], []⟩)]) (.cons con25 (.cons con26 (.cons con18 .nil))) Tryz.func33 fun l ob r hc hob => by
  unfold c33 at hc
  split at hc
  · rename_i a b c x y u s
    cases hc
    have h_0 : inR a := hob _ (by simp)
    have h_1 : inR b := hob _ (by simp)
    have h_2 : inR c := hob _ (by simp)
    have h_3 : inR x := hob _ (by simp)
    have h_4 : inR y := hob _ (by simp)
    have h_5 : inR u := hob _ (by simp)
    have h_6 : 1 ≤ s ∧ s ≤ 1000000 := hob _ (by simp)
    refine ⟨by kernel_rfl, fnVC_go (rs := [.cell 4 36]) rfl rfl ?_⟩
    simp only [go_sem, c25, c26, c17, c17]
    simp only [forall_eq]
    exact ⟨h_0, h_1, h_2, h_3, h_4, h_5, h_6, fun i hi => ⟨rfl, mk_inR i hi⟩, mkN_le, tmod_inR h_6, tmod_inR h_6, rg_inR (show rg (csV _ _) from snV_rg), rg_inR snV_rg, rfl⟩
  · cases hc
end Go.Ax
end

section
/-
  What is met first, the law's body.
-/
set_option linter.unusedVariables false
set_option linter.unusedSimpArgs false
set_option maxHeartbeats 4000000
set_option maxRecDepth 100000
namespace Go.Ax
open Go.Proofs
theorem cmpS_neg {x y : Int} : (cmpS x y < 0) = (x < y) := by
  unfold cmpS
  apply propext
  split
  · constructor <;> intro _ <;> omega
  · split <;> (constructor <;> intro _ <;> omega)
theorem fir_spec {C : Nat → HitT} (hC : ∀ i, rg (C i).2.1.1) : ∀ n : Nat, ((firS C n).1 = -1 ∧ (firS C n).2 = hit0 ∧ ∀ j, j < n → (C j).1 = false) ∨ (∃ k : Nat, k < n ∧ (firS C n).1 = (k : Int) ∧ (firS C n).2 = C k ∧ ∀ j, j < n → (C j).1 = true → (C k).2.1.1 ≤ (C j).2.1.1 ∧ ((C j).2.1.1 = (C k).2.1.1 → k ≤ j))
  | 0 => .inl ⟨rfl, rfl, fun j hj => by omega⟩
  | n + 1 => by
    have ih := fir_spec hC n
    have e : firS C (n + 1) = if (C n).1 = true ∧ ((firS C n).1 < 0 ∨ cmpS (whV (C n).2.1.1) (whV (firS C n).2.2.1.1) < 0) then ((n : Int), C n) else firS C n := rfl
    rcases ih with ⟨e1, e2, e3⟩ | ⟨k, hk, e1, e2, e3⟩
    · rw [e1, e2] at e
      by_cases h : (C n).1 = true
      · rw [if_pos ⟨h, .inl (by omega)⟩] at e
        rw [e]
        refine .inr ⟨n, by omega, rfl, rfl, fun j hj hh => ?_⟩
        by_cases q : j = n
        · subst q; exact ⟨Int.le_refl _, fun _ => Nat.le_refl _⟩
        · rw [e3 j (by omega)] at hh; cases hh
      · rw [if_neg (fun q => h q.1)] at e
        rw [e]
        refine .inl ⟨e1, e2, fun j hj => ?_⟩
        by_cases q : j = n
        · subst q; simpa using h
        · exact e3 j (by omega)
    · rw [e1, e2, whV_of (hC n), whV_of (hC k)] at e
      simp only [cmpS_neg] at e
      by_cases h : (C n).1 = true ∧ ((k : Int) < 0 ∨ (C n).2.1.1 < (C k).2.1.1)
      · rw [if_pos h] at e
        rw [e]
        refine .inr ⟨n, by omega, rfl, rfl, fun j hj hh => ?_⟩
        by_cases q : j = n
        · subst q; exact ⟨Int.le_refl _, fun _ => Nat.le_refl _⟩
        · have := e3 j (by omega) hh
          omega
      · rw [if_neg h] at e
        rw [e]
        refine .inr ⟨k, by omega, e1, e2, fun j hj hh => ?_⟩
        by_cases q : j = n
        · subst q
          have : ¬ ((C j).2.1.1 < (C k).2.1.1) := fun q => h ⟨hh, .inr q⟩
          omega
        · exact e3 j (by omega) hh
theorem rg_0 : rg 0 := by unfold rg; omega
theorem hit0_rg : rg hit0.2.1.1 := rg_0
theorem plE_rg {n : Nat} {X Y : Nat → Int} {s : PS} : rg (plE n X Y s).2.1.1 := by
  unfold plE plHit
  split
  · exact rg_0
  · split
    · exact rg_0
    · exact nRat_rg
theorem dmT_rg {a b c d e : Int} : rg (dmT a b c d e).1 := by
  unfold dmT nCl
  have h1 : whV (nInt 1).1 = 4294967296 := by decide
  have h2 : whV 0 = 0 := by decide
  dsimp only
  rw [h1, h2]
  unfold rg
  omega
theorem castS_rg {k x y r : Int} {n : Nat} {X Y : Nat → Int} {a b c d : Int} : rg (castS k x y r n X Y a b c d).2.1.1 := by
  unfold castS
  split
  · split
    · exact rg_0
    · split
      · unfold dmH
        split
        · exact rg_0
        · exact dmT_rg
      · unfold plH
        split
        · exact rg_0
        · exact plE_rg
  · exact rg_0
theorem foX_inR {a b c x y u s : Int} : inR (foX a b c x y u s) := by
  unfold foX plC
  split
  · exact spV_inR
  · unfold inR; omega
theorem foY_inR {a b c x y u s : Int} : inR (foY a b c x y u s) := by
  unfold foY plC
  split
  · exact spV_inR
  · unfold inR; omega
theorem foR_inR {a b c x y u s : Int} : inR (foR a b c x y u s) := by
  have := @mkW_bd b b
  unfold foR plR mkR
  split
  · split <;> (unfold inR; omega)
  · unfold inR; omega
theorem vc6 (m : Nat) (A B C X Y U : Nat → Int) (a b c d : Int) (hX : ∀ i, i < m → (inR (A i) ∧ inR (B i) ∧ inR (C i)) ∧ inR (X i) ∧ inR (Y i) ∧ inR (U i)) (h1 : inR a) (h2 : inR b) (h3 : inR c) (h4 : inR d) :
    fnVC Tryz.prog [(14, c14), (23, c23), (32, c32), (33, c33), (34, c34)] [(15, ⟨[(8, .made 7)], []⟩)] Tryz.f6 [.ro m 6 fun i => [i64 (A i), i64 (B i), i64 (C i), i64 (X i), i64 (Y i), i64 (U i)], i64 a, i64 b, i64 c, i64 d] (· = bo true) := by
  refine fnVC_go (rs := [.tmp 10]) rfl rfl ?_
  simp only [go_sem, c14, c32]
  refine ⟨fun _ _ => trivial, fun hm => ?_⟩
  have hm : m ≤ 6 := by omega
  have r1 : ∀ v : Int, inR (v.tmod 6001) := fun v => by
    have h1 : v.tmod 6001 < 6001 := Int.tmod_lt_of_pos v (by omega)
    have h2 : -6001 < v.tmod 6001 := Int.lt_tmod_of_pos v (by omega)
    unfold inR; omega
  intro p hp q hq u hu v hv
  have hp : inR p := by rw [hp]; exact r1 a
  have hq : inR q := by rw [hq]; exact r1 b
  have hu : inR u := by rw [hu]; exact r1 c
  have hv : inR v := by rw [hv]; exact r1 d
  have hb : bytesT Tryz.prog 36 = 56 := by kernel_rfl
  obtain ⟨K, hK⟩ : ∃ K : Nat → Int, ∀ i, foK (A i) (B i) (C i) (X i) (Y i) (U i) 12 = K i := ⟨_, fun _ => rfl⟩
  obtain ⟨V, hV⟩ : ∃ V : Nat → Int, ∀ i, foX (A i) (B i) (C i) (X i) (Y i) (U i) 12 = V i := ⟨_, fun _ => rfl⟩
  obtain ⟨W, hW⟩ : ∃ W : Nat → Int, ∀ i, foY (A i) (B i) (C i) (X i) (Y i) (U i) 12 = W i := ⟨_, fun _ => rfl⟩
  obtain ⟨R1, hR1⟩ : ∃ R1 : Nat → Int, ∀ i, foR (A i) (B i) (C i) (X i) (Y i) (U i) 12 = R1 i := ⟨_, fun _ => rfl⟩
  obtain ⟨N, hN⟩ : ∃ N : Nat → Nat, ∀ i, foN (A i) (B i) (C i) (X i) (Y i) (U i) 12 = N i := ⟨_, fun _ => rfl⟩
  obtain ⟨P, hP⟩ : ∃ P : Nat → Nat → Int, ∀ i j, foP (A i) (B i) (C i) (X i) (Y i) (U i) 12 j = P i j := ⟨_, fun _ _ => rfl⟩
  obtain ⟨Q, hQ⟩ : ∃ Q : Nat → Nat → Int, ∀ i j, foQ (A i) (B i) (C i) (X i) (Y i) (U i) 12 j = Q i j := ⟨_, fun _ _ => rfl⟩
  refine loopN_go (fun (i : Nat) => i ≤ m) (fun i => m - i) (fun i => [(14, i64 i), (13, .own 16 0 i 5)]) (fun i => [(16, famN i 5 36 (fun j => formC (K j) (V j) (W j) (R1 j) (N j) (P j) (Q j)) none)]) [11, 10] [29, 30, 31, 32, 35, 36, 37, 38, 39, 40, 41, 42, 13, 33, 34, 14] 1 0 (by kernel_rfl) (Nat.zero_le _) ⟨[(16, none)], ?_, ?_, ?_, ?_⟩ ?_
  · simp only [go_sem]
  · simp only [go_sem]
  · simp only [go_sem]
  · simp [goodNames, asg]
  intro i hi
  simp only [go_sem, c33, c34, c23, hK, hV, hW, hR1, hN, hP, hQ]
  rw [hb]
  refine ⟨fun hin => ?_, fun hin => ?_⟩
  · have hin' : i < m := by omega
    have hx := hX i hin'
    simp only [forall_eq]
    refine ⟨by omega, hin, hx.1.1, hx.1.2.1, hx.1.2.2, hx.2.1, hx.2.2.1, hx.2.2.2, by omega, by omega, i + 1, by omega, by omega, [(16, some 28)], ?_⟩
    simp only [go_sem]
    refine ⟨by rw [wrap_in (by unfold inR; omega)]; rfl, fun j hj => ?_, by simp [goodNames, asg]⟩
    by_cases e : j < i
    · rw [if_pos e]; simp only [go_sem]
    · have e : j = i := by omega
      subst e
      rw [if_neg (by omega), Nat.sub_self]
      simp only [Nat.zero_mul, go_sem]
  · have e : i = m := by omega
    subst e
    generalize hC : (fun i => castC p q u v [AV.v (Value.int IntKind.i64 (K i)), AV.v (Value.int IntKind.i64 (V i)), AV.v (Value.int IntKind.i64 (W i)), AV.v (Value.int IntKind.i64 (R1 i)), AV.ro (N i) 2 fun j => [i64 (P i j), i64 (Q i j)]]) = CC
    have hCi : ∀ i, castS (K i) (V i) (W i) (R1 i) (N i) (gx (fun j => [i64 (P i j), i64 (Q i j)]) 0) (gx (fun j => [i64 (P i j), i64 (Q i j)]) 1) p q u v = CC i := fun i => by rw [← hC]; rfl
    have fo : forms i fun i => [AV.v (Value.int IntKind.i64 (K i)), AV.v (Value.int IntKind.i64 (V i)), AV.v (Value.int IntKind.i64 (W i)), AV.v (Value.int IntKind.i64 (R1 i)), AV.ro (N i) 2 fun j => [i64 (P i j), i64 (Q i j)]] := fun j hj => ⟨rfl, by show inR (V j); rw [← hV j]; exact foX_inR, by show inR (W j); rw [← hW j]; exact foY_inR, by show inR (R1 j); rw [← hR1 j]; exact foR_inR, fun l hl => ⟨rfl, by show inR (P j l); rw [← hP j l]; exact spV_inR, by show inR (Q j l); rw [← hQ j l]; exact spV_inR⟩, by show N j ≤ _; rw [← hN j]; exact Nat.le_trans plN_le (by omega)⟩
    simp only [hCi]
    refine ⟨by omega, fo, hp, hq, hu, hv, ?_⟩
    have sp : ((firS CC i).1 = -1 ∧ (firS CC i).2 = hit0 ∧ ∀ j, j < i → (CC j).1 = false) ∨ (∃ k : Nat, k < i ∧ (firS CC i).1 = (k : Int) ∧ (firS CC i).2 = CC k ∧ ∀ j, j < i → (CC j).1 = true → (CC k).2.1.1 ≤ (CC j).2.1.1 ∧ ((CC j).2.1.1 = (CC k).2.1.1 → k ≤ j)) := fir_spec (fun j => by rw [← hCi j]; exact castS_rg) i
    rcases sp with ⟨e1, e2, e3⟩ | ⟨k, hk, e1, e2, e3⟩
    · rw [e1, e2]
      have F : ∀ {p : Prop}, (0 : Int) ≤ -1 → p := fun h => absurd h (by omega)
      refine ⟨fun a b => ⟨a, b⟩, fun h => h.2, fun h => F h.2, fun h => F h.2, fun _ => trivial, fun h => F h.2, fun h => F h.2, fun h => F h.2, fun h => F h.2, fun h => F h.2, fun h => F h.2, fun h => F h.2, fun h => F h.2, fun h => F h.2, fun h k => ⟨h, k⟩, fun h => ?_, fun h => ?_⟩
      · rcases h with ((h | h) | h) | h
        · omega
        · omega
        · simp [hit0] at h
        · omega
      · refine loopC_go (fun (j : Nat) => j ≤ i) (fun j => i - j) (fun j => [(17, i64 j)]) (fun _ => []) [28, 16, 11, 10] [82, 83, 84, 85, 88, 89, 90, 91, 92, 93, 94, 18, 95, 96, 97, 98, 99, 100, 101, 102, 103, 104, 105, 106, 107, 108, 109, 110, 111, 112, 113, 114, 115, 116, 117, 118, 119, 120, 121, 122, 123, 10, 86, 87, 17] 0 (by kernel_rfl) ?_ (Nat.zero_le _) ?_ ?_
        · intro x _; simp [goodNames]
        · simp only [go_sem]
        intro j hj
        simp only [go_sem, c23, c14, hCi]
        refine ⟨fun hin => ?_, fun _ _ => trivial⟩
        have hj' : j < i := by omega
        have fj := fo j hj'
        refine ⟨by omega, hin, hj', fj.2.2.2.2.1, fj.2.2.2.2.2, fj.2.1, fj.2.2.1, fj.2.2.2.1, hp, hq, hu, hv, ?_, ?_, ?_, fun h => ?_, fun h z hz => ⟨j + 1, by omega, by omega, ?_⟩⟩
        · intro _ h; cases h
        · rintro ⟨_, h, _⟩; cases h
        · rintro _ ⟨h, _⟩; cases h
        · rw [e3 j hj'] at h; cases h.1
        · rw [hz, wrap_in (by unfold inR; omega)]; rfl
    · rw [e1, e2]
      have fk := fo k hk
      have tn : ((k : Int)).toNat = k := Int.toNat_natCast k
      rw [tn]
      refine ⟨fun a b => ⟨a, b⟩, fun h => h.2, fun h => by omega, fun h => hk, fun h => trivial, fun h => fk.2.2.2.2.1, fun h => fk.2.2.2.2.2, fun h => fk.2.1, fun h => fk.2.2.1, fun h => fk.2.2.2.1, fun h => hp, fun h => hq, fun h => hu, fun h => hv, fun h k => ⟨h, k⟩, fun h => ?_, fun h => ?_⟩
      · rcases h with ((h | h) | h) | h
        · omega
        · omega
        · omega
        · simp at h
      · refine loopC_go (fun (j : Nat) => j ≤ i) (fun j => i - j) (fun j => [(17, i64 j)]) (fun _ => []) [28, 16, 11, 10] [82, 83, 84, 85, 88, 89, 90, 91, 92, 93, 94, 18, 95, 96, 97, 98, 99, 100, 101, 102, 103, 104, 105, 106, 107, 108, 109, 110, 111, 112, 113, 114, 115, 116, 117, 118, 119, 120, 121, 122, 123, 10, 86, 87, 17] 0 (by kernel_rfl) ?_ (Nat.zero_le _) ?_ ?_
        · intro x _; simp [goodNames]
        · simp only [go_sem]
        intro j hj
        simp only [go_sem, c23, c14, hCi]
        refine ⟨fun hin => ?_, fun _ _ => trivial⟩
        have hj' : j < i := by omega
        have fj := fo j hj'
        refine ⟨by omega, hin, hj', fj.2.2.2.2.1, fj.2.2.2.2.2, fj.2.1, fj.2.2.1, fj.2.2.2.1, hp, hq, hu, hv, ?_, ?_, ?_, fun h => ?_, fun h z hz => ⟨j + 1, by omega, by omega, ?_⟩⟩
        · exact fun a b => ⟨a, b⟩
        · exact fun a b => ⟨a, b⟩
        · exact fun a b => ⟨a, b⟩
        · obtain ⟨g1, (g2 | g2) | ⟨g2, g3⟩⟩ := h
          · omega
          · have := e3 j hj' g1
            omega
          · have := e3 j hj' g1
            have := this.2 (by simpa using g2)
            omega
        · rw [hz, wrap_in (by unfold inR; omega)]; rfl
end Go.Ax
end

section
/-
  How far forms are from each other: the small parts.
-/
set_option linter.unusedVariables false
set_option linter.unusedSimpArgs false
set_option maxHeartbeats 4000000
set_option maxRecDepth 100000
namespace Go.Ax
open Go.Proofs
def dtW (a b c d : Int) : Int := IntKind.i64.wrap (IntKind.i64.wrap (a * c) + IntKind.i64.wrap (b * d))
def crW (a b c d : Int) : Int := IntKind.i64.wrap (IntKind.i64.wrap (a * d) - IntKind.i64.wrap (b * c))
def mnW (a b : Int) : Int := IntKind.i64.wrap (b - a)
/-- Whether an edge is farther from a spot than so. -/
def farS (ax ay bx byy cx cy r : Int) : Bool :=
  if dtW (mnW ax cx) (mnW ay cy) (mnW ax bx) (mnW ay byy) ≤ 0 then decide (IntKind.i64.wrap (r * r) < dtW (mnW ax cx) (mnW ay cy) (mnW ax cx) (mnW ay cy))
  else if dtW (mnW ax bx) (mnW ay byy) (mnW ax bx) (mnW ay byy) ≤ dtW (mnW ax cx) (mnW ay cy) (mnW ax bx) (mnW ay byy) then decide (IntKind.i64.wrap (r * r) < dtW (mnW bx cx) (mnW byy cy) (mnW bx cx) (mnW byy cy))
  else decide (0 < cmpS (crW (mnW ax bx) (mnW ay byy) (mnW ax cx) (mnW ay cy) * crW (mnW ax bx) (mnW ay byy) (mnW ax cx) (mnW ay cy)) (IntKind.i64.wrap (r * r) * dtW (mnW ax bx) (mnW ay byy) (mnW ax bx) (mnW ay byy)))
theorem dtW_eq {a b c d : Int} : IntKind.i64.wrap (IntKind.i64.wrap (a * c) + IntKind.i64.wrap (b * d)) = dtW a b c d := rfl
theorem crW_eq {a b c d : Int} : IntKind.i64.wrap (IntKind.i64.wrap (a * d) - IntKind.i64.wrap (b * c)) = crW a b c d := rfl
theorem mnW_eq {a b : Int} : IntKind.i64.wrap (b - a) = mnW a b := rfl
theorem dtW_inR {a b c d : Int} : inR (dtW a b c d) := wrap_inR _
theorem crW_inR {a b c d : Int} : inR (crW a b c d) := wrap_inR _
def c157 : Con
  | [.agg [.v (.int .i64 ax), .v (.int .i64 ay)], .agg [.v (.int .i64 bx), .v (.int .i64 byy)], .agg [.v (.int .i64 cx), .v (.int .i64 cy)], .v (.int .i64 r)] => some ([], bo (farS ax ay bx byy cx cy r))
  | _ => none
theorem con157 : ConOK Tryz.prog 157 c157 := ConOK.of (G := [(154, c154), (155, c155), (164, c164), (211, c211)]) (H := [(1, ⟨[(12, .made 9), (13, .made 10), (14, .made 11)], []⟩)]) (.cons con154 (.cons con155 (.cons con164 (.cons con211 .nil)))) Tryz.func157 fun l ob r hc hob => by
  unfold c157 at hc
  split at hc
  · rename_i r
    cases hc
    refine ⟨by kernel_rfl, fnVC_go (rs := [.tmp 8]) rfl rfl ?_⟩
    simp only [go_sem, c154, c155, c164, c211]
    simp only [forall_eq, mnW_eq, dtW_eq]
    refine ⟨fun h => ?_, fun h => ⟨fun h2 => ?_, fun h2 => ⟨wrap_inR _, wrap_inR _, wrap_inR _, dtW_inR, ?_⟩⟩⟩
    · unfold farS; rw [if_pos h]
    · unfold farS; rw [if_neg h, if_pos h2]
    · unfold farS; rw [if_neg h, if_neg h2]; rfl
  · cases hc
def k180 : Con
  | [.agg [.v (.int .i64 x), .v (.bool e), .v (.int .i64 y), .v (.bool f)], .agg [.v (.int .i64 a), .v (.int .i64 b)], .agg [.v (.int .i64 c), .v (.int .i64 d)]] => some ([inR x, inR y], nbA (vDot ((x, e), (y, f)) (vLoc (mnW a c) (mnW b d))))
  | _ => none
theorem kon180 : ConOK Tryz.prog 180 k180 := ConOK.of (G := [(154, c154), (63, k63), (178, k178)]) (H := [(1, ⟨[(6, .slot 6)], []⟩)]) (.cons con154 (.cons kon63 (.cons kon178 .nil))) Tryz.func180 fun l ob r hc hob => by
  unfold k180 at hc
  split at hc
  · rename_i x e y f a b c d
    cases hc
    have h_0 : inR x := hob _ (by simp)
    have h_1 : inR y := hob _ (by simp)
    refine ⟨by kernel_rfl, fnVC_go (rs := [.cell 6 26]) rfl rfl ?_⟩
    simp only [go_sem, c154, k63, k178]
    simp only [forall_eq]
    exact ⟨wrap_inR _, wrap_inR _, h_0, h_1, rfl⟩
  · cases hc
/-- Whether an edge of the one has all of the other on its farther side. -/
def clrS (n : Nat) (X Y : Nat → Int) (m : Nat) (Z T : Nat → Int) : Bool := decide (∃ i, i < n ∧ ∀ j, j < m → turnS (X i) (Y i) (X (nxt n i)) (Y (nxt n i)) (Z j) (T j) < 0)
/-- Whether a disc is off a polygon. -/
def outS (n : Nat) (X Y : Nat → Int) (cx cy r : Int) : Bool := decide (inS n X Y cx cy = false ∧ ∀ i, i < n → farS (X i) (Y i) (X (nxt n i)) (Y (nxt n i)) cx cy r = true)
theorem vc158 (n m : Nat) (X Y Z T : Nat → Int) (hX : ∀ i, i < n → inR (X i) ∧ inR (Y i)) (hZ : ∀ i, i < m → inR (Z i) ∧ inR (T i)) (hn : n ≤ 9223372036854775806) (hm : m ≤ 9223372036854775806) (vX : ∀ i, i < n → validS (X i) (Y i) = true) (vZ : ∀ i, i < m → validS (Z i) (T i) = true) :
    fnVC Tryz.prog [(97, c97), (121, c121), (1000000 + 187, c187)] [] Tryz.f158 [.agg [.ro n 2 fun i => [i64 (X i), i64 (Y i)]], .agg [.ro m 2 fun i => [i64 (Z i), i64 (T i)]]] (· = bo (clrS n X Y m Z T)) := by
  refine fnVC_go (rs := [.cell 4 4]) rfl rfl ?_
  simp only [go_sem, c121]
  have hg : spots n fun i => [i64 (X i), i64 (Y i)] := fun i hi => ⟨rfl, hX i hi⟩
  refine rangeC_go (fun (i : Nat) => i ≤ n ∧ ∀ j, j < i → ¬ ∀ l, l < m → turnS (X j) (Y j) (X (nxt n j)) (Y (nxt n j)) (Z l) (T l) < 0) (fun i => i) (fun _ => []) [2, 1, 0] [11, 12, 5, 6, 13, 14, 15, 16, 17, 18, 19, 8, 20, 21, 22, 23, 24, 25, 16] 0 0 (N := n) (sq := edgeE n fun i => [i64 (X i), i64 (Y i)]) (ob := [spots n fun i => [i64 (X i), i64 (Y i)], n ≤ 9223372036854775806]) rfl (by simp [hg, hn]) (by kernel_rfl) rfl (fun i _ => ⟨rfl, rfl⟩) ⟨Nat.zero_le _, fun j hj => by omega⟩ rfl ⟨[], ?_, ?_, ?_⟩ ?_ ?_
  · simp only [go_sem]
  · simp only [go_sem]
  · simp [goodNames, asg]
  · intro i hi hlt
    simp only [go_sem, edgeE, c97]
    refine loopC_go (fun (j : Nat) => j ≤ m ∧ ∀ l, l < j → turnS (X i) (Y i) (X (nxt n i)) (Y (nxt n i)) (Z l) (T l) < 0) (fun j => m - j) (fun j => [(16, i64 j)]) (fun _ => []) [7, 5, 2, 1, 0] [17, 18, 19, 8, 20, 21, 22, 23, 24, 25, 16] 0 (by kernel_rfl) ?_ ⟨Nat.zero_le _, fun l hl => by omega⟩ ?_ ?_
    · intro x _; simp [goodNames]
    · simp only [go_sem]
    intro j hj
    simp only [go_sem, c97]
    refine ⟨fun hin => ⟨by omega, hin, fun z hz => ⟨vX i hlt, vX _ (nxt_lt hlt), vZ j (by omega), fun h => ⟨i + 1, ⟨by have : i < n := hlt; omega, fun j' hj' => ?_⟩, rfl, [], ?_⟩, fun h z1 hz1 => ⟨j + 1, ⟨by omega, fun l hl => ?_⟩, by omega, ?_⟩⟩⟩, fun hin => ?_⟩
    · by_cases e : j' = i
      · subst e
        intro hc
        have := hc j (by omega)
        omega
      · exact hi.2 j' (by omega)
    · simp [goodNames]
    · by_cases e : l = j
      · subst e; omega
      · exact hj.2 l (by omega)
    · rw [hz1, wrap_in (by unfold inR; omega)]; rfl
    · exact (decide_eq_true (show ∃ i, _ from ⟨i, hlt, fun l hl => hj.2 l (by omega)⟩)).symm
  · intro i hi he
    simp only [go_sem]
    refine (decide_eq_false (fun ⟨j, hj, hc⟩ => hi.2 j (by omega) hc)).symm
def c158 : Con
  | [.agg [.ro n 2 g], .agg [.ro m 2 g']] => some ([spots n g, spots m g', n ≤ 9223372036854775806, m ≤ 9223372036854775806, ∀ i, i < n → validS (gx g 0 i) (gx g 1 i) = true, ∀ i, i < m → validS (gx g' 0 i) (gx g' 1 i) = true], bo (clrS n (gx g 0) (gx g 1) m (gx g' 0) (gx g' 1)))
  | _ => none
theorem con158 : ConOK Tryz.prog 158 c158 := ConOK.go (G := [(97, c97), (121, c121), (1000000 + 187, c187)]) (H := []) (.cons con97 (.cons con121 (.seq seq187 .nil))) Tryz.func158 fun l ob rr hc hob => by
  unfold c158 at hc
  split at hc
  · rename_i n g m g'
    cases hc
    have hs : spots n g := hob _ (by simp)
    have hs' : spots m g' := hob _ (by simp)
    exact ⟨[.agg [.ro n 2 fun i => [i64 (gx g 0 i), i64 (gx g 1 i)]], .agg [.ro m 2 fun i => [i64 (gx g' 0 i), i64 (gx g' 1 i)]]], fun w I vs h => Rs_two (Rs_poly hs) (Rs_poly hs') h, by kernel_rfl, vc158 n m _ _ _ _ (fun i hi => (hs i hi).2) (fun i hi => (hs' i hi).2) (hob _ (by simp)) (hob _ (by simp)) (hob _ (by simp)) (hob _ (by simp))⟩
  · cases hc
/-- The corners of a form that is sound. -/
theorem vc93 (k x y r : Int) (n : Nat) (X Y : Nat → Int) (k' x' y' r' : Int) (m : Nat) (Z T : Nat → Int) (hX : ∀ i, i < n → inR (X i) ∧ inR (Y i)) (hZ : ∀ i, i < m → inR (Z i) ∧ inR (T i)) (hn : n ≤ 9223372036854775806) (hm : m ≤ 9223372036854775806) (vX : ∀ i, i < n → validS (X i) (Y i) = true) (vZ : ∀ i, i < m → validS (Z i) (T i) = true) :
    fnVC Tryz.prog [(79, c79), (100, c100)] [] Tryz.f93 [formA k x y r n fun i => [i64 (X i), i64 (Y i)], formA k' x' y' r' m fun i => [i64 (Z i), i64 (T i)]] (· = bo (clrS n X Y m Z T)) := by
  refine fnVC_go (rs := [.tmp 4]) rfl rfl ?_
  simp only [go_sem]
  have hg : spots n fun i => [i64 (X i), i64 (Y i)] := fun i hi => ⟨rfl, hX i hi⟩
  refine loopC_go (fun (i : Nat) => i ≤ n ∧ ∀ j, j < i → ¬ ∀ l, l < m → turnS (X j) (Y j) (X (nxt n j)) (Y (nxt n j)) (Z l) (T l) < 0) (fun i => n - i) (fun i => [(5, i64 i)]) (fun _ => []) [1, 0] [10, 11, 12, 13, 14, 18, 19, 20, 17, 21, 22, 6, 7, 8, 9, 23, 24, 25, 26, 27, 30, 31, 32, 33, 34, 35, 36, 37, 38, 39, 40, 41, 8, 28, 29, 9, 42, 4, 15, 16, 5] 0 (by kernel_rfl) ?_ ⟨Nat.zero_le _, fun l hl => by omega⟩ ?_ ?_
  · intro x _; simp [goodNames]
  · simp only [go_sem]
  intro i hi
  simp only [go_sem, c79]
  refine ⟨fun hin => ⟨hg, by omega, hin, hn, ?_⟩, fun hin => ?_⟩
  · have hlt : i < n := by omega
    refine loopC_go (fun (j : Nat) => j ≤ m) (fun j => m - j) (fun j => [(9, i64 j), (8, bo (decide (∀ l, l < j → turnS (X i) (Y i) (X (nxt n i)) (Y (nxt n i)) (Z l) (T l) < 0)))]) (fun _ => []) [16, 15, 1, 0] [23, 24, 25, 26, 27, 30, 31, 32, 33, 34, 35, 36, 37, 38, 39, 40, 41, 8, 28, 29, 9] 0 (by kernel_rfl) ?_ (Nat.zero_le _) ?_ ?_
    · intro x _; simp [goodNames]
    · simp only [go_sem]
      exact (decide_eq_true fun l hl => absurd hl (Nat.not_lt_zero l)).symm
    intro j hj
    simp only [go_sem, c100]
    refine ⟨fun hin2 => ⟨fun _ => by omega, fun _ => hin2, fun z hz z1 hz1 => ⟨j + 1, by omega, by omega, by rw [hz1, wrap_in (by unfold inR; omega)]; rfl, ?_⟩⟩, fun hin2 => ⟨fun h => ?_, fun h z hz => ⟨i + 1, ⟨by omega, fun j' hj' => ?_⟩, by omega, by rw [hz, wrap_in (by unfold inR; omega)]; rfl⟩⟩⟩
    · have hs : z < 0 ↔ turnS (X i) (Y i) (X (nxt n i)) (Y (nxt n i)) (Z j) (T j) < 0 := by
        rw [hz]
        unfold sideS
        rw [if_pos ⟨vX i hlt, vX _ (nxt_lt hlt), vZ j (by omega)⟩]
        split
        · omega
        · split <;> omega
      rw [Bool.eq_iff_iff]
      simp only [Bool.and_eq_true, decide_eq_true_eq, hs]
      constructor
      · rintro ⟨h1, h2⟩ l hl
        by_cases e : l = j
        · subst e; exact h2
        · exact h1 l (by omega)
      · intro h
        exact ⟨fun l hl => h l (by omega), h j (by omega)⟩
    · exact (decide_eq_true (show ∃ i, _ from ⟨i, hlt, fun l hl => h l (by omega)⟩)).symm
    · by_cases e : j' = i
      · subst e
        intro hc
        exact h fun l hl => hc l (by omega)
      · exact hi.2 j' (by omega)
  · exact (decide_eq_false (fun ⟨j, hj, hc⟩ => hi.2 j (by omega) hc)).symm
def c93 : Con
  | [.agg [.v (.int .i64 k), .v (.int .i64 x), .v (.int .i64 y), .v (.int .i64 r), .ro n 2 g], .agg [.v (.int .i64 k'), .v (.int .i64 x'), .v (.int .i64 y'), .v (.int .i64 r'), .ro m 2 g']] => some ([spots n g, spots m g', n ≤ 9223372036854775806, m ≤ 9223372036854775806, ∀ i, i < n → validS (gx g 0 i) (gx g 1 i) = true, ∀ i, i < m → validS (gx g' 0 i) (gx g' 1 i) = true], bo (clrS n (gx g 0) (gx g 1) m (gx g' 0) (gx g' 1)))
  | _ => none
theorem con93 : ConOK Tryz.prog 93 c93 := ConOK.go (G := [(79, c79), (100, c100)]) (H := []) (.cons con79 (.cons con100 .nil)) Tryz.func93 fun l ob rr hc hob => by
  unfold c93 at hc
  split at hc
  · rename_i k x y r n g k' x' y' r' m g'
    cases hc
    have hs : spots n g := hob _ (by simp)
    have hs' : spots m g' := hob _ (by simp)
    exact ⟨[formA k x y r n fun i => [i64 (gx g 0 i), i64 (gx g 1 i)], formA k' x' y' r' m fun i => [i64 (gx g' 0 i), i64 (gx g' 1 i)]], fun w I vs h => Rs_two (Rs_form hs) (Rs_form hs') h, by kernel_rfl, vc93 k x y r n _ _ k' x' y' r' m _ _ (fun i hi => (hs i hi).2) (fun i hi => (hs' i hi).2) (hob _ (by simp)) (hob _ (by simp)) (hob _ (by simp)) (hob _ (by simp))⟩
  · cases hc
theorem vc92 (k x y r : Int) (n : Nat) (X Y : Nat → Int) (k' x' y' r' : Int) (m : Nat) (Z T : Nat → Int) (hX : ∀ i, i < n → inR (X i) ∧ inR (Y i)) (hn : n ≤ 9223372036854775806) (hc : checkS k x y r n X Y = 0) (hk : ¬ k = 1) (vC : validS x' y' = true) :
    fnVC Tryz.prog [(77, c77), (79, c79), (80, c164), (81, c81), (82, c82), (91, c155)] [(7, ⟨[(9, .made 7), (10, .made 8)], []⟩)] Tryz.f92 [formA k x y r n fun i => [i64 (X i), i64 (Y i)], formA k' x' y' r' m fun i => [i64 (Z i), i64 (T i)]] (· = bo (outS n X Y x' y' r')) := by
  refine fnVC_go (rs := [.tmp 4]) rfl rfl ?_
  simp only [go_sem, c77]
  have hg : spots n fun i => [i64 (X i), i64 (Y i)] := fun i hi => ⟨rfl, hX i hi⟩
  have eX : gx (fun i => [i64 (X i), i64 (Y i)]) 0 = X := rfl
  have eY : gx (fun i => [i64 (X i), i64 (Y i)]) 1 = Y := rfl
  have hh : holdsS k x y r n X Y x' y' = inS n X Y x' y' := if_neg hk
  rw [eX, eY, hh]
  intro z hz
  refine ⟨hg, hn, hc, vC, fun h => ?_, fun h => ?_⟩
  · refine (decide_eq_false fun hq => ?_).symm
    rw [← hz, h] at hq
    exact absurd hq.1 (by simp)
  refine loopC_go (fun (i : Nat) => i ≤ n ∧ ∀ j, j < i → farS (X j) (Y j) (X (nxt n j)) (Y (nxt n j)) x' y' r' = true) (fun i => n - i) (fun i => [(5, i64 i)]) (fun _ => []) [1, 0] [16, 17, 18, 19, 20, 24, 25, 26, 23, 27, 28, 6, 7, 29, 30, 31, 32, 33, 34, 35, 8, 9, 36, 37, 38, 39, 40, 41, 10, 11, 42, 43, 44, 45, 46, 47, 48, 49, 50, 51, 52, 4, 53, 54, 55, 56, 57, 58, 59, 60, 61, 62, 63, 64, 65, 66, 67, 68, 4, 69, 70, 71, 72, 73, 74, 75, 76, 77, 78, 79, 80, 81, 82, 4, 21, 22, 5] 0 (by kernel_rfl) ?_ ⟨Nat.zero_le _, fun l hl => by omega⟩ ?_ ?_
  · intro x _; simp [goodNames]
  · simp only [go_sem]
  intro i hi
  simp only [go_sem, c79, c164, c81, c82, c155]
  simp only [forall_eq, mnW_eq, dtW_eq]
  refine ⟨fun hin => ?_, fun hin => ?_⟩
  · have hlt : i < n := by omega
    have no : farS (X i) (Y i) (X (nxt n i)) (Y (nxt n i)) x' y' r' = false → false = outS n X Y x' y' r' := fun e => (decide_eq_false (fun hq => by have := hq.2 i hlt; rw [e] at this; cases this)).symm
    have yes : farS (X i) (Y i) (X (nxt n i)) (Y (nxt n i)) x' y' r' = true → ∃ y : Nat, (y ≤ n ∧ ∀ j, j < y → farS (X j) (Y j) (X (nxt n j)) (Y (nxt n j)) x' y' r' = true) ∧ n - y < n - i ∧ IntKind.i64.wrap ((i : Int) + 1) = (y : Int) := fun e =>
      ⟨i + 1, ⟨by omega, fun j hj => by
        by_cases q : j = i
        · subst q; exact e
        · exact hi.2 j (by omega)⟩, by omega, by rw [wrap_in (by unfold inR; omega)]; rfl⟩
    refine ⟨hg, by omega, hin, hn, fun g1 => ⟨fun g2 => no ?_, fun g2 => yes ?_⟩, fun g1 => ⟨fun g3 => ⟨fun g2 => no ?_, fun g2 => yes ?_⟩, fun g3 => ⟨wrap_inR _, wrap_inR _, wrap_inR _, dtW_inR, fun g2 => no ?_, fun g2 => yes ?_⟩⟩⟩
    · unfold farS; rw [if_pos g1]; exact decide_eq_false (by omega)
    · unfold farS; rw [if_pos g1]; exact decide_eq_true (by omega)
    · unfold farS; rw [if_neg g1, if_pos g3]; exact decide_eq_false (by omega)
    · unfold farS; rw [if_neg g1, if_pos g3]; exact decide_eq_true (by omega)
    · unfold farS; rw [if_neg g1, if_neg g3]; exact decide_eq_false (Int.not_lt.2 g2)
    · unfold farS; rw [if_neg g1, if_neg g3]; exact decide_eq_true (Int.not_le.1 g2)
  · refine (decide_eq_true ⟨by rw [← hz, h], fun j hj => hi.2 j (by omega)⟩).symm
def c92 : Con
  | [.agg [.v (.int .i64 k), .v (.int .i64 x), .v (.int .i64 y), .v (.int .i64 r), .ro n 2 g], .agg [.v (.int .i64 k'), .v (.int .i64 x'), .v (.int .i64 y'), .v (.int .i64 r'), .ro m 2 g']] => some ([spots n g, spots m g', n ≤ 9223372036854775806, checkS k x y r n (gx g 0) (gx g 1) = 0, ¬ k = 1, validS x' y' = true], bo (outS n (gx g 0) (gx g 1) x' y' r'))
  | _ => none
theorem con92 : ConOK Tryz.prog 92 c92 := ConOK.go (G := [(77, c77), (79, c79), (80, c164), (81, c81), (82, c82), (91, c155)]) (H := [(7, ⟨[(9, .made 7), (10, .made 8)], []⟩)]) (.cons con77 (.cons con79 (.cons con80 (.cons con81 (.cons con82 (.cons con91 .nil)))))) Tryz.func92 fun l ob rr hc hob => by
  unfold c92 at hc
  split at hc
  · rename_i k x y r n g k' x' y' r' m g'
    cases hc
    have hs : spots n g := hob _ (by simp)
    have hs' : spots m g' := hob _ (by simp)
    exact ⟨[formA k x y r n fun i => [i64 (gx g 0 i), i64 (gx g 1 i)], formA k' x' y' r' m fun i => [i64 (gx g' 0 i), i64 (gx g' 1 i)]], fun w I vs h => Rs_two (Rs_form hs) (Rs_form hs') h, by kernel_rfl, vc92 k x y r n _ _ k' x' y' r' m _ _ (fun i hi => (hs i hi).2) (hob _ (by simp)) (hob _ (by simp)) (hob _ (by simp)) (hob _ (by simp))⟩
  · cases hc
end Go.Ax
end

section
/-
  Whether forms are apart.
-/
set_option linter.unusedVariables false
set_option linter.unusedSimpArgs false
set_option maxHeartbeats 4000000
set_option maxRecDepth 100000
namespace Go.Ax
open Go.Proofs
/-- Whether discs are apart. -/
def ddS (x y r a b s : Int) : Bool := decide (IntKind.i64.wrap (IntKind.i64.wrap (r + s) * IntKind.i64.wrap (r + s)) < dtW (mnW x a) (mnW y b) (mnW x a) (mnW y b))
theorem Rs_if {w : World} {ρ : Env} {t : TypeId} {a a' : AV} (h : ∀ v, R w ρ a v → R w ρ a' v) (v : Value) (hR : R w ρ (.iface t a) v) : R w ρ (.iface t a') v := by
  cases hR with
  | iface hh => exact .iface (h _ hh)
def c90a : Con
  | [.iface 133 (.agg [.ro n 2 g]), .iface 128 (.agg [.v (.int .i64 x), .v (.int .i64 y), .v (.int .i64 r)])] => some ([spots n g, n ≤ 9223372036854775806, ∀ i, i < n → validS (gx g 0 i) (gx g 1 i) = true, validS x y = true], bo (outS n (gx g 0) (gx g 1) x y r))
  | _ => none
theorem vc90a (n : Nat) (X Y : Nat → Int) (x y r : Int) (hX : ∀ i, i < n → inR (X i) ∧ inR (Y i)) (hn : n ≤ 9223372036854775806) (vX : ∀ i, i < n → validS (X i) (Y i) = true) (vC : validS x y = true) :
    fnVC Tryz.prog [(121, c121), (1000000 + 187, c187), (156, c156), (157, c157)] [(8, ⟨[(15, .slot 4)], []⟩)] Tryz.f90 [.iface 133 (.agg [.ro n 2 fun i => [i64 (X i), i64 (Y i)]]), .iface 128 (.agg [i64 x, i64 y, i64 r])] (· = bo (outS n X Y x y r)) := by
  refine fnVC_go (rs := [.cell 4 4]) rfl rfl ?_
  simp only [go_sem, c121, c156]
  simp only [false_imp_iff, true_imp_iff, reduceCtorEq, true_and, and_true, Bool.false_eq_true]
  have hg : spots n fun i => [i64 (X i), i64 (Y i)] := fun i hi => ⟨rfl, hX i hi⟩
  intro z hz
  refine ⟨hg, hn, vX, vC, fun h => ?_, fun h => ?_⟩
  · refine (decide_eq_false fun hq => ?_).symm
    have hz : z = inS n X Y x y := hz
    rw [← hz, h] at hq
    exact absurd hq.1 (by simp)
  refine rangeC_go (fun (i : Nat) => i ≤ n ∧ ∀ j, j < i → farS (X j) (Y j) (X (nxt n j)) (Y (nxt n j)) x y r = true) (fun i => i) (fun _ => []) [14, 8, 0] [63, 64, 11, 12, 65, 66, 67, 68, 69, 70, 71, 72] 0 0 (N := n) (sq := edgeE n fun i => [i64 (X i), i64 (Y i)]) (ob := [spots n fun i => [i64 (X i), i64 (Y i)], n ≤ 9223372036854775806]) rfl (by simp [hg, hn]) (by kernel_rfl) rfl (fun i _ => ⟨rfl, rfl⟩) ⟨Nat.zero_le _, fun j hj => by omega⟩ rfl ⟨[], ?_, ?_, ?_⟩ ?_ ?_
  · simp only [go_sem]
  · simp only [go_sem]
  · simp [goodNames, asg]
  · intro i hi hlt
    simp only [go_sem, edgeE, c157]
    refine fun z1 hz1 => ⟨fun h2 => ?_, fun h2 => ⟨i + 1, ⟨by have : i < n := hlt; omega, fun j hj => ?_⟩, rfl, [], ?_⟩⟩
    · refine (decide_eq_false fun hq => ?_).symm
      have := hq.2 i hlt
      rw [← hz1, h2] at this; cases this
    · by_cases e : j = i
      · subst e; rw [← hz1]; exact h2
      · exact hi.2 j (by omega)
    · simp [goodNames]
  · intro i hi he
    simp only [go_sem]
    have hz : z = inS n X Y x y := hz
    exact (decide_eq_true ⟨by rw [← hz, h], fun j hj => hi.2 j (by omega)⟩).symm
theorem con90a : ConOK Tryz.prog 90 c90a := ConOK.go (G := [(121, c121), (1000000 + 187, c187), (156, c156), (157, c157)]) (H := [(8, ⟨[(15, .slot 4)], []⟩)]) (.cons con121 (.seq seq187 (.cons con156 (.cons con157 .nil)))) Tryz.func90 fun l ob rr hc hob => by
  unfold c90a at hc
  split at hc
  · rename_i n g x y r
    cases hc
    have hs : spots n g := hob _ (by simp)
    refine ⟨[.iface 133 (.agg [.ro n 2 fun i => [i64 (gx g 0 i), i64 (gx g 1 i)]]), .iface 128 (.agg [i64 x, i64 y, i64 r])], fun w I vs h => Rs_two (Rs_if (Rs_poly hs)) (fun v h => h) h, by kernel_rfl, vc90a n _ _ x y r (fun i hi => (hs i hi).2) (hob _ (by simp)) (hob _ (by simp)) (hob _ (by simp))⟩
  · cases hc
theorem vc90d (x y r a b s : Int) :
    fnVC Tryz.prog [(154, c154), (155, c155)] [(8, ⟨[(15, .slot 4)], []⟩)] Tryz.f90 [.iface 128 (.agg [i64 x, i64 y, i64 r]), .iface 128 (.agg [i64 a, i64 b, i64 s])] (· = bo (ddS x y r a b s)) := by
  refine fnVC_go (rs := [.cell 4 4]) rfl rfl ?_
  simp only [go_sem, c154, c155]
  simp only [false_imp_iff, true_imp_iff, reduceCtorEq, true_and, and_true, Bool.false_eq_true]
  simp only [forall_eq]
  rfl
theorem vc90e (n : Nat) (g : Nat → List AV) (x y r : Int) (hg : spots n g) (hn : n ≤ 9223372036854775806) (vX : ∀ i, i < n → validS (gx g 0 i) (gx g 1 i) = true) (vC : validS x y = true) :
    fnVC Tryz.prog [(90, c90a)] [(8, ⟨[(15, .slot 4)], []⟩)] Tryz.f90 [.iface 128 (.agg [i64 x, i64 y, i64 r]), .iface 133 (.agg [.ro n 2 g])] (· = bo (outS n (gx g 0) (gx g 1) x y r)) := by
  refine fnVC_go (rs := [.cell 4 4]) rfl rfl ?_
  simp only [go_sem, c90a]
  simp only [false_imp_iff, true_imp_iff, reduceCtorEq, true_and, and_true, Bool.false_eq_true]
  exact fun z hz => ⟨hg, hn, vX, vC, hz⟩
theorem vc90f (n : Nat) (g : Nat → List AV) (m : Nat) (g' : Nat → List AV) (hg : spots n g) (hn : n ≤ 9223372036854775806) (vX : ∀ i, i < n → validS (gx g 0 i) (gx g 1 i) = true) (hg' : spots m g') (hm : m ≤ 9223372036854775806) (vZ : ∀ i, i < m → validS (gx g' 0 i) (gx g' 1 i) = true) :
    fnVC Tryz.prog [(158, c158)] [(8, ⟨[(15, .slot 4)], []⟩)] Tryz.f90 [.iface 133 (.agg [.ro n 2 g]), .iface 133 (.agg [.ro m 2 g'])] (· = bo (clrS n (gx g 0) (gx g 1) m (gx g' 0) (gx g' 1) || clrS m (gx g' 0) (gx g' 1) n (gx g 0) (gx g 1))) := by
  refine fnVC_go (rs := [.cell 4 4]) rfl rfl ?_
  simp only [go_sem, c158]
  simp only [false_imp_iff, true_imp_iff, reduceCtorEq, true_and, and_true, Bool.false_eq_true]
  exact fun z hz => ⟨hg, hg', hn, hm, vX, vZ, fun z1 hz1 => ⟨fun _ => hg', fun _ => hg, fun _ => hm, fun _ => hn, fun _ => vZ, fun _ => vX, by rw [hz, hz1]⟩⟩
def c90d : Con
  | [.iface 128 (.agg [.v (.int .i64 x), .v (.int .i64 y), .v (.int .i64 r)]), .iface 128 (.agg [.v (.int .i64 a), .v (.int .i64 b), .v (.int .i64 s)])] => some ([], bo (ddS x y r a b s))
  | _ => none
theorem con90d : ConOK Tryz.prog 90 c90d := ConOK.go (G := [(154, c154), (155, c155)]) (H := [(8, ⟨[(15, .slot 4)], []⟩)]) (.cons con154 (.cons con155 .nil)) Tryz.func90 fun l ob rr hc hob => by
  unfold c90d at hc
  split at hc
  · rename_i x y r a b s
    cases hc
    exact ⟨_, fun w I vs h => h, by kernel_rfl, vc90d x y r a b s⟩
  · cases hc
def c90e : Con
  | [.iface 128 (.agg [.v (.int .i64 x), .v (.int .i64 y), .v (.int .i64 r)]), .iface 133 (.agg [.ro n 2 g])] => some ([spots n g, n ≤ 9223372036854775806, ∀ i, i < n → validS (gx g 0 i) (gx g 1 i) = true, validS x y = true], bo (outS n (gx g 0) (gx g 1) x y r))
  | _ => none
theorem con90e : ConOK Tryz.prog 90 c90e := ConOK.go (G := [(90, c90a)]) (H := [(8, ⟨[(15, .slot 4)], []⟩)]) (.cons con90a .nil) Tryz.func90 fun l ob rr hc hob => by
  unfold c90e at hc
  split at hc
  · rename_i x y r n g
    cases hc
    exact ⟨_, fun w I vs h => h, by kernel_rfl, vc90e n g x y r (hob _ (by simp)) (hob _ (by simp)) (hob _ (by simp)) (hob _ (by simp))⟩
  · cases hc
def c90f : Con
  | [.iface 133 (.agg [.ro n 2 g]), .iface 133 (.agg [.ro m 2 g'])] => some ([spots n g, n ≤ 9223372036854775806, ∀ i, i < n → validS (gx g 0 i) (gx g 1 i) = true, spots m g', m ≤ 9223372036854775806, ∀ i, i < m → validS (gx g' 0 i) (gx g' 1 i) = true], bo (clrS n (gx g 0) (gx g 1) m (gx g' 0) (gx g' 1) || clrS m (gx g' 0) (gx g' 1) n (gx g 0) (gx g 1)))
  | _ => none
theorem con90f : ConOK Tryz.prog 90 c90f := ConOK.go (G := [(158, c158)]) (H := [(8, ⟨[(15, .slot 4)], []⟩)]) (.cons con158 .nil) Tryz.func90 fun l ob rr hc hob => by
  unfold c90f at hc
  split at hc
  · rename_i n g m g'
    cases hc
    exact ⟨_, fun w I vs h => h, by kernel_rfl, vc90f n g m g' (hob _ (by simp)) (hob _ (by simp)) (hob _ (by simp)) (hob _ (by simp)) (hob _ (by simp)) (hob _ (by simp))⟩
  · cases hc
def c90 (l : List AV) : Option (List Prop × AV) := match l with
  | [.iface 133 _, .iface 128 _] => c90a l
  | [.iface 128 _, .iface 133 _] => c90e l
  | [.iface 128 _, .iface 128 _] => c90d l
  | [.iface 133 _, .iface 133 _] => c90f l
  | [.iface 128 _, .v .nilIface] => some ([False], bo false)
  | [.iface 133 _, .v .nilIface] => some ([False], bo false)
  | [.v .nilIface, .iface 128 _] => some ([False], bo false)
  | [.v .nilIface, .iface 133 _] => some ([False], bo false)
  | [.v .nilIface, .v .nilIface] => some ([False], bo false)
  | _ => none
theorem con90 : ConOK Tryz.prog 90 c90 := fun l ob rr hc hob => by
  unfold c90 at hc
  split at hc
  · exact con90a _ _ _ hc hob
  · exact con90e _ _ _ hc hob
  · exact con90d _ _ _ hc hob
  · exact con90f _ _ _ hc hob
  · cases hc; exact (hob False (by simp)).elim
  · cases hc; exact (hob False (by simp)).elim
  · cases hc; exact (hob False (by simp)).elim
  · cases hc; exact (hob False (by simp)).elim
  · cases hc; exact (hob False (by simp)).elim
  · cases hc
end Go.Ax
end
