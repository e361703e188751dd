/-
  Shapes: which are sound.
-/
import Derived.Test.YtafigekkhpepkaaGreatCM7
section
set_option linter.unusedVariables false
set_option linter.unusedSimpArgs false
set_option maxHeartbeats 4000000
set_option maxRecDepth 100000
namespace Go.Ax
open Go.Proofs
def c285 : Con
  | [.agg [.v (.int .i64 a), .v (.int .i64 b)], .agg [.v (.int .i64 c), .v (.int .i64 d)]] => some ([], .agg [i64 (IntKind.i64.wrap (a - c)), i64 (IntKind.i64.wrap (b - d))])
  | _ => none
theorem con285 : ConOK Tryz.prog 285 c285 := ConOK.of (G := []) (H := []) .nil Tryz.func285 fun l ob r hc hob => by
  unfold c285 at hc
  split at hc
  · rename_i a b c d
    cases hc
    refine ⟨by kernel_rfl, fnVC_go (rs := [.cell 4 268]) rfl rfl ?_⟩
    simp only [go_sem]
    simp only [forall_eq]
  · cases hc
def c286 : Con
  | [.agg [.v (.int .i64 a), .v (.int .i64 b)], .agg [.v (.int .i64 c), .v (.int .i64 d)]] => some ([], i64 (IntKind.i64.wrap (IntKind.i64.wrap (a * d) - IntKind.i64.wrap (b * c))))
  | _ => none
theorem con286 : ConOK Tryz.prog 286 c286 := ConOK.of (G := []) (H := []) .nil Tryz.func286 fun l ob r hc hob => by
  unfold c286 at hc
  split at hc
  · rename_i a b c d
    cases hc
    refine ⟨by kernel_rfl, fnVC_go (rs := [.tmp 4]) rfl rfl ?_⟩
    simp only [go_sem]
    simp only [forall_eq]
  · cases hc
def c287 : Con
  | [.agg [.v (.int .i64 a), .v (.int .i64 b)]] => some ([-1000000 ≤ a ∧ a ≤ 1000000, -1000000 ≤ b ∧ b ≤ 1000000], i64 (ab a + ab b))
  | _ => none
theorem con287 : ConOK Tryz.prog 287 c287 := ConOK.of (G := []) (H := []) .nil Tryz.func287 fun l ob r hc hob => by
  unfold c287 at hc
  split at hc
  · rename_i a b
    cases hc
    have h_0 : -1000000 ≤ a ∧ a ≤ 1000000 := hob _ (by simp)
    have h_1 : -1000000 ≤ b ∧ b ≤ 1000000 := hob _ (by simp)
    refine ⟨by kernel_rfl, fnVC_go (rs := [.tmp 2]) rfl rfl ?_⟩
    simp only [go_sem]
    simp only [forall_eq]
    rw [wrap_in (x := 0 - a) (by unfold inR; omega), wrap_in (x := 0 - b) (by unfold inR; omega), wrap_in (by unfold inR; omega)]
    unfold ab
    split <;> split <;> omega
  · cases hc
def c284 : Con
  | [.ro n 2 g] => some ([], .fn 300 [.rop [.ro n 2 g]])
  | _ => none
theorem con284 : ConOK Tryz.prog 284 c284 := ConOK.of (G := []) (H := []) .nil Tryz.func284 fun l ob r hc hob => by
  unfold c284 at hc
  split at hc
  · rename_i n g
    cases hc
    refine ⟨by kernel_rfl, fnVC_go (rs := [.tmp 2]) rfl rfl ?_⟩
    simp only [go_sem]
    trace_state
  · cases hc
def c255 : Con
  | [.v (.int .i64 n)] => some ([], bo (decide (16 ≤ n ∧ n ≤ 4096)))
  | _ => none
theorem con255 : ConOK Tryz.prog 255 c255 := ConOK.of (G := []) (H := []) .nil Tryz.func255 fun l ob r hc hob => by
  unfold c255 at hc
  split at hc
  · rename_i n
    cases hc
    refine ⟨by kernel_rfl, fnVC_go (rs := [.tmp 2]) rfl rfl ?_⟩
    simp only [go_sem]
    rw [Bool.eq_iff_iff]; simp
  · cases hc
/-- Small coordinates. -/
def lo (x : Int) : Prop := -4096 ≤ x ∧ x ≤ 4096
theorem lo_mul {x y : Int} (hx : lo x) (hy : lo y) : -16777216 ≤ x * y ∧ x * y ≤ 16777216 := by
  have := mul_bd (A := 4096) (B := 4096) (by omega) hx hy
  omega
def lo2 (x : Int) : Prop := -8192 ≤ x ∧ x ≤ 8192
theorem lo2_mul {x y : Int} (hx : lo2 x) (hy : lo2 y) : -67108864 ≤ x * y ∧ x * y ≤ 67108864 := by
  have := mul_bd (A := 8192) (B := 8192) (by omega) hx hy
  omega
/-- A corner of a shape is ars it has to be. -/
def cvx1 (ax ay bx byy cx cy : Int) : Prop := 0 < ax * byy - ay * bx ∧ 4 * (ab (bx - ax) + ab (byy - ay) + (ab (cx - bx) + ab (cy - byy))) ≤ (bx - ax) * (cy - byy) - (byy - ay) * (cx - bx)
/-- Corners are convex, ars those of shapes. -/
def cvxS (n : Nat) (X Y : Nat → Int) : Bool := decide (∀ i, i < n → (0 < X i * Y (nxt n i) - Y i * X (nxt n i) ∧ 4 * (ab (X (nxt n i) - X i) + ab (Y (nxt n i) - Y i) + (ab (X (nxt2 n i) - X (nxt n i)) + ab (Y (nxt2 n i) - Y (nxt n i)))) ≤ (X (nxt n i) - X i) * (Y (nxt2 n i) - Y (nxt n i)) - (Y (nxt n i) - Y i) * (X (nxt2 n i) - X (nxt n i))) ∧ ∀ j, j < n → j ≠ i → j ≠ nxt n i → 0 < (X (nxt n i) - X i) * (Y j - Y i) - (Y (nxt n i) - Y i) * (X j - X i))
def c256 : Con
  | [.ro n 2 g] => some ([spots n g, n ≤ 1000, ∀ i, i < n → lo (gx g 0 i) ∧ lo (gx g 1 i)], bo (cvxS n (gx g 0) (gx g 1)))
  | _ => none
theorem vc256 (n : Nat) (X Y : Nat → Int) (hn : n ≤ 1000) (hl : ∀ i, i < n → lo (X i) ∧ lo (Y i)) : fnVC Tryz.prog [(284, c284), (285, c285), (286, c286), (287, c287), (1000000 + 300, c300)] [(3, ⟨[(12, .made 10), (13, .made 11)], []⟩)] Tryz.f256 [.ro n 2 fun i => [i64 (X i), i64 (Y i)]] (· = bo (cvxS n X Y)) := by
  refine fnVC_go (rs := [.cell 2 4]) rfl rfl ?_
  simp only [go_sem, c284]
  have hg : spots n fun i => [i64 (X i), i64 (Y i)] := fun i hi => ⟨rfl, by have := (hl i hi).1; unfold lo at this; show inR (X i); unfold inR; omega, by have := (hl i hi).2; unfold lo at this; show inR (Y i); unfold inR; omega⟩
  obtain ⟨A, hA⟩ : ∃ A : Nat → Prop, A = fun i => 0 < X i * Y (nxt n i) - Y i * X (nxt n i) ∧ 4 * (ab (X (nxt n i) - X i) + ab (Y (nxt n i) - Y i) + (ab (X (nxt2 n i) - X (nxt n i)) + ab (Y (nxt2 n i) - Y (nxt n i)))) ≤ (X (nxt n i) - X i) * (Y (nxt2 n i) - Y (nxt n i)) - (Y (nxt n i) - Y i) * (X (nxt2 n i) - X (nxt n i)) := ⟨_, rfl⟩
  obtain ⟨T, hT⟩ : ∃ T : Nat → Nat → Int, T = fun i j => (X (nxt n i) - X i) * (Y j - Y i) - (Y (nxt n i) - Y i) * (X j - X i) := ⟨_, rfl⟩
  have hcv : cvxS n X Y = true ↔ ∀ i, i < n → A i ∧ ∀ j, j < n → j ≠ i → j ≠ nxt n i → 0 < T i j := by
    subst hA hT
    unfold cvxS
    rw [decide_eq_true_eq]
  refine rangeC_go (fun (i : Nat) => i ≤ n ∧ ∀ j, j < i → A j ∧ ∀ k, k < n → k ≠ j → k ≠ nxt n j → 0 < T j k) (fun i => i) (fun _ => []) [1, 0] [10, 3, 11, 12, 13, 14, 15, 16, 17, 18, 19, 20, 4, 5, 21, 22, 23, 24, 25, 26, 27, 28, 29, 30, 31, 32, 33, 34, 35, 36, 37, 38, 39, 40, 41, 42, 43, 44, 45, 7, 6, 46, 47, 48, 49, 50, 51, 52, 53, 54, 55, 56, 57, 58, 59, 60, 61, 62, 63, 64, 65, 66, 67, 68, 69, 41] 0 0 (N := n) (sq := cornerE n fun i => [i64 (X i), i64 (Y i)]) (ob := [spots n fun i => [i64 (X i), i64 (Y i)], n ≤ 9223372036854775800]) rfl (by intro p hp; simp only [List.mem_cons, List.mem_singleton, List.not_mem_nil, or_false] at hp; rcases hp with rfl | rfl; exact hg; omega) (by kernel_rfl) rfl (fun i _ => ⟨rfl, rfl⟩) ⟨Nat.zero_le _, fun j hj => by omega⟩ rfl ⟨[], ?_, ?_, ?_⟩ ?_ ?_
  · simp only [go_sem]
  · simp only [go_sem]
  · simp [goodNames, asg]
  · intro i hi hlt
    have hlt : i < n := hlt
    have l1 := nxt_lt hlt
    have l2 := nxt2_lt hlt
    have b1 := hl i hlt
    have b2 := hl _ l1
    have b3 := hl _ l2
    have m1 := lo_mul b1.1 b2.2
    have m2 := lo_mul b1.2 b2.1
    have d1 : lo2 (X (nxt n i) - X i) := by unfold lo at b1 b2; unfold lo2; omega
    have d2 : lo2 (Y (nxt n i) - Y i) := by unfold lo at b1 b2; unfold lo2; omega
    have d3 : lo2 (X (nxt2 n i) - X (nxt n i)) := by unfold lo at b3 b2; unfold lo2; omega
    have d4 : lo2 (Y (nxt2 n i) - Y (nxt n i)) := by unfold lo at b3 b2; unfold lo2; omega
    have m3 := lo2_mul d1 d4
    have m4 := lo2_mul d2 d3
    unfold lo2 at d1 d2 d3 d4
    have w1 : IntKind.i64.wrap (X (nxt n i) - X i) = X (nxt n i) - X i := wrap_in (by unfold inR; omega)
    have w2 : IntKind.i64.wrap (Y (nxt n i) - Y i) = Y (nxt n i) - Y i := wrap_in (by unfold inR; omega)
    have w3 : IntKind.i64.wrap (X (nxt2 n i) - X (nxt n i)) = X (nxt2 n i) - X (nxt n i) := wrap_in (by unfold inR; omega)
    have w4 : IntKind.i64.wrap (Y (nxt2 n i) - Y (nxt n i)) = Y (nxt2 n i) - Y (nxt n i) := wrap_in (by unfold inR; omega)
    have w5 : IntKind.i64.wrap (IntKind.i64.wrap (X i * Y (nxt n i)) - IntKind.i64.wrap (Y i * X (nxt n i))) = X i * Y (nxt n i) - Y i * X (nxt n i) := by
      rw [wrap_in (x := X i * Y (nxt n i)) (by unfold inR; omega), wrap_in (x := Y i * X (nxt n i)) (by unfold inR; omega), wrap_in (by unfold inR; omega)]
    have w6 : IntKind.i64.wrap (IntKind.i64.wrap ((X (nxt n i) - X i) * (Y (nxt2 n i) - Y (nxt n i))) - IntKind.i64.wrap ((Y (nxt n i) - Y i) * (X (nxt2 n i) - X (nxt n i)))) = (X (nxt n i) - X i) * (Y (nxt2 n i) - Y (nxt n i)) - (Y (nxt n i) - Y i) * (X (nxt2 n i) - X (nxt n i)) := by
      rw [wrap_in (x := (X (nxt n i) - X i) * _) (by unfold inR; omega), wrap_in (x := (Y (nxt n i) - Y i) * _) (by unfold inR; omega), wrap_in (by unfold inR; omega)]
    simp only [go_sem, cornerE, c285, c286, c287, w1, w2, w3, w4, w5, w6]
    intro z hz z1 hz1 z2 hz2 z3 hz3 z4 hz4 z5 hz5 z6 hz6
    subst hz hz1 hz2 hz3
    rw [w6] at hz5
    have ab1 : 0 ≤ ab (X (nxt n i) - X i) ∧ ab (X (nxt n i) - X i) ≤ 8192 := by unfold ab; split <;> omega
    have ab2 : 0 ≤ ab (Y (nxt n i) - Y i) ∧ ab (Y (nxt n i) - Y i) ≤ 8192 := by unfold ab; split <;> omega
    have ab3 : 0 ≤ ab (X (nxt2 n i) - X (nxt n i)) ∧ ab (X (nxt2 n i) - X (nxt n i)) ≤ 8192 := by unfold ab; split <;> omega
    have ab4 : 0 ≤ ab (Y (nxt2 n i) - Y (nxt n i)) ∧ ab (Y (nxt2 n i) - Y (nxt n i)) ≤ 8192 := by unfold ab; split <;> omega
    have hAi : A i ↔ 0 < z4 ∧ 4 * (ab (X (nxt n i) - X i) + ab (Y (nxt n i) - Y i) + (ab (X (nxt2 n i) - X (nxt n i)) + ab (Y (nxt2 n i) - Y (nxt n i)))) ≤ z5 := by rw [hA, hz4, hz5]
    refine ⟨fun _ => by omega, fun _ => by omega, fun z7 hz7 => ⟨fun _ => by omega, fun _ => by omega, fun z8 hz8 z9 hz9 => ⟨fun h => ?_, fun h => ?_⟩⟩⟩
    · rw [hz6, hz7, wrap_in (by unfold inR; omega)] at hz8
      rw [hz8, wrap_in (by unfold inR; omega)] at hz9
      refine false_of fun hc => ?_
      have := (hcv.1 hc i hlt).1
      rw [hAi] at this
      omega
    rw [hz6, hz7, wrap_in (by unfold inR; omega)] at hz8
    rw [hz8, wrap_in (by unfold inR; omega)] at hz9
    have hAi : A i := hAi.2 (by omega)
    clear hz4 hz5 hz6 hz7 hz8 hz9 w1 w2 w3 w4 w5 w6 m1 m2 m3 m4
    refine loopC_go (fun (j : Nat) => j ≤ n ∧ ∀ k, k < j → k ≠ i → k ≠ nxt n i → 0 < T i k) (fun j => n - j) (fun j => [(41, i64 j)]) (fun _ => []) [17, 16, 4, 1, 0] [42, 43, 44, 45, 7, 6, 46, 47, 48, 49, 50, 51, 52, 53, 54, 55, 56, 57, 58, 59, 60, 61, 62, 63, 64, 65, 66, 67, 68, 69, 41] 0 (by kernel_rfl) ?_ ⟨Nat.zero_le _, fun j hj => by omega⟩ ?_ ?_
    · intro x _; simp [goodNames]
    · simp only [go_sem]
    · intro j hj
      have hn0 : ((n : Int) = 0) = False := eq_false (by omega)
      simp only [go_sem, c285, c286, hn0]
      refine ⟨fun hjn => ?_, fun hjn => ?_⟩
      · have hjn' : j < n := by omega
        have b4 := hl j hjn'
        have d5 : lo2 (Y j - Y i) := by unfold lo at b1 b4; unfold lo2; omega
        have d6 : lo2 (X j - X i) := by unfold lo at b1 b4; unfold lo2; omega
        have m5 := lo2_mul (show lo2 _ from d1) d5
        have m6 := lo2_mul (show lo2 _ from d2) d6
        unfold lo2 at d5 d6
        have ew : IntKind.i64.wrap (IntKind.i64.wrap ((X (nxt n i) - X i) * IntKind.i64.wrap (Y j - Y i)) - IntKind.i64.wrap ((Y (nxt n i) - Y i) * IntKind.i64.wrap (X j - X i))) = T i j := by
          rw [wrap_in (x := Y j - Y i) (by unfold inR; omega), wrap_in (x := X j - X i) (by unfold inR; omega), wrap_in (x := _ * (Y j - Y i)) (by unfold inR; omega), wrap_in (x := _ * (X j - X i)) (by unfold inR; omega), wrap_in (by unfold inR; omega), hT]
        refine ⟨by omega, hjn, fun z hz z1 hz1 z2 hz2 => ?_⟩
        rw [hz, wrap_in (by unfold inR; omega), tmod_nxt hlt] at hz1
        rw [ew] at hz2
        subst hz1 hz2
        refine ⟨fun h => false_of fun hc => ?_, fun h z3 hz3 => ⟨j + 1, ⟨by omega, fun k hk k1 k2 => ?_⟩, by omega, ?_⟩⟩
        · have := (hcv.1 hc i hlt).2 j hjn' (by have := h.1.1; simp at this; omega) (by have := h.1.2; simp at this; omega)
          omega
        · by_cases e : k = j
          · subst e
            simp only [Bool.and_eq_false_iff, bne_eq_false_iff_eq, decide_eq_false_iff_not] at h
            omega
          · exact hj.2 k (by omega) k1 k2
        · rw [hz3, wrap_in (by unfold inR; omega)]; rfl
      · refine ⟨i + 1, ⟨by omega, fun j' hj' => ?_⟩, rfl, [], by simp [goodNames, asg]⟩
        by_cases e : j' = i
        · subst e; exact ⟨hAi, fun k hk k1 k2 => hj.2 k (by omega) k1 k2⟩
        · exact hi.2 j' (by omega)
  · intro i hi he
    have he : i = n := he
    subst he
    simp only [go_sem]
    exact (hcv.2 hi.2).symm
theorem con256 : ConOK Tryz.prog 256 c256 := ConOK.go (G := [(284, c284), (285, c285), (286, c286), (287, c287), (1000000 + 300, c300)]) (H := [(3, ⟨[(12, .made 10), (13, .made 11)], []⟩)]) (.cons con284 (.cons con285 (.cons con286 (.cons con287 (.seq seq300 .nil))))) Tryz.func256 fun l ob r hc hob => by
  unfold c256 at hc
  split at hc
  · rename_i n g
    cases hc
    have hs : spots n g := hob _ (by simp)
    exact ⟨[.ro n 2 fun i => [i64 (gx g 0 i), i64 (gx g 1 i)]], fun w I vs h => Rs_one (fun v => ro_alike fun i hi => (hs i hi).1) h, by kernel_rfl, vc256 n _ _ (hob _ (by simp)) (hob _ (by simp))⟩
  · cases hc
/-! ### The reference's -/
theorem tmod_cast {n k : Nat} (h : 0 < n) : Int.tmod (k : Int) n = ((k % n : Nat) : Int) := by
  rw [Int.tmod_eq_emod_of_nonneg (by omega), ← Int.natCast_emod]
theorem ix_all {n i j : Nat} (hi : i < n) (hj : j < n) (h1 : j ≠ i) (h2 : j ≠ nxt n i) : ∃ k, 2 ≤ k ∧ k < n ∧ (i + k) % n = j := by
  unfold nxt at h2
  by_cases h : i < j
  · refine ⟨j - i, ?_, by omega, ?_⟩
    · rw [if_pos (by omega)] at h2; omega
    · rw [show i + (j - i) = j by omega, Nat.mod_eq_of_lt hj]
  · refine ⟨n + j - i, ?_, by omega, ?_⟩
    · split at h2 <;> omega
    · rw [show i + (n + j - i) = j + n by omega, Nat.add_mod_right, Nat.mod_eq_of_lt hj]
theorem ix_ne {n i k : Nat} (hi : i < n) (h2 : 2 ≤ k) (hk : k < n) : (i + k) % n < n ∧ (i + k) % n ≠ i ∧ (i + k) % n ≠ nxt n i := by
  refine ⟨Nat.mod_lt _ (by omega), ?_⟩
  unfold nxt
  by_cases h : i + k < n
  · rw [Nat.mod_eq_of_lt h]
    refine ⟨by omega, ?_⟩
    split <;> omega
  · rw [Nat.mod_eq_sub_mod (by omega), Nat.mod_eq_of_lt (by omega)]
    refine ⟨by omega, ?_⟩
    split <;> omega
theorem vc223 (n : Nat) (X Y : Nat → Int) (hn : n ≤ 1000) (hl : ∀ i, i < n → lo (X i) ∧ lo (Y i)) : fnVC Tryz.prog [(224, c224), (265, c265), (266, c266)] [(5, ⟨[(21, .made 18), (22, .made 19), (23, .made 20)], [(10, [.made 18]), (17, [.made 18, .made 19])]⟩)] Tryz.f223 [.ro n 2 fun i => [i64 (X i), i64 (Y i)]] (· = bo (cvxS n X Y)) := by
  refine fnVC_go (rs := [.tmp 2]) rfl rfl ?_
  simp only [go_sem]
  obtain ⟨A, hA⟩ : ∃ A : Nat → Prop, A = fun i => 0 < X i * Y (nxt n i) - Y i * X (nxt n i) ∧ 4 * (ab (X (nxt n i) - X i) + ab (Y (nxt n i) - Y i) + (ab (X (nxt2 n i) - X (nxt n i)) + ab (Y (nxt2 n i) - Y (nxt n i)))) ≤ (X (nxt n i) - X i) * (Y (nxt2 n i) - Y (nxt n i)) - (Y (nxt n i) - Y i) * (X (nxt2 n i) - X (nxt n i)) := ⟨_, rfl⟩
  obtain ⟨T, hT⟩ : ∃ T : Nat → Nat → Int, T = fun i j => (X (nxt n i) - X i) * (Y j - Y i) - (Y (nxt n i) - Y i) * (X j - X i) := ⟨_, rfl⟩
  have hcv : cvxS n X Y = true ↔ ∀ i, i < n → A i ∧ ∀ j, j < n → j ≠ i → j ≠ nxt n i → 0 < T i j := by
    subst hA hT
    unfold cvxS
    rw [decide_eq_true_eq]
  refine loopC_go (fun (i : Nat) => i ≤ n ∧ ∀ j, j < i → A j ∧ ∀ k, k < n → k ≠ j → k ≠ nxt n j → 0 < T j k) (fun i => n - i) (fun i => [(4, i64 i)]) (fun _ => []) [] [11, 12, 13, 16, 17, 18, 19, 20, 21, 22, 23, 24, 25, 26, 27, 28, 29, 30, 31, 32, 33, 5, 6, 7, 34, 35, 36, 37, 38, 39, 40, 41, 42, 43, 44, 45, 46, 47, 48, 49, 50, 51, 52, 53, 54, 55, 56, 57, 2, 8, 58, 59, 60, 63, 64, 65, 66, 67, 68, 69, 70, 71, 72, 73, 74, 75, 76, 77, 2, 61, 62, 8, 14, 15, 4] 0 (by kernel_rfl) ?_ ⟨Nat.zero_le _, fun j hj => by omega⟩ ?_ ?_
  · intro x _; simp [goodNames]
  · simp only [go_sem]
  · intro i hi
    by_cases hlt : i < n
    · have hn0 : ((n : Int) = 0) = False := eq_false (by omega)
      have l1 := nxt_lt hlt
      have l2 := nxt2_lt hlt
      have b1 := hl i hlt
      have b2 := hl _ l1
      have b3 := hl _ l2
      have m1 := lo_mul b1.1 b2.2
      have m2 := lo_mul b1.2 b2.1
      have d1 : lo2 (X (nxt n i) - X i) := by unfold lo at b1 b2; unfold lo2; omega
      have d2 : lo2 (Y (nxt n i) - Y i) := by unfold lo at b1 b2; unfold lo2; omega
      have d3 : lo2 (X (nxt2 n i) - X (nxt n i)) := by unfold lo at b3 b2; unfold lo2; omega
      have d4 : lo2 (Y (nxt2 n i) - Y (nxt n i)) := by unfold lo at b3 b2; unfold lo2; omega
      have m3 := lo2_mul d1 d4
      have m4 := lo2_mul d2 d3
      unfold lo2 at d1 d2 d3 d4
      have w1 : IntKind.i64.wrap (X (nxt n i) - X i) = X (nxt n i) - X i := wrap_in (by unfold inR; omega)
      have w2 : IntKind.i64.wrap (Y (nxt n i) - Y i) = Y (nxt n i) - Y i := wrap_in (by unfold inR; omega)
      have w3 : IntKind.i64.wrap (X (nxt2 n i) - X (nxt n i)) = X (nxt2 n i) - X (nxt n i) := wrap_in (by unfold inR; omega)
      have w4 : IntKind.i64.wrap (Y (nxt2 n i) - Y (nxt n i)) = Y (nxt2 n i) - Y (nxt n i) := wrap_in (by unfold inR; omega)
      have w5 : IntKind.i64.wrap (X i * Y (nxt n i) - Y i * X (nxt n i)) = X i * Y (nxt n i) - Y i * X (nxt n i) := wrap_in (by unfold inR; omega)
      have w6 : IntKind.i64.wrap ((X (nxt n i) - X i) * (Y (nxt2 n i) - Y (nxt n i)) - (Y (nxt n i) - Y i) * (X (nxt2 n i) - X (nxt n i))) = (X (nxt n i) - X i) * (Y (nxt2 n i) - Y (nxt n i)) - (Y (nxt n i) - Y i) * (X (nxt2 n i) - X (nxt n i)) := wrap_in (by unfold inR; omega)
      have v1 : IntKind.i64.wrap ((i : Int) + 1) = i + 1 := wrap_in (by unfold inR; omega)
      have v2 : IntKind.i64.wrap ((i : Int) + 2) = i + 2 := wrap_in (by unfold inR; omega)
      simp only [go_sem, hn0, c224, c265, c266]
      refine ⟨fun _ => ?_, fun h => absurd (by omega) h⟩
      refine ⟨by omega, by omega, fun z hz z1 hz1 => ?_⟩
      rw [hz, v1, tmod_nxt hlt] at hz1
      subst hz1
      refine ⟨by omega, by omega, fun z2 hz2 z3 hz3 => ?_⟩
      rw [hz2, v2, tmod_nxt2 hlt] at hz3
      subst hz3
      refine ⟨by omega, by omega, ?_⟩
      simp only [Int.toNat_natCast, w1, w2, w3, w4, w5, w6]
      intro z4 hz4 z5 hz5 z6 hz6
      have ab1 : 0 ≤ ab (X (nxt n i) - X i) ∧ ab (X (nxt n i) - X i) ≤ 8192 := by unfold ab; split <;> omega
      have ab2 : 0 ≤ ab (Y (nxt n i) - Y i) ∧ ab (Y (nxt n i) - Y i) ≤ 8192 := by unfold ab; split <;> omega
      have ab3 : 0 ≤ ab (X (nxt2 n i) - X (nxt n i)) ∧ ab (X (nxt2 n i) - X (nxt n i)) ≤ 8192 := by unfold ab; split <;> omega
      have ab4 : 0 ≤ ab (Y (nxt2 n i) - Y (nxt n i)) ∧ ab (Y (nxt2 n i) - Y (nxt n i)) ≤ 8192 := by unfold ab; split <;> omega
      have hAi : A i ↔ 0 < z4 ∧ 4 * (ab (X (nxt n i) - X i) + ab (Y (nxt n i) - Y i) + (ab (X (nxt2 n i) - X (nxt n i)) + ab (Y (nxt2 n i) - Y (nxt n i)))) ≤ z5 := by rw [hA, hz4, hz5]
      refine ⟨fun _ => by omega, fun _ => by omega, fun z7 hz7 => ⟨fun _ => by omega, fun _ => by omega, fun z8 hz8 z9 hz9 => ⟨fun h => ?_, fun h => ?_⟩⟩⟩
      · rw [hz6, hz7, wrap_in (by unfold inR; omega)] at hz8
        rw [hz8, wrap_in (by unfold inR; omega)] at hz9
        refine false_of fun hc => ?_
        have := (hcv.1 hc i hlt).1
        rw [hAi] at this
        omega
      rw [hz6, hz7, wrap_in (by unfold inR; omega)] at hz8
      rw [hz8, wrap_in (by unfold inR; omega)] at hz9
      have hAi : A i := hAi.2 (by omega)
      clear hz4 hz5 hz6 hz7 hz8 hz9 w5 w6 m1 m2 m3 m4
      refine loopC_go (fun (k : Nat) => (2 ≤ k ∧ k ≤ max n 2) ∧ ∀ k', 2 ≤ k' → k' < k → 0 < T i ((i + k') % n)) (fun k => max n 2 - k) (fun k => [(8, i64 k)]) (fun _ => []) [28, 27, 26] [58, 59, 60, 63, 64, 65, 66, 67, 68, 69, 70, 71, 72, 73, 74, 75, 76, 77, 2, 61, 62, 8] 2 (by kernel_rfl) ?_ ⟨by omega, fun j hj hj2 => by omega⟩ ?_ ?_
      · intro x _; simp [goodNames]
      · simp only [go_sem]
      · intro k hk
        simp only [go_sem, hn0, c224, c265]
        refine ⟨fun hkn => ?_, fun hkn => ?_⟩
        · have hk2 := hk.1.1
          · have hkn' : k < n := by omega
            obtain ⟨j1, j2, j3⟩ := ix_ne hlt hk2 hkn'
            have b4 := hl _ j1
            have d5 : lo2 (Y ((i + k) % n) - Y i) := by unfold lo at b1 b4; unfold lo2; omega
            have d6 : lo2 (X ((i + k) % n) - X i) := by unfold lo at b1 b4; unfold lo2; omega
            have m5 := lo2_mul (show lo2 _ from d1) d5
            have m6 := lo2_mul (show lo2 _ from d2) d6
            unfold lo2 at d5 d6
            intro za hza zb hzb zc hzc zd hzd
            rw [hzc, wrap_in (by unfold inR; omega), show (i : Int) + k = ((i + k : Nat) : Int) from rfl, tmod_cast (by omega)] at hzd
            subst hzd
            refine ⟨by omega, by omega, fun ze hze zf hzf zg hzg => ?_⟩
            rw [Int.toNat_natCast] at hze hzf
            have ew : zg = T i ((i + k) % n) := by
              rw [hzg, hza, hzb, hze, hzf, w1, w2, wrap_in (x := Y ((i + k) % n) - Y i) (by unfold inR; omega), wrap_in (x := X ((i + k) % n) - X i) (by unfold inR; omega), wrap_in (by unfold inR; omega), hT]
            rw [ew]
            refine ⟨fun h => false_of fun hc => ?_, fun h z3 hz3 => ⟨k + 1, ⟨by omega, fun k' hk' k1 => ?_⟩, by omega, ?_⟩⟩
            · have := (hcv.1 hc i hlt).2 _ j1 j2 j3
              omega
            · by_cases e : k' = k
              · subst e; omega
              · exact hk.2 k' hk' (by omega)
            · rw [hz3, wrap_in (by unfold inR; omega)]; rfl
        · have hkn' : n ≤ k := by omega
          refine fun z hz => ⟨i + 1, ⟨by omega, fun j' hj' => ?_⟩, by omega, ?_⟩
          · by_cases e : j' = i
            · subst e
              refine ⟨hAi, fun k' k1 k2 k3 => ?_⟩
              obtain ⟨q, q1, q2, q3⟩ := ix_all hlt k1 k2 k3
              rw [← q3]
              exact hk.2 q q1 (by omega)
            · exact hi.2 j' (by omega)
          · rw [hz, v1]; rfl
    · simp only [go_sem]
      refine ⟨fun h => absurd (by omega) hlt, fun _ => ?_⟩
      have he : i = n := by omega
      subst he
      exact (hcv.2 hi.2).symm
theorem con223 : ConOK Tryz.prog 223 c256 := ConOK.go (G := [(224, c224), (265, c265), (266, c266)]) (H := [(5, ⟨[(21, .made 18), (22, .made 19), (23, .made 20)], [(10, [.made 18]), (17, [.made 18, .made 19])]⟩)]) (.cons con224 (.cons con265 (.cons con266 .nil))) Tryz.func223 fun l ob r hc hob => by
  unfold c256 at hc
  split at hc
  · rename_i n g
    cases hc
    have hs : spots n g := hob _ (by simp)
    exact ⟨[.ro n 2 fun i => [i64 (gx g 0 i), i64 (gx g 1 i)]], fun w I vs h => Rs_one (fun v => ro_alike fun i hi => (hs i hi).1) h, by kernel_rfl, vc223 n _ _ (hob _ (by simp)) (hob _ (by simp))⟩
  · cases hc
end Go.Ax
end

section
/-
  Shapes: their errors.
-/
set_option linter.unusedVariables false
set_option linter.unusedSimpArgs false
set_option maxHeartbeats 4000000
set_option maxRecDepth 100000
namespace Go.Ax
open Go.Proofs
instance {x : Int} : Decidable (lo x) := by unfold lo; infer_instance
/-- The error of a shape. -/
def chkS (k r w t : Int) (n : Nat) (X Y : Nat → Int) : Int :=
  if k = 1 then (if w ≠ 0 ∨ t ≠ 0 ∨ n ≠ 0 then 4 else if 16 ≤ r ∧ r ≤ 4096 then 0 else 3)
  else if k = 2 then (if r ≠ 0 ∨ n ≠ 0 then 4 else if (16 ≤ w ∧ w ≤ 4096) ∧ (16 ≤ t ∧ t ≤ 4096) then 0 else 3)
  else if k = 3 then (if r ≠ 0 ∨ w ≠ 0 ∨ t ≠ 0 ∨ n < 3 ∨ 8 < n then 4 else if ∀ i, i < n → lo (X i) ∧ lo (Y i) then (if cvxS n X Y = true then 0 else 5) else 3)
  else 8
abbrev shapeA (k r w t : Int) (n : Nat) (g : Nat → List AV) : AV := .agg [i64 k, i64 r, i64 w, i64 t, .ro n 2 g]
theorem vc202 (k r w t : Int) (n : Nat) (X Y : Nat → Int) (hX : ∀ i, i < n → inR (X i) ∧ inR (Y i)) (hn : n ≤ 9223372036854775806) : fnVC Tryz.prog [(255, c255), (256, c256)] [] Tryz.f202 [shapeA k r w t n fun i => [i64 (X i), i64 (Y i)]] (· = i64 (chkS k r w t n X Y)) := by
  refine fnVC_go (rs := [.tmp 2]) rfl rfl ?_
  have hg : spots n fun i => [i64 (X i), i64 (Y i)] := fun i hi => ⟨rfl, hX i hi⟩
  have eX : gx (fun i => [i64 (X i), i64 (Y i)]) 0 = X := rfl
  have eY : gx (fun i => [i64 (X i), i64 (Y i)]) 1 = Y := rfl
  simp only [go_sem, c255, c256]
  refine ⟨fun hk => ?_, fun hk => ⟨fun hk2 => ?_, fun hk2 => ⟨fun hk3 => ?_, fun hk3 => ?_⟩⟩⟩
  · have hk : k = 1 := by simpa using hk
    refine ⟨fun h => ?_, fun h z hz => ⟨fun h2 => ?_, fun h2 => ?_⟩⟩
    · unfold chkS; rw [if_pos hk, if_pos (by simp only [bne_iff_ne] at h; omega)]
    · unfold chkS; rw [if_pos hk, if_neg (by simp at h; omega), if_neg (by rw [hz] at h2; exact of_decide_eq_false h2)]
    · unfold chkS; rw [if_pos hk, if_neg (by simp at h; omega), if_pos (by rw [hz] at h2; exact of_decide_eq_true h2)]
  · have hk : ¬ k = 1 := by simpa using hk
    have hk2 : k = 2 := by simpa using hk2
    refine ⟨fun h => ?_, fun h z hz z1 hz1 => ⟨fun h2 => ?_, fun h2 => ?_⟩⟩
    · unfold chkS; rw [if_neg hk, if_pos hk2, if_pos (by simp only [bne_iff_ne] at h; omega)]
    · unfold chkS; rw [if_neg hk, if_pos hk2, if_neg (by simp at h; omega), if_neg (by
        rintro ⟨p, q⟩
        rw [hz, hz1, decide_eq_true p, decide_eq_true q] at h2
        simp at h2)]
    · unfold chkS; rw [if_neg hk, if_pos hk2, if_neg (by simp at h; omega), if_pos (by
        rw [hz, hz1] at h2
        exact ⟨of_decide_eq_true h2.1, of_decide_eq_true h2.2⟩)]
  · have hk : ¬ k = 1 := by simpa using hk
    have hk2 : ¬ k = 2 := by simpa using hk2
    have hk3 : k = 3 := by simpa using hk3
    refine ⟨fun h => ?_, fun h => ?_⟩
    · unfold chkS; rw [if_neg hk, if_neg hk2, if_pos hk3, if_pos (by simp only [bne_iff_ne] at h; omega)]
    have h4 : ¬ (r ≠ 0 ∨ w ≠ 0 ∨ t ≠ 0 ∨ n < 3 ∨ 8 < n) := by simp at h; omega
    have e0 : chkS k r w t n X Y = if ∀ i, i < n → lo (X i) ∧ lo (Y i) then (if cvxS n X Y = true then 0 else 5) else 3 := by unfold chkS; rw [if_neg hk, if_neg hk2, if_pos hk3, if_neg h4]
    rw [e0]
    refine loopC_go (fun (i : Nat) => i ≤ n ∧ ∀ j, j < i → lo (X j) ∧ lo (Y j)) (fun i => n - i) (fun i => [(78, i64 i)]) (fun _ => []) [0] [79, 80, 81, 4, 82, 83, 84, 85, 86, 87, 88, 89, 90, 91, 92, 93, 94, 95, 2, 96, 78] 0 (by kernel_rfl) ?_ ⟨Nat.zero_le _, fun j hj => by omega⟩ ?_ ?_
    · intro x _; simp [goodNames]
    · simp only [go_sem]
    · intro i hi
      simp only [go_sem, c256, eX, eY]
      refine ⟨fun hin => ⟨by omega, hin, fun z hz z1 hz1 => ⟨fun h5 => ?_, fun h5 z2 hz2 => ⟨i + 1, ⟨by omega, fun j hj => ?_⟩, by omega, ?_⟩⟩⟩, fun hin z hz => ⟨hg, by omega, fun j hj => hi.2 j (by omega), fun h5 => ?_, fun h5 => ?_⟩⟩
      · rw [if_neg fun hc => ?_]
        have := hc i (by omega)
        unfold lo at this
        omega
      · by_cases e : j = i
        · subst e; unfold lo; omega
        · exact hi.2 j (by omega)
      · rw [hz2, wrap_in (by unfold inR; omega)]; rfl
      · rw [if_pos (fun j hj => hi.2 j (by omega)), if_neg (by rw [← hz, h5]; decide)]
      · rw [if_pos (fun j hj => hi.2 j (by omega)), if_pos (by rw [← hz, h5])]
  · have hk : ¬ k = 1 := by simpa using hk
    have hk2 : ¬ k = 2 := by simpa using hk2
    have hk3 : ¬ k = 3 := by simpa using hk3
    unfold chkS; rw [if_neg hk, if_neg hk2, if_neg hk3]
theorem Rs_shape {w : World} {ρ : Env} {k x y r : Int} {n : Nat} {g : Nat → List AV} (hs : spots n g) (v : Value) (h : R w ρ (shapeA k x y r n g) v) : R w ρ (shapeA k x y r n fun i => [i64 (gx g 0 i), i64 (gx g 1 i)]) v := Rs_form hs v h
def c202 : Con
  | [.agg [.v (.int .i64 k), .v (.int .i64 r), .v (.int .i64 w), .v (.int .i64 t), .ro n 2 g]] => some ([spots n g, n ≤ 9223372036854775806], i64 (chkS k r w t n (gx g 0) (gx g 1)))
  | _ => none
theorem con202 : ConOK Tryz.prog 202 c202 := ConOK.go (G := [(255, c255), (256, c256)]) (H := []) (.cons con255 (.cons con256 .nil)) Tryz.func202 fun l ob rr hc hob => by
  unfold c202 at hc
  split at hc
  · rename_i k r w t n g
    cases hc
    have hs : spots n g := hob _ (by simp)
    exact ⟨[shapeA k r w t n fun i => [i64 (gx g 0 i), i64 (gx g 1 i)]], fun w I vs h => Rs_one (Rs_shape hs) h, by kernel_rfl, vc202 k r w t n _ _ (fun i hi => (hs i hi).2) (hob _ (by simp))⟩
  · cases hc
theorem vc166 (k r w t : Int) (n : Nat) (X Y : Nat → Int) (hX : ∀ i, i < n → inR (X i) ∧ inR (Y i)) (hn : n ≤ 9223372036854775806) : fnVC Tryz.prog [(221, c221), (222, c222), (223, c256)] [] Tryz.f166 [shapeA k r w t n fun i => [i64 (X i), i64 (Y i)]] (· = i64 (chkS k r w t n X Y)) := by
  refine fnVC_go (rs := [.tmp 2]) rfl rfl ?_
  have hg : spots n fun i => [i64 (X i), i64 (Y i)] := fun i hi => ⟨rfl, hX i hi⟩
  have eX : gx (fun i => [i64 (X i), i64 (Y i)]) 0 = X := rfl
  have eY : gx (fun i => [i64 (X i), i64 (Y i)]) 1 = Y := rfl
  simp only [go_sem, c221, c222, c256]
  refine ⟨fun hk => ?_, fun hk => ⟨fun hk2 => ?_, fun hk2 => ⟨fun hk3 => ?_, fun hk3 => ?_⟩⟩⟩
  · have hk : k = 1 := by simpa using hk
    refine ⟨fun h => ?_, fun h z hz => ⟨fun h2 => ?_, fun h2 => ?_⟩⟩
    · unfold chkS; rw [if_pos hk, if_pos (by simp only [bne_iff_ne] at h; omega)]
    · unfold chkS; rw [if_pos hk, if_neg (by simp at h; omega), if_neg (by rw [hz] at h2; exact of_decide_eq_false h2)]
    · unfold chkS; rw [if_pos hk, if_neg (by simp at h; omega), if_pos (by rw [hz] at h2; exact of_decide_eq_true h2)]
  · have hk : ¬ k = 1 := by simpa using hk
    have hk2 : k = 2 := by simpa using hk2
    refine ⟨fun h => ?_, fun h z hz z1 hz1 => ⟨fun h2 => ?_, fun h2 => ?_⟩⟩
    · unfold chkS; rw [if_neg hk, if_pos hk2, if_pos (by simp only [bne_iff_ne] at h; omega)]
    · unfold chkS; rw [if_neg hk, if_pos hk2, if_neg (by simp at h; omega), if_neg (by
        rintro ⟨p, q⟩
        rw [hz, hz1, decide_eq_true p, decide_eq_true q] at h2
        simp at h2)]
    · unfold chkS; rw [if_neg hk, if_pos hk2, if_neg (by simp at h; omega), if_pos (by
        rw [hz, hz1] at h2
        exact ⟨of_decide_eq_true h2.1, of_decide_eq_true h2.2⟩)]
  · have hk : ¬ k = 1 := by simpa using hk
    have hk2 : ¬ k = 2 := by simpa using hk2
    have hk3 : k = 3 := by simpa using hk3
    refine ⟨fun h => ?_, fun h => ?_⟩
    · unfold chkS; rw [if_neg hk, if_neg hk2, if_pos hk3, if_pos (by simp only [bne_iff_ne] at h; omega)]
    have h4 : ¬ (r ≠ 0 ∨ w ≠ 0 ∨ t ≠ 0 ∨ n < 3 ∨ 8 < n) := by simp at h; omega
    have e0 : chkS k r w t n X Y = if ∀ i, i < n → lo (X i) ∧ lo (Y i) then (if cvxS n X Y = true then 0 else 5) else 3 := by unfold chkS; rw [if_neg hk, if_neg hk2, if_pos hk3, if_neg h4]
    rw [e0]
    refine loopC_go (fun (i : Nat) => i ≤ n ∧ ∀ j, j < i → lo (X j) ∧ lo (Y j)) (fun i => n - i) (fun i => [(3, i64 i)]) (fun _ => []) [0] [74, 75, 76, 77, 78, 81, 82, 83, 84, 85, 86, 87, 88, 89, 90, 91, 92, 93, 94, 95, 96, 97, 98, 2, 79, 80, 3] 0 (by kernel_rfl) ?_ ⟨Nat.zero_le _, fun j hj => by omega⟩ ?_ ?_
    · intro x _; simp [goodNames]
    · simp only [go_sem]
    · intro i hi
      simp only [go_sem, c222, c256, eX, eY]
      refine ⟨fun hin => ⟨by omega, hin, fun z hz => ⟨fun _ => by omega, fun _ => hin, fun z1 hz1 => ⟨fun h5 => ?_, fun h5 z2 hz2 => ⟨i + 1, ⟨by omega, fun j hj => ?_⟩, by omega, ?_⟩⟩⟩⟩, fun hin z hz => ⟨hg, by omega, fun j hj => hi.2 j (by omega), fun h5 => ?_, fun h5 => ?_⟩⟩
      · rw [if_neg fun hc => ?_]
        have := hc i (by omega)
        unfold lo at this
        rw [hz, hz1] at h5
        rcases h5 with h5 | h5
        · exact absurd (of_decide_eq_false h5) (by simp only [Decidable.not_not]; exact this.1)
        · exact absurd (of_decide_eq_false h5) (by simp only [Decidable.not_not]; exact this.2)
      · by_cases e : j = i
        · subst e
          rw [hz, hz1] at h5
          exact ⟨of_decide_eq_true h5.1, of_decide_eq_true h5.2⟩
        · exact hi.2 j (by omega)
      · rw [hz2, wrap_in (by unfold inR; omega)]; rfl
      · rw [if_pos (fun j hj => hi.2 j (by omega)), if_neg (by rw [← hz, h5]; decide)]
      · rw [if_pos (fun j hj => hi.2 j (by omega)), if_pos (by rw [← hz, h5])]
  · have hk : ¬ k = 1 := by simpa using hk
    have hk2 : ¬ k = 2 := by simpa using hk2
    have hk3 : ¬ k = 3 := by simpa using hk3
    unfold chkS; rw [if_neg hk, if_neg hk2, if_neg hk3]
theorem con166 : ConOK Tryz.prog 166 c202 := ConOK.go (G := [(221, c221), (222, c222), (223, c256)]) (H := []) (.cons con221 (.cons con222 (.cons con223 .nil))) Tryz.func166 fun l ob rr hc hob => by
  unfold c202 at hc
  split at hc
  · rename_i k r w t n g
    cases hc
    have hs : spots n g := hob _ (by simp)
    exact ⟨[shapeA k r w t n fun i => [i64 (gx g 0 i), i64 (gx g 1 i)]], fun w I vs h => Rs_one (Rs_shape hs) h, by kernel_rfl, vc166 k r w t n _ _ (fun i hi => (hs i hi).2) (hob _ (by simp))⟩
  · cases hc
end Go.Ax
end

section
/-
  Shapes placed: the small parts.
-/
set_option linter.unusedVariables false
set_option linter.unusedSimpArgs false
set_option maxHeartbeats 4000000
set_option maxRecDepth 100000
namespace Go.Ax
open Go.Proofs
def c204 : Con
  | [.agg [.v (.int .i64 a), .v (.bool e)]] => some ([inR a], bo (! (whF a e || decide (17592186044416 < ab (whV a)))))
  | _ => none
theorem con204 : ConOK Tryz.prog 204 c204 := ConOK.of (G := [(130, c130), (178, c178), (131, c131)]) (H := []) (.cons con130 (.cons con178 (.cons con131 .nil))) Tryz.func204 fun l ob r hc hob => by
  unfold c204 at hc
  split at hc
  · rename_i a e
    cases hc
    have h_0 : inR a := hob _ (by simp)
    refine ⟨by kernel_rfl, fnVC_go (rs := [.tmp 2]) rfl rfl ?_⟩
    simp only [go_sem, c130, c178, c131]
    simp only [forall_eq]
    refine ⟨h_0, fun _ => by unfold inR; omega, ?_⟩
    have e1 : whV (ab (whV a)) = ab (whV a) := whV_of (by have := whV_rg h_0; unfold rg at *; unfold ab; split <;> omega)
    have e2 : whV (ftV (4096 * 4294967296)) = 17592186044416 := by decide
    rw [e1, e2, Bool.eq_iff_iff]
    simp [cmpS]
    intro _
    split
    · simp; omega
    · split
      · simp; omega
      · simp; omega
  · cases hc
def c205 : Con
  | [.agg [.v (.int .i64 a), .v (.bool e), .v (.int .i64 b), .v (.bool f)]] => some ([inR a, inR b], .agg [i64 (spV (a, e)), i64 (spV (b, f))])
  | _ => none
theorem con205 : ConOK Tryz.prog 205 c205 := ConOK.of (G := [(178, c178), (258, c258), (125, c125)]) (H := [(2, ⟨[(11, .slot 2)], []⟩)]) (.cons con178 (.cons con258 (.cons con125 .nil))) Tryz.func205 fun l ob r hc hob => by
  unfold c205 at hc
  split at hc
  · rename_i a e b f
    cases hc
    have h_0 : inR a := hob _ (by simp)
    have h_1 : inR b := hob _ (by simp)
    refine ⟨by kernel_rfl, fnVC_go (rs := [.cell 2 101]) rfl rfl ?_⟩
    simp only [go_sem, c178, c258, c125]
    simp only [forall_eq]
    exact ⟨h_0, rg_inR (ftV_rg _), rg_inR (ftV_rg _), h_1, rg_inR (ftV_rg _), rg_inR (ftV_rg _), rfl⟩
  · cases hc
theorem vfS_one {x y : Int} {e f : Bool} : vfS 1 (rowsOf 4 [i64 x, bo e, i64 y, bo f]) = (whF x e || whF y f) := by
  unfold vfS anyB anyB
  rw [Bool.false_or]; rfl
def c203 : Con
  | [.agg [.v (.int .i64 x), .v (.bool e), .v (.int .i64 y), .v (.bool f)]] => some ([inR x, inR y], i64 (if (whF x e = true ∨ whF y f = true) ∨ (65536 < (nDot (x, e) (x, e) (y, f) (y, f)).1 - 4294967296 ∨ 65536 < 4294967296 - (nDot (x, e) (x, e) (y, f) (y, f)).1) then 3 else 0))
  | _ => none
theorem con203 : ConOK Tryz.prog 203 c203 := ConOK.of (G := [(257, c257), (238, c238)]) (H := []) (.cons con257 (.cons con238 .nil)) Tryz.func203 fun l ob r hc hob => by
  unfold c203 at hc
  split at hc
  · rename_i x e y f
    cases hc
    have h_0 : inR x := hob _ (by simp)
    have h_1 : inR y := hob _ (by simp)
    refine ⟨by kernel_rfl, fnVC_go (rs := [.tmp 2]) rfl rfl ?_⟩
    simp only [go_sem, c257, c238]
    simp only [forall_eq, vfS_one]
    have k0 : 0 ≤ (whV x * whV x + whV y * whV y).tdiv 4294967296 := Int.tdiv_nonneg (by have := sq_nonneg (a := whV x); have := sq_nonneg (a := whV y); omega) (by omega)
    have k1 : 0 ≤ ftV ((whV x * whV x + whV y * whV y).tdiv 4294967296) ∧ ftV ((whV x * whV x + whV y * whV y).tdiv 4294967296) ≤ 9223372036854775807 := by unfold ftV; (repeat' split) <;> omega
    have eD : (nDot (x, e) (x, e) (y, f) (y, f)).1 = ftV ((whV x * whV x + whV y * whV y).tdiv 4294967296) := rfl
    rw [eD]
    generalize ftV ((whV x * whV x + whV y * whV y).tdiv 4294967296) = n at *
    rw [wrap_in (x := n - 4294967296) (by unfold inR; omega)]
    refine ⟨⟨h_0, h_1⟩, fun h => ?_, fun h => ⟨h_0, h_0, h_1, h_1, fun h2 => ?_, fun h2 => ?_⟩⟩
    · rw [if_pos (.inl (by simpa using h))]
    · rw [if_pos (.inr (by omega))]
    · rw [if_neg (by
        rintro (k | k)
        · have : (whF x e || whF y f) = true := by simpa using k
          rw [h] at this; cases this
        · omega)]
  · cases hc
def k131 : Con
  | [.agg [.v (.int .i64 x), .v (.bool e), .v (.int .i64 y), .v (.bool f)], .agg [.v (.int .i64 z), .v (.bool g), .v (.int .i64 t), .v (.bool h)]] => some ([inR x, inR y, inR z, inR t], veA (vApply ((x, e), (y, f)) ((z, g), (t, h))))
  | _ => none
theorem kon131 : ConOK Tryz.prog 259 k131 := ConOK.of (G := [(238, c238), (164, c164)]) (H := [(1, ⟨[(20, .slot 4)], []⟩)]) (.cons con238 (.cons con164 .nil)) Tryz.func259 fun l ob r hc hob => by
  unfold k131 at hc
  split at hc
  · rename_i x e y f z g t h
    cases hc
    have h_0 : inR x := hob _ (by simp)
    have h_1 : inR y := hob _ (by simp)
    have h_2 : inR z := hob _ (by simp)
    have h_3 : inR t := hob _ (by simp)
    refine ⟨by kernel_rfl, fnVC_go (rs := [.cell 4 26]) rfl rfl ?_⟩
    simp only [go_sem, c238, c164]
    simp only [forall_eq]
    exact ⟨h_1, h_0, h_2, rg_inR (by have := whV_rg h_1; unfold rg at *; omega), h_3, h_1, h_2, h_0, h_3, rfl⟩
  · cases hc
def k62 : Con
  | [.agg [.v (.int .i64 x), .v (.bool e), .v (.int .i64 y), .v (.bool f), .v (.int .i64 c), .v (.bool o), .v (.int .i64 s), .v (.bool p)], .agg [.v (.int .i64 z), .v (.bool g), .v (.int .i64 t), .v (.bool h)]] => some ([inR x, inR y, inR c, inR s, inR z, inR t], veA (vAdd ((x, e), (y, f)) (vApply ((c, o), (s, p)) ((z, g), (t, h)))))
  | _ => none
theorem kon62 : ConOK Tryz.prog 207 k62 := ConOK.of (G := [(121, k130), (259, k131)]) (H := [(1, ⟨[(8, .slot 4)], []⟩)]) (.cons kon130 (.cons kon131 .nil)) Tryz.func207 fun l ob r hc hob => by
  unfold k62 at hc
  split at hc
  · rename_i x e y f c o s p z g t h
    cases hc
    have h_0 : inR x := hob _ (by simp)
    have h_1 : inR y := hob _ (by simp)
    have h_2 : inR c := hob _ (by simp)
    have h_3 : inR s := hob _ (by simp)
    have h_4 : inR z := hob _ (by simp)
    have h_5 : inR t := hob _ (by simp)
    refine ⟨by kernel_rfl, fnVC_go (rs := [.cell 4 26]) rfl rfl ?_⟩
    simp only [go_sem, k130, k131]
    exact ⟨h_2, h_3, h_4, h_5, ⟨h_0, h_1⟩, rfl⟩
  · cases hc
def k68 : Con
  | [.agg [.v (.int .i64 x), .v (.bool e), .v (.int .i64 y), .v (.bool f), .v (.int .i64 c), .v (.bool o), .v (.int .i64 s), .v (.bool p)], .agg [.v (.int .i64 z), .v (.bool g), .v (.int .i64 t), .v (.bool h)]] => some ([inR x, inR y, inR c, inR s, inR z, inR t], veA (vAdd ((x, e), (y, f)) (vApply ((c, o), (s, p)) ((z, g), (t, h)))))
  | _ => none
theorem kon68 : ConOK Tryz.prog 138 k68 := ConOK.of (G := [(86, k138), (198, k139)]) (H := [(1, ⟨[(8, .slot 4)], []⟩)]) (.cons kon138 (.cons kon139 .nil)) Tryz.func138 fun l ob r hc hob => by
  unfold k68 at hc
  split at hc
  · rename_i x e y f c o s p z g t h
    cases hc
    have h_0 : inR x := hob _ (by simp)
    have h_1 : inR y := hob _ (by simp)
    have h_2 : inR c := hob _ (by simp)
    have h_3 : inR s := hob _ (by simp)
    have h_4 : inR z := hob _ (by simp)
    have h_5 : inR t := hob _ (by simp)
    refine ⟨by kernel_rfl, fnVC_go (rs := [.cell 4 26]) rfl rfl ?_⟩
    simp only [go_sem, k138, k139]
    exact ⟨h_2, h_3, h_4, h_5, ⟨h_0, h_1⟩, rfl⟩
  · cases hc
end Go.Ax
end

section
/-
  The corners of a shape.
-/
set_option linter.unusedVariables false
set_option linter.unusedSimpArgs false
set_option maxHeartbeats 4000000
set_option maxRecDepth 100000
namespace Go.Ax
open Go.Proofs
/-- Whatever is ars the one says is ars the other says. -/
def alk (r r' : AV) : Prop := ∀ w ρ v, R w ρ r' v → R w ρ r v
theorem ConOK.goR {P : Program} {G : Ctx} {H : Hots} (hG : CtxOK P G) {f : FuncId} {fn : Func} (hf : P.funcs[f]? = some fn) {c : Con}
    (h : ∀ es1 ob r, c es1 = some (ob, r) → (∀ p ∈ ob, p) → ∃ es, (∀ w I vs, Rs w (.ext I) es1 vs → Rs w (.ext I) es vs) ∧ funcOK P H fn es.length = true ∧ fnVC P G H fn es (alk r)) : ConOK P f c := by
  intro es0 ob r hc hob I w vs hI hRs
  obtain ⟨es, h0, h1, h2⟩ := h es0 ob r hc hob
  obtain ⟨k1, k2⟩ := fn_sound hG hf h1 h2 I w vs hI (h0 w I vs hRs)
  exact .inr ⟨k1, k2.mono fun e w' ⟨v, he, ⟨r', hr, hR⟩, hb⟩ => ⟨v, he, hr _ _ _ hR, hb⟩⟩
theorem alk_refl {r : AV} : alk r r := fun _ _ _ h => h
theorem alk_ro {n : Nat} {f g : Nat → List AV} (h : ∀ i, i < n → g i = f i) : alk (.ro n 2 f) (.ro n 2 g) := fun w ρ v hR => ro_alike h hR
theorem alk_nil {f : Nat → List AV} : alk (.ro 0 2 f) (.v (.slice none 0 0)) := fun w ρ v hR => by
  cases hR
  exact .ro 0 0 (Nat.le_refl _) (fun h => absurd h (by omega)) (fun h => absurd h (by omega)) (fun i h => absurd h (by omega)) (fun i k h => absurd h (by omega)) (fun i k c x h => absurd h (by omega))
/-- How many corners a shape has. -/
def corN (k r w t : Int) (n : Nat) (X Y : Nat → Int) : Nat := if chkS k r w t n X Y = 0 then (if k = 2 then 4 else n) else 0
def corX (k w t : Int) (X : Nat → Int) (i : Nat) : Int := if k = 2 then (match i with | 0 => -w | 1 => w | 2 => w | _ => -w) else X i
def corY (k w t : Int) (Y : Nat → Int) (i : Nat) : Int := if k = 2 then (match i with | 0 => -t | 1 => -t | 2 => t | _ => t) else Y i
abbrev corA (k r w t : Int) (n : Nat) (X Y : Nat → Int) : AV := .ro (corN k r w t n X Y) 2 fun i => [i64 (corX k w t X i), i64 (corY k w t Y i)]
theorem chk_cases {k r w t : Int} {n : Nat} {X Y : Nat → Int} (h : chkS k r w t n X Y = 0) : (k = 1 ∧ n = 0 ∧ 16 ≤ r ∧ r ≤ 4096) ∨ (k = 2 ∧ n = 0 ∧ 16 ≤ w ∧ w ≤ 4096 ∧ 16 ≤ t ∧ t ≤ 4096) ∨ (k = 3 ∧ 3 ≤ n ∧ n ≤ 8 ∧ r = 0 ∧ ∀ i, i < n → lo (X i) ∧ lo (Y i)) := by
  unfold chkS at h
  split at h
  · rename_i h1
    split at h
    · omega
    · split at h
      · exact .inl ⟨h1, by omega⟩
      · omega
  · split at h
    · rename_i h1 h2
      split at h
      · omega
      · split at h
        · exact .inr (.inl ⟨h2, by omega⟩)
        · omega
    · split at h
      · rename_i h1 h2 h3
        split at h
        · omega
        · split at h
          · rename_i h5 h6
            exact .inr (.inr ⟨h3, by omega, by omega, by omega, h6⟩)
          · omega
      · omega
theorem vc206 (k r w t : Int) (n : Nat) (X Y : Nat → Int) (hX : ∀ i, i < n → inR (X i) ∧ inR (Y i)) (hn : n ≤ 9223372036854775806) : fnVC Tryz.prog [(202, c202)] [] Tryz.f206 [shapeA k r w t n fun i => [i64 (X i), i64 (Y i)]] (alk (corA k r w t n X Y)) := by
  refine fnVC_go (rs := [.tmp 2]) rfl rfl ?_
  have hg : spots n fun i => [i64 (X i), i64 (Y i)] := fun i hi => ⟨rfl, hX i hi⟩
  have eX : gx (fun i => [i64 (X i), i64 (Y i)]) 0 = X := rfl
  have eY : gx (fun i => [i64 (X i), i64 (Y i)]) 1 = Y := rfl
  simp only [go_sem, c202, eX, eY]
  have hb : bytesT Tryz.prog 101 = 16 := by kernel_rfl
  rw [hb]
  simp only [forall_eq]
  refine ⟨hg, hn, fun h => ?_, fun h => ⟨fun h2 => ?_, fun h2 => ?_⟩⟩
  · have : corN k r w t n X Y = 0 := if_neg (by simpa using h)
    unfold corA
    rw [this]
    exact alk_nil
  · have hk : k = 2 := by simpa using h2
    have hc : chkS k r w t n X Y = 0 := by simpa using h
    have : corN k r w t n X Y = 4 := by unfold corN; rw [if_pos hc, if_pos hk]
    have hb := chk_cases hc
    rw [wrap_in (x := 0 - w) (by unfold inR; omega), wrap_in (x := 0 - t) (by unfold inR; omega), Int.zero_sub, Int.zero_sub]
    unfold corA
    rw [this]
    refine alk_ro fun i hi => ?_
    unfold corX corY
    rw [if_pos hk, if_pos hk]
    match i with
    | 0 => rfl
    | 1 => rfl
    | 2 => rfl
    | 3 => rfl
    | j + 4 => omega
  · have hk : ¬ k = 2 := by simpa using h2
    have hc : chkS k r w t n X Y = 0 := by simpa using h
    have : corN k r w t n X Y = n := by unfold corN; rw [if_pos hc, if_neg hk]
    have hb := chk_cases hc
    unfold corA
    rw [this]
    refine ⟨fun i hi => by simp only [go_sem], by omega, by omega, ?_⟩
    refine alk_ro fun i hi => ?_
    unfold corX corY
    rw [if_neg hk, if_neg hk]
theorem vc212 (k r w t : Int) (n : Nat) (X Y : Nat → Int) (hX : ∀ i, i < n → inR (X i) ∧ inR (Y i)) (hn : n ≤ 9223372036854775806) : fnVC Tryz.prog [(166, c202)] [] Tryz.f212 [shapeA k r w t n fun i => [i64 (X i), i64 (Y i)]] (alk (corA k r w t n X Y)) := by
  refine fnVC_go (rs := [.tmp 2]) rfl rfl ?_
  have hg : spots n fun i => [i64 (X i), i64 (Y i)] := fun i hi => ⟨rfl, hX i hi⟩
  have eX : gx (fun i => [i64 (X i), i64 (Y i)]) 0 = X := rfl
  have eY : gx (fun i => [i64 (X i), i64 (Y i)]) 1 = Y := rfl
  simp only [go_sem, c202, eX, eY]
  have hb : bytesT Tryz.prog 101 = 16 := by kernel_rfl
  rw [hb]
  simp only [forall_eq]
  refine ⟨hg, hn, fun h => ?_, fun h => ⟨fun h2 => ?_, fun h2 => ?_⟩⟩
  · have : corN k r w t n X Y = 0 := if_neg (by simpa using h)
    unfold corA
    rw [this]
    exact alk_nil
  · have hk : k = 2 := by simpa using h2
    have hc : chkS k r w t n X Y = 0 := by simpa using h
    have : corN k r w t n X Y = 4 := by unfold corN; rw [if_pos hc, if_pos hk]
    have hb := chk_cases hc
    rw [wrap_in (x := 0 - w) (by unfold inR; omega), wrap_in (x := 0 - t) (by unfold inR; omega), Int.zero_sub, Int.zero_sub]
    unfold corA
    rw [this]
    refine alk_ro fun i hi => ?_
    unfold corX corY
    rw [if_pos hk, if_pos hk]
    match i with
    | 0 => rfl
    | 1 => rfl
    | 2 => rfl
    | 3 => rfl
    | j + 4 => omega
  · have hk : ¬ k = 2 := by simpa using h2
    have hc : chkS k r w t n X Y = 0 := by simpa using h
    have : corN k r w t n X Y = n := by unfold corN; rw [if_pos hc, if_neg hk]
    have hb := chk_cases hc
    unfold corA
    rw [this]
    refine ⟨fun i hi => by simp only [go_sem], by omega, by omega, ?_⟩
    rw [Nat.zero_add]
    refine alk_ro fun i hi => ?_
    unfold corX corY
    rw [if_neg hk, if_neg hk, if_neg (Nat.not_lt_zero i), Nat.sub_zero]
    simp only [go_sem]
def c206 : Con
  | [.agg [.v (.int .i64 k), .v (.int .i64 r), .v (.int .i64 w), .v (.int .i64 t), .ro n 2 g]] => some ([spots n g, n ≤ 9223372036854775806], corA k r w t n (gx g 0) (gx g 1))
  | _ => none
theorem con206 : ConOK Tryz.prog 206 c206 := ConOK.goR (G := [(202, c202)]) (H := []) (.cons con202 .nil) Tryz.func206 fun l ob rr hc hob => by
  unfold c206 at hc
  split at hc
  · rename_i k r w t n g
    cases hc
    have hs : spots n g := hob _ (by simp)
    exact ⟨[shapeA k r w t n fun i => [i64 (gx g 0 i), i64 (gx g 1 i)]], fun w I vs h => Rs_one (Rs_shape hs) h, by kernel_rfl, vc206 k r w t n _ _ (fun i hi => (hs i hi).2) (hob _ (by simp))⟩
  · cases hc
theorem con212 : ConOK Tryz.prog 212 c206 := ConOK.goR (G := [(166, c202)]) (H := []) (.cons con166 .nil) Tryz.func212 fun l ob rr hc hob => by
  unfold c206 at hc
  split at hc
  · rename_i k r w t n g
    cases hc
    have hs : spots n g := hob _ (by simp)
    exact ⟨[shapeA k r w t n fun i => [i64 (gx g 0 i), i64 (gx g 1 i)]], fun w I vs h => Rs_one (Rs_shape hs) h, by kernel_rfl, vc212 k r w t n _ _ (fun i hi => (hs i hi).2) (hob _ (by simp))⟩
  · cases hc
end Go.Ax
end

section
/-
  Shapes placed.
-/
set_option linter.unusedVariables false
set_option linter.unusedSimpArgs false
set_option maxHeartbeats 4000000
set_option maxRecDepth 100000
namespace Go.Ax
open Go.Proofs
theorem alk_form {a b c d e p q : AV} (h : alk p q) : alk (.tup [.agg [a, b, c, d, p], e]) (.tup [.agg [a, b, c, d, q], e]) := fun w ρ v hR => by
  cases hR with
  | tup hl hh =>
    refine .tup hl fun i x z h1 h2 => ?_
    match i with
    | 0 =>
      simp at h1; subst h1
      have := hh 0 _ z rfl h2
      cases this with
      | agg hl' hh' =>
        refine .agg hl' fun j x y h3 h4 => ?_
        match j with
        | 0 => exact hh' 0 x y h3 h4
        | 1 => exact hh' 1 x y h3 h4
        | 2 => exact hh' 2 x y h3 h4
        | 3 => exact hh' 3 x y h3 h4
        | 4 =>
          simp at h3; subst h3
          exact h _ _ _ (hh' 4 _ y rfl h4)
        | m + 5 => simp at h3
    | 1 => exact hh 1 x z h1 h2
    | m + 2 => simp at h1
/-- The error of a turn. -/
def rotS (x : Int) (e : Bool) (y : Int) (f : Bool) : Int := if (whF x e = true ∨ whF y f = true) ∨ (65536 < (nDot (x, e) (x, e) (y, f) (y, f)).1 - 4294967296 ∨ 65536 < 4294967296 - (nDot (x, e) (x, e) (y, f) (y, f)).1) then 3 else 0
def farB (a : Nb) : Bool := whF a.1 a.2 || decide (17592186044416 < ab (whV a.1))
/-- The error of a shape that is to be placed so. -/
def plErr (k r w t : Int) (n : Nat) (X Y : Nat → Int) (at' rot : V2) : Int :=
  if chkS k r w t n X Y ≠ 0 then chkS k r w t n X Y else if rotS rot.1.1 rot.1.2 rot.2.1 rot.2.2 ≠ 0 then rotS rot.1.1 rot.1.2 rot.2.1 rot.2.2 else if farB at'.1 = true ∨ farB at'.2 = true then 3 else 0
/-- Where a corner of it comes to lie. -/
def plPt (at' rot : V2) (x y : Int) : V2 := vAdd at' (vApply rot (vLoc x y))
def plX (k w t : Int) (X Y : Nat → Int) (at' rot : V2) (i : Nat) : Int := spV (plPt at' rot (corX k w t X i) (corY k w t Y i)).1
def plY (k w t : Int) (X Y : Nat → Int) (at' rot : V2) (i : Nat) : Int := spV (plPt at' rot (corX k w t X i) (corY k w t Y i)).2
def plN (k r w t : Int) (n : Nat) (X Y : Nat → Int) (at' rot : V2) : Nat := if plErr k r w t n X Y at' rot = 0 then (if k = 1 then 0 else corN k r w t n X Y) else 0
def plK (k r w t : Int) (n : Nat) (X Y : Nat → Int) (at' rot : V2) : Int := if plErr k r w t n X Y at' rot = 0 then (if k = 1 then 1 else 2) else 0
def plC (k r w t : Int) (n : Nat) (X Y : Nat → Int) (at' rot : V2) (a : Nb) : Int := if plErr k r w t n X Y at' rot = 0 then spV a else 0
def plR (k r w t : Int) (n : Nat) (X Y : Nat → Int) (at' rot : V2) : Int := if plErr k r w t n X Y at' rot = 0 then r else 0
abbrev plA (k r w t : Int) (n : Nat) (X Y : Nat → Int) (at' rot : V2) : AV :=
  .tup [formA (plK k r w t n X Y at' rot) (plC k r w t n X Y at' rot at'.1) (plC k r w t n X Y at' rot at'.2) (plR k r w t n X Y at' rot) (plN k r w t n X Y at' rot) fun i => [i64 (plX k w t X Y at' rot i), i64 (plY k w t X Y at' rot i)], i64 (plErr k r w t n X Y at' rot)]
abbrev poseA (at' rot : V2) : AV := .agg [i64 at'.1.1, bo at'.1.2, i64 at'.2.1, bo at'.2.2, i64 rot.1.1, bo rot.1.2, i64 rot.2.1, bo rot.2.2]
theorem vc145 (k r w t : Int) (n : Nat) (X Y : Nat → Int) (hX : ∀ i, i < n → inR (X i) ∧ inR (Y i)) (hn : n ≤ 9223372036854775806) (at' rot : V2) (h0 : inR at'.1.1) (h1 : inR at'.2.1) (h2 : inR rot.1.1) (h3 : inR rot.2.1) :
    fnVC Tryz.prog [(202, c202), (203, c203), (204, c204), (205, c205), (206, c206), (207, k62), (208, c208)] [(9, ⟨[(7, .made 6)], []⟩), (15, ⟨[(10, .slot 8)], []⟩)] Tryz.f145 [shapeA k r w t n fun i => [i64 (X i), i64 (Y i)], poseA at' rot] (alk (plA k r w t n X Y at' rot)) := by
  refine fnVC_go (rs := [.cell 4 103, .tmp 5]) rfl rfl ?_
  have hg : spots n fun i => [i64 (X i), i64 (Y i)] := fun i hi => ⟨rfl, hX i hi⟩
  have eX : gx (fun i => [i64 (X i), i64 (Y i)]) 0 = X := rfl
  have eY : gx (fun i => [i64 (X i), i64 (Y i)]) 1 = Y := rfl
  simp only [go_sem, c202, c203, c204, c205, c206, eX, eY]
  simp only [forall_eq]
  have pos : ∀ e : Int, plErr k r w t n X Y at' rot = e → e ≠ 0 → alk (plA k r w t n X Y at' rot) (.tup [.agg [i64 0, i64 0, i64 0, i64 0, .v (.slice none 0 0)], i64 e]) := fun e he hne => by
    subst he
    unfold plA formA
    have q : plN k r w t n X Y at' rot = 0 := if_neg hne
    rw [q, show plK k r w t n X Y at' rot = 0 from if_neg hne, show plC k r w t n X Y at' rot at'.1 = 0 from if_neg hne, show plC k r w t n X Y at' rot at'.2 = 0 from if_neg hne, show plR k r w t n X Y at' rot = 0 from if_neg hne]
    exact alk_form alk_nil
  refine ⟨hg, hn, fun h => ?_, fun h => ⟨h2, h3, fun h4 => ?_, fun h4 => ⟨h0, fun _ => h1, fun h5 => ?_, fun h5 => ⟨h0, h1, fun h6 => ⟨hg, hn, ?_⟩, fun h6 => ?_⟩⟩⟩⟩
  · have hne : chkS k r w t n X Y ≠ 0 := by simpa using h
    exact pos _ (by unfold plErr; rw [if_pos hne]) hne
  · have hne : rotS rot.1.1 rot.1.2 rot.2.1 rot.2.2 ≠ 0 := bne_iff_ne.1 h4
    refine pos _ ?_ hne
    unfold plErr; rw [if_neg (by simpa using h), if_pos hne]; rfl
  · refine pos _ ?_ (by omega)
    unfold plErr
    rw [if_neg (by simpa using h), if_neg (show ¬ rotS rot.1.1 rot.1.2 rot.2.1 rot.2.2 ≠ 0 from not_not_intro (bne_eq_false_iff_eq.1 h4)), if_pos]
    unfold farB
    rcases h5 with h5 | h5
    · exact .inl (by rw [Bool.not_eq_false'] at h5; exact h5)
    · exact .inr (by rw [Bool.not_eq_false'] at h5; exact h5)
  · have he : plErr k r w t n X Y at' rot = 0 := by
      unfold plErr
      rw [if_neg (by simpa using h), if_neg (show ¬ rotS rot.1.1 rot.1.2 rot.2.1 rot.2.2 ≠ 0 from not_not_intro (bne_eq_false_iff_eq.1 h4)), if_neg]
      unfold farB
      rw [Bool.not_eq_true', Bool.not_eq_true'] at h5
      rintro (h7 | h7)
      · rw [h5.1] at h7; cases h7
      · rw [h5.2] at h7; cases h7
    have hk : ¬ k = 1 := by simpa using h6
    have hc : chkS k r w t n X Y = 0 := by simpa using h
    have hcs := chk_cases hc
    have hN : corN k r w t n X Y ≤ 8 := by unfold corN; rw [if_pos hc]; split <;> omega
    have hb : bytesT Tryz.prog 101 = 16 := by kernel_rfl
    have hx : ∀ i, i < corN k r w t n X Y → inR (corX k w t X i) ∧ inR (corY k w t Y i) := fun i hi => by
      unfold corN at hi; rw [if_pos hc] at hi
      unfold corX corY
      split
      · constructor <;> (split <;> (unfold inR; omega))
      · rename_i h7
        rw [if_neg h7] at hi
        exact hX i hi
    generalize hM : corN k r w t n X Y = M at *
    refine loopN_go (fun (i : Nat) => i ≤ M) (fun i => M - i) (fun i => [(50, i64 i)]) (fun i => [(33, fam1 103 5 [i64 2, i64 (spV at'.1), i64 (spV at'.2), i64 r, .own 44 0 i 2] none), (44, famN i 2 101 (fun j => [i64 (plX k w t X Y at' rot j), i64 (plY k w t X Y at' rot j)]) none)]) [2, 1, 0] [51, 52, 53, 10, 54, 55, 56, 57, 58, 59, 60, 61, 62, 63, 64, 50] 1 0 (by kernel_rfl) (Nat.zero_le _) ⟨[(44, none)], ?_, ?_, ?_, ?_⟩ ?_
    · simp only [go_sem]
    · simp only [go_sem]
    · simp only [go_sem]
    · simp [goodNames, asg]
    intro i hi
    simp only [go_sem, c205, c208, k62]
    have hb : bytesT Tryz.prog 101 = 16 := by kernel_rfl
    rw [hb]
    simp only [forall_eq]
    refine ⟨fun hin => ?_, fun hin => ?_⟩
    · have hi' : i < M := by omega
      have hxi := hx i hi'
      refine ⟨by omega, hin, hxi.1, hxi.2, h0, h1, h2, h3, rg_inR nRat_rg, rg_inR nRat_rg, by omega, by omega, i + 1, by omega, by omega, [(44, some 58)], ?_⟩
      simp only [go_sem]
      refine ⟨by rw [wrap_in (by unfold inR; omega)]; rfl, fun j hj => ?_, by simp [goodNames, asg]⟩
      by_cases e : j < i
      · rw [if_pos e]; simp only [go_sem]
      · have e : j = i := by omega
        subst e
        rw [if_neg (by omega), Nat.sub_self]
        simp only [Nat.zero_mul, go_sem]
        exact ⟨rfl, rfl⟩
    · have e : i = M := by omega
      subst e
      unfold plA formA
      rw [show plN k r w t n X Y at' rot = i by unfold plN; rw [if_pos he, if_neg hk, hM], show plK k r w t n X Y at' rot = 2 by unfold plK; rw [if_pos he, if_neg hk], show plC k r w t n X Y at' rot at'.1 = _ from if_pos he, show plC k r w t n X Y at' rot at'.2 = _ from if_pos he, show plR k r w t n X Y at' rot = r from if_pos he, he]
      exact alk_refl
  · have he : plErr k r w t n X Y at' rot = 0 := by
      unfold plErr
      rw [if_neg (by simpa using h), if_neg (show ¬ rotS rot.1.1 rot.1.2 rot.2.1 rot.2.2 ≠ 0 from not_not_intro (bne_eq_false_iff_eq.1 h4)), if_neg]
      unfold farB
      rw [Bool.not_eq_true', Bool.not_eq_true'] at h5
      rintro (h7 | h7)
      · rw [h5.1] at h7; cases h7
      · rw [h5.2] at h7; cases h7
    have hk : k = 1 := by simpa using h6
    unfold plA formA
    rw [show plN k r w t n X Y at' rot = 0 by unfold plN; rw [if_pos he, if_pos hk], show plK k r w t n X Y at' rot = 1 by unfold plK; rw [if_pos he, if_pos hk], show plC k r w t n X Y at' rot at'.1 = _ from if_pos he, show plC k r w t n X Y at' rot at'.2 = _ from if_pos he, show plR k r w t n X Y at' rot = r from if_pos he, he]
    exact alk_form alk_nil
def c145 : Con
  | [.agg [.v (.int .i64 k), .v (.int .i64 r), .v (.int .i64 w), .v (.int .i64 t), .ro n 2 g], .agg [.v (.int .i64 x), .v (.bool e), .v (.int .i64 y), .v (.bool f), .v (.int .i64 c), .v (.bool o), .v (.int .i64 s), .v (.bool p)]] => some ([spots n g, n ≤ 9223372036854775806, inR x, inR y, inR c, inR s], plA k r w t n (gx g 0) (gx g 1) ((x, e), (y, f)) ((c, o), (s, p)))
  | _ => none
theorem con145 : ConOK Tryz.prog 145 c145 := ConOK.goR (G := [(202, c202), (203, c203), (204, c204), (205, c205), (206, c206), (207, k62), (208, c208)]) (H := [(9, ⟨[(7, .made 6)], []⟩), (15, ⟨[(10, .slot 8)], []⟩)]) (.cons con202 (.cons con203 (.cons con204 (.cons con205 (.cons con206 (.cons kon62 (.cons con208 .nil))))))) Tryz.func145 fun l ob rr hc hob => by
  unfold c145 at hc
  split at hc
  · rename_i k r w t n g x e y f c o s p
    cases hc
    have hs : spots n g := hob _ (by simp)
    refine ⟨[shapeA k r w t n fun i => [i64 (gx g 0 i), i64 (gx g 1 i)], poseA ((x, e), (y, f)) ((c, o), (s, p))], fun w I vs h => ?_, by kernel_rfl, vc145 k r w t n _ _ (fun i hi => (hs i hi).2) (hob _ (by simp)) ((x, e), (y, f)) ((c, o), (s, p)) (hob _ (by simp)) (hob _ (by simp)) (hob _ (by simp)) (hob _ (by simp))⟩
    obtain ⟨x, xs, rfl, h1, h2⟩ := h.inv
    exact .cons (Rs_shape hs _ h1) h2
  · cases hc
theorem chk_r {k r w t : Int} {n : Nat} {X Y : Nat → Int} (h : chkS k r w t n X Y = 0) (hk : ¬ k = 1) : r = 0 := by
  unfold chkS at h
  rw [if_neg hk] at h
  split at h
  · split at h <;> omega
  · split at h
    · split at h <;> omega
    · omega
theorem vc146 (k r w t : Int) (n : Nat) (X Y : Nat → Int) (hX : ∀ i, i < n → inR (X i) ∧ inR (Y i)) (hn : n ≤ 9223372036854775806) (at' rot : V2) (h0 : inR at'.1.1) (h1 : inR at'.2.1) (h2 : inR rot.1.1) (h3 : inR rot.2.1) :
    fnVC Tryz.prog [(212, c206), (166, c202), (209, c209), (210, c210), (211, c211), (138, k68), (213, c213)] [(9, ⟨[(6, .slot 4)], []⟩), (15, ⟨[(13, .slot 7)], []⟩)] Tryz.f146 [shapeA k r w t n fun i => [i64 (X i), i64 (Y i)], poseA at' rot] (alk (plA k r w t n X Y at' rot)) := by
  refine fnVC_go (rs := [.cell 4 103, .tmp 5]) rfl rfl ?_
  have hg : spots n fun i => [i64 (X i), i64 (Y i)] := fun i hi => ⟨rfl, hX i hi⟩
  have eX : gx (fun i => [i64 (X i), i64 (Y i)]) 0 = X := rfl
  have eY : gx (fun i => [i64 (X i), i64 (Y i)]) 1 = Y := rfl
  simp only [go_sem, c202, c209, c210, c211, c206, eX, eY]
  simp only [forall_eq]
  have pos : ∀ e : Int, plErr k r w t n X Y at' rot = e → e ≠ 0 → alk (plA k r w t n X Y at' rot) (.tup [.agg [i64 0, i64 0, i64 0, i64 0, .v (.slice none 0 0)], i64 e]) := fun e he hne => by
    subst he
    unfold plA formA
    have q : plN k r w t n X Y at' rot = 0 := if_neg hne
    rw [q, show plK k r w t n X Y at' rot = 0 from if_neg hne, show plC k r w t n X Y at' rot at'.1 = 0 from if_neg hne, show plC k r w t n X Y at' rot at'.2 = 0 from if_neg hne, show plR k r w t n X Y at' rot = 0 from if_neg hne]
    exact alk_form alk_nil
  refine ⟨hg, hn, fun h => ⟨h2, h3, fun h4 => ?_, fun h4 => ⟨h0, fun _ => h1, fun h5 => ?_, fun h5 => ?_⟩⟩, fun h => ⟨fun h4 => ?_, fun h4 => ?_⟩⟩
  · have hne : rotS rot.1.1 rot.1.2 rot.2.1 rot.2.2 ≠ 0 := bne_iff_ne.1 h4
    refine pos _ ?_ hne
    unfold plErr; rw [if_neg (by simpa using h), if_pos hne]; rfl
  · refine pos _ ?_ (by omega)
    unfold plErr
    rw [if_neg (by simpa using h), if_neg (show ¬ rotS rot.1.1 rot.1.2 rot.2.1 rot.2.2 ≠ 0 from not_not_intro (bne_eq_false_iff_eq.1 h4)), if_pos]
    unfold farB
    exact h5
  · have he : plErr k r w t n X Y at' rot = 0 := by
      unfold plErr
      rw [if_neg (by simpa using h), if_neg (show ¬ rotS rot.1.1 rot.1.2 rot.2.1 rot.2.2 ≠ 0 from not_not_intro (bne_eq_false_iff_eq.1 h4)), if_neg]
      unfold farB
      rintro (h7 | h7)
      · rw [h5.1] at h7; cases h7
      · rw [h5.2] at h7; cases h7
    have hc : chkS k r w t n X Y = 0 := by simpa using h
    have hcs := chk_cases hc
    refine ⟨fun h6 => ⟨h0, h1, ?_⟩, fun h6 => ⟨h0, h1, hg, hn, ?_⟩⟩
    · have hk : k = 1 := by simpa using h6
      unfold plA formA
      rw [show plN k r w t n X Y at' rot = 0 by unfold plN; rw [if_pos he, if_pos hk], show plK k r w t n X Y at' rot = 1 by unfold plK; rw [if_pos he, if_pos hk], show plC k r w t n X Y at' rot at'.1 = _ from if_pos he, show plC k r w t n X Y at' rot at'.2 = _ from if_pos he, show plR k r w t n X Y at' rot = r from if_pos he, he]
      exact alk_form alk_nil
    · have hk : ¬ k = 1 := by simpa using h6
      have hN : corN k r w t n X Y ≤ 8 := by unfold corN; rw [if_pos hc]; split <;> omega
      have hx : ∀ i, i < corN k r w t n X Y → inR (corX k w t X i) ∧ inR (corY k w t Y i) := fun i hi => by
        unfold corN at hi; rw [if_pos hc] at hi
        unfold corX corY
        split
        · constructor <;> (split <;> (unfold inR; omega))
        · rename_i h7
          rw [if_neg h7] at hi
          exact hX i hi
      generalize hM : corN k r w t n X Y = M at *
      refine loopN_go (fun (i : Nat) => i ≤ M) (fun i => M - i) (fun i => [(9, i64 i)]) (fun i => [(32, fam1 103 5 [i64 2, i64 (spV at'.1), i64 (spV at'.2), i64 0, .own 38 0 i 2] none), (38, famN i 2 101 (fun j => [i64 (plX k w t X Y at' rot j), i64 (plY k w t X Y at' rot j)]) none)]) [2, 1, 0] [47, 48, 49, 50, 53, 54, 55, 56, 57, 58, 59, 60, 61, 62, 63, 64, 65, 51, 52, 9] 1 0 (by kernel_rfl) (Nat.zero_le _) ⟨[(38, none)], ?_, ?_, ?_, ?_⟩ ?_
      · simp only [go_sem]
      · simp only [go_sem]
      · simp only [go_sem]
      · simp [goodNames, asg]
      intro i hi
      simp only [go_sem, c211, c213, k68]
      have hb : bytesT Tryz.prog 101 = 16 := by kernel_rfl
      rw [hb]
      simp only [forall_eq]
      refine ⟨fun hin => ?_, fun hin => ?_⟩
      · have hi' : i < M := by omega
        have hxi := hx i hi'
        refine ⟨by omega, hin, hxi.1, hxi.2, h0, h1, h2, h3, rg_inR nRat_rg, rg_inR nRat_rg, by omega, by omega, i + 1, by omega, by omega, [(38, some 54)], ?_⟩
        simp only [go_sem]
        refine ⟨by rw [wrap_in (by unfold inR; omega)]; rfl, fun j hj => ?_, by simp [goodNames, asg]⟩
        by_cases e : j < i
        · rw [if_pos e]; simp only [go_sem]
        · have e : j = i := by omega
          subst e
          rw [if_neg (by omega), Nat.sub_self]
          simp only [Nat.zero_mul, go_sem]
          exact ⟨rfl, rfl⟩
      · have e : i = M := by omega
        subst e
        unfold plA formA
        rw [show plN k r w t n X Y at' rot = i by unfold plN; rw [if_pos he, if_neg hk, hM], show plK k r w t n X Y at' rot = 2 by unfold plK; rw [if_pos he, if_neg hk], show plC k r w t n X Y at' rot at'.1 = _ from if_pos he, show plC k r w t n X Y at' rot at'.2 = _ from if_pos he, show plR k r w t n X Y at' rot = 0 by unfold plR; rw [if_pos he, chk_r hc hk], he]
        exact alk_refl
  · have hne : chkS k r w t n X Y ≠ 0 := by simpa using h
    exact pos _ (by unfold plErr; rw [if_pos hne]) hne
  · simp at h h4; omega
theorem con146 : ConOK Tryz.prog 146 c145 := ConOK.goR (G := [(212, c206), (166, c202), (209, c209), (210, c210), (211, c211), (138, k68), (213, c213)]) (H := [(9, ⟨[(6, .slot 4)], []⟩), (15, ⟨[(13, .slot 7)], []⟩)]) (.cons con212 (.cons con166 (.cons con209 (.cons con210 (.cons con211 (.cons kon68 (.cons con213 .nil))))))) Tryz.func146 fun l ob rr hc hob => by
  unfold c145 at hc
  split at hc
  · rename_i k r w t n g x e y f c o s p
    cases hc
    have hs : spots n g := hob _ (by simp)
    refine ⟨[shapeA k r w t n fun i => [i64 (gx g 0 i), i64 (gx g 1 i)], poseA ((x, e), (y, f)) ((c, o), (s, p))], fun w I vs h => ?_, by kernel_rfl, vc146 k r w t n _ _ (fun i hi => (hs i hi).2) (hob _ (by simp)) ((x, e), (y, f)) ((c, o), (s, p)) (hob _ (by simp)) (hob _ (by simp)) (hob _ (by simp)) (hob _ (by simp))⟩
    obtain ⟨x, xs, rfl, h1, h2⟩ := h.inv
    exact .cons (Rs_shape hs _ h1) h2
  · cases hc
end Go.Ax
end

section
/-
  Sines, turns; copies of shapes and bodies.
-/
set_option linter.unusedVariables false
set_option linter.unusedSimpArgs false
set_option maxHeartbeats 4000000
set_option maxRecDepth 100000
namespace Go.Ax
open Go.Proofs
theorem iTurn1 {k : Nb} {v : V2} : inR (vTurn k v).1.1 = True := iMul
theorem iTurn2 {k : Nb} {v : V2} : inR (vTurn k v).2.1 = True := iMul
attribute [go_sem] iTurn1 iTurn2
theorem inB_n {b : Bd} (h : inB b) : True := trivial
theorem spots_can {n : Nat} {X Y : Nat → Int} : spots n (fun j => [i64 (X j), i64 (Y j)]) = (∀ j, j < n → inR (X j) ∧ inR (Y j)) := propext ⟨fun h j hj => (h j hj).2, fun h j hj => ⟨rfl, h j hj⟩⟩
theorem tmod_turn {v : Int} : -26986075409 < v.tmod 26986075409 ∧ v.tmod 26986075409 < 26986075409 := by
  have h1 := Int.tmod_lt_of_pos v (show (0 : Int) < 26986075409 by decide)
  rcases Int.le_total 0 v with h | h
  · have := Int.tmod_nonneg 26986075409 h; omega
  · have e : v.tmod 26986075409 = -((-v).tmod 26986075409) := by rw [Int.neg_tmod, Int.neg_neg]
    have := Int.tmod_lt_of_pos (-v) (show (0 : Int) < 26986075409 by decide)
    omega
def c280 : Con
  | [.agg [.v (.int .i64 v), .v (.bool f)]] => some ([inR v], .agg [i64 (wpV (whV v)), bo (whF v f)])
  | _ => none
theorem con280 : ConOK Tryz.prog 280 c280 := ConOK.of (G := [(180, c180)]) (H := []) (.cons con180 .nil) Tryz.func280 fun l ob rr hc hob => by
  unfold c280 at hc
  split at hc
  · rename_i v f
    cases hc
    have h_0 : inR v := hob _ (by simp)
    refine ⟨by kernel_rfl, fnVC_go (rs := [.cell 2 24]) rfl rfl ?_⟩
    simp only [go_sem, c180, iMul, iDiv, iInt, iAdd, iSub, iRat, iDot, iHyp, iSq, iNeg, iPos, iAbs, iMx, iMn, iCl, iWh, iLoc1, iLoc2, iVAdd1, iVAdd2, iVSub1, iVSub2, iScale1, iScale2, iVDot, iVCross, iLen, iOf1, iOf2, iUnit1, iUnit2, h_0]
    intro z hz z1 hz1 z2 hz2
    subst hz hz1
    have hb : -26986075409 < z2 ∧ z2 < 26986075409 := by rw [hz2]; exact tmod_turn
    have e : wpV (whV v) = if 13493037704 < z2 then z2 - 26986075409 else if z2 < -13493037704 then z2 + 26986075409 else z2 := by rw [hz2]; rfl
    rw [e]
    refine ⟨fun h z hz => ?_, fun h => ⟨fun h3 z hz => ?_, fun h3 => ?_⟩⟩
    · rw [hz, wrap_in (by unfold inR; omega), if_pos h]
    · rw [hz, wrap_in (by unfold inR; omega), if_neg h, if_pos h3]
    · rw [if_neg h, if_neg h3]
  · cases hc
def c281 : Con
  | [.v (.int .i64 v)] => some ([inR v], .agg [i64 (whV v), bo (whF v false)])
  | _ => none
theorem con281 : ConOK Tryz.prog 281 c281 := ConOK.of (G := [(180, c180)]) (H := []) (.cons con180 .nil) Tryz.func281 fun l ob rr hc hob => by
  unfold c281 at hc
  split at hc
  · rename_i v
    cases hc
    have h_0 : inR v := hob _ (by simp)
    refine ⟨by kernel_rfl, fnVC_go (rs := [.cell 2 24]) rfl rfl ?_⟩
    simp only [go_sem, c180, iMul, iDiv, iInt, iAdd, iSub, iRat, iDot, iHyp, iSq, iNeg, iPos, iAbs, iMx, iMn, iCl, iWh, iLoc1, iLoc2, iVAdd1, iVAdd2, iVSub1, iVSub2, iScale1, iScale2, iVDot, iVCross, iLen, iOf1, iOf2, iUnit1, iUnit2, h_0]
    simp only [forall_eq]
  · cases hc
theorem byt101 : bytesT Tryz.prog 101 = 16 := by kernel_rfl
theorem vc237 (k r w t : Int) (n : Nat) (X Y : Nat → Int) (hn : n ≤ 1000) : fnVC Tryz.prog [] [] Tryz.f237 [shapeA k r w t n fun i => [i64 (X i), i64 (Y i)]] (· = shapeA k r w t n fun i => [i64 (X i), i64 (Y i)]) := by
  refine fnVC_go (rs := [.cell 2 49]) rfl rfl ?_
  simp only [go_sem]
  exact ⟨fun _ _ => rfl, by rw [byt101]; omega, by omega⟩
def c237 : Con
  | [.agg [.v (.int .i64 k), .v (.int .i64 r), .v (.int .i64 w), .v (.int .i64 t), .ro n 2 g]] => some ([spots n g, n ≤ 1000], .agg [i64 k, i64 r, i64 w, i64 t, .ro n 2 fun i => [i64 (gx g 0 i), i64 (gx g 1 i)]])
  | _ => none
theorem con237 : ConOK Tryz.prog 237 c237 := ConOK.go (G := []) (H := []) .nil Tryz.func237 fun l ob rr hc hob => by
  unfold c237 at hc
  split at hc
  · rename_i k r w t n g
    cases hc
    have h_0 : spots n g := hob _ (by simp)
    have h_1 : n ≤ 1000 := hob _ (by simp)
    exact ⟨[shapeA k r w t n fun i => [i64 (gx g 0 i), i64 (gx g 1 i)]], fun w I vs h => Rs_one (Rs_shape h_0) h, by kernel_rfl, vc237 k r w t n _ _ h_1⟩
  · cases hc
theorem vc168 (k r w t : Int) (n : Nat) (X Y : Nat → Int) (hn : n ≤ 1000) : fnVC Tryz.prog [] [] Tryz.f168 [shapeA k r w t n fun i => [i64 (X i), i64 (Y i)]] (· = shapeA k r w t n fun i => [i64 (X i), i64 (Y i)]) := by
  refine fnVC_go (rs := [.cell 2 49]) rfl rfl ?_
  simp only [go_sem, Nat.zero_add, Nat.not_lt_zero, if_false, Nat.sub_zero]
  exact ⟨fun _ _ => rfl, by rw [byt101]; omega, by omega⟩
def c168 : Con
  | [.agg [.v (.int .i64 k), .v (.int .i64 r), .v (.int .i64 w), .v (.int .i64 t), .ro n 2 g]] => some ([spots n g, n ≤ 1000], .agg [i64 k, i64 r, i64 w, i64 t, .ro n 2 fun i => [i64 (gx g 0 i), i64 (gx g 1 i)]])
  | _ => none
theorem con168 : ConOK Tryz.prog 168 c168 := ConOK.go (G := []) (H := []) .nil Tryz.func168 fun l ob rr hc hob => by
  unfold c168 at hc
  split at hc
  · rename_i k r w t n g
    cases hc
    have h_0 : spots n g := hob _ (by simp)
    have h_1 : n ≤ 1000 := hob _ (by simp)
    exact ⟨[shapeA k r w t n fun i => [i64 (gx g 0 i), i64 (gx g 1 i)]], fun w I vs h => Rs_one (Rs_shape h_0) h, by kernel_rfl, vc168 k r w t n _ _ h_1⟩
  · cases hc
def kb173 : Con := cB fun b rest => match rest with
  | [] => some ([inB b, b.n ≤ 1000], boA b)
  | _ => none
theorem konb173 : ConOK Tryz.prog 173 kb173 := ConOK.cB (G := [(237, c237)]) (H := []) (.cons con237 .nil) Tryz.func173 fun b rest ob r hc hob => by
  split at hc
  · skip
    cases hc
    have h_0 : inB b := hob _ (by simp)
    have h_1 : b.n ≤ 1000 := hob _ (by simp)
    obtain ⟨b1, b2, b3, b4, b5, b6, b7, b8, b9, b10, b11, b12, b13, b14, b15, b16⟩ := h_0
    have hb : inB b := hob _ (by simp)
    refine ⟨by kernel_rfl, fnVC_go (rs := [.cell 2 57]) rfl rfl ?_⟩
    simp only [bodyC, go_sem, c237, cB_eq, cBR_eq, bodyD_lit, gx_pts0, gx_pts1, spots_can, etaN, etaV, bd_eta, b1, b2, b3, b4, b6, b7, b8, b9, b10, b11, b12, b13, b14, b15, b16, hb, h_1]
    simp only [forall_eq]
    exact ⟨b5, rfl⟩
  · cases hc
def kb116 : Con := cB fun b rest => match rest with
  | [] => some ([inB b, b.n ≤ 1000], boA b)
  | _ => none
theorem konb116 : ConOK Tryz.prog 116 kb116 := ConOK.cB (G := [(168, c168)]) (H := []) (.cons con168 .nil) Tryz.func116 fun b rest ob r hc hob => by
  split at hc
  · skip
    cases hc
    have h_0 : inB b := hob _ (by simp)
    have h_1 : b.n ≤ 1000 := hob _ (by simp)
    obtain ⟨b1, b2, b3, b4, b5, b6, b7, b8, b9, b10, b11, b12, b13, b14, b15, b16⟩ := h_0
    have hb : inB b := hob _ (by simp)
    refine ⟨by kernel_rfl, fnVC_go (rs := [.cell 2 57]) rfl rfl ?_⟩
    simp only [bodyC, go_sem, c168, cB_eq, cBR_eq, bodyD_lit, gx_pts0, gx_pts1, spots_can, etaN, etaV, bd_eta, b1, b2, b3, b4, b6, b7, b8, b9, b10, b11, b12, b13, b14, b15, b16, hb, h_1]
    simp only [forall_eq]
    exact ⟨b5, rfl⟩
  · cases hc
def kb35 : Con := cB fun b rest => match rest with
  | [] => some ([inB b, b.n ≤ 1000], boA b)
  | _ => none
theorem konb35 : ConOK Tryz.prog 35 kb35 := ConOK.cB (G := [(112, c112)]) (H := []) (.cons con112 .nil) Tryz.func35 fun b rest ob r hc hob => by
  split at hc
  · skip
    cases hc
    have h_0 : inB b := hob _ (by simp)
    have h_1 : b.n ≤ 1000 := hob _ (by simp)
    obtain ⟨b1, b2, b3, b4, b5, b6, b7, b8, b9, b10, b11, b12, b13, b14, b15, b16⟩ := h_0
    have hb : inB b := hob _ (by simp)
    refine ⟨by kernel_rfl, fnVC_go (rs := [.cell 2 57]) rfl rfl ?_⟩
    simp only [bodyC, go_sem, c112, cB_eq, cBR_eq, bodyD_lit, gx_pts0, gx_pts1, spots_can, etaN, etaV, bd_eta, b1, b2, b3, b4, b6, b7, b8, b9, b10, b11, b12, b13, b14, b15, b16, hb, h_1]
    exact ⟨b5, rfl⟩
  · cases hc
def spdS (b : Bd) (p : V2) : V2 := vAdd b.v (vTurn b.w (vSub p b.pl))
def hftS (b : Bd) (p n : V2) : Nb := nAdd b.m (nMul b.i (nMul (vCross (vSub p b.pl) n) (vCross (vSub p b.pl) n)))
def kb150 : Con := cBR fun b rest => match rest with
  | [.agg [.v (.int .i64 x), .v (.bool e), .v (.int .i64 y), .v (.bool f)]] => some ([inB b, inR x, inR y], veA (spdS b ((x, e), (y, f))))
  | _ => none
theorem konb150 : ConOK Tryz.prog 150 kb150 := ConOK.cBR (G := [(175, kw175), (218, kw218), (121, k130)]) (H := [(1, ⟨[(16, .slot 4)], []⟩)]) (.cons konw175 (.cons konw218 (.cons kon130 .nil))) Tryz.func150 fun b rest ob r hc hob => by
  split at hc
  · rename_i x e y f
    cases hc
    have h_0 : inB b := hob _ (by simp)
    have h_1 : inR x := hob _ (by simp)
    have h_2 : inR y := hob _ (by simp)
    obtain ⟨b1, b2, b3, b4, b5, b6, b7, b8, b9, b10, b11, b12, b13, b14, b15, b16⟩ := h_0
    have hb : inB b := hob _ (by simp)
    refine ⟨by kernel_rfl, fnVC_go (rs := [.cell 4 26]) rfl rfl ?_⟩
    simp only [bodyC, go_sem, kw175, kw218, k130, cB_eq, cBR_eq, bodyD_lit, gx_pts0, gx_pts1, spots_can, etaN, etaV, bd_eta, b1, b2, b3, b4, b6, b7, b8, b9, b10, b11, b12, b13, b14, b15, b16, hb, h_1, h_2]
    rfl
  · cases hc
def kb151 : Con := cBR fun b rest => match rest with
  | [.agg [.v (.int .i64 x), .v (.bool e), .v (.int .i64 y), .v (.bool f)], .agg [.v (.int .i64 z), .v (.bool g), .v (.int .i64 u), .v (.bool h)]] => some ([inB b, inR x, inR y, inR z, inR u], nbA (hftS b ((x, e), (y, f)) ((z, g), (u, h))))
  | _ => none
theorem konb151 : ConOK Tryz.prog 151 kb151 := ConOK.cBR (G := [(175, kw175), (174, k250), (125, k129), (153, kw153)]) (H := [(1, ⟨[(6, .made 5)], []⟩), (2, ⟨[(17, .slot 6)], []⟩)]) (.cons konw175 (.cons kon250 (.cons kon129 (.cons konw153 .nil)))) Tryz.func151 fun b rest ob r hc hob => by
  split at hc
  · rename_i x e y f z g u h
    cases hc
    have h_0 : inB b := hob _ (by simp)
    have h_1 : inR x := hob _ (by simp)
    have h_2 : inR y := hob _ (by simp)
    have h_3 : inR z := hob _ (by simp)
    have h_4 : inR u := hob _ (by simp)
    obtain ⟨b1, b2, b3, b4, b5, b6, b7, b8, b9, b10, b11, b12, b13, b14, b15, b16⟩ := h_0
    have hb : inB b := hob _ (by simp)
    refine ⟨by kernel_rfl, fnVC_go (rs := [.cell 6 24]) rfl rfl ?_⟩
    simp only [bodyC, go_sem, kw175, k250, k129, kw153, cB_eq, cBR_eq, bodyD_lit, gx_pts0, gx_pts1, spots_can, etaN, etaV, bd_eta, b1, b2, b3, b4, b6, b7, b8, b9, b10, b11, b12, b13, b14, b15, b16, hb, h_1, h_2, h_3, h_4]
    rfl
  · cases hc
def kb110 : Con := cB fun b rest => match rest with
  | [.agg [.v (.int .i64 x), .v (.bool e), .v (.int .i64 y), .v (.bool f)]] => some ([inB b, inR x, inR y], veA (vSub ((x, e), (y, f)) b.pl))
  | _ => none
theorem konb110 : ConOK Tryz.prog 110 kb110 := ConOK.cB (G := [(32, k181)]) (H := []) (.cons kon181 .nil) Tryz.func110 fun b rest ob r hc hob => by
  split at hc
  · rename_i x e y f
    cases hc
    have h_0 : inB b := hob _ (by simp)
    have h_1 : inR x := hob _ (by simp)
    have h_2 : inR y := hob _ (by simp)
    obtain ⟨b1, b2, b3, b4, b5, b6, b7, b8, b9, b10, b11, b12, b13, b14, b15, b16⟩ := h_0
    have hb : inB b := hob _ (by simp)
    refine ⟨by kernel_rfl, fnVC_go (rs := [.cell 4 26]) rfl rfl ?_⟩
    simp only [bodyC, go_sem, k181, cB_eq, cBR_eq, bodyD_lit, gx_pts0, gx_pts1, spots_can, etaN, etaV, bd_eta, b1, b2, b3, b4, b6, b7, b8, b9, b10, b11, b12, b13, b14, b15, b16, hb, h_1, h_2]
    rfl
  · cases hc
def kb33 : Con := cB fun b rest => match rest with
  | [.agg [.v (.int .i64 x), .v (.bool e), .v (.int .i64 y), .v (.bool f)]] => some ([inB b, inR x, inR y], veA (spdS b ((x, e), (y, f))))
  | _ => none
theorem konb33 : ConOK Tryz.prog 33 kb33 := ConOK.cB (G := [(110, kb110), (109, kw109t), (86, k138)]) (H := [(1, ⟨[(10, .slot 4)], []⟩)]) (.cons konb110 (.cons konw109t (.cons kon138 .nil))) Tryz.func33 fun b rest ob r hc hob => by
  split at hc
  · rename_i x e y f
    cases hc
    have h_0 : inB b := hob _ (by simp)
    have h_1 : inR x := hob _ (by simp)
    have h_2 : inR y := hob _ (by simp)
    obtain ⟨b1, b2, b3, b4, b5, b6, b7, b8, b9, b10, b11, b12, b13, b14, b15, b16⟩ := h_0
    have hb : inB b := hob _ (by simp)
    refine ⟨by kernel_rfl, fnVC_go (rs := [.cell 4 26]) rfl rfl ?_⟩
    simp only [bodyC, go_sem, kb110, kw109t, k138, cB_eq, cBR_eq, bodyD_lit, gx_pts0, gx_pts1, spots_can, etaN, etaV, bd_eta, b1, b2, b3, b4, b6, b7, b8, b9, b10, b11, b12, b13, b14, b15, b16, hb, h_1, h_2]
    rfl
  · cases hc
def kb71 : Con := cB fun b rest => match rest with
  | [.agg [.v (.int .i64 x), .v (.bool e), .v (.int .i64 y), .v (.bool f)], .agg [.v (.int .i64 z), .v (.bool g), .v (.int .i64 u), .v (.bool h)]] => some ([inB b, inR x, inR y, inR z, inR u], nbA (hftS b ((x, e), (y, f)) ((z, g), (u, h))))
  | _ => none
theorem konb71 : ConOK Tryz.prog 71 kb71 := ConOK.cB (G := [(110, kb110), (119, k141), (27, k52), (79, k208)]) (H := [(1, ⟨[(6, .made 5)], []⟩), (2, ⟨[(11, .slot 6)], []⟩)]) (.cons konb110 (.cons kon141 (.cons kon52 (.cons kon208 .nil)))) Tryz.func71 fun b rest ob r hc hob => by
  split at hc
  · rename_i x e y f z g u h
    cases hc
    have h_0 : inB b := hob _ (by simp)
    have h_1 : inR x := hob _ (by simp)
    have h_2 : inR y := hob _ (by simp)
    have h_3 : inR z := hob _ (by simp)
    have h_4 : inR u := hob _ (by simp)
    obtain ⟨b1, b2, b3, b4, b5, b6, b7, b8, b9, b10, b11, b12, b13, b14, b15, b16⟩ := h_0
    have hb : inB b := hob _ (by simp)
    refine ⟨by kernel_rfl, fnVC_go (rs := [.cell 6 24]) rfl rfl ?_⟩
    simp only [bodyC, go_sem, kb110, k141, k52, k208, cB_eq, cBR_eq, bodyD_lit, gx_pts0, gx_pts1, spots_can, etaN, etaV, bd_eta, b1, b2, b3, b4, b6, b7, b8, b9, b10, b11, b12, b13, b14, b15, b16, hb, h_1, h_2, h_3, h_4]
    rfl
  · cases hc
end Go.Ax
end

section
/-
  Sines and turns.
-/
set_option linter.unusedVariables false
set_option linter.unusedSimpArgs false
set_option maxHeartbeats 4000000
set_option maxRecDepth 100000
namespace Go.Ax
open Go.Proofs
def c244 : Con
  | [.agg [.v (.int .i64 v), .v (.bool f)]] => some ([inR v], .agg [i64 (snV v f), bo (snF v f)])
  | _ => none
theorem con244 : ConOK Tryz.prog 244 c244 := ConOK.of (G := [(280, c280), (125, k129), (178, k127), (155, k168), (164, k179), (153, kw153), (163, k171)]) (H := [(6, ⟨[(4, .made 2), (5, .made 3)], [(1, [.made 2])]⟩), (11, ⟨[(12, .slot 4)], []⟩), (14, ⟨[(4, .slot 2)], []⟩)]) (.cons con280 (.cons kon129 (.cons kon127 (.cons kon168 (.cons kon179 (.cons konw153 (.cons kon171 .nil))))))) Tryz.func244 fun l ob rr hc hob => by
  unfold c244 at hc
  split at hc
  · rename_i v f
    cases hc
    have h_0 : inR v := hob _ (by simp)
    refine ⟨by kernel_rfl, fnVC_go (rs := [.cell 2 24]) rfl rfl ?_⟩
    simp only [go_sem, c280, k129, k127, k168, k179, kw153, k171, iMul, iDiv, iInt, iAdd, iSub, iRat, iDot, iHyp, iSq, iNeg, iPos, iAbs, iMx, iMn, iCl, iWh, iLoc1, iLoc2, iVAdd1, iVAdd2, iVSub1, iVSub2, iScale1, iScale2, iVDot, iVCross, iLen, iOf1, iOf2, iUnit1, iUnit2, h_0]
    intro z hz z1 hz1
    have hw := wpV_le (v := whV v)
    rw [← hz] at hw
    obtain ⟨y, hy⟩ : ∃ y : Nb, y = snY v f := ⟨_, rfl⟩
    have y2 : z1 = y.2 := by rw [hy]; exact hz1
    have yq : y.1 = qtV z := by rw [hy, hz]; rfl
    have yi : inR y.1 := by rw [yq]; unfold qtV inR; (repeat' split) <;> omega
    have ev : snV v f = max (-4294967296) (min (whV (snS y 8).1) 4294967296) := by rw [hy]; rfl
    have ef : snF v f = whF (snS y 8).1 (snS y 8).2 := by rw [hy]; rfl
    rw [ev, ef]
    clear ev ef hy hz hz1
    refine ⟨fun h z2 hz2 => ?_, fun h => ⟨fun h2 z3 hz3 => ?_, fun h2 => ?_⟩⟩
    · have e : z2 = y.1 := by rw [hz2, wrap_in (by unfold inR; omega), yq]; unfold qtV; rw [if_pos h, if_neg (by omega)]
      subst e
      subst y2
      refine loopC_go (fun (k : Nat) => k ≤ 8) (fun k => 8 - k) (fun k => [(28, i64 (k : Int))]) (fun k => [(18, fam1 24 2 [i64 (snS y k).1, bo (snS y k).2] none), (17, fam1 24 2 [i64 (snT y k).1, bo (snT y k).2] none)]) [4, 1, 0] [29, 30, 6, 31, 32, 33, 7, 34, 35, 36, 37, 38, 39, 40, 41, 42, 43, 44, 45, 46, 47, 48, 49, 28] 0 (by kernel_rfl) ?_ (by omega) ?_ ?_
      · intro x _; simp [goodNames, asg]
      · simp only [go_sem, snT, snS]
      intro k hk
      simp only [go_sem, c280, k129, k127, k168, k179, kw153, k171]
      refine ⟨fun hk8 => ?_, fun hk8 => ?_⟩
      · have n1 : 0 ≤ 2 * ((k : Int) + 1) * (2 * ((k : Int) + 1) + 1) := Int.mul_nonneg (by omega) (by omega)
        have n2 : 2 * ((k : Int) + 1) * (2 * ((k : Int) + 1) + 1) ≤ 16 * 17 := Int.mul_le_mul (by omega) (by omega) (by omega) (by omega)
        have w0 : IntKind.i64.wrap ((k : Int) + 1) = (k : Int) + 1 := wrap_in (by unfold inR; omega)
        have w1 : IntKind.i64.wrap (2 * ((k : Int) + 1)) = 2 * ((k : Int) + 1) := wrap_in (by unfold inR; omega)
        have w2 : IntKind.i64.wrap (2 * ((k : Int) + 1) + 1) = 2 * ((k : Int) + 1) + 1 := wrap_in (by unfold inR; omega)
        have w3 : IntKind.i64.wrap (2 * ((k : Int) + 1) * (2 * ((k : Int) + 1) + 1)) = 2 * ((k : Int) + 1) * (2 * ((k : Int) + 1) + 1) := wrap_in (by unfold inR; omega)
        simp only [forall_eq, w0, w1, w2, w3]
        exact ⟨snT_in yi k, yi, yi, by unfold inR; omega, snS_in yi k, k + 1, by omega, by omega, rfl, ⟨rfl, rfl⟩, rfl, rfl⟩
      · have e8 : k = 8 := by omega
        subst e8
        refine ⟨snS_in yi 8, agg2 (i64_eq ?_) (bo_eq ?_)⟩
        · unfold nCl
          have c1 : whV (nInt (-1)).1 = -4294967296 := by decide
          have c2 : whV (nInt 1).1 = 4294967296 := by decide
          simp only [c1, c2]
        · unfold nCl
          have c1 : whF (nInt (-1)).1 (nInt (-1)).2 = false := by decide
          have c2 : whF (nInt 1).1 (nInt 1).2 = false := by decide
          simp only [c1, c2, Bool.or_false, Bool.false_or]
    · have e : z3 = y.1 := by rw [hz3, wrap_in (by unfold inR; omega), yq]; unfold qtV; rw [if_neg h, if_pos h2]
      subst e
      subst y2
      refine loopC_go (fun (k : Nat) => k ≤ 8) (fun k => 8 - k) (fun k => [(28, i64 (k : Int))]) (fun k => [(22, fam1 24 2 [i64 (snS y k).1, bo (snS y k).2] none), (21, fam1 24 2 [i64 (snT y k).1, bo (snT y k).2] none)]) [4, 1, 0] [29, 30, 6, 31, 32, 33, 7, 34, 35, 36, 37, 38, 39, 40, 41, 42, 43, 44, 45, 46, 47, 48, 49, 28] 0 (by kernel_rfl) ?_ (by omega) ?_ ?_
      · intro x _; simp [goodNames, asg]
      · simp only [go_sem, snT, snS]
      intro k hk
      simp only [go_sem, c280, k129, k127, k168, k179, kw153, k171]
      refine ⟨fun hk8 => ?_, fun hk8 => ?_⟩
      · have n1 : 0 ≤ 2 * ((k : Int) + 1) * (2 * ((k : Int) + 1) + 1) := Int.mul_nonneg (by omega) (by omega)
        have n2 : 2 * ((k : Int) + 1) * (2 * ((k : Int) + 1) + 1) ≤ 16 * 17 := Int.mul_le_mul (by omega) (by omega) (by omega) (by omega)
        have w0 : IntKind.i64.wrap ((k : Int) + 1) = (k : Int) + 1 := wrap_in (by unfold inR; omega)
        have w1 : IntKind.i64.wrap (2 * ((k : Int) + 1)) = 2 * ((k : Int) + 1) := wrap_in (by unfold inR; omega)
        have w2 : IntKind.i64.wrap (2 * ((k : Int) + 1) + 1) = 2 * ((k : Int) + 1) + 1 := wrap_in (by unfold inR; omega)
        have w3 : IntKind.i64.wrap (2 * ((k : Int) + 1) * (2 * ((k : Int) + 1) + 1)) = 2 * ((k : Int) + 1) * (2 * ((k : Int) + 1) + 1) := wrap_in (by unfold inR; omega)
        simp only [forall_eq, w0, w1, w2, w3]
        exact ⟨snT_in yi k, yi, yi, by unfold inR; omega, snS_in yi k, k + 1, by omega, by omega, rfl, ⟨rfl, rfl⟩, rfl, rfl⟩
      · have e8 : k = 8 := by omega
        subst e8
        refine ⟨snS_in yi 8, agg2 (i64_eq ?_) (bo_eq ?_)⟩
        · unfold nCl
          have c1 : whV (nInt (-1)).1 = -4294967296 := by decide
          have c2 : whV (nInt 1).1 = 4294967296 := by decide
          simp only [c1, c2]
        · unfold nCl
          have c1 : whF (nInt (-1)).1 (nInt (-1)).2 = false := by decide
          have c2 : whF (nInt 1).1 (nInt 1).2 = false := by decide
          simp only [c1, c2, Bool.or_false, Bool.false_or]
    · have e : z = y.1 := by rw [yq]; unfold qtV; rw [if_neg h, if_neg h2]
      subst e
      subst y2
      refine loopC_go (fun (k : Nat) => k ≤ 8) (fun k => 8 - k) (fun k => [(28, i64 (k : Int))]) (fun k => [(17, fam1 24 2 [i64 (snS y k).1, bo (snS y k).2] none), (16, fam1 24 2 [i64 (snT y k).1, bo (snT y k).2] none)]) [4, 1, 0] [29, 30, 6, 31, 32, 33, 7, 34, 35, 36, 37, 38, 39, 40, 41, 42, 43, 44, 45, 46, 47, 48, 49, 28] 0 (by kernel_rfl) ?_ (by omega) ?_ ?_
      · intro x _; simp [goodNames, asg]
      · simp only [go_sem, snT, snS]
      intro k hk
      simp only [go_sem, c280, k129, k127, k168, k179, kw153, k171]
      refine ⟨fun hk8 => ?_, fun hk8 => ?_⟩
      · have n1 : 0 ≤ 2 * ((k : Int) + 1) * (2 * ((k : Int) + 1) + 1) := Int.mul_nonneg (by omega) (by omega)
        have n2 : 2 * ((k : Int) + 1) * (2 * ((k : Int) + 1) + 1) ≤ 16 * 17 := Int.mul_le_mul (by omega) (by omega) (by omega) (by omega)
        have w0 : IntKind.i64.wrap ((k : Int) + 1) = (k : Int) + 1 := wrap_in (by unfold inR; omega)
        have w1 : IntKind.i64.wrap (2 * ((k : Int) + 1)) = 2 * ((k : Int) + 1) := wrap_in (by unfold inR; omega)
        have w2 : IntKind.i64.wrap (2 * ((k : Int) + 1) + 1) = 2 * ((k : Int) + 1) + 1 := wrap_in (by unfold inR; omega)
        have w3 : IntKind.i64.wrap (2 * ((k : Int) + 1) * (2 * ((k : Int) + 1) + 1)) = 2 * ((k : Int) + 1) * (2 * ((k : Int) + 1) + 1) := wrap_in (by unfold inR; omega)
        simp only [forall_eq, w0, w1, w2, w3]
        exact ⟨snT_in yi k, yi, yi, by unfold inR; omega, snS_in yi k, k + 1, by omega, by omega, rfl, ⟨rfl, rfl⟩, rfl, rfl⟩
      · have e8 : k = 8 := by omega
        subst e8
        refine ⟨snS_in yi 8, agg2 (i64_eq ?_) (bo_eq ?_)⟩
        · unfold nCl
          have c1 : whV (nInt (-1)).1 = -4294967296 := by decide
          have c2 : whV (nInt 1).1 = 4294967296 := by decide
          simp only [c1, c2]
        · unfold nCl
          have c1 : whF (nInt (-1)).1 (nInt (-1)).2 = false := by decide
          have c2 : whF (nInt 1).1 (nInt 1).2 = false := by decide
          simp only [c1, c2, Bool.or_false, Bool.false_or]
  · cases hc
def c243 : Con
  | [.agg [.v (.int .i64 v), .v (.bool f)]] => some ([inR v], .agg [i64 (csV v f), bo (csF v f)])
  | _ => none
theorem con243 : ConOK Tryz.prog 243 c243 := ConOK.of (G := [(280, c280), (281, c281), (153, kw153), (244, c244)]) (H := []) (.cons con280 (.cons con281 (.cons konw153 (.cons con244 .nil)))) Tryz.func243 fun l ob rr hc hob => by
  unfold c243 at hc
  split at hc
  · rename_i v f
    cases hc
    have h_0 : inR v := hob _ (by simp)
    refine ⟨by kernel_rfl, fnVC_go (rs := [.cell 2 24]) rfl rfl ?_⟩
    simp only [go_sem, c280, c281, kw153, c244, iMul, iDiv, iInt, iAdd, iSub, iRat, iDot, iHyp, iSq, iNeg, iPos, iAbs, iMx, iMn, iCl, iWh, iLoc1, iLoc2, iVAdd1, iVAdd2, iVSub1, iVSub2, iScale1, iScale2, iVDot, iVCross, iLen, iOf1, iOf2, iUnit1, iUnit2, h_0]
    have c1 : whV 6746518852 = 6746518852 := by decide
    have c2 : whF 6746518852 false = false := by decide
    have hw := wpV_le (v := whV v)
    simp only [forall_eq, c1, c2]
    exact ⟨by unfold inR; omega, by unfold inR; omega, by unfold inR; omega, by first | trivial | rfl⟩
  · cases hc
def kq186 : Con
  | [.agg [.v (.int .i64 v), .v (.bool f)]] => some ([inR v], veA ((csV v f, csF v f), (snV v f, snF v f)))
  | _ => none
theorem konq186 : ConOK Tryz.prog 186 kq186 := ConOK.of (G := [(243, c243), (244, c244)]) (H := [(1, ⟨[(5, .slot 2)], []⟩)]) (.cons con243 (.cons con244 .nil)) Tryz.func186 fun l ob rr hc hob => by
  unfold kq186 at hc
  split at hc
  · rename_i v f
    cases hc
    have h_0 : inR v := hob _ (by simp)
    refine ⟨by kernel_rfl, fnVC_go (rs := [.cell 2 51]) rfl rfl ?_⟩
    simp only [go_sem, c243, c244, iMul, iDiv, iInt, iAdd, iSub, iRat, iDot, iHyp, iSq, iNeg, iPos, iAbs, iMx, iMn, iCl, iWh, iLoc1, iLoc2, iVAdd1, iVAdd2, iVSub1, iVSub2, iScale1, iScale2, iVDot, iVCross, iLen, iOf1, iOf2, iUnit1, iUnit2, h_0]
    simp only [forall_eq]
    rfl
  · cases hc
def vCom (r s : V2) : V2 := if (nHyp (nDot r.1 s.1 (nNeg r.2) s.2) (nDot r.2 s.1 r.1 s.2)).1 = 0 then (nDot r.1 s.1 (nNeg r.2) s.2, nDot r.2 s.1 r.1 s.2) else (nDiv (nDot r.1 s.1 (nNeg r.2) s.2) (nHyp (nDot r.1 s.1 (nNeg r.2) s.2) (nDot r.2 s.1 r.1 s.2)), nDiv (nDot r.2 s.1 r.1 s.2) (nHyp (nDot r.1 s.1 (nNeg r.2) s.2) (nDot r.2 s.1 r.1 s.2)))
def kq185 : Con
  | [.agg [.v (.int .i64 x), .v (.bool e), .v (.int .i64 y), .v (.bool f)], .agg [.v (.int .i64 z), .v (.bool g), .v (.int .i64 u), .v (.bool h)]] => some ([inR x, inR y, inR z, inR u], veA (vCom ((x, e), (y, f)) ((z, g), (u, h))))
  | _ => none
theorem konq185 : ConOK Tryz.prog 185 kq185 := ConOK.of (G := [(164, k179), (238, k125), (242, k213), (155, k168)]) (H := [(1, ⟨[(21, .made 20)], []⟩), (4, ⟨[(9, .slot 5), (11, .slot 5)], []⟩)]) (.cons kon179 (.cons kon125 (.cons kon213 (.cons kon168 .nil)))) Tryz.func185 fun l ob rr hc hob => by
  unfold kq185 at hc
  split at hc
  · rename_i x e y f z g u h
    cases hc
    have h_0 : inR x := hob _ (by simp)
    have h_1 : inR y := hob _ (by simp)
    have h_2 : inR z := hob _ (by simp)
    have h_3 : inR u := hob _ (by simp)
    refine ⟨by kernel_rfl, fnVC_go (rs := [.cell 4 51]) rfl rfl ?_⟩
    simp only [go_sem, k179, k125, k213, k168, iMul, iDiv, iInt, iAdd, iSub, iRat, iDot, iHyp, iSq, iNeg, iPos, iAbs, iMx, iMn, iCl, iWh, iLoc1, iLoc2, iVAdd1, iVAdd2, iVSub1, iVSub2, iScale1, iScale2, iVDot, iVCross, iLen, iOf1, iOf2, iUnit1, iUnit2, h_0, h_1, h_2, h_3]
    refine ⟨fun h => ?_, fun h => ?_⟩
    · unfold vCom; rw [if_neg (by simpa using h)]; rfl
    · unfold vCom; rw [if_pos (by simpa using h)]; rfl
  · cases hc
def kq187 : Con
  | [.agg [.v (.int .i64 x), .v (.bool e), .v (.int .i64 y), .v (.bool f)], .agg [.v (.int .i64 z), .v (.bool g), .v (.int .i64 u), .v (.bool h)]] => some ([inR x, inR y, inR z, inR u], veA (vCom ((x, e), (y, f)) ((z, g), (u, h))))
  | _ => none
theorem konq187 : ConOK Tryz.prog 187 kq187 := ConOK.of (G := [(92, k111), (111, k136), (200, k112), (80, k144)]) (H := [(1, ⟨[(11, .made 10)], []⟩), (6, ⟨[(7, .slot 4)], []⟩)]) (.cons kon111 (.cons kon136 (.cons kon112 (.cons kon144 .nil)))) Tryz.func187 fun l ob rr hc hob => by
  unfold kq187 at hc
  split at hc
  · rename_i x e y f z g u h
    cases hc
    have h_0 : inR x := hob _ (by simp)
    have h_1 : inR y := hob _ (by simp)
    have h_2 : inR z := hob _ (by simp)
    have h_3 : inR u := hob _ (by simp)
    refine ⟨by kernel_rfl, fnVC_go (rs := [.cell 4 51]) rfl rfl ?_⟩
    simp only [go_sem, k111, k136, k112, k144, iMul, iDiv, iInt, iAdd, iSub, iRat, iDot, iHyp, iSq, iNeg, iPos, iAbs, iMx, iMn, iCl, iWh, iLoc1, iLoc2, iVAdd1, iVAdd2, iVSub1, iVSub2, iScale1, iScale2, iVDot, iVCross, iLen, iOf1, iOf2, iUnit1, iUnit2, h_0, h_1, h_2, h_3]
    refine ⟨fun h => ?_, fun h => ?_⟩
    · unfold vCom; rw [if_pos (by simpa using h)]; rfl
    · unfold vCom; rw [if_neg (by simpa using h)]; rfl
  · cases hc
theorem iCom1 {r s : V2} : inR (vCom r s).1.1 = True := by unfold vCom; split <;> first | exact iDot | exact iDiv
theorem iCom2 {r s : V2} : inR (vCom r s).2.1 = True := by unfold vCom; split <;> first | exact iDot | exact iDiv
def spiS (r : V2) (w : Nb) : V2 := vCom ((csV w.1 w.2, csF w.1 w.2), (snV w.1 w.2, snF w.1 w.2)) r
theorem iSpi1 {r : V2} {w : Nb} : inR (spiS r w).1.1 = True := iCom1
theorem iSpi2 {r : V2} {w : Nb} : inR (spiS r w).2.1 = True := iCom2
def kq126 : Con
  | [.agg [.v (.int .i64 x), .v (.bool e), .v (.int .i64 y), .v (.bool f)], .agg [.v (.int .i64 z), .v (.bool g)]] => some ([inR x, inR y, inR z], veA (spiS ((x, e), (y, f)) (z, g)))
  | _ => none
theorem konq126 : ConOK Tryz.prog 126 kq126 := ConOK.of (G := [(186, kq186), (185, kq185)]) (H := [(1, ⟨[(4, .slot 4)], []⟩)]) (.cons konq186 (.cons konq185 .nil)) Tryz.func126 fun l ob rr hc hob => by
  unfold kq126 at hc
  split at hc
  · rename_i x e y f z g
    cases hc
    have h_0 : inR x := hob _ (by simp)
    have h_1 : inR y := hob _ (by simp)
    have h_2 : inR z := hob _ (by simp)
    refine ⟨by kernel_rfl, fnVC_go (rs := [.cell 4 51]) rfl rfl ?_⟩
    simp only [go_sem, kq186, kq185, iMul, iDiv, iInt, iAdd, iSub, iRat, iDot, iHyp, iSq, iNeg, iPos, iAbs, iMx, iMn, iCl, iWh, iLoc1, iLoc2, iVAdd1, iVAdd2, iVSub1, iVSub2, iScale1, iScale2, iVDot, iVCross, iLen, iOf1, iOf2, iUnit1, iUnit2, h_0, h_1, h_2]
    exact ⟨rg_inR snV_rg, rg_inR snV_rg, rfl⟩
  · cases hc
def kq128 : Con
  | [.agg [.v (.int .i64 x), .v (.bool e), .v (.int .i64 y), .v (.bool f)], .agg [.v (.int .i64 z), .v (.bool g)]] => some ([inR x, inR y, inR z], veA (spiS ((x, e), (y, f)) (z, g)))
  | _ => none
theorem konq128 : ConOK Tryz.prog 128 kq128 := ConOK.of (G := [(169, c169), (187, kq187)]) (H := [(1, ⟨[(4, .slot 4)], []⟩)]) (.cons con169 (.cons konq187 .nil)) Tryz.func128 fun l ob rr hc hob => by
  unfold kq128 at hc
  split at hc
  · rename_i x e y f z g
    cases hc
    have h_0 : inR x := hob _ (by simp)
    have h_1 : inR y := hob _ (by simp)
    have h_2 : inR z := hob _ (by simp)
    refine ⟨by kernel_rfl, fnVC_go (rs := [.cell 4 51]) rfl rfl ?_⟩
    simp only [go_sem, c169, kq187, iMul, iDiv, iInt, iAdd, iSub, iRat, iDot, iHyp, iSq, iNeg, iPos, iAbs, iMx, iMn, iCl, iWh, iLoc1, iLoc2, iVAdd1, iVAdd2, iVSub1, iVSub2, iScale1, iScale2, iVDot, iVCross, iLen, iOf1, iOf2, iUnit1, iUnit2, h_0, h_1, h_2]
    simp only [forall_eq]
    exact ⟨rg_inR snV_rg, rg_inR snV_rg, rfl⟩
  · cases hc
end Go.Ax
end

section
/-
  Bodies: what is given an impulse, a force, a time, a rest, and woken.
-/
set_option linter.unusedVariables false
set_option linter.unusedSimpArgs false
set_option maxHeartbeats 4000000
set_option maxRecDepth 100000
namespace Go.Ax
open Go.Proofs
/-- A copy of a body to work on. -/
def onF : List AV → Option (List Prop × List AV)
  | [.agg l] => some ([l = bodyC (bodyD l), inB (bodyD l), (bodyD l).n ≤ 1000], bodyC (bodyD l))
  | _ => none
def mNon : MCon := mcN 155 onF
theorem mNon_eq {key : Nat} {m : Mem} {l : List AV} : mNon key m [.agg l] = some ⟨[l = bodyC (bodyD l), inB (bodyD l), (bodyD l).n ≤ 1000], .bx key 0, .many [] (some (fam1 155 27 (bodyC (bodyD l)) none))⟩ := (rfl)
theorem con114m : MConOK Tryz.prog 114 mNon := MConOK.mcN (G := [(173, kb173)]) (H := []) (.cons konb173 .nil) Tryz.func114 fun es ob cs hF hob => by
  unfold onF at hF
  split at hF
  · rename_i l
    cases hF
    have e : l = bodyC (bodyD l) := hob _ (by simp)
    have h : inB (bodyD l) := hob _ (by simp)
    have hn : (bodyD l).n ≤ 1000 := hob _ (by simp)
    generalize bodyD l = b at *
    subst e
    refine ⟨by simp [clean_body], by simp [bodyC, cleanCs, cleanC], by kernel_rfl, bodyM_go (rs := [.tmp 2]) rfl rfl ?_⟩
    obtain ⟨b1, b2, b3, b4, b5, b6, b7, b8, b9, b10, b11, b12, b13, b14, b15, b16⟩ := id h
    simp only [bodyC, go_sem, kb173, cB_eq, bodyD_lit, gx_pts0, gx_pts1, etaN, etaV, bd_eta, h, hn]
    simp only [forall_eq]
    exact ⟨5, rfl, if_pos rfl⟩
  · cases hF
def pulS (b : Bd) (g : V2) (t : Nb) : Bd := if idS b then b else { b with v := limV (vAdd b.v (vScale g t)) }
def goS (b : Bd) (t : Nb) : Bd := if idS b then b else
  if (withS (vAdd b.pl (vScale b.v t)).1 4096 && withS (vAdd b.pl (vScale b.v t)).2 4096) then
    (if (nMul b.w t).1 = 0 then { b with pl := vAdd b.pl (vScale b.v t) } else { b with pl := vAdd b.pl (vScale b.v t), rot := spiS b.rot (nMul b.w t) })
  else { rstS b with fa := true, st := 0 }
def kb38 : Con := cB fun b rest => match rest with
  | [.agg [.v (.int .i64 x), .v (.bool e), .v (.int .i64 y), .v (.bool f)], .agg [.v (.int .i64 z), .v (.bool g), .v (.int .i64 u), .v (.bool h)]] => some ([inB b, b.n ≤ 1000, inR x, inR y, inR z, inR u], boA (pshS b ((x, e), (y, f)) ((z, g), (u, h))))
  | _ => none
theorem konb38 : ConOK Tryz.prog 38 kb38 := ConOK.cB (G := [(116, kb116), (66, kw26), (85, k147), (86, k138), (117, kw117l), (110, kb110), (119, k141), (27, k52), (79, k208), (118, kw118)]) (H := [(4, ⟨[(11, .slot 3)], []⟩), (5, ⟨[(14, .slot 3)], []⟩)]) (.cons konb116 (.cons konw66 (.cons kon147 (.cons kon138 (.cons konw117l (.cons konb110 (.cons kon141 (.cons kon52 (.cons kon208 (.cons konw118 .nil)))))))))) Tryz.func38 fun b rest ob r hc hob => by
  split at hc
  · rename_i x e y f z g u h
    cases hc
    have h_0 : inB b := hob _ (by simp)
    have h_1 : b.n ≤ 1000 := hob _ (by simp)
    have h_2 : inR x := hob _ (by simp)
    have h_3 : inR y := hob _ (by simp)
    have h_4 : inR z := hob _ (by simp)
    have h_5 : inR u := hob _ (by simp)
    obtain ⟨b1, b2, b3, b4, b5, b6, b7, b8, b9, b10, b11, b12, b13, b14, b15, b16⟩ := h_0
    have hb : inB b := hob _ (by simp)
    refine ⟨by kernel_rfl, fnVC_go (rs := [.cell 6 57]) rfl rfl ?_⟩
    simp only [bodyC, go_sem, kb116, kw26, k147, k138, kw117l, kb110, k141, k52, k208, kw118, cB_eq, cBR_eq, bodyD_lit, gx_pts0, gx_pts1, spots_can, etaN, etaV, bd_eta, b1, b2, b3, b4, b6, b7, b8, b9, b10, b11, b12, b13, b14, b15, b16, hb, h_1, h_2, h_3, h_4, h_5]
    simp only [forall_eq]
    refine ⟨b13, b14, fun hh => ?_, fun hh => ⟨b13, ⟨b10, b11⟩, inB_push hb (of_eq_true (iLim (of_eq_true iVAdd1))) (of_eq_true (iLim (of_eq_true iVAdd2))) b12, b14, b12, fun hs => ?_, fun hs => ?_⟩⟩
    · have e1 : pshS b ((x, e), (y, f)) ((z, g), (u, h)) = b := if_pos (by rcases hh with k | k <;> simp [k])
      rw [e1]; rfl
    · have e1 : pshS b ((x, e), (y, f)) ((z, g), (u, h)) = { b with v := limV (vAdd b.v (vScale ((z, g), (u, h)) b.m)), w := limS (nAdd b.w (nMul b.i (vCross (vSub ((x, e), (y, f)) b.pl) ((z, g), (u, h))))) 64, sl := false, st := 0 } := by
        unfold pshS
        rw [if_neg (by simp [hh])]
        dsimp only
        rw [if_pos hs]
        exact if_pos (by show (mvS b && !b.fa) = true; simp [hh])
      rw [e1]; rfl
    · have e1 : pshS b ((x, e), (y, f)) ((z, g), (u, h)) = { b with v := limV (vAdd b.v (vScale ((z, g), (u, h)) b.m)), w := limS (nAdd b.w (nMul b.i (vCross (vSub ((x, e), (y, f)) b.pl) ((z, g), (u, h))))) 64 } := by
        unfold pshS
        rw [if_neg (by simp [hh])]
        dsimp only
        rw [if_neg (by rw [hs]; simp)]
      rw [e1]; rfl
  · cases hc
def kb40 : Con := cB fun b rest => match rest with
  | [.agg [.v (.int .i64 x), .v (.bool e), .v (.int .i64 y), .v (.bool f)], .agg [.v (.int .i64 z), .v (.bool g)]] => some ([inB b, b.n ≤ 1000, inR x, inR y, inR z], boA (pulS b ((x, e), (y, f)) (z, g)))
  | _ => none
theorem konb40 : ConOK Tryz.prog 40 kb40 := ConOK.cB (G := [(116, kb116), (68, kw67), (85, k147), (86, k138), (117, kw117l)]) (H := [(3, ⟨[(9, .slot 3)], []⟩)]) (.cons konb116 (.cons konw68 (.cons kon147 (.cons kon138 (.cons konw117l .nil))))) Tryz.func40 fun b rest ob r hc hob => by
  split at hc
  · rename_i x e y f z g
    cases hc
    have h_0 : inB b := hob _ (by simp)
    have h_1 : b.n ≤ 1000 := hob _ (by simp)
    have h_2 : inR x := hob _ (by simp)
    have h_3 : inR y := hob _ (by simp)
    have h_4 : inR z := hob _ (by simp)
    obtain ⟨b1, b2, b3, b4, b5, b6, b7, b8, b9, b10, b11, b12, b13, b14, b15, b16⟩ := h_0
    have hb : inB b := hob _ (by simp)
    refine ⟨by kernel_rfl, fnVC_go (rs := [.cell 6 57]) rfl rfl ?_⟩
    simp only [bodyC, go_sem, kb116, kw67, k147, k138, kw117l, cB_eq, cBR_eq, bodyD_lit, gx_pts0, gx_pts1, spots_can, etaN, etaV, bd_eta, b1, b2, b3, b4, b6, b7, b8, b9, b10, b11, b12, b13, b14, b15, b16, hb, h_1, h_2, h_3, h_4]
    simp only [forall_eq]
    refine ⟨b13, b14, fun hh => ⟨⟨b10, b11⟩, ?_⟩, fun hh => ?_⟩
    · unfold pulS; rw [if_neg (by simp [hh])]; rfl
    · unfold pulS; rw [if_pos hh]; rfl
  · cases hc
def kb42 : Con := cB fun b rest => match rest with
  | [.agg [.v (.int .i64 z), .v (.bool g)]] => some ([inB b, b.n ≤ 1000, inR z], boA (goS b (z, g)))
  | _ => none
theorem konb42 : ConOK Tryz.prog 42 kb42 := ConOK.cB (G := [(116, kb116), (68, kw67), (85, k147), (86, k138), (127, kw127b), (27, k52), (128, kq128)]) (H := [(4, ⟨[(10, .made 9)], []⟩)]) (.cons konb116 (.cons konw68 (.cons kon147 (.cons kon138 (.cons konw127b (.cons kon52 (.cons konq128 .nil))))))) Tryz.func42 fun b rest ob r hc hob => by
  split at hc
  · rename_i z g
    cases hc
    have h_0 : inB b := hob _ (by simp)
    have h_1 : b.n ≤ 1000 := hob _ (by simp)
    have h_2 : inR z := hob _ (by simp)
    obtain ⟨b1, b2, b3, b4, b5, b6, b7, b8, b9, b10, b11, b12, b13, b14, b15, b16⟩ := h_0
    have hb : inB b := hob _ (by simp)
    refine ⟨by kernel_rfl, fnVC_go (rs := [.cell 4 57]) rfl rfl ?_⟩
    simp only [bodyC, go_sem, kb116, kw67, k147, k138, kw127b, k52, kq128, cB_eq, cBR_eq, bodyD_lit, gx_pts0, gx_pts1, spots_can, etaN, etaV, bd_eta, b1, b2, b3, b4, b6, b7, b8, b9, b10, b11, b12, b13, b14, b15, b16, hb, h_1, h_2]
    simp only [forall_eq]
    refine ⟨b13, b14, fun h1 => ?_, fun h1 => ⟨b10, b11, ⟨b6, b7⟩, fun h2 => ?_, fun h2 => ⟨b12, fun h3 => ⟨b8, b9, ?_⟩, fun h3 => ?_⟩⟩⟩
    · unfold goS; rw [if_pos h1]; rfl
    · unfold goS; rw [if_neg (by simp [h1]), if_neg (by rw [h2]; simp)]; rfl
    · unfold goS; rw [if_neg (by simp [h1]), if_pos h2, if_neg (by simpa using h3)]; rfl
    · unfold goS; rw [if_neg (by simp [h1]), if_pos h2, if_pos (by simpa using h3)]; rfl
  · cases hc
def kb46 : Con := cB fun b rest => match rest with
  | [] => some ([inB b, b.n ≤ 1000], boA (wakS b))
  | _ => none
theorem konb46 : ConOK Tryz.prog 46 kb46 := ConOK.cB (G := [(116, kb116), (66, kw26)]) (H := []) (.cons konb116 (.cons konw66 .nil)) Tryz.func46 fun b rest ob r hc hob => by
  split at hc
  · skip
    cases hc
    have h_0 : inB b := hob _ (by simp)
    have h_1 : b.n ≤ 1000 := hob _ (by simp)
    obtain ⟨b1, b2, b3, b4, b5, b6, b7, b8, b9, b10, b11, b12, b13, b14, b15, b16⟩ := h_0
    have hb : inB b := hob _ (by simp)
    refine ⟨by kernel_rfl, fnVC_go (rs := [.cell 2 57]) rfl rfl ?_⟩
    simp only [bodyC, go_sem, kb116, kw26, cB_eq, cBR_eq, bodyD_lit, gx_pts0, gx_pts1, spots_can, etaN, etaV, bd_eta, b1, b2, b3, b4, b6, b7, b8, b9, b10, b11, b12, b13, b14, b15, b16, hb, h_1]
    simp only [forall_eq]
    refine ⟨b13, b14, fun h1 => ?_, fun h1 => ?_⟩
    · unfold wakS; rw [if_pos (by simp [h1])]; rfl
    · unfold wakS; rw [if_neg (by rw [h1]; simp)]; rfl
  · cases hc
def kb37 : Con := cB fun b rest => match rest with
  | [.agg [.v (.int .i64 x), .v (.bool e), .v (.int .i64 y), .v (.bool f)], .agg [.v (.int .i64 z), .v (.bool g), .v (.int .i64 u), .v (.bool h)]] => some ([inB b, b.n ≤ 1000, inR x, inR y, inR z, inR u], boA (pshS b ((x, e), (y, f)) ((z, g), (u, h))))
  | _ => none
theorem konb37 : ConOK Tryz.prog 37 kb37 := ConOK.cB (G := [(114, .wr mNon), (115, .wr kw115)]) (H := []) (.mcons con114m (.mcons konw115 .nil)) Tryz.func37 fun b rest ob r hc hob => by
  split at hc
  · rename_i x e y f z g u h
    cases hc
    have h_0 : inB b := hob _ (by simp)
    have h_1 : b.n ≤ 1000 := hob _ (by simp)
    have h_2 : inR x := hob _ (by simp)
    have h_3 : inR y := hob _ (by simp)
    have h_4 : inR z := hob _ (by simp)
    have h_5 : inR u := hob _ (by simp)
    obtain ⟨b1, b2, b3, b4, b5, b6, b7, b8, b9, b10, b11, b12, b13, b14, b15, b16⟩ := h_0
    have hb : inB b := hob _ (by simp)
    refine ⟨by kernel_rfl, fnVC_go (rs := [.cell 6 57]) rfl rfl ?_⟩
    simp only [bodyC, go_sem, kw115, cB_eq, cBR_eq, bodyD_lit, gx_pts0, gx_pts1, spots_can, etaN, etaV, bd_eta, b1, b2, b3, b4, b6, b7, b8, b9, b10, b11, b12, b13, b14, b15, b16, hb, h_1, h_2, h_3, h_4, h_5, mNon_eq, mB_bx, mbB_some, stepC_mbQ]
    intro c hc0
    rw [← hc0]; rfl
  · cases hc
def kb39 : Con := cB fun b rest => match rest with
  | [.agg [.v (.int .i64 x), .v (.bool e), .v (.int .i64 y), .v (.bool f)], .agg [.v (.int .i64 z), .v (.bool g)]] => some ([inB b, b.n ≤ 1000, inR x, inR y, inR z], boA (pulS b ((x, e), (y, f)) (z, g)))
  | _ => none
theorem konb39 : ConOK Tryz.prog 39 kb39 := ConOK.cB (G := [(114, .wr mNon), (67, kw67), (122, k169), (121, k130), (120, kw120)]) (H := [(3, ⟨[(12, .slot 7)], []⟩)]) (.mcons con114m (.cons konw67 (.cons kon169 (.cons kon130 (.cons konw120 .nil))))) Tryz.func39 fun b rest ob r hc hob => by
  split at hc
  · rename_i x e y f z g
    cases hc
    have h_0 : inB b := hob _ (by simp)
    have h_1 : b.n ≤ 1000 := hob _ (by simp)
    have h_2 : inR x := hob _ (by simp)
    have h_3 : inR y := hob _ (by simp)
    have h_4 : inR z := hob _ (by simp)
    obtain ⟨b1, b2, b3, b4, b5, b6, b7, b8, b9, b10, b11, b12, b13, b14, b15, b16⟩ := h_0
    have hb : inB b := hob _ (by simp)
    refine ⟨by kernel_rfl, fnVC_go (rs := [.cell 6 57]) rfl rfl ?_⟩
    simp only [bodyC, go_sem, kw67, k169, k130, kw120, cB_eq, cBR_eq, bodyD_lit, gx_pts0, gx_pts1, spots_can, etaN, etaV, bd_eta, b1, b2, b3, b4, b6, b7, b8, b9, b10, b11, b12, b13, b14, b15, b16, hb, h_1, h_2, h_3, h_4, mNon_eq, mB_bx, mbB_some, stepC_mbQ]
    simp only [forall_eq]
    refine ⟨fun hh => ?_, fun hh => ?_⟩
    · unfold pulS; rw [if_neg (by simp [hh])]; rfl
    · unfold pulS; rw [if_pos hh]; rfl
  · cases hc
def kb41 : Con := cB fun b rest => match rest with
  | [.agg [.v (.int .i64 z), .v (.bool g)]] => some ([inB b, b.n ≤ 1000, inR z], boA (goS b (z, g)))
  | _ => none
theorem konb41 : ConOK Tryz.prog 41 kb41 := ConOK.cB (G := [(114, .wr mNon), (67, kw67), (122, k169), (121, k130), (123, kw123), (124, .wr kw124), (125, k129), (126, kq126)]) (H := [(4, ⟨[(10, .made 9)], []⟩)]) (.mcons con114m (.cons konw67 (.cons kon169 (.cons kon130 (.cons konw123 (.mcons konw124 (.cons kon129 (.cons konq126 .nil)))))))) Tryz.func41 fun b rest ob r hc hob => by
  split at hc
  · rename_i z g
    cases hc
    have h_0 : inB b := hob _ (by simp)
    have h_1 : b.n ≤ 1000 := hob _ (by simp)
    have h_2 : inR z := hob _ (by simp)
    obtain ⟨b1, b2, b3, b4, b5, b6, b7, b8, b9, b10, b11, b12, b13, b14, b15, b16⟩ := h_0
    have hb : inB b := hob _ (by simp)
    refine ⟨by kernel_rfl, fnVC_go (rs := [.cell 4 57]) rfl rfl ?_⟩
    simp only [bodyC, go_sem, kw67, k169, k130, kw123, kw124, k129, kq126, cB_eq, cBR_eq, bodyD_lit, gx_pts0, gx_pts1, spots_can, etaN, etaV, bd_eta, b1, b2, b3, b4, b6, b7, b8, b9, b10, b11, b12, b13, b14, b15, b16, hb, h_1, h_2, mNon_eq, mB_bx, mbB_some, stepC_mbQ]
    simp only [forall_eq]
    refine ⟨fun h1 => ?_, fun h1 => ⟨fun h2 => ?_, fun h2 => ⟨fun h3 => ?_, fun h3 => ?_⟩⟩⟩
    · unfold goS; rw [if_pos h1]; rfl
    · unfold goS; rw [if_neg (by simp [h1]), if_neg (by rw [h2]; simp)]; rfl
    · unfold goS; rw [if_neg (by simp [h1]), if_pos h2, if_neg (by simpa using h3)]; rfl
    · unfold goS; rw [if_neg (by simp [h1]), if_pos h2, if_pos (by simpa using h3)]; rfl
  · cases hc
def kb45 : Con := cB fun b rest => match rest with
  | [] => some ([inB b, b.n ≤ 1000], boA (wakS b))
  | _ => none
theorem konb45 : ConOK Tryz.prog 45 kb45 := ConOK.cB (G := [(114, .wr mNon), (134, .wr kw134)]) (H := []) (.mcons con114m (.mcons konw134 .nil)) Tryz.func45 fun b rest ob r hc hob => by
  split at hc
  · skip
    cases hc
    have h_0 : inB b := hob _ (by simp)
    have h_1 : b.n ≤ 1000 := hob _ (by simp)
    obtain ⟨b1, b2, b3, b4, b5, b6, b7, b8, b9, b10, b11, b12, b13, b14, b15, b16⟩ := h_0
    have hb : inB b := hob _ (by simp)
    refine ⟨by kernel_rfl, fnVC_go (rs := [.cell 2 57]) rfl rfl ?_⟩
    simp only [bodyC, go_sem, kw134, cB_eq, cBR_eq, bodyD_lit, gx_pts0, gx_pts1, spots_can, etaN, etaV, bd_eta, b1, b2, b3, b4, b6, b7, b8, b9, b10, b11, b12, b13, b14, b15, b16, hb, h_1, mNon_eq, mB_bx, mbB_some, stepC_mbQ]
    intro c hc0
    rw [← hc0]; rfl
  · cases hc
theorem nums3_rows {a b c : Int} {e f g : Bool} : nums 3 (rowsOf 2 [i64 a, bo e, i64 b, bo f, i64 c, bo g]) = (inR a ∧ inR b ∧ inR c) := by
  apply propext
  constructor
  · intro h; exact ⟨(h 0 (by omega)).2, (h 1 (by omega)).2, (h 2 (by omega)).2⟩
  · rintro ⟨h1, h2, h3⟩ i hi
    match i with
    | 0 => exact ⟨rfl, h1⟩
    | 1 => exact ⟨rfl, h2⟩
    | 2 => exact ⟨rfl, h3⟩
    | j + 3 => omega
def kMx3 : Con
  | [.ro 3 2 g] => some ([nums 3 g], nbA (moV (-1) 3 g, wfS 3 g))
  | _ => none
theorem konX129 : ConOK Tryz.prog 129 kMx3 := fun l ob r he hob => by
  unfold kMx3 at he
  split at he
  · rename_i g
    cases he
    exact con129 [.ro 3 2 g] _ _ rfl (owe2 (hob _ (by simp)) (by omega))
  · cases he
theorem konX78 : ConOK Tryz.prog 78 kMx3 := fun l ob r he hob => by
  unfold kMx3 at he
  split at he
  · rename_i g
    cases he
    exact con78 [.ro 3 2 g] _ _ rfl (owe2 (hob _ (by simp)) (by omega))
  · cases he
def fstS (b : Bd) : Int := moV (-1) 3 (rowsOf 2 [i64 (nAbs b.v.1).1, bo (nAbs b.v.1).2, i64 (nAbs b.v.2).1, bo (nAbs b.v.2).2, i64 (nAbs b.w).1, bo (nAbs b.w).2])
def resS (b : Bd) : Bd := if idS b then b else if 0 < cmpS (whV (fstS b)) (whV (nRat 1 16).1) then { b with st := 0 } else if min b.st 29 + 1 = 30 then { rstS b with st := 30 } else { b with st := min b.st 29 + 1 }
def kb44 : Con := cB fun b rest => match rest with
  | [] => some ([inB b, b.n ≤ 1000], boA (resS b))
  | _ => none
theorem konb44 : ConOK Tryz.prog 44 kb44 := ConOK.cB (G := [(116, kb116), (68, kw67), (30, k45), (78, kMx3), (133, kw133), (29, c29)]) (H := [(4, ⟨[(14, .made 13)], []⟩)]) (.cons konb116 (.cons konw68 (.cons kon45 (.cons konX78 (.cons konw133 (.cons con29 .nil)))))) Tryz.func44 fun b rest ob r hc hob => by
  split at hc
  · skip
    cases hc
    have h_0 : inB b := hob _ (by simp)
    have h_1 : b.n ≤ 1000 := hob _ (by simp)
    obtain ⟨b1, b2, b3, b4, b5, b6, b7, b8, b9, b10, b11, b12, b13, b14, b15, b16⟩ := h_0
    have hb : inB b := hob _ (by simp)
    refine ⟨by kernel_rfl, fnVC_go (rs := [.cell 2 57]) rfl rfl ?_⟩
    simp only [bodyC, go_sem, kb116, kw67, k45, kMx3, kw133, c29, cB_eq, cBR_eq, bodyD_lit, gx_pts0, gx_pts1, spots_can, etaN, etaV, bd_eta, b1, b2, b3, b4, b6, b7, b8, b9, b10, b11, b12, b13, b14, b15, b16, hb, h_1]
    simp only [forall_eq]
    have hw : IntKind.i64.wrap (min b.st 29 + 1) = min b.st 29 + 1 := wrap_in (by unfold inR at *; omega)
    refine ⟨b13, b14, fun h1 => ?_, fun h1 => ⟨b10, b11, b12, ?_, fun h2 => ?_, fun h2 => ⟨fun h3 => ?_, fun h3 => ?_⟩⟩⟩
    · unfold resS; rw [if_pos h1]; rfl
    · exact of_eq_true (nums3_rows.trans (eq_true ⟨of_eq_true (iAbs b10), of_eq_true (iAbs b11), of_eq_true (iAbs b12)⟩))
    · have h2 : 0 < cmpS (whV (fstS b)) (whV (nRat 1 16).1) := h2
      have e1 : resS b = { b with st := 0 } := by unfold resS; rw [if_neg (by simp [h1]), if_pos h2]
      rw [e1]; rfl
    · rw [hw] at h3
      have h2 : ¬ 0 < cmpS (whV (fstS b)) (whV (nRat 1 16).1) := h2
      have e1 : resS b = { rstS b with st := 30 } := by unfold resS; rw [if_neg (by simp [h1]), if_neg h2, if_pos (by omega)]
      have e2 : min b.st 29 + 1 = 30 := by omega
      rw [e1, hw, e2]; rfl
    · rw [hw] at h3
      have h2 : ¬ 0 < cmpS (whV (fstS b)) (whV (nRat 1 16).1) := h2
      have e1 : resS b = { b with st := min b.st 29 + 1 } := by unfold resS; rw [if_neg (by simp [h1]), if_neg h2, if_neg (by omega)]
      rw [e1, hw]; rfl
  · cases hc
def kb43 : Con := cB fun b rest => match rest with
  | [] => some ([inB b, b.n ≤ 1000], boA (resS b))
  | _ => none
theorem konb43 : ConOK Tryz.prog 43 kb43 := ConOK.cB (G := [(114, .wr mNon), (67, kw67), (130, k126), (129, kMx3), (132, k132), (131, c131), (124, .wr kw124)]) (H := [(4, ⟨[(14, .made 13)], []⟩)]) (.mcons con114m (.cons konw67 (.cons kon126 (.cons konX129 (.cons kon132 (.cons con131 (.mcons konw124 .nil))))))) Tryz.func43 fun b rest ob r hc hob => by
  split at hc
  · skip
    cases hc
    have h_0 : inB b := hob _ (by simp)
    have h_1 : b.n ≤ 1000 := hob _ (by simp)
    obtain ⟨b1, b2, b3, b4, b5, b6, b7, b8, b9, b10, b11, b12, b13, b14, b15, b16⟩ := h_0
    have hb : inB b := hob _ (by simp)
    refine ⟨by kernel_rfl, fnVC_go (rs := [.cell 2 57]) rfl rfl ?_⟩
    simp only [bodyC, go_sem, kw67, k126, kMx3, k132, c131, kw124, cB_eq, cBR_eq, bodyD_lit, gx_pts0, gx_pts1, spots_can, etaN, etaV, bd_eta, b1, b2, b3, b4, b6, b7, b8, b9, b10, b11, b12, b13, b14, b15, b16, hb, h_1, mNon_eq, mB_bx, mbB_some, stepC_mbQ]
    simp only [forall_eq]
    have hw : IntKind.i64.wrap (min b.st 29 + 1) = min b.st 29 + 1 := wrap_in (by unfold inR at *; omega)
    refine ⟨fun h1 => ?_, fun h1 => ⟨?_, by unfold inR; omega, fun h2 => ?_, fun h2 => ⟨fun h3 => ?_, fun h3 => ?_⟩⟩⟩
    · unfold resS; rw [if_pos h1]; rfl
    · exact of_eq_true (nums3_rows.trans (eq_true ⟨of_eq_true (iAbs b10), of_eq_true (iAbs b11), of_eq_true (iAbs b12)⟩))
    · have h2 : 0 < cmpS (whV (fstS b)) (whV (nRat 1 16).1) := h2
      have e1 : resS b = { b with st := 0 } := by unfold resS; rw [if_neg (by simp [h1]), if_pos h2]
      rw [e1]; rfl
    · rw [hw] at h3
      have h3 : min b.st 29 + 1 = 30 := by simpa using h3
      have h2 : ¬ 0 < cmpS (whV (fstS b)) (whV (nRat 1 16).1) := h2
      have e1 : resS b = { rstS b with st := 30 } := by unfold resS; rw [if_neg (by simp [h1]), if_neg h2, if_pos (by omega)]
      have e2 : min b.st 29 + 1 = 30 := by omega
      rw [e1, hw, e2]; rfl
    · rw [hw] at h3
      have h3 : ¬ min b.st 29 + 1 = 30 := by simpa using h3
      have h2 : ¬ 0 < cmpS (whV (fstS b)) (whV (nRat 1 16).1) := h2
      have e1 : resS b = { b with st := min b.st 29 + 1 } := by unfold resS; rw [if_neg (by simp [h1]), if_neg h2, if_neg (by omega)]
      rw [e1, hw]; rfl
  · cases hc
def kb69 : Con := cB fun b rest => match rest with
  | [.agg [.v (.int .i64 x), .v (.bool e), .v (.int .i64 y), .v (.bool f)]] => some ([inB b, b.n ≤ 1000, inR x, inR y], veA (spdS b ((x, e), (y, f))))
  | _ => none
theorem konb69 : ConOK Tryz.prog 69 kb69 := ConOK.cB (G := [(114, .wr mNon), (150, kb150)]) (H := [(1, ⟨[(4, .slot 4)], []⟩)]) (.mcons con114m (.cons konb150 .nil)) Tryz.func69 fun b rest ob r hc hob => by
  split at hc
  · rename_i x e y f
    cases hc
    have h_0 : inB b := hob _ (by simp)
    have h_1 : b.n ≤ 1000 := hob _ (by simp)
    have h_2 : inR x := hob _ (by simp)
    have h_3 : inR y := hob _ (by simp)
    obtain ⟨b1, b2, b3, b4, b5, b6, b7, b8, b9, b10, b11, b12, b13, b14, b15, b16⟩ := h_0
    have hb : inB b := hob _ (by simp)
    refine ⟨by kernel_rfl, fnVC_go (rs := [.cell 4 26]) rfl rfl ?_⟩
    simp only [bodyC, go_sem, kb150, cB_eq, cBR_eq, bodyD_lit, gx_pts0, gx_pts1, spots_can, etaN, etaV, bd_eta, b1, b2, b3, b4, b6, b7, b8, b9, b10, b11, b12, b13, b14, b15, b16, hb, h_1, h_2, h_3, mNon_eq]
    rfl
  · cases hc
def kb70 : Con := cB fun b rest => match rest with
  | [.agg [.v (.int .i64 x), .v (.bool e), .v (.int .i64 y), .v (.bool f)], .agg [.v (.int .i64 z), .v (.bool g), .v (.int .i64 u), .v (.bool h)]] => some ([inB b, b.n ≤ 1000, inR x, inR y, inR z, inR u], nbA (hftS b ((x, e), (y, f)) ((z, g), (u, h))))
  | _ => none
theorem konb70 : ConOK Tryz.prog 70 kb70 := ConOK.cB (G := [(114, .wr mNon), (151, kb151)]) (H := [(1, ⟨[(5, .slot 6)], []⟩)]) (.mcons con114m (.cons konb151 .nil)) Tryz.func70 fun b rest ob r hc hob => by
  split at hc
  · rename_i x e y f z g u h
    cases hc
    have h_0 : inB b := hob _ (by simp)
    have h_1 : b.n ≤ 1000 := hob _ (by simp)
    have h_2 : inR x := hob _ (by simp)
    have h_3 : inR y := hob _ (by simp)
    have h_4 : inR z := hob _ (by simp)
    have h_5 : inR u := hob _ (by simp)
    obtain ⟨b1, b2, b3, b4, b5, b6, b7, b8, b9, b10, b11, b12, b13, b14, b15, b16⟩ := h_0
    have hb : inB b := hob _ (by simp)
    refine ⟨by kernel_rfl, fnVC_go (rs := [.cell 6 24]) rfl rfl ?_⟩
    simp only [bodyC, go_sem, kb151, cB_eq, cBR_eq, bodyD_lit, gx_pts0, gx_pts1, spots_can, etaN, etaV, bd_eta, b1, b2, b3, b4, b6, b7, b8, b9, b10, b11, b12, b13, b14, b15, b16, hb, h_1, h_2, h_3, h_4, h_5, mNon_eq]
    rfl
  · cases hc
end Go.Ax
end
