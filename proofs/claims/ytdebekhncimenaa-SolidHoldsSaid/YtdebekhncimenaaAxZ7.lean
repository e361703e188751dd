/-
  Spots: what the reference says; copies of spots.
-/
import Derived.Test.YtdebekhncimenaaAxZ6
set_option linter.unusedVariables false
set_option linter.unusedSimpArgs false
set_option maxHeartbeats 1000000
set_option maxRecDepth 100000
namespace Go.Ax
open Go.Proofs

theorem vc26 (n : Nat) (X Y : Nat → Int) (hX : ∀ i, i < n → inR (X i) ∧ inR (Y i)) (hn : n ≤ 9223372036854775806) : fnVC Try.prog [(24, c24), (40, c40)] [] Try.f26 [.ro n 2 fun i => [i64 (X i), i64 (Y i)]] (· = bo (convexS n X Y)) := by
  refine fnVC_go (rs := [.tmp 2]) rfl rfl ?_
  simp only [go_sem]
  refine ⟨fun h => false_of fun hc => ?_, fun h => ?_⟩
  · have := convexS_iff.1 hc
    omega
  have h3 : 3 ≤ n := by omega
  let good : Nat → Prop := fun i => ∀ k, k < n → k ≠ i → k ≠ nxt n i → 0 < turnS (X i) (Y i) (X (nxt n i)) (Y (nxt n i)) (X k) (Y k)
  refine loopC_go (fun (i : Nat) => i ≤ n ∧ (0 < i → ∀ k, k < n → validS (X k) (Y k) = true) ∧ ∀ j, j < i → good j) (fun i => n - i) (fun i => [(3, i64 i)]) (fun _ => []) [] [9, 10, 11, 12, 15, 16, 17, 18, 19, 4, 5, 20, 21, 22, 23, 26, 27, 28, 29, 30, 31, 32, 33, 34, 35, 36, 37, 38, 39, 40, 41, 42, 43, 44, 45, 46, 47, 48, 49, 50, 51, 52, 53, 54, 55, 56, 57, 2, 24, 25, 5, 13, 14, 3] 0 (by kernel_rfl) ?_ ⟨Nat.zero_le _, fun h => by omega, fun j hj => by omega⟩ ?_ ?_
  · intro x _; simp [goodNames]
  · simp only [go_sem]
  · intro i hi
    have hn0 : ((n : Int) = 0) = False := eq_false (by omega)
    simp only [go_sem, hn0]
    refine ⟨fun hin z hz z1 hz1 => ?_, fun hin => (convexS_iff.2 ⟨h3, hi.2.1 (by omega), fun j hj => hi.2.2 j (by omega)⟩).symm⟩
    have hin : i < n := by omega
    have ei : IntKind.i64.wrap ((i : Int) + 1) = i + 1 := wrap_in (by unfold inR; omega)
    rw [ei] at hz
    rw [hz, tmod_nxt hin] at hz1
    have hnl : nxt n i < n := nxt_lt hin
    subst hz1
    refine loopC_go (fun (k : Nat) => k ≤ n ∧ ∀ q, q < k → validS (X q) (Y q) = true ∧ (q ≠ i → q ≠ nxt n i → 0 < turnS (X i) (Y i) (X (nxt n i)) (Y (nxt n i)) (X q) (Y q))) (fun k => n - k) (fun k => [(5, i64 k)]) (fun _ => []) [] [20, 21, 22, 23, 26, 27, 28, 29, 30, 31, 32, 33, 34, 35, 36, 37, 38, 39, 40, 41, 42, 43, 44, 45, 46, 47, 48, 49, 50, 51, 52, 53, 54, 55, 56, 57, 2, 24, 25, 5] 0 (by kernel_rfl) ?_ ⟨Nat.zero_le _, fun j hj => by omega⟩ ?_ ?_
    · intro x _; simp [goodNames]
    · simp only [go_sem]
    · intro k hk
      simp only [go_sem, c24, c40]
      have bn : ∀ x y : Nat, ((x : Int) != (y : Int)) = true ↔ x ≠ y := fun x y => by rw [bne_iff_ne]; omega
      refine ⟨fun hkn => ⟨by omega, hkn, fun z1 hz1 => ⟨fun h1 h2 => ⟨h1, h2⟩, fun _ => by omega, fun _ => by omega, fun _ => by omega, fun _ => by omega, fun _ => by omega, fun _ => by omega, fun t ht => ⟨fun h1 h2 => ⟨h1, h2⟩, fun hb => false_of fun hc => ?_, fun hb z3 hz3 => ⟨k + 1, ⟨by omega, fun q hq => ?_⟩, by omega, ?_⟩⟩⟩⟩, fun hkn z1 hz1 => ⟨i + 1, ⟨by omega, fun _ q hq => (hk.2 q (by omega)).1, fun j hj => ?_⟩, by omega, ?_⟩⟩
      · have hkn' : k < n := by omega
        obtain ⟨_, k2, k3⟩ := convexS_iff.1 hc
        rcases hb with hb | hb
        · rw [hb, k2 k hkn'] at hz1; cases hz1
        · have hp := k3 i hin k hkn' ((bn _ _).1 hb.1.1) ((bn _ _).1 hb.1.2)
          have : t = 1 := by rw [ht]; unfold sideS; rw [if_pos ⟨k2 i hin, k2 _ hnl, k2 k hkn'⟩, if_pos hp]
          omega
      · by_cases e : q = k
        · subst e
          rw [← hz1]
          refine ⟨hb.1, fun h1 h2 => ?_⟩
          have hb2 := hb.2
          rw [(bn q i).2 h1, (bn q (nxt n i)).2 h2] at hb2
          simp at hb2
          rw [ht] at hb2
          unfold sideS at hb2
          split at hb2
          · split at hb2
            · assumption
            · split at hb2 <;> omega
          · omega
        · exact hk.2 q (by omega)
      · rw [hz3, wrap_in (by unfold inR; omega)]; rfl
      · by_cases e : j = i
        · subst e
          intro q hq h1 h2
          exact (hk.2 q (by omega)).2 h1 h2
        · exact hi.2.2 j (by omega)
      · rw [hz1, ei]; rfl
theorem con26 : ConOK Try.prog 26 c25 := ConOK.go (G := [(24, c24), (40, c40)]) (H := []) (.cons con24 (.cons con40 .nil)) Try.func26 fun l ob r hc hob => by
  unfold c25 at hc
  split at hc
  · rename_i n g
    cases hc
    have hs : spots n g := hob _ (by simp)
    refine ⟨[.ro n 2 fun i => [i64 (gx g 0 i), i64 (gx g 1 i)]], fun w I vs h => Rs_one (fun v => ro_alike fun i hi => (hs i hi).1) h, by kernel_rfl, vc26 n _ _ (fun i hi => (hs i hi).2) (hob _ (by simp))⟩
  · cases hc

/-! ### Copies -/
def c22 : Con
  | [.ro n 2 g] => some ([spots n g, n ≤ 1000], .ro n 2 fun i => [i64 (gx g 0 i), i64 (gx g 1 i)])
  | _ => none
theorem vc22 (n : Nat) (X Y : Nat → Int) (hn : n ≤ 1000) : fnVC Try.prog [] [] Try.f22 [.ro n 2 fun i => [i64 (X i), i64 (Y i)]] (· = .ro n 2 fun i => [i64 (X i), i64 (Y i)]) := by
  refine fnVC_go (rs := [.tmp 2]) rfl rfl ?_
  simp only [go_sem]
  refine loopN_go (fun (i : Nat) => i ≤ n) (fun i => n - i) (fun i => [(4, i64 i), (3, .own 3 0 i 2)]) (fun i => [(3, famN i 2 25 (fun k => [i64 (X k), i64 (Y k)]) none)]) [] [5, 6, 7, 8, 11, 12, 13, 14, 15, 16, 17, 3, 9, 10, 4] 1 0 (by kernel_rfl) (Nat.zero_le _) ⟨[(3, none)], ?_, ?_, ?_, ?_⟩ ?_
  · simp only [go_sem]
  · simp only [go_sem]
  · simp only [go_sem]
  · exact goodNames_one (k := 0) (by decide) (fun z h => by cases h)
  intro i hi
  simp only [go_sem]
  refine ⟨fun hlt => ⟨by omega, hlt, ?_, by omega, fun z hz => ⟨i + 1, by omega, by omega, [(3, some 14)], ⟨?_, by rw [fit1_named (r := 0)]; exact ⟨by omega, rfl⟩⟩, ?_, goodNames_one (k := 0) (by decide) (fun z h => by cases h; decide)⟩⟩, fun hge => ?_⟩
  · rw [show bytesT Try.prog 25 = 16 by kernel_rfl]; omega
  · rw [wrap_i64] at hz; omega
  · rw [fitRows_some]
    simp only [go_sem]
    intro k hk
    by_cases e : k < i
    · rw [if_pos e]; simp only [go_sem]
    · have e : k = i := by omega
      subst e
      rw [if_neg (by omega), Nat.sub_self]
      simp only [Nat.zero_mul, go_sem]
  · have e : i = n := by omega
    subst e; rfl
theorem con22 : ConOK Try.prog 22 c22 := ConOK.go (G := []) (H := []) .nil Try.func22 fun l ob r hc hob => by
  unfold c22 at hc
  split at hc
  · rename_i n g
    cases hc
    have hs : spots n g := hob _ (by simp)
    refine ⟨[.ro n 2 fun i => [i64 (gx g 0 i), i64 (gx g 1 i)]], fun w I vs h => Rs_one (fun v => ro_alike fun i hi => (hs i hi).1) h, by kernel_rfl, vc22 n _ _ (hob _ (by simp))⟩
  · cases hc
def c27 : Con
  | [.ro n 2 g, .ro m 2 g'] => some ([spots n g, spots m g', n ≤ 9223372036854775806, m ≤ 9223372036854775806], bo (decide (n = m ∧ ∀ i, i < n → gx g 0 i = gx g' 0 i ∧ gx g 1 i = gx g' 1 i)))
  | _ => none
theorem vc27 (n m : Nat) (X Y Z T : Nat → Int) (hn : n ≤ 9223372036854775806) : fnVC Try.prog [] [] Try.f27 [.ro n 2 fun i => [i64 (X i), i64 (Y i)], .ro m 2 fun i => [i64 (Z i), i64 (T i)]] (· = bo (decide (n = m ∧ ∀ i, i < n → X i = Z i ∧ Y i = T i))) := by
  refine fnVC_go (rs := [.tmp 4]) rfl rfl ?_
  simp only [go_sem]
  refine ⟨fun h => ?_, fun h => ?_⟩
  · refine (decide_eq_false fun hc => ?_).symm
    rw [bne_iff_ne] at h; omega
  refine loopC_go (fun (i : Nat) => i ≤ n ∧ ∀ j, j < i → X j = Z j ∧ Y j = T j) (fun i => n - i) (fun i => [(5, i64 i)]) (fun _ => []) [] [11, 12, 13, 14, 17, 18, 19, 20, 21, 22, 23, 24, 25, 4, 15, 16, 5] 0 (by kernel_rfl) ?_ ⟨Nat.zero_le _, fun j hj => by omega⟩ ?_ ?_
  · intro x _; simp [goodNames]
  · simp only [go_sem]
  · intro i hi
    simp only [go_sem]
    have hnm : n = m := by
      have : ¬ ((n : Int) != m) = true := by rw [h]; simp
      rw [bne_iff_ne] at this; omega
    subst hnm
    refine ⟨fun hin => ⟨by omega, hin, by omega, hin, fun hb => ?_, fun hb z hz => ⟨i + 1, ⟨by omega, fun j hj => ?_⟩, by omega, ?_⟩⟩, fun hin => ?_⟩
    · refine (decide_eq_false fun hc => ?_).symm
      have := hc.2 i (by omega)
      rw [this.1, this.2] at hb
      simp at hb
    · by_cases e : j = i
      · subst e; exact ⟨by simpa using hb.1, by simpa using hb.2⟩
      · exact hi.2 j (by omega)
    · rw [hz, wrap_in (by unfold inR; omega)]; rfl
    · exact (decide_eq_true ⟨rfl, fun j hj => hi.2 j (by omega)⟩).symm
theorem con27 : ConOK Try.prog 27 c27 := ConOK.go (G := []) (H := []) .nil Try.func27 fun l ob r hc hob => by
  unfold c27 at hc
  split at hc
  · rename_i n g m g'
    cases hc
    have hs : spots n g := hob _ (by simp)
    have hs' : spots m g' := hob _ (by simp)
    refine ⟨[.ro n 2 fun i => [i64 (gx g 0 i), i64 (gx g 1 i)], .ro m 2 fun i => [i64 (gx g' 0 i), i64 (gx g' 1 i)]], fun w I vs h => ?_, by kernel_rfl, vc27 n m _ _ _ _ (hob _ (by simp))⟩
    obtain ⟨x, xs, rfl, h1, h2⟩ := h.inv
    exact .cons (ro_alike (fun i hi => (hs i hi).1) h1) (Rs_one (fun v => ro_alike fun i hi => (hs' i hi).1) h2)
  · cases hc
end Go.Ax
