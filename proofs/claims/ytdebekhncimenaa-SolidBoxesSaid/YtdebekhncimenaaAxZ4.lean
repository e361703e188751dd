/-
  The law of boxes: what SolidBoxes hands back.
-/
import Derived.Test.YtdebekhncimenaaAxZ3
set_option linter.unusedVariables false
set_option linter.unusedSimpArgs false
set_option maxHeartbeats 2000000
set_option maxRecDepth 100000
namespace Go.Ax
open Go.Proofs
theorem vc3 (a b c d x y z t u v g0 : Int) (n : Nat) (A B C D : Nat → Int) (h1 : inR a ∧ inR b ∧ inR c ∧ inR d) (h2 : inR x ∧ inR y ∧ inR z ∧ inR t) (h3 : inR u ∧ inR v) (hX : ∀ i, i < n → inR (A i) ∧ inR (B i) ∧ inR (C i) ∧ inR (D i)) :
    fnVC Try.prog [(9, c9), (10, c10), (11, c11), (12, c12), (13, c13), (14, c14), (15, c15), (16, c16), (17, c17), (18, c18), (19, c19)] [] Try.f3 [.agg [i64 a, i64 b, i64 c, i64 d], .agg [i64 x, i64 y, i64 z, i64 t], .agg [i64 u, i64 v], i64 g0, .ro n 4 fun i => [i64 (A i), i64 (B i), i64 (C i), i64 (D i)]] (· = bo true) := by
  refine fnVC_go (rs := [.tmp 10]) rfl rfl ?_
  simp only [go_sem, c9, c10, c11, c12, c13, c14, c15, c16, c17, c18, c19]
  refine ⟨fun _ _ => trivial, fun hn => ?_⟩
  refine loopN_go (fun (i : Nat) => i ≤ n) (fun i => n - i) (fun i => [(12, i64 i), (11, .own 9 0 i 4)]) (fun i => [(9, famN i 4 23 (fun k => [i64 (A k), i64 (B k), i64 (C k), i64 (D k)]) none)]) [0, 1, 2] [18, 19, 20, 21, 24, 25, 26, 27, 28, 29, 30, 11, 22, 23, 12] 1 0 (by kernel_rfl) (Nat.zero_le _) ⟨[(9, none)], ?_, ?_, ?_, ?_⟩ ?_
  · simp only [go_sem]
  · simp only [go_sem]
  · simp only [go_sem]
  · exact goodNames_one (k := 0) (by decide) (fun z h => by cases h)
  intro i hi
  simp only [go_sem, c9, c10, c11, c12, c13, c14, c15, c16, c17, c18, c19]
  refine ⟨fun hlt => ?_, fun hge => ?_⟩
  · refine ⟨by omega, hlt, ?_, by omega, fun z1 hz => ⟨i + 1, by omega, by omega, [(9, some 20)], ⟨?_, by rw [fit1_named (r := 0)]; exact ⟨by omega, rfl⟩⟩, ?_, goodNames_one (k := 0) (by decide) (fun z h => by cases h; decide)⟩⟩
    · rw [show bytesT Try.prog 23 = 32 by kernel_rfl]; omega
    · rw [wrap_i64] at hz; omega
    · rw [fitRows_some]
      simp only [go_sem]
      intro k hk
      by_cases e : k < i
      · rw [if_pos e]; simp only [go_sem]
      · have e : k = i := by omega
        subst e
        rw [if_neg (by omega), Nat.sub_self]
        simp only [Nat.zero_mul, go_sem]
  have e : i = n := by omega
  subst e
  have hb : boxes i (fun k => [i64 (A k), i64 (B k), i64 (C k), i64 (D k)]) := fun k hk => ⟨rfl, hX k hk⟩
  simp only [forall_eq, h1, h2, h3, hb, and_self, implies_true, true_and, bne_self_eq_false, beq_self_eq_true]
  refine ⟨fun _ => by omega, fun _ => by omega, by simp, fun _ => ?_⟩
  refine loopC_go (fun (j : Nat) => j ≤ i) (fun j => i - j) (fun j => [(13, i64 j)]) (fun _ => []) [9] [70, 71, 72, 73, 76, 77, 78, 79, 80, 81, 82, 83, 84, 10, 74, 75, 13] 0 (by kernel_rfl) ?_ (Nat.zero_le _) ?_ ?_
  · intro x _; simp [goodNames, asg]
  · simp only [go_sem]
  intro j hj
  simp only [go_sem, c9]
  exact ⟨fun h => ⟨by omega, h, by omega, by omega, h, by simp, fun _ z hz => ⟨j + 1, by omega, by omega, by rw [wrap_i64] at hz; omega⟩⟩, fun _ _ => trivial⟩
end Go.Ax
