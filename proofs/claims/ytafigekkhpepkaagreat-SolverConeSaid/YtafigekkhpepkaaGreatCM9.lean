/-
  Made polygons of five and eight corners are convex.
-/
import Derived.Test.YtafigekkhpepkaaGreatCM8
import Derived.ShutString
import Derived.ChangeOld
import Derived.Below
section
set_option linter.unusedVariables false
set_option linter.unusedSimpArgs false
set_option maxHeartbeats 4000000
set_option maxRecDepth 100000
namespace Go.Ax
open Go.Proofs
theorem pen_cvx {M T h : Int} (hM : 64 ≤ M) (hT : 64 ≤ T) (h1 : 2 * h ≤ M) (h2 : M ≤ 2 * h + 1) {X Y : Nat → Int} (x0 : X 0 = -h) (y0 : Y 0 = -T) (x1 : X 1 = h) (y1 : Y 1 = -T) (x2 : X 2 = M) (y2 : Y 2 = 0) (x3 : X 3 = 0) (y3 : Y 3 = T) (x4 : X 4 = -M) (y4 : Y 4 = 0) : cvxS 5 X Y = true := by
  obtain ⟨p1, p2⟩ := mul_ge hM hT
  have q1 : (2 * h) * T ≤ M * T := Int.mul_le_mul_of_nonneg_right h1 (by omega)
  have q2 : M * T ≤ (2 * h + 1) * T := Int.mul_le_mul_of_nonneg_right h2 (by omega)
  have q3 : h * 64 ≤ h * T := Int.mul_le_mul_of_nonneg_left hT (by omega)
  rw [Int.mul_assoc] at q1
  rw [Int.add_mul, Int.mul_assoc, Int.one_mul] at q2
  unfold cvxS
  refine decide_eq_true fun i hi => ?_
  match i, hi with
  | 0, _ =>
    rw [show nxt 5 0 = 1 from rfl, show nxt2 5 0 = 2 from rfl, x0, x1, x2, y0, y1, y2]
    refine ⟨?_, fun j hj k1 k2 => ?_⟩
    · simp only [Int.sub_mul, Int.mul_sub, Int.add_mul, Int.mul_add, Int.neg_mul, Int.mul_neg, Int.zero_mul, Int.mul_zero, Int.mul_comm T M, Int.mul_comm T h, Int.neg_neg, ab]
      (repeat' split) <;> omega
    · match j, hj, k1, k2 with
      | 0, _, k1, k2 => exact absurd rfl k1
      | 1, _, k1, k2 => exact absurd rfl k2
      | 2, _, _, _ =>
        rw [x2, y2]
        simp only [Int.sub_mul, Int.mul_sub, Int.add_mul, Int.mul_add, Int.neg_mul, Int.mul_neg, Int.zero_mul, Int.mul_zero, Int.mul_comm T M, Int.mul_comm T h, Int.neg_neg, ab]
        omega
      | 3, _, _, _ =>
        rw [x3, y3]
        simp only [Int.sub_mul, Int.mul_sub, Int.add_mul, Int.mul_add, Int.neg_mul, Int.mul_neg, Int.zero_mul, Int.mul_zero, Int.mul_comm T M, Int.mul_comm T h, Int.neg_neg, ab]
        omega
      | 4, _, _, _ =>
        rw [x4, y4]
        simp only [Int.sub_mul, Int.mul_sub, Int.add_mul, Int.mul_add, Int.neg_mul, Int.mul_neg, Int.zero_mul, Int.mul_zero, Int.mul_comm T M, Int.mul_comm T h, Int.neg_neg, ab]
        omega
      | j + 5, h, _, _ => omega
  | 1, _ =>
    rw [show nxt 5 1 = 2 from rfl, show nxt2 5 1 = 3 from rfl, x1, x2, x3, y1, y2, y3]
    refine ⟨?_, fun j hj k1 k2 => ?_⟩
    · simp only [Int.sub_mul, Int.mul_sub, Int.add_mul, Int.mul_add, Int.neg_mul, Int.mul_neg, Int.zero_mul, Int.mul_zero, Int.mul_comm T M, Int.mul_comm T h, Int.neg_neg, ab]
      (repeat' split) <;> omega
    · match j, hj, k1, k2 with
      | 0, _, _, _ =>
        rw [x0, y0]
        simp only [Int.sub_mul, Int.mul_sub, Int.add_mul, Int.mul_add, Int.neg_mul, Int.mul_neg, Int.zero_mul, Int.mul_zero, Int.mul_comm T M, Int.mul_comm T h, Int.neg_neg, ab]
        omega
      | 1, _, k1, k2 => exact absurd rfl k1
      | 2, _, k1, k2 => exact absurd rfl k2
      | 3, _, _, _ =>
        rw [x3, y3]
        simp only [Int.sub_mul, Int.mul_sub, Int.add_mul, Int.mul_add, Int.neg_mul, Int.mul_neg, Int.zero_mul, Int.mul_zero, Int.mul_comm T M, Int.mul_comm T h, Int.neg_neg, ab]
        omega
      | 4, _, _, _ =>
        rw [x4, y4]
        simp only [Int.sub_mul, Int.mul_sub, Int.add_mul, Int.mul_add, Int.neg_mul, Int.mul_neg, Int.zero_mul, Int.mul_zero, Int.mul_comm T M, Int.mul_comm T h, Int.neg_neg, ab]
        omega
      | j + 5, h, _, _ => omega
  | 2, _ =>
    rw [show nxt 5 2 = 3 from rfl, show nxt2 5 2 = 4 from rfl, x2, x3, x4, y2, y3, y4]
    refine ⟨?_, fun j hj k1 k2 => ?_⟩
    · simp only [Int.sub_mul, Int.mul_sub, Int.add_mul, Int.mul_add, Int.neg_mul, Int.mul_neg, Int.zero_mul, Int.mul_zero, Int.mul_comm T M, Int.mul_comm T h, Int.neg_neg, ab]
      (repeat' split) <;> omega
    · match j, hj, k1, k2 with
      | 0, _, _, _ =>
        rw [x0, y0]
        simp only [Int.sub_mul, Int.mul_sub, Int.add_mul, Int.mul_add, Int.neg_mul, Int.mul_neg, Int.zero_mul, Int.mul_zero, Int.mul_comm T M, Int.mul_comm T h, Int.neg_neg, ab]
        omega
      | 1, _, _, _ =>
        rw [x1, y1]
        simp only [Int.sub_mul, Int.mul_sub, Int.add_mul, Int.mul_add, Int.neg_mul, Int.mul_neg, Int.zero_mul, Int.mul_zero, Int.mul_comm T M, Int.mul_comm T h, Int.neg_neg, ab]
        omega
      | 2, _, k1, k2 => exact absurd rfl k1
      | 3, _, k1, k2 => exact absurd rfl k2
      | 4, _, _, _ =>
        rw [x4, y4]
        simp only [Int.sub_mul, Int.mul_sub, Int.add_mul, Int.mul_add, Int.neg_mul, Int.mul_neg, Int.zero_mul, Int.mul_zero, Int.mul_comm T M, Int.mul_comm T h, Int.neg_neg, ab]
        omega
      | j + 5, h, _, _ => omega
  | 3, _ =>
    rw [show nxt 5 3 = 4 from rfl, show nxt2 5 3 = 0 from rfl, x3, x4, x0, y3, y4, y0]
    refine ⟨?_, fun j hj k1 k2 => ?_⟩
    · simp only [Int.sub_mul, Int.mul_sub, Int.add_mul, Int.mul_add, Int.neg_mul, Int.mul_neg, Int.zero_mul, Int.mul_zero, Int.mul_comm T M, Int.mul_comm T h, Int.neg_neg, ab]
      (repeat' split) <;> omega
    · match j, hj, k1, k2 with
      | 0, _, _, _ =>
        rw [x0, y0]
        simp only [Int.sub_mul, Int.mul_sub, Int.add_mul, Int.mul_add, Int.neg_mul, Int.mul_neg, Int.zero_mul, Int.mul_zero, Int.mul_comm T M, Int.mul_comm T h, Int.neg_neg, ab]
        omega
      | 1, _, _, _ =>
        rw [x1, y1]
        simp only [Int.sub_mul, Int.mul_sub, Int.add_mul, Int.mul_add, Int.neg_mul, Int.mul_neg, Int.zero_mul, Int.mul_zero, Int.mul_comm T M, Int.mul_comm T h, Int.neg_neg, ab]
        omega
      | 2, _, _, _ =>
        rw [x2, y2]
        simp only [Int.sub_mul, Int.mul_sub, Int.add_mul, Int.mul_add, Int.neg_mul, Int.mul_neg, Int.zero_mul, Int.mul_zero, Int.mul_comm T M, Int.mul_comm T h, Int.neg_neg, ab]
        omega
      | 3, _, k1, k2 => exact absurd rfl k1
      | 4, _, k1, k2 => exact absurd rfl k2
      | j + 5, h, _, _ => omega
  | 4, _ =>
    rw [show nxt 5 4 = 0 from rfl, show nxt2 5 4 = 1 from rfl, x4, x0, x1, y4, y0, y1]
    refine ⟨?_, fun j hj k1 k2 => ?_⟩
    · simp only [Int.sub_mul, Int.mul_sub, Int.add_mul, Int.mul_add, Int.neg_mul, Int.mul_neg, Int.zero_mul, Int.mul_zero, Int.mul_comm T M, Int.mul_comm T h, Int.neg_neg, ab]
      (repeat' split) <;> omega
    · match j, hj, k1, k2 with
      | 0, _, k1, k2 => exact absurd rfl k2
      | 1, _, _, _ =>
        rw [x1, y1]
        simp only [Int.sub_mul, Int.mul_sub, Int.add_mul, Int.mul_add, Int.neg_mul, Int.mul_neg, Int.zero_mul, Int.mul_zero, Int.mul_comm T M, Int.mul_comm T h, Int.neg_neg, ab]
        omega
      | 2, _, _, _ =>
        rw [x2, y2]
        simp only [Int.sub_mul, Int.mul_sub, Int.add_mul, Int.mul_add, Int.neg_mul, Int.mul_neg, Int.zero_mul, Int.mul_zero, Int.mul_comm T M, Int.mul_comm T h, Int.neg_neg, ab]
        omega
      | 3, _, _, _ =>
        rw [x3, y3]
        simp only [Int.sub_mul, Int.mul_sub, Int.add_mul, Int.mul_add, Int.neg_mul, Int.mul_neg, Int.zero_mul, Int.mul_zero, Int.mul_comm T M, Int.mul_comm T h, Int.neg_neg, ab]
        omega
      | 4, _, k1, k2 => exact absurd rfl k1
      | j + 5, h, _, _ => omega
  | i + 5, h => omega
theorem oct_cvx {M h : Int} (hM : 64 ≤ M) (h1 : 2 * h ≤ M) (h2 : M ≤ 2 * h + 1) {X Y : Nat → Int} (x0 : X 0 = M) (y0 : Y 0 = -h) (x1 : X 1 = M) (y1 : Y 1 = h) (x2 : X 2 = h) (y2 : Y 2 = M) (x3 : X 3 = -h) (y3 : Y 3 = M) (x4 : X 4 = -M) (y4 : Y 4 = h) (x5 : X 5 = -M) (y5 : Y 5 = -h) (x6 : X 6 = -h) (y6 : Y 6 = -M) (x7 : X 7 = h) (y7 : Y 7 = -M) : cvxS 8 X Y = true := by
  have p1 : 64 * M ≤ M * M := Int.mul_le_mul_of_nonneg_right hM (by omega)
  have q1 : (2 * h) * M ≤ M * M := Int.mul_le_mul_of_nonneg_right h1 (by omega)
  have q2 : M * M ≤ (2 * h + 1) * M := Int.mul_le_mul_of_nonneg_right h2 (by omega)
  have q3 : h * (2 * h) ≤ h * M := Int.mul_le_mul_of_nonneg_left h1 (by omega)
  have q4 : h * M ≤ h * (2 * h + 1) := Int.mul_le_mul_of_nonneg_left h2 (by omega)
  have q5 : 32 * h ≤ h * h := Int.mul_le_mul_of_nonneg_right (by omega) (by omega)
  rw [Int.mul_assoc] at q1
  rw [Int.add_mul, Int.mul_assoc, Int.one_mul] at q2
  rw [Int.mul_left_comm] at q3
  rw [Int.mul_add, Int.mul_left_comm, Int.mul_one] at q4
  unfold cvxS
  refine decide_eq_true fun i hi => ?_
  match i, hi with
  | 0, _ =>
    rw [show nxt 8 0 = 1 from rfl, show nxt2 8 0 = 2 from rfl, x0, x1, x2, y0, y1, y2]
    refine ⟨?_, fun j hj k1 k2 => ?_⟩
    · simp only [Int.sub_mul, Int.mul_sub, Int.add_mul, Int.mul_add, Int.neg_mul, Int.mul_neg, Int.zero_mul, Int.mul_zero, Int.mul_comm M h, Int.neg_neg, ab]
      (repeat' split) <;> omega
    · match j, hj, k1, k2 with
      | 0, _, k1, k2 => exact absurd rfl k1
      | 1, _, k1, k2 => exact absurd rfl k2
      | 2, _, _, _ =>
        rw [x2, y2]
        simp only [Int.sub_mul, Int.mul_sub, Int.add_mul, Int.mul_add, Int.neg_mul, Int.mul_neg, Int.zero_mul, Int.mul_zero, Int.mul_comm M h, Int.neg_neg, ab]
        omega
      | 3, _, _, _ =>
        rw [x3, y3]
        simp only [Int.sub_mul, Int.mul_sub, Int.add_mul, Int.mul_add, Int.neg_mul, Int.mul_neg, Int.zero_mul, Int.mul_zero, Int.mul_comm M h, Int.neg_neg, ab]
        omega
      | 4, _, _, _ =>
        rw [x4, y4]
        simp only [Int.sub_mul, Int.mul_sub, Int.add_mul, Int.mul_add, Int.neg_mul, Int.mul_neg, Int.zero_mul, Int.mul_zero, Int.mul_comm M h, Int.neg_neg, ab]
        omega
      | 5, _, _, _ =>
        rw [x5, y5]
        simp only [Int.sub_mul, Int.mul_sub, Int.add_mul, Int.mul_add, Int.neg_mul, Int.mul_neg, Int.zero_mul, Int.mul_zero, Int.mul_comm M h, Int.neg_neg, ab]
        omega
      | 6, _, _, _ =>
        rw [x6, y6]
        simp only [Int.sub_mul, Int.mul_sub, Int.add_mul, Int.mul_add, Int.neg_mul, Int.mul_neg, Int.zero_mul, Int.mul_zero, Int.mul_comm M h, Int.neg_neg, ab]
        omega
      | 7, _, _, _ =>
        rw [x7, y7]
        simp only [Int.sub_mul, Int.mul_sub, Int.add_mul, Int.mul_add, Int.neg_mul, Int.mul_neg, Int.zero_mul, Int.mul_zero, Int.mul_comm M h, Int.neg_neg, ab]
        omega
      | j + 8, h, _, _ => omega
  | 1, _ =>
    rw [show nxt 8 1 = 2 from rfl, show nxt2 8 1 = 3 from rfl, x1, x2, x3, y1, y2, y3]
    refine ⟨?_, fun j hj k1 k2 => ?_⟩
    · simp only [Int.sub_mul, Int.mul_sub, Int.add_mul, Int.mul_add, Int.neg_mul, Int.mul_neg, Int.zero_mul, Int.mul_zero, Int.mul_comm M h, Int.neg_neg, ab]
      (repeat' split) <;> omega
    · match j, hj, k1, k2 with
      | 0, _, _, _ =>
        rw [x0, y0]
        simp only [Int.sub_mul, Int.mul_sub, Int.add_mul, Int.mul_add, Int.neg_mul, Int.mul_neg, Int.zero_mul, Int.mul_zero, Int.mul_comm M h, Int.neg_neg, ab]
        omega
      | 1, _, k1, k2 => exact absurd rfl k1
      | 2, _, k1, k2 => exact absurd rfl k2
      | 3, _, _, _ =>
        rw [x3, y3]
        simp only [Int.sub_mul, Int.mul_sub, Int.add_mul, Int.mul_add, Int.neg_mul, Int.mul_neg, Int.zero_mul, Int.mul_zero, Int.mul_comm M h, Int.neg_neg, ab]
        omega
      | 4, _, _, _ =>
        rw [x4, y4]
        simp only [Int.sub_mul, Int.mul_sub, Int.add_mul, Int.mul_add, Int.neg_mul, Int.mul_neg, Int.zero_mul, Int.mul_zero, Int.mul_comm M h, Int.neg_neg, ab]
        omega
      | 5, _, _, _ =>
        rw [x5, y5]
        simp only [Int.sub_mul, Int.mul_sub, Int.add_mul, Int.mul_add, Int.neg_mul, Int.mul_neg, Int.zero_mul, Int.mul_zero, Int.mul_comm M h, Int.neg_neg, ab]
        omega
      | 6, _, _, _ =>
        rw [x6, y6]
        simp only [Int.sub_mul, Int.mul_sub, Int.add_mul, Int.mul_add, Int.neg_mul, Int.mul_neg, Int.zero_mul, Int.mul_zero, Int.mul_comm M h, Int.neg_neg, ab]
        omega
      | 7, _, _, _ =>
        rw [x7, y7]
        simp only [Int.sub_mul, Int.mul_sub, Int.add_mul, Int.mul_add, Int.neg_mul, Int.mul_neg, Int.zero_mul, Int.mul_zero, Int.mul_comm M h, Int.neg_neg, ab]
        omega
      | j + 8, h, _, _ => omega
  | 2, _ =>
    rw [show nxt 8 2 = 3 from rfl, show nxt2 8 2 = 4 from rfl, x2, x3, x4, y2, y3, y4]
    refine ⟨?_, fun j hj k1 k2 => ?_⟩
    · simp only [Int.sub_mul, Int.mul_sub, Int.add_mul, Int.mul_add, Int.neg_mul, Int.mul_neg, Int.zero_mul, Int.mul_zero, Int.mul_comm M h, Int.neg_neg, ab]
      (repeat' split) <;> omega
    · match j, hj, k1, k2 with
      | 0, _, _, _ =>
        rw [x0, y0]
        simp only [Int.sub_mul, Int.mul_sub, Int.add_mul, Int.mul_add, Int.neg_mul, Int.mul_neg, Int.zero_mul, Int.mul_zero, Int.mul_comm M h, Int.neg_neg, ab]
        omega
      | 1, _, _, _ =>
        rw [x1, y1]
        simp only [Int.sub_mul, Int.mul_sub, Int.add_mul, Int.mul_add, Int.neg_mul, Int.mul_neg, Int.zero_mul, Int.mul_zero, Int.mul_comm M h, Int.neg_neg, ab]
        omega
      | 2, _, k1, k2 => exact absurd rfl k1
      | 3, _, k1, k2 => exact absurd rfl k2
      | 4, _, _, _ =>
        rw [x4, y4]
        simp only [Int.sub_mul, Int.mul_sub, Int.add_mul, Int.mul_add, Int.neg_mul, Int.mul_neg, Int.zero_mul, Int.mul_zero, Int.mul_comm M h, Int.neg_neg, ab]
        omega
      | 5, _, _, _ =>
        rw [x5, y5]
        simp only [Int.sub_mul, Int.mul_sub, Int.add_mul, Int.mul_add, Int.neg_mul, Int.mul_neg, Int.zero_mul, Int.mul_zero, Int.mul_comm M h, Int.neg_neg, ab]
        omega
      | 6, _, _, _ =>
        rw [x6, y6]
        simp only [Int.sub_mul, Int.mul_sub, Int.add_mul, Int.mul_add, Int.neg_mul, Int.mul_neg, Int.zero_mul, Int.mul_zero, Int.mul_comm M h, Int.neg_neg, ab]
        omega
      | 7, _, _, _ =>
        rw [x7, y7]
        simp only [Int.sub_mul, Int.mul_sub, Int.add_mul, Int.mul_add, Int.neg_mul, Int.mul_neg, Int.zero_mul, Int.mul_zero, Int.mul_comm M h, Int.neg_neg, ab]
        omega
      | j + 8, h, _, _ => omega
  | 3, _ =>
    rw [show nxt 8 3 = 4 from rfl, show nxt2 8 3 = 5 from rfl, x3, x4, x5, y3, y4, y5]
    refine ⟨?_, fun j hj k1 k2 => ?_⟩
    · simp only [Int.sub_mul, Int.mul_sub, Int.add_mul, Int.mul_add, Int.neg_mul, Int.mul_neg, Int.zero_mul, Int.mul_zero, Int.mul_comm M h, Int.neg_neg, ab]
      (repeat' split) <;> omega
    · match j, hj, k1, k2 with
      | 0, _, _, _ =>
        rw [x0, y0]
        simp only [Int.sub_mul, Int.mul_sub, Int.add_mul, Int.mul_add, Int.neg_mul, Int.mul_neg, Int.zero_mul, Int.mul_zero, Int.mul_comm M h, Int.neg_neg, ab]
        omega
      | 1, _, _, _ =>
        rw [x1, y1]
        simp only [Int.sub_mul, Int.mul_sub, Int.add_mul, Int.mul_add, Int.neg_mul, Int.mul_neg, Int.zero_mul, Int.mul_zero, Int.mul_comm M h, Int.neg_neg, ab]
        omega
      | 2, _, _, _ =>
        rw [x2, y2]
        simp only [Int.sub_mul, Int.mul_sub, Int.add_mul, Int.mul_add, Int.neg_mul, Int.mul_neg, Int.zero_mul, Int.mul_zero, Int.mul_comm M h, Int.neg_neg, ab]
        omega
      | 3, _, k1, k2 => exact absurd rfl k1
      | 4, _, k1, k2 => exact absurd rfl k2
      | 5, _, _, _ =>
        rw [x5, y5]
        simp only [Int.sub_mul, Int.mul_sub, Int.add_mul, Int.mul_add, Int.neg_mul, Int.mul_neg, Int.zero_mul, Int.mul_zero, Int.mul_comm M h, Int.neg_neg, ab]
        omega
      | 6, _, _, _ =>
        rw [x6, y6]
        simp only [Int.sub_mul, Int.mul_sub, Int.add_mul, Int.mul_add, Int.neg_mul, Int.mul_neg, Int.zero_mul, Int.mul_zero, Int.mul_comm M h, Int.neg_neg, ab]
        omega
      | 7, _, _, _ =>
        rw [x7, y7]
        simp only [Int.sub_mul, Int.mul_sub, Int.add_mul, Int.mul_add, Int.neg_mul, Int.mul_neg, Int.zero_mul, Int.mul_zero, Int.mul_comm M h, Int.neg_neg, ab]
        omega
      | j + 8, h, _, _ => omega
  | 4, _ =>
    rw [show nxt 8 4 = 5 from rfl, show nxt2 8 4 = 6 from rfl, x4, x5, x6, y4, y5, y6]
    refine ⟨?_, fun j hj k1 k2 => ?_⟩
    · simp only [Int.sub_mul, Int.mul_sub, Int.add_mul, Int.mul_add, Int.neg_mul, Int.mul_neg, Int.zero_mul, Int.mul_zero, Int.mul_comm M h, Int.neg_neg, ab]
      (repeat' split) <;> omega
    · match j, hj, k1, k2 with
      | 0, _, _, _ =>
        rw [x0, y0]
        simp only [Int.sub_mul, Int.mul_sub, Int.add_mul, Int.mul_add, Int.neg_mul, Int.mul_neg, Int.zero_mul, Int.mul_zero, Int.mul_comm M h, Int.neg_neg, ab]
        omega
      | 1, _, _, _ =>
        rw [x1, y1]
        simp only [Int.sub_mul, Int.mul_sub, Int.add_mul, Int.mul_add, Int.neg_mul, Int.mul_neg, Int.zero_mul, Int.mul_zero, Int.mul_comm M h, Int.neg_neg, ab]
        omega
      | 2, _, _, _ =>
        rw [x2, y2]
        simp only [Int.sub_mul, Int.mul_sub, Int.add_mul, Int.mul_add, Int.neg_mul, Int.mul_neg, Int.zero_mul, Int.mul_zero, Int.mul_comm M h, Int.neg_neg, ab]
        omega
      | 3, _, _, _ =>
        rw [x3, y3]
        simp only [Int.sub_mul, Int.mul_sub, Int.add_mul, Int.mul_add, Int.neg_mul, Int.mul_neg, Int.zero_mul, Int.mul_zero, Int.mul_comm M h, Int.neg_neg, ab]
        omega
      | 4, _, k1, k2 => exact absurd rfl k1
      | 5, _, k1, k2 => exact absurd rfl k2
      | 6, _, _, _ =>
        rw [x6, y6]
        simp only [Int.sub_mul, Int.mul_sub, Int.add_mul, Int.mul_add, Int.neg_mul, Int.mul_neg, Int.zero_mul, Int.mul_zero, Int.mul_comm M h, Int.neg_neg, ab]
        omega
      | 7, _, _, _ =>
        rw [x7, y7]
        simp only [Int.sub_mul, Int.mul_sub, Int.add_mul, Int.mul_add, Int.neg_mul, Int.mul_neg, Int.zero_mul, Int.mul_zero, Int.mul_comm M h, Int.neg_neg, ab]
        omega
      | j + 8, h, _, _ => omega
  | 5, _ =>
    rw [show nxt 8 5 = 6 from rfl, show nxt2 8 5 = 7 from rfl, x5, x6, x7, y5, y6, y7]
    refine ⟨?_, fun j hj k1 k2 => ?_⟩
    · simp only [Int.sub_mul, Int.mul_sub, Int.add_mul, Int.mul_add, Int.neg_mul, Int.mul_neg, Int.zero_mul, Int.mul_zero, Int.mul_comm M h, Int.neg_neg, ab]
      (repeat' split) <;> omega
    · match j, hj, k1, k2 with
      | 0, _, _, _ =>
        rw [x0, y0]
        simp only [Int.sub_mul, Int.mul_sub, Int.add_mul, Int.mul_add, Int.neg_mul, Int.mul_neg, Int.zero_mul, Int.mul_zero, Int.mul_comm M h, Int.neg_neg, ab]
        omega
      | 1, _, _, _ =>
        rw [x1, y1]
        simp only [Int.sub_mul, Int.mul_sub, Int.add_mul, Int.mul_add, Int.neg_mul, Int.mul_neg, Int.zero_mul, Int.mul_zero, Int.mul_comm M h, Int.neg_neg, ab]
        omega
      | 2, _, _, _ =>
        rw [x2, y2]
        simp only [Int.sub_mul, Int.mul_sub, Int.add_mul, Int.mul_add, Int.neg_mul, Int.mul_neg, Int.zero_mul, Int.mul_zero, Int.mul_comm M h, Int.neg_neg, ab]
        omega
      | 3, _, _, _ =>
        rw [x3, y3]
        simp only [Int.sub_mul, Int.mul_sub, Int.add_mul, Int.mul_add, Int.neg_mul, Int.mul_neg, Int.zero_mul, Int.mul_zero, Int.mul_comm M h, Int.neg_neg, ab]
        omega
      | 4, _, _, _ =>
        rw [x4, y4]
        simp only [Int.sub_mul, Int.mul_sub, Int.add_mul, Int.mul_add, Int.neg_mul, Int.mul_neg, Int.zero_mul, Int.mul_zero, Int.mul_comm M h, Int.neg_neg, ab]
        omega
      | 5, _, k1, k2 => exact absurd rfl k1
      | 6, _, k1, k2 => exact absurd rfl k2
      | 7, _, _, _ =>
        rw [x7, y7]
        simp only [Int.sub_mul, Int.mul_sub, Int.add_mul, Int.mul_add, Int.neg_mul, Int.mul_neg, Int.zero_mul, Int.mul_zero, Int.mul_comm M h, Int.neg_neg, ab]
        omega
      | j + 8, h, _, _ => omega
  | 6, _ =>
    rw [show nxt 8 6 = 7 from rfl, show nxt2 8 6 = 0 from rfl, x6, x7, x0, y6, y7, y0]
    refine ⟨?_, fun j hj k1 k2 => ?_⟩
    · simp only [Int.sub_mul, Int.mul_sub, Int.add_mul, Int.mul_add, Int.neg_mul, Int.mul_neg, Int.zero_mul, Int.mul_zero, Int.mul_comm M h, Int.neg_neg, ab]
      (repeat' split) <;> omega
    · match j, hj, k1, k2 with
      | 0, _, _, _ =>
        rw [x0, y0]
        simp only [Int.sub_mul, Int.mul_sub, Int.add_mul, Int.mul_add, Int.neg_mul, Int.mul_neg, Int.zero_mul, Int.mul_zero, Int.mul_comm M h, Int.neg_neg, ab]
        omega
      | 1, _, _, _ =>
        rw [x1, y1]
        simp only [Int.sub_mul, Int.mul_sub, Int.add_mul, Int.mul_add, Int.neg_mul, Int.mul_neg, Int.zero_mul, Int.mul_zero, Int.mul_comm M h, Int.neg_neg, ab]
        omega
      | 2, _, _, _ =>
        rw [x2, y2]
        simp only [Int.sub_mul, Int.mul_sub, Int.add_mul, Int.mul_add, Int.neg_mul, Int.mul_neg, Int.zero_mul, Int.mul_zero, Int.mul_comm M h, Int.neg_neg, ab]
        omega
      | 3, _, _, _ =>
        rw [x3, y3]
        simp only [Int.sub_mul, Int.mul_sub, Int.add_mul, Int.mul_add, Int.neg_mul, Int.mul_neg, Int.zero_mul, Int.mul_zero, Int.mul_comm M h, Int.neg_neg, ab]
        omega
      | 4, _, _, _ =>
        rw [x4, y4]
        simp only [Int.sub_mul, Int.mul_sub, Int.add_mul, Int.mul_add, Int.neg_mul, Int.mul_neg, Int.zero_mul, Int.mul_zero, Int.mul_comm M h, Int.neg_neg, ab]
        omega
      | 5, _, _, _ =>
        rw [x5, y5]
        simp only [Int.sub_mul, Int.mul_sub, Int.add_mul, Int.mul_add, Int.neg_mul, Int.mul_neg, Int.zero_mul, Int.mul_zero, Int.mul_comm M h, Int.neg_neg, ab]
        omega
      | 6, _, k1, k2 => exact absurd rfl k1
      | 7, _, k1, k2 => exact absurd rfl k2
      | j + 8, h, _, _ => omega
  | 7, _ =>
    rw [show nxt 8 7 = 0 from rfl, show nxt2 8 7 = 1 from rfl, x7, x0, x1, y7, y0, y1]
    refine ⟨?_, fun j hj k1 k2 => ?_⟩
    · simp only [Int.sub_mul, Int.mul_sub, Int.add_mul, Int.mul_add, Int.neg_mul, Int.mul_neg, Int.zero_mul, Int.mul_zero, Int.mul_comm M h, Int.neg_neg, ab]
      (repeat' split) <;> omega
    · match j, hj, k1, k2 with
      | 0, _, k1, k2 => exact absurd rfl k2
      | 1, _, _, _ =>
        rw [x1, y1]
        simp only [Int.sub_mul, Int.mul_sub, Int.add_mul, Int.mul_add, Int.neg_mul, Int.mul_neg, Int.zero_mul, Int.mul_zero, Int.mul_comm M h, Int.neg_neg, ab]
        omega
      | 2, _, _, _ =>
        rw [x2, y2]
        simp only [Int.sub_mul, Int.mul_sub, Int.add_mul, Int.mul_add, Int.neg_mul, Int.mul_neg, Int.zero_mul, Int.mul_zero, Int.mul_comm M h, Int.neg_neg, ab]
        omega
      | 3, _, _, _ =>
        rw [x3, y3]
        simp only [Int.sub_mul, Int.mul_sub, Int.add_mul, Int.mul_add, Int.neg_mul, Int.mul_neg, Int.zero_mul, Int.mul_zero, Int.mul_comm M h, Int.neg_neg, ab]
        omega
      | 4, _, _, _ =>
        rw [x4, y4]
        simp only [Int.sub_mul, Int.mul_sub, Int.add_mul, Int.mul_add, Int.neg_mul, Int.mul_neg, Int.zero_mul, Int.mul_zero, Int.mul_comm M h, Int.neg_neg, ab]
        omega
      | 5, _, _, _ =>
        rw [x5, y5]
        simp only [Int.sub_mul, Int.mul_sub, Int.add_mul, Int.mul_add, Int.neg_mul, Int.mul_neg, Int.zero_mul, Int.mul_zero, Int.mul_comm M h, Int.neg_neg, ab]
        omega
      | 6, _, _, _ =>
        rw [x6, y6]
        simp only [Int.sub_mul, Int.mul_sub, Int.add_mul, Int.mul_add, Int.neg_mul, Int.mul_neg, Int.zero_mul, Int.mul_zero, Int.mul_comm M h, Int.neg_neg, ab]
        omega
      | 7, _, k1, k2 => exact absurd rfl k1
      | j + 8, h, _, _ => omega
  | i + 8, h => omega
end Go.Ax
end

section
/-
  Made shapes are sound.
-/
set_option linter.unusedVariables false
set_option linter.unusedSimpArgs false
set_option maxHeartbeats 4000000
set_option maxRecDepth 100000
namespace Go.Ax
open Go.Proofs
theorem mk_lo {a b c : Int} (i : Nat) (hi : i < mkN a) : lo (mkX a b c i) ∧ lo (mkY a b c i) := by
  have b1 := @mkM_bd b b
  have b2 := @mkM_bd b c
  have t1 : (mkM b b).tdiv 2 = mkM b b / 2 := Int.tdiv_eq_ediv_of_nonneg (by omega)
  have t2 : (-mkM b b).tdiv 2 = -(mkM b b / 2) := by rw [Int.neg_tdiv, t1]
  unfold mkX mkY mkP
  unfold mkN at hi
  by_cases k0 : modS a 5 = 0
  · rw [if_pos k0] at hi; omega
  rw [if_neg k0] at hi
  by_cases k1 : modS a 5 = 1
  · rw [if_pos k1] at hi; omega
  rw [if_neg k1] at hi
  rw [t1, t2]
  generalize mkM b b = M at *
  generalize mkM b c = T at *
  by_cases k2 : modS a 5 = 2
  · rw [if_pos k2] at hi
    rw [if_pos k2]
    match i with
    | 0 => show lo (-M) ∧ lo (-T); unfold lo; omega
    | 1 => show lo M ∧ lo (-T); unfold lo; omega
    | 2 => show lo 0 ∧ lo T; unfold lo; omega
    | q + 3 => omega
  rw [if_neg k2] at hi
  rw [if_neg k2]
  by_cases k3 : modS a 5 = 3
  · rw [if_pos k3] at hi
    rw [if_pos k3]
    match i with
    | 0 => show lo (-(M / 2)) ∧ lo (-T); unfold lo; omega
    | 1 => show lo (M / 2) ∧ lo (-T); unfold lo; omega
    | 2 => show lo M ∧ lo 0; unfold lo; omega
    | 3 => show lo 0 ∧ lo T; unfold lo; omega
    | 4 => show lo (-M) ∧ lo 0; unfold lo; omega
    | q + 5 => omega
  rw [if_neg k3] at hi
  rw [if_neg k3]
  match i with
  | 0 => show lo M ∧ lo (-(M / 2)); unfold lo; omega
  | 1 => show lo M ∧ lo (M / 2); unfold lo; omega
  | 2 => show lo (M / 2) ∧ lo M; unfold lo; omega
  | 3 => show lo (-(M / 2)) ∧ lo M; unfold lo; omega
  | 4 => show lo (-M) ∧ lo (M / 2); unfold lo; omega
  | 5 => show lo (-M) ∧ lo (-(M / 2)); unfold lo; omega
  | 6 => show lo (-(M / 2)) ∧ lo (-M); unfold lo; omega
  | 7 => show lo (M / 2) ∧ lo (-M); unfold lo; omega
  | q + 8 => omega
theorem mk_cvx {a b c : Int} (k0 : modS a 5 ≠ 0) (k1 : modS a 5 ≠ 1) : cvxS (mkN a) (mkX a b c) (mkY a b c) = true := by
  have b1 := @mkM_bd b b
  have b2 := @mkM_bd b c
  have t1 : (mkM b b).tdiv 2 = mkM b b / 2 := Int.tdiv_eq_ediv_of_nonneg (by omega)
  have t2 : (-mkM b b).tdiv 2 = -(mkM b b / 2) := by rw [Int.neg_tdiv, t1]
  by_cases k2 : modS a 5 = 2
  · rw [show mkN a = 3 from by unfold mkN; rw [if_neg k0, if_neg k1, if_pos k2]]
    refine tri_cvx (M := mkM b b) (T := mkM b c) (by omega) (by omega) ?_ ?_ ?_ ?_ ?_ ?_ <;> (first | unfold mkX | unfold mkY) <;> unfold mkP <;> rw [if_pos k2] <;> rfl
  by_cases k3 : modS a 5 = 3
  · rw [show mkN a = 5 from by unfold mkN; rw [if_neg k0, if_neg k1, if_neg k2, if_pos k3]]
    refine pen_cvx (M := mkM b b) (T := mkM b c) (h := mkM b b / 2) (by omega) (by omega) (by omega) (by omega) ?_ ?_ ?_ ?_ ?_ ?_ ?_ ?_ ?_ ?_ <;> (first | unfold mkX | unfold mkY) <;> unfold mkP <;> rw [if_neg k2, if_pos k3, t1, t2] <;> rfl
  · rw [show mkN a = 8 from by unfold mkN; rw [if_neg k0, if_neg k1, if_neg k2, if_neg k3]]
    refine oct_cvx (M := mkM b b) (h := mkM b b / 2) (by omega) (by omega) (by omega) ?_ ?_ ?_ ?_ ?_ ?_ ?_ ?_ ?_ ?_ ?_ ?_ ?_ ?_ ?_ ?_ <;> (first | unfold mkX | unfold mkY) <;> unfold mkP <;> rw [if_neg k2, if_neg k3, t1, t2] <;> rfl
theorem mk_chk {a b c : Int} : chkS (mkK a) (mkR a b) (mkH a b b) (mkH a b c) (mkN a) (mkX a b c) (mkY a b c) = 0 := by
  have w1 := @mkW_bd b b
  have w2 := @mkW_bd b c
  by_cases k0 : modS a 5 = 0
  · unfold chkS mkK mkR mkH mkN
    rw [if_pos k0, if_pos k0, if_pos k0, if_pos k0, if_pos k0, if_pos rfl, if_neg (by simp), if_pos w1]
  by_cases k1 : modS a 5 = 1
  · unfold chkS mkK mkR mkH mkN
    rw [if_neg k0, if_neg k0, if_neg k0, if_neg k0, if_neg k0, if_pos k1, if_pos k1, if_pos k1, if_pos k1, if_neg (by decide), if_pos rfl, if_neg (by simp), if_pos ⟨w1, w2⟩]
  have hN : 3 ≤ mkN a ∧ mkN a ≤ 8 := by
    unfold mkN
    rw [if_neg k0, if_neg k1]
    (repeat' split) <;> omega
  have e1 : mkK a = 3 := by unfold mkK; rw [if_neg k0, if_neg k1]
  have e2 : mkR a b = 0 := if_neg k0
  have e3 : ∀ v, mkH a b v = 0 := fun v => by unfold mkH; rw [if_neg k0, if_neg k1]
  unfold chkS
  rw [e1, e2, e3, e3, if_neg (by decide), if_neg (by decide), if_pos rfl, if_neg (by omega), if_pos mk_lo, if_pos (mk_cvx k0 k1)]
end Go.Ax
end

section
/-
  Made bodies: their weights.
-/
set_option linter.unusedVariables false
set_option linter.unusedSimpArgs false
set_option maxHeartbeats 4000000
set_option maxRecDepth 100000
namespace Go.Ax
open Go.Proofs
theorem mk_wgE {a b c d k : Int} (hk : modS k 4 ≠ 0) : wgE (mkK a) (mkR a b) (mkH a b b) (mkH a b c) (mkN a) (mkX a b c) (mkY a b c) (mkD d k) = 0 := by
  have h := modS_bd (n := d) (m := 1000) (by omega)
  have e : mkD d k = 1 + modS d 1000 := if_neg hk
  unfold wgE
  rw [if_neg (by rw [mk_chk]; simp), e, if_neg (by omega)]
theorem foAt_bd {x s : Int} (h : 1 ≤ s ∧ s ≤ 4000) : -17179869184000 ≤ x.tmod (s * 4294967296) ∧ x.tmod (s * 4294967296) ≤ 17179869184000 := by
  have h1 : x.tmod (s * 4294967296) < s * 4294967296 := Int.tmod_lt_of_pos x (by omega)
  have h2 : -(s * 4294967296) < x.tmod (s * 4294967296) := Int.lt_tmod_of_pos x (by omega)
  omega
end Go.Ax
end

section
/-
  Turns made of numbers are on the circle.
-/
set_option linter.unusedVariables false
set_option linter.unusedSimpArgs false
set_option maxHeartbeats 4000000
set_option maxRecDepth 100000
namespace Go.Ax
open Go.Proofs
def abZ (x : Int) : Int := if x < 0 then -x else x
theorem qt_pair {p : Int} (h : -13493037704 ≤ p ∧ p ≤ 13493037704) : ∃ q, (q = 6746518852 ∨ q = 6746518851) ∧ (-6746518852 ≤ qtV p ∧ qtV p ≤ 6746518852) ∧ abZ (qtV p) ≤ q ∧ (-6746518852 ≤ qtV (if 13493037704 < p + 6746518852 then p + 6746518852 - 26986075409 else p + 6746518852) ∧ qtV (if 13493037704 < p + 6746518852 then p + 6746518852 - 26986075409 else p + 6746518852) ≤ 6746518852) ∧ abZ (qtV (if 13493037704 < p + 6746518852 then p + 6746518852 - 26986075409 else p + 6746518852)) = q - abZ (qtV p) := by
  by_cases h1 : 6746518852 < p
  · refine ⟨6746518851, .inr rfl, ?_⟩
    rw [if_pos (by omega)]
    unfold qtV abZ
    (repeat' split) <;> omega
  · refine ⟨6746518852, .inl rfl, ?_⟩
    rw [if_neg (by omega)]
    unfold qtV abZ
    (repeat' split) <;> omega
theorem wpV_sh {p : Int} (h : -13493037704 ≤ p ∧ p ≤ 13493037704) : wpV (p + 6746518852) = if 13493037704 < p + 6746518852 then p + 6746518852 - 26986075409 else p + 6746518852 := by
  have e : (p + 6746518852).tmod 26986075409 = p + 6746518852 := by
    rcases Int.le_total 0 (p + 6746518852) with k | k
    · rw [Int.tmod_eq_emod_of_nonneg k, Int.emod_eq_of_lt k (by omega)]
    · have e2 : p + 6746518852 = -(-(p + 6746518852)) := by omega
      rw [e2, Int.neg_tmod, Int.tmod_eq_emod_of_nonneg (by omega), Int.emod_eq_of_lt (by omega) (by omega)]
  unfold wpV
  rw [e]
  split
  · rfl
  · rw [if_neg (by omega)]
def cl1 (x : Int) : Int := max (-4294967296) (min x 4294967296)
theorem snV_q {v : Int} (h : -1000000000000000 ≤ v ∧ v ≤ 1000000000000000) : snV v false = cl1 (sq (qtV (wpV v)) 8) ∧ snF v false = false := by
  have hp := @wpV_le v
  have hy : -6746518852 ≤ qtV (wpV v) ∧ qtV (wpV v) ≤ 6746518852 := by
    obtain ⟨q, h1, h2, h3, h4, h5⟩ := qt_pair hp
    exact h2
  have hs := sq_le hy 8 (by omega)
  have e : snY v false = (qtV (wpV v), false) := by
    unfold snY
    rw [whV_in (by omega) (by omega), whF_in (by omega)]
  unfold snV snF
  rw [e, snS_eq hy 8 (by omega)]
  dsimp only
  rw [whV_in (by omega) (by omega), whF_in (by omega)]
  exact ⟨rfl, rfl⟩
theorem csV_q {v : Int} (h : -1000000000000000 ≤ v ∧ v ≤ 1000000000000000) : csV v false = cl1 (sq (qtV (if 13493037704 < wpV v + 6746518852 then wpV v + 6746518852 - 26986075409 else wpV v + 6746518852)) 8) ∧ csF v false = false := by
  have hp := @wpV_le v
  have e : nAdd (wpV (whV v), whF v false) (6746518852, false) = (wpV v + 6746518852, false) := by
    rw [whV_in (by omega) (by omega), whF_in (by omega)]
    unfold nAdd
    dsimp only
    rw [whV_in (by omega) (by omega), whV_in (by omega) (by omega), ftV_in (by omega) (by omega), ftF_in (by omega) (by omega), whF_in (by omega), whF_in (by omega)]
    rfl
  have k := @snV_q (wpV v + 6746518852) (by omega)
  rw [wpV_sh hp] at k
  unfold csV csF
  rw [e]
  exact k
theorem big_sq {x : Int} (h : 4294967296 ≤ x ∨ x ≤ -4294967296) : 18446744073709551616 ≤ x * x := by
  rcases h with h | h
  · have := Int.mul_le_mul h h (by omega) (by omega)
    omega
  · have := Int.mul_le_mul (a := 4294967296) (b := 4294967296) (c := -x) (d := -x) (by omega) (by omega) (by omega) (by omega)
    rw [Int.neg_mul_neg] at this
    omega
theorem cl1_sq {x : Int} : (cl1 x * cl1 x = x * x ∧ x * x ≤ 18446744073709551616) ∨ (cl1 x * cl1 x = 18446744073709551616 ∧ 18446744073709551616 ≤ x * x) := by
  by_cases h1 : 4294967296 < x
  · refine .inr ⟨?_, big_sq (.inl (by omega))⟩
    rw [show cl1 x = 4294967296 from by unfold cl1; omega]
    rfl
  by_cases h2 : x < -4294967296
  · refine .inr ⟨?_, big_sq (.inr (by omega))⟩
    rw [show cl1 x = -4294967296 from by unfold cl1; omega]
    rfl
  · refine .inl ⟨by rw [show cl1 x = x from by unfold cl1; omega], ?_⟩
    have := ab_mul (a := x) (b := x) (A := 4294967296) (B := 4294967296) (by omega) (by omega)
    omega
theorem sq_nn (x : Int) : 0 ≤ x * x := by
  rcases Int.le_total 0 x with h | h
  · exact Int.mul_nonneg h h
  · have := Int.mul_nonneg (a := -x) (b := -x) (by omega) (by omega)
    rw [Int.neg_mul_neg] at this
    exact this
theorem cl1_bd {x : Int} : -4294967296 ≤ cl1 x ∧ cl1 x ≤ 4294967296 := by unfold cl1; omega
theorem cl_circle {a b : Int} (h : -35184372088832 ≤ a * a + b * b - 18446744073709551616 ∧ a * a + b * b - 18446744073709551616 ≤ 35184372088832) :
    -35184372088832 ≤ cl1 a * cl1 a + cl1 b * cl1 b - 18446744073709551616 ∧ cl1 a * cl1 a + cl1 b * cl1 b - 18446744073709551616 ≤ 35184372088832 := by
  have ha := sq_nn a
  have hb := sq_nn b
  generalize ea : a * a = A at *
  generalize eb : b * b = B at *
  have ca := @cl1_sq a
  have cb := @cl1_sq b
  rw [ea] at ca
  rw [eb] at cb
  generalize cl1 a * cl1 a = P at *
  generalize cl1 b * cl1 b = Q at *
  omega
theorem foRot_ok (u : Int) : rotS (foRot u).1.1 (foRot u).1.2 (foRot u).2.1 (foRot u).2.2 = 0 := by
  have hv : -1000000000000000 ≤ u.tmod (8 * 4294967296) ∧ u.tmod (8 * 4294967296) ≤ 1000000000000000 := by
    have h1 : u.tmod (8 * 4294967296) < 8 * 4294967296 := Int.tmod_lt_of_pos u (by omega)
    have h2 : -(8 * 4294967296) < u.tmod (8 * 4294967296) := Int.lt_tmod_of_pos u (by omega)
    omega
  unfold foRot
  dsimp only
  generalize u.tmod (8 * 4294967296) = v at *
  have hp := @wpV_le v
  obtain ⟨q, q1, q2, q3, q4, q5⟩ := qt_pair hp
  have hc := sq_circle q2 q1 q3 q5
  obtain ⟨s1, s2⟩ := snV_q hv
  obtain ⟨c1, c2⟩ := csV_q hv
  rw [s1, s2, c1, c2]
  generalize sq (qtV (wpV v)) 8 = S at *
  generalize sq (qtV (if 13493037704 < wpV v + 6746518852 then wpV v + 6746518852 - 26986075409 else wpV v + 6746518852)) 8 = C at *
  have hk := cl_circle hc
  have k1 := @cl1_bd S
  have k2 := @cl1_bd C
  have e : (nDot (cl1 C, false) (cl1 C, false) (cl1 S, false) (cl1 S, false)).1 = (cl1 C * cl1 C + cl1 S * cl1 S).tdiv 4294967296 := by
    unfold nDot
    dsimp only
    rw [whV_in (by omega) (by omega), whV_in (by omega) (by omega)]
    have := @td_err (cl1 C * cl1 C + cl1 S * cl1 S) 4294967296 (by omega)
    exact ftV_in (by omega) (by omega)
  have hd := @td_err (cl1 C * cl1 C + cl1 S * cl1 S) 4294967296 (by omega)
  unfold rotS
  rw [e, whF_in (by omega), whF_in (by omega)]
  refine if_neg ?_
  simp
  omega
end Go.Ax
end

section
/-
  Made bodies are sound, and have a mass.
-/
set_option linter.unusedVariables false
set_option linter.unusedSimpArgs false
set_option maxHeartbeats 4000000
set_option maxRecDepth 100000
namespace Go.Ax
open Go.Proofs
theorem far_no {x : Int} (h : -17592186044416 ≤ x ∧ x ≤ 17592186044416) : farB (x, false) = false := by
  unfold farB
  dsimp only
  rw [whF_in (by omega), whV_in (by omega) (by omega)]
  have : ¬ 17592186044416 < ab x := by unfold ab; split <;> omega
  rw [decide_eq_false this]
  rfl
theorem mk_place {a b c x y u s : Int} (hs : 1 ≤ s ∧ s ≤ 4000) : plErr (mkK a) (mkR a b) (mkH a b b) (mkH a b c) (mkN a) (mkX a b c) (mkY a b c) (foAt x y s) (foRot u) = 0 := by
  have h1 := @foAt_bd x s hs
  have h2 := @foAt_bd y s hs
  unfold plErr
  rw [if_neg (by rw [mk_chk]; simp), if_neg (by rw [foRot_ok]; simp)]
  unfold foAt
  dsimp only
  rw [far_no (by omega), far_no (by omega)]
  rfl
theorem mk_nwE {a b c x y u d k s : Int} (hs : 1 ≤ s ∧ s ≤ 4000) : nwE (mkK a) (mkR a b) (mkH a b b) (mkH a b c) (mkN a) (mkX a b c) (mkY a b c) (foAt x y s) (foRot u) (mkD d k) (modS k 4 != 0) = 0 := by
  unfold nwE
  rw [if_neg (by rw [mk_chk]; simp)]
  by_cases hk : modS k 4 = 0
  · have e : mkD d k = 0 := if_pos hk
    rw [e, mk_place hs, hk]
    rfl
  · have e : (modS k 4 != 0) = true := by simpa using hk
    rw [e, if_pos rfl, mk_wgE hk, mk_place hs]
    rfl
theorem cor_lo {a b c : Int} (i : Nat) (hi : i < corN (mkK a) (mkR a b) (mkH a b b) (mkH a b c) (mkN a) (mkX a b c) (mkY a b c)) : lo (corX (mkK a) (mkH a b b) (mkH a b c) (mkX a b c) i) ∧ lo (corY (mkK a) (mkH a b b) (mkH a b c) (mkY a b c) i) := by
  have w1 := @mkW_bd b b
  have w2 := @mkW_bd b c
  have h1 : ∀ v, 0 ≤ mkH a b v ∧ mkH a b v ≤ 4096 := fun v => by
    have := @mkW_bd b v
    unfold mkH
    (repeat' split) <;> omega
  have h2 := h1 b
  have h3 := h1 c
  unfold corN at hi
  rw [if_pos mk_chk] at hi
  unfold corX corY
  split at hi
  · rename_i hk
    rw [if_pos hk, if_pos hk]
    match i with
    | 0 => show lo (-mkH a b b) ∧ lo (-mkH a b c); unfold lo; omega
    | 1 => show lo (mkH a b b) ∧ lo (-mkH a b c); unfold lo; omega
    | 2 => show lo (mkH a b b) ∧ lo (mkH a b c); unfold lo; omega
    | 3 => show lo (-mkH a b b) ∧ lo (mkH a b c); unfold lo; omega
    | i + 4 => omega
  · rename_i hk
    rw [if_neg hk, if_neg hk]
    exact mk_lo i hi
theorem crI_bd {P Q : Nat → Int} {n i : Nat} (hl : ∀ i, i < n → lo (P i) ∧ lo (Q i)) (hi : i < n) : -33554432 ≤ crI P Q n i ∧ crI P Q n i ≤ 33554432 := by
  have hj : (i + 1) % n < n := Nat.mod_lt _ (by omega)
  have k1 := lo_mul (hl i hi).1 (hl _ hj).2
  have k2 := lo_mul (hl i hi).2 (hl _ hj).1
  unfold crI
  rw [wrap_in (by unfold inR; omega)]
  omega
theorem wgA_bd {P Q : Nat → Int} {n : Nat} (hn : n ≤ 8) (hl : ∀ i, i < n → lo (P i) ∧ lo (Q i)) : ∀ i : Nat, i ≤ n → -((i : Int) * 33554432) ≤ wgA P Q n i ∧ wgA P Q n i ≤ (i : Int) * 33554432
  | 0, _ => by show _ ≤ (0 : Int) ∧ (0 : Int) ≤ _; omega
  | i + 1, h => by
    have h1 := wgA_bd hn hl i (by omega)
    have h2 := crI_bd hl (show i < n by omega)
    show _ ≤ IntKind.i64.wrap (wgA P Q n i + crI P Q n i) ∧ IntKind.i64.wrap (wgA P Q n i + crI P Q n i) ≤ _
    rw [wrap_in (by unfold inR; omega)]
    omega
end Go.Ax
end

section
/-
  Made bodies have a mass.
-/
set_option linter.unusedVariables false
set_option linter.unusedSimpArgs false
set_option maxHeartbeats 4000000
set_option maxRecDepth 100000
namespace Go.Ax
open Go.Proofs
theorem ftV_ne {x : Int} (h : x ≠ 0) : ftV x ≠ 0 := by
  unfold ftV
  (repeat' split) <;> omega
theorem div_ne {x d : Int} {f : Bool} (hd : 1 ≤ d ∧ d ≤ 1000) (hx : 1000 ≤ x ∨ x ≤ -1000) (hx2 : -9223372036854775807 ≤ x) : (nDiv (x, f) (nInt d)).1 ≠ 0 := by
  rw [nInt_in (by omega)]
  show raV (whV x) (whV (d * 4294967296)) ≠ 0
  rw [whV_in (x := d * 4294967296) (by omega) (by omega), show whV x = x from by unfold whV; split <;> omega]
  unfold raV
  rw [if_neg (by omega)]
  apply ftV_ne
  intro h
  have e := @td_err (x * 4294967296) (d * 4294967296) (by omega)
  rw [h] at e
  omega
theorem tdp {n k lo' hi : Int} (hk : 0 < k) (hn : 0 ≤ n) (h1 : lo' * k ≤ n) (h2 : n < hi * k) : lo' ≤ n.tdiv k ∧ n.tdiv k < hi := by
  rw [Int.tdiv_eq_ediv_of_nonneg hn]
  exact ⟨(Int.le_ediv_iff_mul_le hk).2 h1, (Int.ediv_lt_iff_lt_mul hk).2 h2⟩
theorem ratA {A : Int} (h : -268435456 ≤ A ∧ A ≤ 268435456) : (1000 ≤ (nRat 131072 A).1 ∨ (nRat 131072 A).1 ≤ -1000) ∧ -9223372036854775807 ≤ (nRat 131072 A).1 := by
  show (1000 ≤ raV 131072 A ∨ raV 131072 A ≤ -1000) ∧ -9223372036854775807 ≤ raV 131072 A
  unfold raV
  by_cases h0 : A = 0
  · rw [if_pos h0, show cmpS 131072 0 = 1 from by decide]
    omega
  rw [if_neg h0]
  by_cases hp : 0 < A
  · obtain ⟨k1, k2⟩ := @tdp (131072 * 4294967296) A 1000 1000000000000000 hp (by omega) (by omega) (by omega)
    rw [ftV_in (by omega) (by omega)]
    omega
  · obtain ⟨k1, k2⟩ := @tdp (131072 * 4294967296) (-A) 1000 1000000000000000 (by omega) (by omega) (by omega) (by omega)
    rw [Int.tdiv_neg] at k1 k2
    rw [ftV_in (by omega) (by omega)]
    omega
theorem ratR {q : Int} (h : 256 ≤ q ∧ q ≤ 16777216) : (1000 ≤ (nDiv (nRat 65536 q) piN).1 ∨ (nDiv (nRat 65536 q) piN).1 ≤ -1000) ∧ -9223372036854775807 ≤ (nDiv (nRat 65536 q) piN).1 := by
  show (1000 ≤ raV (whV (raV 65536 q)) (whV 13493037704) ∨ raV (whV (raV 65536 q)) (whV 13493037704) ≤ -1000) ∧ -9223372036854775807 ≤ raV (whV (raV 65536 q)) (whV 13493037704)
  obtain ⟨k1, k2⟩ := @tdp (65536 * 4294967296) q 16777216 2000000000000 (by omega) (by omega) (by omega) (by omega)
  have e1 : raV 65536 q = (65536 * 4294967296 : Int).tdiv q := by
    unfold raV
    rw [if_neg (by omega), ftV_in (by omega) (by omega)]
  rw [e1]
  generalize (65536 * 4294967296 : Int).tdiv q = t at *
  rw [whV_in (by omega) (by omega), whV_in (by omega) (by omega)]
  obtain ⟨j1, j2⟩ := @tdp (t * 4294967296) 13493037704 1000 2000000000000 (by omega) (by omega) (by omega) (by omega)
  unfold raV
  rw [if_neg (by omega), ftV_in (by omega) (by omega)]
  omega
end Go.Ax
end

section
/-
  The body that sleeps.
-/
set_option linter.unusedVariables false
set_option linter.unusedSimpArgs false
set_option maxHeartbeats 4000000
set_option maxRecDepth 100000
namespace Go.Ax
open Go.Proofs
theorem sq_bd {w : Int} (h : 16 ≤ w ∧ w ≤ 4096) : 256 ≤ w * w ∧ w * w ≤ 16777216 := by
  have h1 := Int.mul_le_mul h.1 h.1 (by omega) (by omega)
  have h2 := Int.mul_le_mul h.2 h.2 (by omega) (by omega)
  omega
theorem mk_mass {a b c d : Int} : (wgS (mkK a) (mkR a b) (mkH a b b) (mkH a b c) (mkN a) (mkX a b c) (mkY a b c) (mkD d 1)).1.1 ≠ 0 := by
  have hk : modS 1 4 ≠ 0 := by decide
  have e : mkD d 1 = 1 + modS d 1000 := if_neg hk
  have hd := modS_bd (n := d) (m := 1000) (by omega)
  unfold wgS
  rw [if_pos (mk_wgE hk), e]
  unfold wgM
  by_cases h : mkK a = 1
  · rw [if_pos h]
    have h0 : modS a 5 = 0 := by
      apply Classical.byContradiction
      intro hn
      unfold mkK at h
      rw [if_neg hn] at h
      split at h <;> omega
    have hr : mkR a b = mkW b b := if_pos h0
    have hw := sq_bd (@mkW_bd b b)
    rw [hr, wrap_in (by unfold inR; omega)]
    exact div_ne (by omega) (ratR hw).1 (ratR hw).2
  · rw [if_neg h]
    have hN8 : corN (mkK a) (mkR a b) (mkH a b b) (mkH a b c) (mkN a) (mkX a b c) (mkY a b c) ≤ 8 := by
      have := chk_cases (@mk_chk a b c)
      unfold corN
      rw [if_pos mk_chk]
      split <;> omega
    have hA := wgA_bd (P := corX (mkK a) (mkH a b b) (mkH a b c) (mkX a b c)) (Q := corY (mkK a) (mkH a b b) (mkH a b c) (mkY a b c)) hN8 (fun i hi => cor_lo i hi) _ (Nat.le_refl _)
    exact div_ne (by omega) (ratA (by omega)).1 (ratA (by omega)).2
theorem mk_wgS_in {k r w t d : Int} {n : Nat} {X Y : Nat → Int} : inR (wgS k r w t n X Y d).1.1 ∧ inR (wgS k r w t n X Y d).2.1 := by
  have q : ∀ a b : Nb, inR (nDiv a b).1 := fun a b => by
    have h : rg (nDiv a b).1 := raV_rg
    unfold rg at h
    unfold inR
    omega
  unfold wgS
  split
  · unfold wgM
    split
    · exact ⟨q _ _, q _ _⟩
    · exact ⟨q _ _, q _ _⟩
  · exact ⟨by unfold inR; decide, by unfold inR; decide⟩
end Go.Ax
end

section
/-
  Made bodies: their weights are not below 0.
-/
set_option linter.unusedVariables false
set_option linter.unusedSimpArgs false
set_option maxHeartbeats 4000000
set_option maxRecDepth 100000
namespace Go.Ax
open Go.Proofs
theorem cor_nn {a b c : Int} (i : Nat) (hi : i < corN (mkK a) (mkR a b) (mkH a b b) (mkH a b c) (mkN a) (mkX a b c) (mkY a b c)) : 0 ≤ crI (corX (mkK a) (mkH a b b) (mkH a b c) (mkX a b c)) (corY (mkK a) (mkH a b b) (mkH a b c) (mkY a b c)) (corN (mkK a) (mkR a b) (mkH a b b) (mkH a b c) (mkN a) (mkX a b c) (mkY a b c)) i := by
  have hN : corN (mkK a) (mkR a b) (mkH a b b) (mkH a b c) (mkN a) (mkX a b c) (mkY a b c) = if mkK a = 2 then 4 else mkN a := if_pos mk_chk
  have hl := fun i hi => @cor_lo a b c i hi
  have e : ∀ i, i < corN (mkK a) (mkR a b) (mkH a b b) (mkH a b c) (mkN a) (mkX a b c) (mkY a b c) → crI (corX (mkK a) (mkH a b b) (mkH a b c) (mkX a b c)) (corY (mkK a) (mkH a b b) (mkH a b c) (mkY a b c)) (corN (mkK a) (mkR a b) (mkH a b b) (mkH a b c) (mkN a) (mkX a b c) (mkY a b c)) i =
      corX (mkK a) (mkH a b b) (mkH a b c) (mkX a b c) i * corY (mkK a) (mkH a b b) (mkH a b c) (mkY a b c) ((i + 1) % corN (mkK a) (mkR a b) (mkH a b b) (mkH a b c) (mkN a) (mkX a b c) (mkY a b c)) - corY (mkK a) (mkH a b b) (mkH a b c) (mkY a b c) i * corX (mkK a) (mkH a b b) (mkH a b c) (mkX a b c) ((i + 1) % corN (mkK a) (mkR a b) (mkH a b b) (mkH a b c) (mkN a) (mkX a b c) (mkY a b c)) := fun i hi => by
    have hj := Nat.mod_lt (i + 1) (show 0 < corN (mkK a) (mkR a b) (mkH a b b) (mkH a b c) (mkN a) (mkX a b c) (mkY a b c) by omega)
    have k1 := lo_mul (hl i hi).1 (hl _ hj).2
    have k2 := lo_mul (hl i hi).2 (hl _ hj).1
    unfold crI
    rw [wrap_in (by unfold inR; omega)]
  rw [e i hi]
  clear e hl
  rw [hN] at hi ⊢
  clear hN
  have b1 := @mkM_bd b b
  have b2 := @mkM_bd b c
  have t1 : (mkM b b).tdiv 2 = mkM b b / 2 := Int.tdiv_eq_ediv_of_nonneg (by omega)
  have t2 : (-mkM b b).tdiv 2 = -(mkM b b / 2) := by rw [Int.neg_tdiv, t1]
  by_cases k0 : modS a 5 = 0
  · have h1 : mkK a = 1 := if_pos k0
    have h2 : mkN a = 0 := if_pos k0
    rw [h1, h2, if_neg (by decide)] at hi
    omega
  by_cases k1 : modS a 5 = 1
  · have h1 : mkK a = 2 := (if_neg k0).trans (if_pos k1)
    have w1 := @mkW_bd b b
    have w2 := @mkW_bd b c
    have h2 : mkH a b b = mkW b b := (if_neg k0).trans (if_pos k1)
    have h3 : mkH a b c = mkW b c := (if_neg k0).trans (if_pos k1)
    rw [h2, h3]
    rw [h1, if_pos rfl] at hi ⊢
    generalize mkW b b = w at *
    generalize mkW b c = t at *
    have p := Int.mul_nonneg (show 0 ≤ w by omega) (show 0 ≤ t by omega)
    match i with
    | 0 => show 0 ≤ (-w) * (-t) - (-t) * w; rw [Int.neg_mul_neg, Int.neg_mul, Int.mul_comm t w]; omega
    | 1 => show 0 ≤ w * t - (-t) * w; rw [Int.neg_mul, Int.mul_comm t w]; omega
    | 2 => show 0 ≤ w * t - t * (-w); rw [Int.mul_neg, Int.mul_comm t w]; omega
    | 3 => show 0 ≤ (-w) * (-t) - t * (-w); rw [Int.neg_mul_neg, Int.mul_neg, Int.mul_comm t w]; omega
    | q + 4 => omega
  have h1 : mkK a = 3 := (if_neg k0).trans (if_neg k1)
  rw [h1, if_neg (by decide)] at hi ⊢
  have eX : ∀ i, corX 3 (mkH a b b) (mkH a b c) (mkX a b c) i = mkX a b c i := fun i => if_neg (by decide)
  have eY : ∀ i, corY 3 (mkH a b b) (mkH a b c) (mkY a b c) i = mkY a b c i := fun i => if_neg (by decide)
  rw [eX, eX, eY, eY]
  clear eX eY h1
  unfold mkX mkY mkP
  rw [t1, t2]
  by_cases k2 : modS a 5 = 2
  · have h2 : mkN a = 3 := (if_neg k0).trans ((if_neg k1).trans (if_pos k2))
    rw [h2] at hi ⊢
    rw [if_pos k2]
    generalize mkM b b = M at *
    generalize mkM b c = T at *
    have p := Int.mul_nonneg (show 0 ≤ M by omega) (show 0 ≤ T by omega)
    match i with
    | 0 => show 0 ≤ (-M) * (-T) - (-T) * M; rw [Int.neg_mul_neg, Int.neg_mul, Int.mul_comm T M]; omega
    | 1 => show 0 ≤ M * T - (-T) * 0; omega
    | 2 => show 0 ≤ 0 * (-T) - T * (-M); rw [Int.zero_mul, Int.mul_neg, Int.mul_comm T M]; omega
    | q + 3 => omega
  by_cases k3 : modS a 5 = 3
  · have h2 : mkN a = 5 := (if_neg k0).trans ((if_neg k1).trans ((if_neg k2).trans (if_pos k3)))
    rw [h2] at hi ⊢
    rw [if_neg k2, if_pos k3]
    generalize mkM b b = M at *
    generalize mkM b c = T at *
    have p := Int.mul_nonneg (show 0 ≤ M by omega) (show 0 ≤ T by omega)
    have q := Int.mul_nonneg (show 0 ≤ M / 2 by omega) (show 0 ≤ T by omega)
    match i with
    | 0 => show 0 ≤ (-(M / 2)) * (-T) - (-T) * (M / 2); rw [Int.neg_mul_neg, Int.neg_mul, Int.mul_comm T (M / 2)]; omega
    | 1 => show 0 ≤ M / 2 * 0 - (-T) * M; rw [Int.neg_mul, Int.mul_comm T M]; omega
    | 2 => show 0 ≤ M * T - 0 * 0; omega
    | 3 => show 0 ≤ 0 * 0 - T * (-M); rw [Int.zero_mul, Int.mul_neg, Int.mul_comm T M]; omega
    | 4 => show 0 ≤ (-M) * (-T) - 0 * (-(M / 2)); rw [Int.neg_mul_neg]; omega
    | q + 5 => omega
  · have h2 : mkN a = 8 := (if_neg k0).trans ((if_neg k1).trans ((if_neg k2).trans (if_neg k3)))
    rw [h2] at hi ⊢
    rw [if_neg k2, if_neg k3]
    generalize mkM b b = M at *
    have p := Int.mul_nonneg (show 0 ≤ M by omega) (show 0 ≤ M by omega)
    have q := Int.mul_nonneg (show 0 ≤ M by omega) (show 0 ≤ M / 2 by omega)
    have s := Int.mul_nonneg (show 0 ≤ M / 2 by omega) (show 0 ≤ M / 2 by omega)
    have u : M * (M / 2) ≤ M * M := Int.mul_le_mul_of_nonneg_left (by omega) (by omega)
    have v : M / 2 * (M / 2) ≤ M * (M / 2) := Int.mul_le_mul_of_nonneg_right (by omega) (by omega)
    match i with
    | 0 => show 0 ≤ M * (M / 2) - (-(M / 2)) * M; rw [Int.neg_mul, Int.mul_comm (M / 2) M]; omega
    | 1 => show 0 ≤ M * M - M / 2 * (M / 2); omega
    | 2 => show 0 ≤ M / 2 * M - M * (-(M / 2)); rw [Int.mul_neg, Int.mul_comm (M / 2) M]; omega
    | 3 => show 0 ≤ (-(M / 2)) * (M / 2) - M * (-M); rw [Int.neg_mul, Int.mul_neg]; omega
    | 4 => show 0 ≤ (-M) * (-(M / 2)) - M / 2 * (-M); rw [Int.neg_mul_neg, Int.mul_neg, Int.mul_comm (M / 2) M]; omega
    | 5 => show 0 ≤ (-M) * (-M) - (-(M / 2)) * (-(M / 2)); rw [Int.neg_mul_neg, Int.neg_mul_neg]; omega
    | 6 => show 0 ≤ (-(M / 2)) * (-M) - (-M) * (M / 2); rw [Int.neg_mul_neg, Int.neg_mul, Int.mul_comm (M / 2) M]; omega
    | 7 => show 0 ≤ M / 2 * (-(M / 2)) - (-M) * M; rw [Int.mul_neg, Int.neg_mul]; omega
    | q + 8 => omega
theorem wgA_nn {P Q : Nat → Int} {n : Nat} (hn : n ≤ 8) (hl : ∀ i, i < n → lo (P i) ∧ lo (Q i)) (hc : ∀ i, i < n → 0 ≤ crI P Q n i) : ∀ i : Nat, i ≤ n → 0 ≤ wgA P Q n i ∧ wgA P Q n i ≤ (i : Int) * 33554432
  | 0, _ => by show (0 : Int) ≤ 0 ∧ (0 : Int) ≤ _; omega
  | i + 1, h => by
    have h1 := wgA_nn hn hl hc i (by omega)
    have h2 := crI_bd hl (show i < n by omega)
    have h3 := hc i (by omega)
    show 0 ≤ IntKind.i64.wrap (wgA P Q n i + crI P Q n i) ∧ IntKind.i64.wrap (wgA P Q n i + crI P Q n i) ≤ _
    rw [wrap_in (by unfold inR; omega)]
    omega
theorem doI_eq {P Q : Nat → Int} {i j : Nat} (h1 : lo (P i)) (h2 : lo (Q i)) (h3 : lo (P j)) (h4 : lo (Q j)) : doI P Q i j = P i * P j + Q i * Q j ∧ -33554432 ≤ doI P Q i j ∧ doI P Q i j ≤ 33554432 := by
  have k1 := lo_mul h1 h3
  have k2 := lo_mul h2 h4
  unfold doI
  rw [wrap_in (x := P i * P j) (by unfold inR; omega), wrap_in (x := Q i * Q j) (by unfold inR; omega), wrap_in (by unfold inR; omega)]
  exact ⟨rfl, by omega, by omega⟩
theorem sq_3 (a b : Int) : 0 ≤ a * a + a * b + b * b := by
  have h1 := sq0 a
  have h2 := sq0 b
  have h3 := sq0 (a + b)
  rw [Int.add_mul, Int.mul_add, Int.mul_add, Int.mul_comm b a] at h3
  omega
theorem wgB_nn {P Q : Nat → Int} {n : Nat} (hn : n ≤ 8) (hl : ∀ i, i < n → lo (P i) ∧ lo (Q i)) (hc : ∀ i, i < n → 0 ≤ crI P Q n i) : ∀ i : Nat, i ≤ n → 0 ≤ wgB P Q n i ∧ wgB P Q n i ≤ (i : Int) * 3377699720527872
  | 0, _ => by show (0 : Int) ≤ 0 ∧ (0 : Int) ≤ _; omega
  | i + 1, h => by
    have h1 := wgB_nn hn hl hc i (by omega)
    have h2 := crI_bd hl (show i < n by omega)
    have h3 := hc i (by omega)
    have hj := Nat.mod_lt (i + 1) (show 0 < n by omega)
    have hi := hl i (by omega)
    have hk := hl _ hj
    have d1 := @doI_eq P Q i i hi.1 hi.2 hi.1 hi.2
    have d2 := @doI_eq P Q i ((i + 1) % n) hi.1 hi.2 hk.1 hk.2
    have d3 := @doI_eq P Q ((i + 1) % n) ((i + 1) % n) hk.1 hk.2 hk.1 hk.2
    show 0 ≤ IntKind.i64.wrap (wgB P Q n i + IntKind.i64.wrap (crI P Q n i * IntKind.i64.wrap (IntKind.i64.wrap (doI P Q i i + doI P Q i ((i + 1) % n)) + doI P Q ((i + 1) % n) ((i + 1) % n)))) ∧ IntKind.i64.wrap (wgB P Q n i + IntKind.i64.wrap (crI P Q n i * IntKind.i64.wrap (IntKind.i64.wrap (doI P Q i i + doI P Q i ((i + 1) % n)) + doI P Q ((i + 1) % n) ((i + 1) % n)))) ≤ _
    rw [wrap_in (x := doI P Q i i + doI P Q i ((i + 1) % n)) (by unfold inR; omega), wrap_in (x := doI P Q i i + doI P Q i ((i + 1) % n) + doI P Q ((i + 1) % n) ((i + 1) % n)) (by unfold inR; omega)]
    have s1 := sq_3 (P i) (P ((i + 1) % n))
    have s2 := sq_3 (Q i) (Q ((i + 1) % n))
    have hs : 0 ≤ doI P Q i i + doI P Q i ((i + 1) % n) + doI P Q ((i + 1) % n) ((i + 1) % n) := by omega
    have hs2 : doI P Q i i + doI P Q i ((i + 1) % n) + doI P Q ((i + 1) % n) ((i + 1) % n) ≤ 100663296 := by omega
    generalize doI P Q i i + doI P Q i ((i + 1) % n) + doI P Q ((i + 1) % n) ((i + 1) % n) = S at *
    have p1 := Int.mul_nonneg h3 hs
    have p2 : crI P Q n i * S ≤ 33554432 * 100663296 := Int.mul_le_mul h2.2 hs2 hs (by omega)
    rw [wrap_in (x := crI P Q n i * S) (by unfold inR; omega), wrap_in (by unfold inR; omega)]
    omega
theorem nn_wh {x : Int} (h : 0 ≤ x) : 0 ≤ whV x := by unfold whV; split <;> omega
theorem nn_ft {x : Int} (h : 0 ≤ x) : 0 ≤ ftV x := by unfold ftV; (repeat' split) <;> omega
theorem nn_ra {a b : Int} (ha : 0 ≤ a) (hb : 0 ≤ b) : 0 ≤ raV a b := by
  unfold raV
  split
  · unfold cmpS
    (repeat' split) <;> omega
  · exact nn_ft (Int.tdiv_nonneg (by omega) hb)
theorem nn_rat {a b : Int} (ha : 0 ≤ a) (hb : 0 ≤ b) : 0 ≤ (nRat a b).1 := nn_ra ha hb
theorem nn_div {a b : Nb} (ha : 0 ≤ a.1) (hb : 0 ≤ b.1) : 0 ≤ (nDiv a b).1 := nn_ra (nn_wh ha) (nn_wh hb)
theorem nn_int {x : Int} (h : 0 ≤ x) : 0 ≤ (nInt x).1 := nn_ft (by omega)
theorem wg_nn {a b c d k : Int} (hk : modS k 4 ≠ 0) : 0 < (wgS (mkK a) (mkR a b) (mkH a b b) (mkH a b c) (mkN a) (mkX a b c) (mkY a b c) (mkD d k)).1.1 ∧ 0 ≤ (wgS (mkK a) (mkR a b) (mkH a b b) (mkH a b c) (mkN a) (mkX a b c) (mkY a b c) (mkD d k)).2.1 := by
  have e : mkD d k = 1 + modS d 1000 := if_neg hk
  have hd := modS_bd (n := d) (m := 1000) (by omega)
  have e2 : mkD d 1 = 1 + modS d 1000 := if_neg (by decide)
  have ne := @mk_mass a b c d
  rw [e2] at ne
  have hE := @mk_wgE a b c d k hk
  rw [e] at hE ⊢
  have hS : wgS (mkK a) (mkR a b) (mkH a b b) (mkH a b c) (mkN a) (mkX a b c) (mkY a b c) (1 + modS d 1000) = wgM (mkK a) (mkR a b) (mkH a b b) (mkH a b c) (mkN a) (mkX a b c) (mkY a b c) (1 + modS d 1000) := if_pos hE
  rw [hS] at ne ⊢
  suffices h : 0 ≤ (wgM (mkK a) (mkR a b) (mkH a b b) (mkH a b c) (mkN a) (mkX a b c) (mkY a b c) (1 + modS d 1000)).1.1 ∧ 0 ≤ (wgM (mkK a) (mkR a b) (mkH a b b) (mkH a b c) (mkN a) (mkX a b c) (mkY a b c) (1 + modS d 1000)).2.1 by
    exact ⟨by have := h.1; omega, h.2⟩
  have hp : 0 ≤ piN.1 := by decide
  have hi : 0 ≤ (nInt (1 + modS d 1000)).1 := nn_int (by omega)
  unfold wgM
  by_cases h : mkK a = 1
  · rw [if_pos h]
    have h0 : modS a 5 = 0 := by
      apply Classical.byContradiction
      intro hn
      unfold mkK at h
      rw [if_neg hn] at h
      split at h <;> omega
    have hr : mkR a b = mkW b b := if_pos h0
    have hw := sq_bd (@mkW_bd b b)
    have hq := Int.mul_le_mul hw.2 hw.2 (by omega) (by omega)
    have hq0 := Int.mul_nonneg (show 0 ≤ mkW b b * mkW b b by omega) (show 0 ≤ mkW b b * mkW b b by omega)
    rw [hr, wrap_in (x := mkW b b * mkW b b) (by unfold inR; omega), wrap_in (x := mkW b b * mkW b b * (mkW b b * mkW b b)) (by unfold inR; omega)]
    exact ⟨nn_div (nn_div (nn_rat (by decide) (by omega)) hp) hi, nn_div (nn_div (nn_rat (by decide) (by omega)) hp) hi⟩
  · rw [if_neg h]
    have hN8 : corN (mkK a) (mkR a b) (mkH a b b) (mkH a b c) (mkN a) (mkX a b c) (mkY a b c) ≤ 8 := by
      have := chk_cases (@mk_chk a b c)
      unfold corN
      rw [if_pos mk_chk]
      split <;> omega
    have hA := wgA_nn (P := corX (mkK a) (mkH a b b) (mkH a b c) (mkX a b c)) (Q := corY (mkK a) (mkH a b b) (mkH a b c) (mkY a b c)) hN8 (fun i hi => cor_lo i hi) (fun i hi => cor_nn i hi) _ (Nat.le_refl _)
    have hB := wgB_nn (P := corX (mkK a) (mkH a b b) (mkH a b c) (mkX a b c)) (Q := corY (mkK a) (mkH a b b) (mkH a b c) (mkY a b c)) hN8 (fun i hi => cor_lo i hi) (fun i hi => cor_nn i hi) _ (Nat.le_refl _)
    exact ⟨nn_div (nn_rat (by decide) hA.1) hi, nn_div (nn_rat (by decide) hB.1) hi⟩
end Go.Ax
end

section
/-
  Made bodies: what they are.
-/
set_option linter.unusedVariables false
set_option linter.unusedSimpArgs false
set_option maxHeartbeats 4000000
set_option maxRecDepth 100000
namespace Go.Ax
open Go.Proofs
def mkWt (a b c d k : Int) : Nb × Nb := nwW (mkK a) (mkR a b) (mkH a b b) (mkH a b c) (mkN a) (mkX a b c) (mkY a b c) (mkD d k) (modS k 4 != 0)
theorem mk0_eq {a b c x y u d k s : Int} (hs : 1 ≤ s ∧ s ≤ 4000) : mk0 a b c x y u d k s = ⟨mkK a, mkR a b, mkH a b b, mkH a b c, mkN a, mkX a b c, mkY a b c, foAt x y s, foRot u, zV, (0, false), (mkWt a b c d k).1, (mkWt a b c d k).2, 0, false, false, 1⟩ := by
  have hE := @mk_nwE a b c x y u d k s hs
  unfold mk0 nwB
  rw [if_pos hE]
  rfl
/-- The velocities of a made body; its state. -/
def mkV (p q k : Int) : V2 := if modS k 4 = 1 then (nuN p 200, nuN q 200) else zV
def mkO (r k : Int) : Nb := if modS k 4 = 1 then nuN r 60 else (0, false)
def mkSt (k : Int) : Int := if modS k 4 = 2 then 30 else 0
theorem mkB_eq {a b c x y u p q r d k s : Int} (hs : 1 ≤ s ∧ s ≤ 4000) : mkB a b c x y u p q r d k s = ⟨mkK a, mkR a b, mkH a b b, mkH a b c, mkN a, mkX a b c, mkY a b c, foAt x y s, foRot u, mkV p q k, mkO r k, (mkWt a b c d k).1, (mkWt a b c d k).2, mkSt k, decide (modS k 4 = 2 ∨ modS k 4 = 3), decide (modS k 4 = 3), 1⟩ := by
  unfold mkB mkV mkO mkSt
  rw [mk0_eq hs]
  by_cases h1 : modS k 4 = 1
  · rw [if_pos h1, if_pos h1, if_pos h1, if_neg (by omega), decide_eq_false (by omega), decide_eq_false (by omega)]
  · rw [if_neg h1, if_neg h1, if_neg h1]
    by_cases h2 : modS k 4 = 2
    · rw [if_pos h2, if_pos h2, decide_eq_true (by omega), decide_eq_false (by omega)]
    · rw [if_neg h2, if_neg h2]
      by_cases h3 : modS k 4 = 3
      · rw [if_pos h3, decide_eq_true (by omega), decide_eq_true h3]
      · rw [if_neg h3, decide_eq_false (by omega), decide_eq_false h3]
theorem nu_bd {x s : Int} (h : 1 ≤ s ∧ s ≤ 200) : -858993459200 < (nuN x s).1 ∧ (nuN x s).1 < 858993459200 := by
  have h1 : x.tmod (s * 4294967296) < s * 4294967296 := Int.tmod_lt_of_pos x (by omega)
  have h2 : -(s * 4294967296) < x.tmod (s * 4294967296) := Int.lt_tmod_of_pos x (by omega)
  show -858993459200 < x.tmod (s * 4294967296) ∧ x.tmod (s * 4294967296) < 858993459200
  omega
theorem mkWt_in {a b c d k : Int} : inR (mkWt a b c d k).1.1 ∧ inR (mkWt a b c d k).2.1 := by
  unfold mkWt nwW
  split
  · exact mk_wgS_in
  · exact ⟨by show inR 0; unfold inR; decide, by show inR 0; unfold inR; decide⟩
theorem mkB_in {a b c x y u p q r d k s : Int} (hs : 1 ≤ s ∧ s ≤ 4000) : inB (mkB a b c x y u p q r d k s) := by
  rw [mkB_eq hs]
  have hm := @mkWt_in a b c d k
  have w1 := @mkW_bd b b
  have h1 : ∀ v, inR (mkH a b v) := fun v => by
    have := @mkW_bd b v
    unfold mkH inR
    (repeat' split) <;> omega
  have hz : inR 0 := by unfold inR; decide
  have hu : ∀ x s, 1 ≤ s ∧ s ≤ 200 → inR (nuN x s).1 := fun x s h => by
    have := @nu_bd x s h
    unfold inR; omega
  refine ⟨?_, ?_, h1 b, h1 c, fun j hj => mk_inR j hj, tmod_inR (by omega), tmod_inR (by omega), csV_inR, snV_inR, ?_, ?_, ?_, hm.1, hm.2, ?_, (by unfold inR; decide : inR 1)⟩
  · show inR (mkK a)
    unfold mkK inR
    (repeat' split) <;> omega
  · show inR (mkR a b)
    unfold mkR inR
    (repeat' split) <;> omega
  · show inR (mkV p q k).1.1
    unfold mkV
    split
    · exact hu _ _ (by omega)
    · exact hz
  · show inR (mkV p q k).2.1
    unfold mkV
    split
    · exact hu _ _ (by omega)
    · exact hz
  · show inR (mkO r k).1
    unfold mkO
    split
    · exact hu _ _ (by omega)
    · exact hz
  · show inR (mkSt k)
    unfold mkSt
    split
    · unfold inR; decide
    · exact hz
theorem mkB_n {a b c x y u p q r d k s : Int} (hs : 1 ≤ s ∧ s ≤ 4000) : (mkB a b c x y u p q r d k s).n ≤ 1000 := by
  rw [mkB_eq hs]
  show mkN a ≤ 1000
  unfold mkN
  (repeat' split) <;> omega
/-- Weights that are not below 0. -/
def gw (b : Bd) : Prop := 0 ≤ b.m.1 ∧ 0 ≤ b.i.1
theorem mkB_gw {a b c x y u p q r d k s : Int} (hs : 1 ≤ s ∧ s ≤ 4000) : gw (mkB a b c x y u p q r d k s) ∧ (mvS (mkB a b c x y u p q r d k s) = true → 0 < (mkB a b c x y u p q r d k s).m.1) := by
  rw [mkB_eq hs]
  show (0 ≤ (mkWt a b c d k).1.1 ∧ 0 ≤ (mkWt a b c d k).2.1) ∧ ((!((mkWt a b c d k).1.1 == 0 && (mkWt a b c d k).2.1 == 0)) = true → 0 < (mkWt a b c d k).1.1)
  by_cases hk : modS k 4 = 0
  · have e : mkWt a b c d k = ((0, false), (0, false)) := if_neg (by rw [hk]; decide)
    rw [e]
    exact ⟨⟨by decide, by decide⟩, fun h => by revert h; decide⟩
  · have e : mkWt a b c d k = wgS (mkK a) (mkR a b) (mkH a b b) (mkH a b c) (mkN a) (mkX a b c) (mkY a b c) (mkD d k) := if_pos (by simpa using hk)
    rw [e]
    have h := @wg_nn a b c d k hk
    exact ⟨⟨by omega, h.2⟩, fun _ => h.1⟩
end Go.Ax
end

section
/-
  Impulses lie in the cone of friction.
-/
set_option linter.unusedVariables false
set_option linter.unusedSimpArgs false
set_option maxHeartbeats 4000000
set_option maxRecDepth 100000
namespace Go.Ax
open Go.Proofs
theorem wh_pos {x : Int} (h : 0 ≤ x) (hr : inR x) : whV x = x := by
  unfold inR at hr
  unfold whV
  split <;> omega
theorem ft_ge {x y : Int} (h : x ≤ y) (hx : -9223372036854775807 ≤ x) (hx2 : x ≤ 9223372036854775807) : x ≤ ftV y := by unfold ftV; (repeat' split) <;> omega
theorem nn_mul2 {a : Nb} : 0 ≤ (nMul a a).1 := by
  show 0 ≤ ftV ((whV a.1 * whV a.1).tdiv 4294967296)
  exact nn_ft (Int.tdiv_nonneg (sq0 _) (by decide))
theorem nn_mul {a b : Nb} (ha : 0 ≤ a.1) (hb : 0 ≤ b.1) : 0 ≤ (nMul a b).1 := by
  show 0 ≤ ftV ((whV a.1 * whV b.1).tdiv 4294967296)
  exact nn_ft (Int.tdiv_nonneg (Int.mul_nonneg (nn_wh ha) (nn_wh hb)) (by decide))
theorem add_ge {a b : Nb} (ha : 0 ≤ a.1) (hb : 0 ≤ b.1) (hr : inR a.1) : a.1 ≤ (nAdd a b).1 := by
  show a.1 ≤ ftV (whV a.1 + whV b.1)
  rw [wh_pos ha hr]
  have := nn_wh hb
  unfold inR at hr
  exact ft_ge (by omega) (by omega) (by omega)
theorem add_comm' {a b : Nb} : (nAdd a b).1 = (nAdd b a).1 := by
  show ftV _ = ftV _
  rw [Int.add_comm]
theorem hft_ge {b : Bd} {x n : V2} (hg : gw b) (hr : inR b.m.1) : b.m.1 ≤ (hftS b x n).1 := add_ge hg.1 (nn_mul hg.2 nn_mul2) hr
theorem sliK_ne {a b : Bd} {x n : V2} (ha : gw a) (hb : gw b) (ra : inR a.m.1) (rb : inR b.m.1) (h : 0 < a.m.1 ∨ 0 < b.m.1) : ¬ (sliK a b x n).1 = 0 := by
  have h1 := hft_ge (x := x) (n := n) ha ra
  have h2 := hft_ge (x := x) (n := n) hb rb
  have k1 := ha.1
  have k2 := hb.1
  have r1 : inR (hftS a x n).1 := of_eq_true iHft
  have r2 : inR (hftS b x n).1 := of_eq_true iHft
  have s1 := add_ge (a := hftS a x n) (b := hftS b x n) (by omega) (by omega) r1
  have s2 := add_ge (a := hftS b x n) (b := hftS a x n) (by omega) (by omega) r2
  rw [add_comm'] at s2
  unfold sliK
  omega
theorem psh_mi {b : Bd} {p j : V2} : (pshS b p j).m = b.m ∧ (pshS b p j).i = b.i := by
  unfold pshS
  split
  · exact ⟨rfl, rfl⟩
  · dsimp only
    split
    · unfold wakS
      split <;> exact ⟨rfl, rfl⟩
    · exact ⟨rfl, rfl⟩
theorem psh_gw {b : Bd} {p j : V2} (h : gw b) : gw (pshS b p j) := by
  unfold gw
  rw [psh_mi.1, psh_mi.2]
  exact h
/-- Two bodies, one of which can be moved. -/
def gw2 (a b : Bd) : Prop := gw a ∧ gw b ∧ inR a.m.1 ∧ inR b.m.1 ∧ (0 < a.m.1 ∨ 0 < b.m.1)
theorem gw2_psh {a b : Bd} {p j q l : V2} (h : gw2 a b) : gw2 (pshS a p j) (pshS b q l) := by
  obtain ⟨h1, h2, h3, h4, h5⟩ := h
  refine ⟨psh_gw h1, psh_gw h2, ?_, ?_, ?_⟩
  · rw [psh_mi.1]; exact h3
  · rw [psh_mi.1]; exact h4
  · rw [psh_mi.1, psh_mi.1]; exact h5
theorem gw2_ne {a b : Bd} {x n : V2} (h : gw2 a b) : ¬ (sliK a b x n).1 = 0 := sliK_ne h.1 h.2.1 h.2.2.1 h.2.2.2.1 h.2.2.2.2
/-- An impulse and its friction lie in the cone. -/
def coneB (p r : Nb) : Prop := 0 ≤ p.1 ∧ inR p.1 ∧ whV (ab (whV r.1)) ≤ whV (nMul p (nRat 1 2)).1
theorem nPos_nn {a : Nb} : 0 ≤ (nPos a).1 := by
  unfold nPos
  dsimp only
  split <;> omega
theorem hitR_cone {a b : Bd} {x n : V2} {pu ru : Nb} (h : gw2 a b) (hp : inR pu.1) (hr : inR ru.1) : coneB (hitR a b x n pu ru).p (hitR a b x n pu ru).r ∧ gw2 (hitR a b x n pu ru).a (hitR a b x n pu ru).b := by
  have h2 : gw2 (apaA a x n (nSub (hitN a b x n pu) pu)) (apaB b x n (nSub (hitN a b x n pu) pu)) := gw2_psh h
  rw [hitR_c (gw2_ne h) (gw2_ne h2)]
  dsimp only
  refine ⟨⟨nPos_nn, of_eq_true (iPos (of_eq_true iAdd)), ?_⟩, gw2_psh h2⟩
  have hn : 0 ≤ (hitN a b x n pu).1 := nPos_nn
  have hm : 0 ≤ (nMul (hitN a b x n pu) (nRat 1 2)).1 := nn_mul hn (nn_rat (by decide) (by decide))
  have hi : inR (nMul (hitN a b x n pu) (nRat 1 2)).1 := of_eq_true iMul
  unfold hitY nCl
  dsimp only
  generalize nMul (hitN a b x n pu) (nRat 1 2) = M at *
  have e : whV (nNeg M).1 = -M.1 := by
    show whV (-whV M.1) = _
    rw [wh_pos hm hi]
    unfold inR at hi
    unfold whV
    split <;> omega
  rw [e, wh_pos hm hi]
  generalize whV (nAdd ru _).1 = v
  unfold inR at hi
  unfold ab whV
  (repeat' split) <;> omega
end Go.Ax
end

section
/-
  Lists of few bodies.
-/
set_option linter.unusedVariables false
set_option linter.unusedSimpArgs false
set_option maxHeartbeats 4000000
set_option maxRecDepth 100000
namespace Go.Ax
open Go.Proofs
end Go.Ax
end

section
/-
  The frame of a law: its arguments ars abstract values, and what they read ars behind the call.
-/
set_option linter.unusedSimpArgs false
set_option linter.unusedVariables false
namespace Go.Ax
open Go.ChangeShapes Go.WideShapes Go.ChangeAt Go.RowKit

/-- What an argument is. -/
inductive ShV where
  | int (k : IntKind)
  | bool
  | agg (es : List Sh)
  | slice (sz : Nat) (es : List Sh)

def shV (P : Program) (t : TypeId) : Option ShV :=
  match P.underlying t with
  | some .bool => some .bool
  | some (.int k) => some (.int k)
  | some (.slice _) => match shT P 9 t with
    | some [.slice sz es] => some (.slice sz es)
    | _ => none
  | some (.struct _) => (shT P 9 t).map .agg
  | some (.array _ _) => (shT P 9 t).map .agg
  | _ => none

def fitV : ShV → AV → Prop
  | .int k, a => ∃ n, a = .v (.int k n) ∧ (Lit.int k n).wf = true
  | .bool, a => ∃ b, a = .v (.bool b)
  | .agg es, a => ∃ l, a = .agg l ∧ fitS es l
  | .slice sz es, a => ∃ (n : Nat) (get : Nat → List AV), a = .ro n sz get ∧ n ≤ maxLen ∧ ∀ i, fitS es (get i)

def shVs (P : Program) : List TypeId → Option (List ShV)
  | [] => some []
  | t :: ts => match shV P t, shVs P ts with
    | some s, some r => some (s :: r)
    | _, _ => none
def fitVs : List ShV → List AV → Prop
  | [], l => l = []
  | s :: ss, l => ∃ a r, l = a :: r ∧ fitV s a ∧ fitVs ss r

section
variable {H : Type} {enc : TypeId × Value → H} {P : Program} {w : World} {spare : Nat → Bool} {held : Bool} {base : Nat}

theorem okWide_agg_struct {t : TypeId} {fs : Array Field} {v : Value} (ht : P.underlying t = some (.struct fs)) (h : Value.okWide P w .any base t v) : ∃ cs, v = .agg cs := by
  obtain ⟨cs, h, _⟩ := okWide_struct ht h
  exact ⟨cs, h⟩
theorem trod_agg_array {t e : TypeId} {n : Nat} {v : Value} {x : DataW H} {ps : List MemPlace} (ht : P.underlying t = some (.array n e)) (h : Value.okWide P w .any base t v) : ∃ cs, v = .agg cs := by
  cases v <;> simp [Value.okWide, Value.ok, ht] at h <;> exact ⟨_, rfl⟩

theorem arg_read {t : TypeId} {s : ShV} {v : Value} {x : DataW H} {ps : List MemPlace} (hs : shV P t = some s) (ho : Value.okWide P w .any base t v) (h : DataW.Trod enc P w 0 spare held t v x ps) : ∃ a, fitV s a ∧ R w (.ext (All w)) a v := by
  unfold shV at hs
  split at hs
  · rename_i hu
    cases hs
    obtain ⟨b, rfl⟩ := okWide_bool hu ho
    exact ⟨_, ⟨b, rfl⟩, .v⟩
  · rename_i k hu
    cases hs
    obtain ⟨n, rfl, _, _, hw⟩ := open_int hu ho h
    exact ⟨_, ⟨n, rfl, hw⟩, .v⟩
  · rename_i e hu
    split at hs
    · rename_i sz es he
      cases hs
      obtain ⟨a, len, cap, rfl⟩ := okWide_slice hu ho
      obtain ⟨n, get, h1, h2, h3⟩ := slice_read he h
      exact ⟨_, ⟨n, get, rfl, h1, h2⟩, h3⟩
    · cases hs
  · rename_i fs hu
    obtain ⟨es, he, rfl⟩ := Option.map_eq_some_iff.1 hs
    obtain ⟨cs, rfl⟩ := okWide_agg_struct hu ho
    obtain ⟨l, h1, h2⟩ := agg_read he h
    exact ⟨_, ⟨l, rfl, h1⟩, h2⟩
  · rename_i n e hu
    obtain ⟨es, he, rfl⟩ := Option.map_eq_some_iff.1 hs
    obtain ⟨cs, rfl⟩ := trod_agg_array (x := x) (ps := ps) hu ho
    obtain ⟨l, h1, h2⟩ := agg_read he h
    exact ⟨_, ⟨l, rfl, h1⟩, h2⟩
  · cases hs

theorem args_read : ∀ {ts : List TypeId} {ss : List ShV} {vs : List Value} {ds : List (DataW H)} {ps : List MemPlace}, shVs P ts = some ss → (∀ (j : Nat) t v, ts[j]? = some t → vs[j]? = some v → Value.okWide P w .any base t v) →
    DataW.TrodAll enc P w 0 spare held ts vs ds ps → ∃ l, fitVs ss l ∧ Rs w (.ext (All w)) l vs
  | [], ss, vs, ds, ps, hs, ho, h => by
    simp only [shVs, Option.some.injEq] at hs
    subst hs
    obtain ⟨rfl, rfl, rfl⟩ := trodAll_nil h
    exact ⟨[], rfl, .nil⟩
  | t :: ts, ss, vs, ds, ps, hs, ho, h => by
    simp only [shVs] at hs
    split at hs
    · rename_i s r h1 h2
      cases hs
      obtain ⟨v, vs', d, ds', p, q, rfl, rfl, rfl, h3, h4⟩ := trodAll_cons h
      obtain ⟨a, a1, a2⟩ := arg_read h1 (ho 0 t v rfl rfl) h3
      obtain ⟨l, b1, b2⟩ := args_read h2 (fun j t v hj hv => ho (j + 1) t v (by simpa using hj) (by simpa using hv)) h4
      exact ⟨a :: l, ⟨a, l, rfl, a1, b1⟩, Rs.cons a2 b2⟩
    · cases hs

/-- Types that may be read whole. -/
def readOK (P : Program) (ts : List TypeId) : Bool := ts.all fun t => P.readableRec t && decide (t < P.types.size)

theorem args_stay {W W' : World} (hl : laidOutB P = true) (hb : Below W.heap.size W W') : ∀ {ts : List TypeId} {vs : List Value} {ds : List (DataW H)} {ps : List MemPlace}, readOK P ts = true →
    DataW.TrodAll enc P W 0 (fun _ => true) true ts vs ds ps → ∃ ps, DataW.TrodAll enc P W' 0 (fun b => decide (b < W.heap.size)) true ts vs ds ps
  | [], vs, ds, ps, _, h => by
    obtain ⟨rfl, rfl, rfl⟩ := trodAll_nil h
    exact ⟨[], rfl⟩
  | t :: ts, vs, ds, ps, hr, h => by
    obtain ⟨v, vs', d, ds', p, q, rfl, rfl, rfl, h3, h4⟩ := trodAll_cons h
    simp only [readOK, List.all_cons, Bool.and_eq_true, decide_eq_true_eq] at hr
    obtain ⟨q', h5⟩ := args_stay hl hb (by simpa [readOK] using hr.2) h4
    refine ⟨_, trodAll_cons_mk (Below.trod hl hr.1.1 hr.1.2 h3 hb ?_) h5⟩
    obtain ⟨m, hm⟩ := h3
    exact DataW.trod_lt m _ _ _ hm
end
end Go.Ax
end

section
/-
  Laws about bodies: their arguments.
-/
set_option linter.unusedVariables false
set_option linter.unusedSimpArgs false
set_option maxHeartbeats 4000000
set_option maxRecDepth 100000
namespace Go.Ax
open Go.Proofs
end Go.Ax
end
