/-
  Made polygons of five and eight corners are convex.
-/
import Derived.Test.YtafigekkhpepkaaGreatCM8
set_option linter.unusedVariables false
set_option linter.unusedSimpArgs false
section
set_option maxHeartbeats 4000000
set_option maxRecDepth 100000
namespace Go.Ax
open Go.Proofs
theorem pen_cvx {M T h:Int} (hM:64 ≤ M) (hT:64 ≤ T) (h1:2 * h ≤ M) (h2:M ≤ 2 * h + 1) {X Y:Nat → Int} (x0:X 0 = -h) (y0:Y 0 = -T) (x1:X 1 = h) (y1:Y 1 = -T) (x2:X 2 = M) (y2:Y 2 = 0) (x3:X 3 = 0) (y3:Y 3 = T) (x4:X 4 = -M) (y4:Y 4 = 0):cvxS 5 X Y = true:=by
 obtain ⟨p1,p2⟩:=mul_ge hM hT
 have q1:(2 * h) * T ≤ M * T:=Int.mul_le_mul_of_nonneg_right h1 (by omega)
 have q2:M * T ≤ (2 * h + 1) * T:=Int.mul_le_mul_of_nonneg_right h2 (by omega)
 have q3:h * 64 ≤ h * T:=Int.mul_le_mul_of_nonneg_left hT (by omega)
 rw [Int.mul_assoc] at q1
 rw [Int.add_mul,Int.mul_assoc,Int.one_mul] at q2
 unfold cvxS
 refine decide_eq_true fun i hi => ?_
 match i,hi with
 | 0,_ =>
  rw [show nxt 5 0 = 1 from rfl,show nxt2 5 0 = 2 from rfl,x0,x1,x2,y0,y1,y2]
  refine ⟨?_,fun j hj k1 k2 => ?_⟩
  ·simp only [Int.sub_mul,Int.mul_sub,Int.add_mul,Int.mul_add,Int.neg_mul,Int.mul_neg,Int.zero_mul,Int.mul_zero,Int.mul_comm T M,Int.mul_comm T h,Int.neg_neg,ab]
   (repeat' split) <;> omega
  ·match j,hj,k1,k2 with
   | 0,_,k1,k2 => exact absurd rfl k1
   | 1,_,k1,k2 => exact absurd rfl k2
   | 2,_,_,_ =>
    rw [x2,y2]
    simp only [Int.sub_mul,Int.mul_sub,Int.add_mul,Int.mul_add,Int.neg_mul,Int.mul_neg,Int.zero_mul,Int.mul_zero,Int.mul_comm T M,Int.mul_comm T h,Int.neg_neg,ab]
    omega
   | 3,_,_,_ =>
    rw [x3,y3]
    simp only [Int.sub_mul,Int.mul_sub,Int.add_mul,Int.mul_add,Int.neg_mul,Int.mul_neg,Int.zero_mul,Int.mul_zero,Int.mul_comm T M,Int.mul_comm T h,Int.neg_neg,ab]
    omega
   | 4,_,_,_ =>
    rw [x4,y4]
    simp only [Int.sub_mul,Int.mul_sub,Int.add_mul,Int.mul_add,Int.neg_mul,Int.mul_neg,Int.zero_mul,Int.mul_zero,Int.mul_comm T M,Int.mul_comm T h,Int.neg_neg,ab]
    omega
   | j + 5,h,_,_ => omega
 | 1,_ =>
  rw [show nxt 5 1 = 2 from rfl,show nxt2 5 1 = 3 from rfl,x1,x2,x3,y1,y2,y3]
  refine ⟨?_,fun j hj k1 k2 => ?_⟩
  ·simp only [Int.sub_mul,Int.mul_sub,Int.add_mul,Int.mul_add,Int.neg_mul,Int.mul_neg,Int.zero_mul,Int.mul_zero,Int.mul_comm T M,Int.mul_comm T h,Int.neg_neg,ab]
   (repeat' split) <;> omega
  ·match j,hj,k1,k2 with
   | 0,_,_,_ =>
    rw [x0,y0]
    simp only [Int.sub_mul,Int.mul_sub,Int.add_mul,Int.mul_add,Int.neg_mul,Int.mul_neg,Int.zero_mul,Int.mul_zero,Int.mul_comm T M,Int.mul_comm T h,Int.neg_neg,ab]
    omega
   | 1,_,k1,k2 => exact absurd rfl k1
   | 2,_,k1,k2 => exact absurd rfl k2
   | 3,_,_,_ =>
    rw [x3,y3]
    simp only [Int.sub_mul,Int.mul_sub,Int.add_mul,Int.mul_add,Int.neg_mul,Int.mul_neg,Int.zero_mul,Int.mul_zero,Int.mul_comm T M,Int.mul_comm T h,Int.neg_neg,ab]
    omega
   | 4,_,_,_ =>
    rw [x4,y4]
    simp only [Int.sub_mul,Int.mul_sub,Int.add_mul,Int.mul_add,Int.neg_mul,Int.mul_neg,Int.zero_mul,Int.mul_zero,Int.mul_comm T M,Int.mul_comm T h,Int.neg_neg,ab]
    omega
   | j + 5,h,_,_ => omega
 | 2,_ =>
  rw [show nxt 5 2 = 3 from rfl,show nxt2 5 2 = 4 from rfl,x2,x3,x4,y2,y3,y4]
  refine ⟨?_,fun j hj k1 k2 => ?_⟩
  ·simp only [Int.sub_mul,Int.mul_sub,Int.add_mul,Int.mul_add,Int.neg_mul,Int.mul_neg,Int.zero_mul,Int.mul_zero,Int.mul_comm T M,Int.mul_comm T h,Int.neg_neg,ab]
   (repeat' split) <;> omega
  ·match j,hj,k1,k2 with
   | 0,_,_,_ =>
    rw [x0,y0]
    simp only [Int.sub_mul,Int.mul_sub,Int.add_mul,Int.mul_add,Int.neg_mul,Int.mul_neg,Int.zero_mul,Int.mul_zero,Int.mul_comm T M,Int.mul_comm T h,Int.neg_neg,ab]
    omega
   | 1,_,_,_ =>
    rw [x1,y1]
    simp only [Int.sub_mul,Int.mul_sub,Int.add_mul,Int.mul_add,Int.neg_mul,Int.mul_neg,Int.zero_mul,Int.mul_zero,Int.mul_comm T M,Int.mul_comm T h,Int.neg_neg,ab]
    omega
   | 2,_,k1,k2 => exact absurd rfl k1
   | 3,_,k1,k2 => exact absurd rfl k2
   | 4,_,_,_ =>
    rw [x4,y4]
    simp only [Int.sub_mul,Int.mul_sub,Int.add_mul,Int.mul_add,Int.neg_mul,Int.mul_neg,Int.zero_mul,Int.mul_zero,Int.mul_comm T M,Int.mul_comm T h,Int.neg_neg,ab]
    omega
   | j + 5,h,_,_ => omega
 | 3,_ =>
  rw [show nxt 5 3 = 4 from rfl,show nxt2 5 3 = 0 from rfl,x3,x4,x0,y3,y4,y0]
  refine ⟨?_,fun j hj k1 k2 => ?_⟩
  ·simp only [Int.sub_mul,Int.mul_sub,Int.add_mul,Int.mul_add,Int.neg_mul,Int.mul_neg,Int.zero_mul,Int.mul_zero,Int.mul_comm T M,Int.mul_comm T h,Int.neg_neg,ab]
   (repeat' split) <;> omega
  ·match j,hj,k1,k2 with
   | 0,_,_,_ =>
    rw [x0,y0]
    simp only [Int.sub_mul,Int.mul_sub,Int.add_mul,Int.mul_add,Int.neg_mul,Int.mul_neg,Int.zero_mul,Int.mul_zero,Int.mul_comm T M,Int.mul_comm T h,Int.neg_neg,ab]
    omega
   | 1,_,_,_ =>
    rw [x1,y1]
    simp only [Int.sub_mul,Int.mul_sub,Int.add_mul,Int.mul_add,Int.neg_mul,Int.mul_neg,Int.zero_mul,Int.mul_zero,Int.mul_comm T M,Int.mul_comm T h,Int.neg_neg,ab]
    omega
   | 2,_,_,_ =>
    rw [x2,y2]
    simp only [Int.sub_mul,Int.mul_sub,Int.add_mul,Int.mul_add,Int.neg_mul,Int.mul_neg,Int.zero_mul,Int.mul_zero,Int.mul_comm T M,Int.mul_comm T h,Int.neg_neg,ab]
    omega
   | 3,_,k1,k2 => exact absurd rfl k1
   | 4,_,k1,k2 => exact absurd rfl k2
   | j + 5,h,_,_ => omega
 | 4,_ =>
  rw [show nxt 5 4 = 0 from rfl,show nxt2 5 4 = 1 from rfl,x4,x0,x1,y4,y0,y1]
  refine ⟨?_,fun j hj k1 k2 => ?_⟩
  ·simp only [Int.sub_mul,Int.mul_sub,Int.add_mul,Int.mul_add,Int.neg_mul,Int.mul_neg,Int.zero_mul,Int.mul_zero,Int.mul_comm T M,Int.mul_comm T h,Int.neg_neg,ab]
   (repeat' split) <;> omega
  ·match j,hj,k1,k2 with
   | 0,_,k1,k2 => exact absurd rfl k2
   | 1,_,_,_ =>
    rw [x1,y1]
    simp only [Int.sub_mul,Int.mul_sub,Int.add_mul,Int.mul_add,Int.neg_mul,Int.mul_neg,Int.zero_mul,Int.mul_zero,Int.mul_comm T M,Int.mul_comm T h,Int.neg_neg,ab]
    omega
   | 2,_,_,_ =>
    rw [x2,y2]
    simp only [Int.sub_mul,Int.mul_sub,Int.add_mul,Int.mul_add,Int.neg_mul,Int.mul_neg,Int.zero_mul,Int.mul_zero,Int.mul_comm T M,Int.mul_comm T h,Int.neg_neg,ab]
    omega
   | 3,_,_,_ =>
    rw [x3,y3]
    simp only [Int.sub_mul,Int.mul_sub,Int.add_mul,Int.mul_add,Int.neg_mul,Int.mul_neg,Int.zero_mul,Int.mul_zero,Int.mul_comm T M,Int.mul_comm T h,Int.neg_neg,ab]
    omega
   | 4,_,k1,k2 => exact absurd rfl k1
   | j + 5,h,_,_ => omega
 | i + 5,h => omega
theorem oct_cvx {M h:Int} (hM:64 ≤ M) (h1:2 * h ≤ M) (h2:M ≤ 2 * h + 1) {X Y:Nat → Int} (x0:X 0 = M) (y0:Y 0 = -h) (x1:X 1 = M) (y1:Y 1 = h) (x2:X 2 = h) (y2:Y 2 = M) (x3:X 3 = -h) (y3:Y 3 = M) (x4:X 4 = -M) (y4:Y 4 = h) (x5:X 5 = -M) (y5:Y 5 = -h) (x6:X 6 = -h) (y6:Y 6 = -M) (x7:X 7 = h) (y7:Y 7 = -M):cvxS 8 X Y = true:=by
 have p1:64 * M ≤ M * M:=Int.mul_le_mul_of_nonneg_right hM (by omega)
 have q1:(2 * h) * M ≤ M * M:=Int.mul_le_mul_of_nonneg_right h1 (by omega)
 have q2:M * M ≤ (2 * h + 1) * M:=Int.mul_le_mul_of_nonneg_right h2 (by omega)
 have q3:h * (2 * h) ≤ h * M:=Int.mul_le_mul_of_nonneg_left h1 (by omega)
 have q4:h * M ≤ h * (2 * h + 1):=Int.mul_le_mul_of_nonneg_left h2 (by omega)
 have q5:32 * h ≤ h * h:=Int.mul_le_mul_of_nonneg_right (by omega) (by omega)
 rw [Int.mul_assoc] at q1
 rw [Int.add_mul,Int.mul_assoc,Int.one_mul] at q2
 rw [Int.mul_left_comm] at q3
 rw [Int.mul_add,Int.mul_left_comm,Int.mul_one] at q4
 unfold cvxS
 refine decide_eq_true fun i hi => ?_
 match i,hi with
 | 0,_ =>
  rw [show nxt 8 0 = 1 from rfl,show nxt2 8 0 = 2 from rfl,x0,x1,x2,y0,y1,y2]
  refine ⟨?_,fun j hj k1 k2 => ?_⟩
  ·simp only [Int.sub_mul,Int.mul_sub,Int.add_mul,Int.mul_add,Int.neg_mul,Int.mul_neg,Int.zero_mul,Int.mul_zero,Int.mul_comm M h,Int.neg_neg,ab]
   (repeat' split) <;> omega
  ·match j,hj,k1,k2 with
   | 0,_,k1,k2 => exact absurd rfl k1
   | 1,_,k1,k2 => exact absurd rfl k2
   | 2,_,_,_ =>
    rw [x2,y2]
    simp only [Int.sub_mul,Int.mul_sub,Int.add_mul,Int.mul_add,Int.neg_mul,Int.mul_neg,Int.zero_mul,Int.mul_zero,Int.mul_comm M h,Int.neg_neg,ab]
    omega
   | 3,_,_,_ =>
    rw [x3,y3]
    simp only [Int.sub_mul,Int.mul_sub,Int.add_mul,Int.mul_add,Int.neg_mul,Int.mul_neg,Int.zero_mul,Int.mul_zero,Int.mul_comm M h,Int.neg_neg,ab]
    omega
   | 4,_,_,_ =>
    rw [x4,y4]
    simp only [Int.sub_mul,Int.mul_sub,Int.add_mul,Int.mul_add,Int.neg_mul,Int.mul_neg,Int.zero_mul,Int.mul_zero,Int.mul_comm M h,Int.neg_neg,ab]
    omega
   | 5,_,_,_ =>
    rw [x5,y5]
    simp only [Int.sub_mul,Int.mul_sub,Int.add_mul,Int.mul_add,Int.neg_mul,Int.mul_neg,Int.zero_mul,Int.mul_zero,Int.mul_comm M h,Int.neg_neg,ab]
    omega
   | 6,_,_,_ =>
    rw [x6,y6]
    simp only [Int.sub_mul,Int.mul_sub,Int.add_mul,Int.mul_add,Int.neg_mul,Int.mul_neg,Int.zero_mul,Int.mul_zero,Int.mul_comm M h,Int.neg_neg,ab]
    omega
   | 7,_,_,_ =>
    rw [x7,y7]
    simp only [Int.sub_mul,Int.mul_sub,Int.add_mul,Int.mul_add,Int.neg_mul,Int.mul_neg,Int.zero_mul,Int.mul_zero,Int.mul_comm M h,Int.neg_neg,ab]
    omega
   | j + 8,h,_,_ => omega
 | 1,_ =>
  rw [show nxt 8 1 = 2 from rfl,show nxt2 8 1 = 3 from rfl,x1,x2,x3,y1,y2,y3]
  refine ⟨?_,fun j hj k1 k2 => ?_⟩
  ·simp only [Int.sub_mul,Int.mul_sub,Int.add_mul,Int.mul_add,Int.neg_mul,Int.mul_neg,Int.zero_mul,Int.mul_zero,Int.mul_comm M h,Int.neg_neg,ab]
   (repeat' split) <;> omega
  ·match j,hj,k1,k2 with
   | 0,_,_,_ =>
    rw [x0,y0]
    simp only [Int.sub_mul,Int.mul_sub,Int.add_mul,Int.mul_add,Int.neg_mul,Int.mul_neg,Int.zero_mul,Int.mul_zero,Int.mul_comm M h,Int.neg_neg,ab]
    omega
   | 1,_,k1,k2 => exact absurd rfl k1
   | 2,_,k1,k2 => exact absurd rfl k2
   | 3,_,_,_ =>
    rw [x3,y3]
    simp only [Int.sub_mul,Int.mul_sub,Int.add_mul,Int.mul_add,Int.neg_mul,Int.mul_neg,Int.zero_mul,Int.mul_zero,Int.mul_comm M h,Int.neg_neg,ab]
    omega
   | 4,_,_,_ =>
    rw [x4,y4]
    simp only [Int.sub_mul,Int.mul_sub,Int.add_mul,Int.mul_add,Int.neg_mul,Int.mul_neg,Int.zero_mul,Int.mul_zero,Int.mul_comm M h,Int.neg_neg,ab]
    omega
   | 5,_,_,_ =>
    rw [x5,y5]
    simp only [Int.sub_mul,Int.mul_sub,Int.add_mul,Int.mul_add,Int.neg_mul,Int.mul_neg,Int.zero_mul,Int.mul_zero,Int.mul_comm M h,Int.neg_neg,ab]
    omega
   | 6,_,_,_ =>
    rw [x6,y6]
    simp only [Int.sub_mul,Int.mul_sub,Int.add_mul,Int.mul_add,Int.neg_mul,Int.mul_neg,Int.zero_mul,Int.mul_zero,Int.mul_comm M h,Int.neg_neg,ab]
    omega
   | 7,_,_,_ =>
    rw [x7,y7]
    simp only [Int.sub_mul,Int.mul_sub,Int.add_mul,Int.mul_add,Int.neg_mul,Int.mul_neg,Int.zero_mul,Int.mul_zero,Int.mul_comm M h,Int.neg_neg,ab]
    omega
   | j + 8,h,_,_ => omega
 | 2,_ =>
  rw [show nxt 8 2 = 3 from rfl,show nxt2 8 2 = 4 from rfl,x2,x3,x4,y2,y3,y4]
  refine ⟨?_,fun j hj k1 k2 => ?_⟩
  ·simp only [Int.sub_mul,Int.mul_sub,Int.add_mul,Int.mul_add,Int.neg_mul,Int.mul_neg,Int.zero_mul,Int.mul_zero,Int.mul_comm M h,Int.neg_neg,ab]
   (repeat' split) <;> omega
  ·match j,hj,k1,k2 with
   | 0,_,_,_ =>
    rw [x0,y0]
    simp only [Int.sub_mul,Int.mul_sub,Int.add_mul,Int.mul_add,Int.neg_mul,Int.mul_neg,Int.zero_mul,Int.mul_zero,Int.mul_comm M h,Int.neg_neg,ab]
    omega
   | 1,_,_,_ =>
    rw [x1,y1]
    simp only [Int.sub_mul,Int.mul_sub,Int.add_mul,Int.mul_add,Int.neg_mul,Int.mul_neg,Int.zero_mul,Int.mul_zero,Int.mul_comm M h,Int.neg_neg,ab]
    omega
   | 2,_,k1,k2 => exact absurd rfl k1
   | 3,_,k1,k2 => exact absurd rfl k2
   | 4,_,_,_ =>
    rw [x4,y4]
    simp only [Int.sub_mul,Int.mul_sub,Int.add_mul,Int.mul_add,Int.neg_mul,Int.mul_neg,Int.zero_mul,Int.mul_zero,Int.mul_comm M h,Int.neg_neg,ab]
    omega
   | 5,_,_,_ =>
    rw [x5,y5]
    simp only [Int.sub_mul,Int.mul_sub,Int.add_mul,Int.mul_add,Int.neg_mul,Int.mul_neg,Int.zero_mul,Int.mul_zero,Int.mul_comm M h,Int.neg_neg,ab]
    omega
   | 6,_,_,_ =>
    rw [x6,y6]
    simp only [Int.sub_mul,Int.mul_sub,Int.add_mul,Int.mul_add,Int.neg_mul,Int.mul_neg,Int.zero_mul,Int.mul_zero,Int.mul_comm M h,Int.neg_neg,ab]
    omega
   | 7,_,_,_ =>
    rw [x7,y7]
    simp only [Int.sub_mul,Int.mul_sub,Int.add_mul,Int.mul_add,Int.neg_mul,Int.mul_neg,Int.zero_mul,Int.mul_zero,Int.mul_comm M h,Int.neg_neg,ab]
    omega
   | j + 8,h,_,_ => omega
 | 3,_ =>
  rw [show nxt 8 3 = 4 from rfl,show nxt2 8 3 = 5 from rfl,x3,x4,x5,y3,y4,y5]
  refine ⟨?_,fun j hj k1 k2 => ?_⟩
  ·simp only [Int.sub_mul,Int.mul_sub,Int.add_mul,Int.mul_add,Int.neg_mul,Int.mul_neg,Int.zero_mul,Int.mul_zero,Int.mul_comm M h,Int.neg_neg,ab]
   (repeat' split) <;> omega
  ·match j,hj,k1,k2 with
   | 0,_,_,_ =>
    rw [x0,y0]
    simp only [Int.sub_mul,Int.mul_sub,Int.add_mul,Int.mul_add,Int.neg_mul,Int.mul_neg,Int.zero_mul,Int.mul_zero,Int.mul_comm M h,Int.neg_neg,ab]
    omega
   | 1,_,_,_ =>
    rw [x1,y1]
    simp only [Int.sub_mul,Int.mul_sub,Int.add_mul,Int.mul_add,Int.neg_mul,Int.mul_neg,Int.zero_mul,Int.mul_zero,Int.mul_comm M h,Int.neg_neg,ab]
    omega
   | 2,_,_,_ =>
    rw [x2,y2]
    simp only [Int.sub_mul,Int.mul_sub,Int.add_mul,Int.mul_add,Int.neg_mul,Int.mul_neg,Int.zero_mul,Int.mul_zero,Int.mul_comm M h,Int.neg_neg,ab]
    omega
   | 3,_,k1,k2 => exact absurd rfl k1
   | 4,_,k1,k2 => exact absurd rfl k2
   | 5,_,_,_ =>
    rw [x5,y5]
    simp only [Int.sub_mul,Int.mul_sub,Int.add_mul,Int.mul_add,Int.neg_mul,Int.mul_neg,Int.zero_mul,Int.mul_zero,Int.mul_comm M h,Int.neg_neg,ab]
    omega
   | 6,_,_,_ =>
    rw [x6,y6]
    simp only [Int.sub_mul,Int.mul_sub,Int.add_mul,Int.mul_add,Int.neg_mul,Int.mul_neg,Int.zero_mul,Int.mul_zero,Int.mul_comm M h,Int.neg_neg,ab]
    omega
   | 7,_,_,_ =>
    rw [x7,y7]
    simp only [Int.sub_mul,Int.mul_sub,Int.add_mul,Int.mul_add,Int.neg_mul,Int.mul_neg,Int.zero_mul,Int.mul_zero,Int.mul_comm M h,Int.neg_neg,ab]
    omega
   | j + 8,h,_,_ => omega
 | 4,_ =>
  rw [show nxt 8 4 = 5 from rfl,show nxt2 8 4 = 6 from rfl,x4,x5,x6,y4,y5,y6]
  refine ⟨?_,fun j hj k1 k2 => ?_⟩
  ·simp only [Int.sub_mul,Int.mul_sub,Int.add_mul,Int.mul_add,Int.neg_mul,Int.mul_neg,Int.zero_mul,Int.mul_zero,Int.mul_comm M h,Int.neg_neg,ab]
   (repeat' split) <;> omega
  ·match j,hj,k1,k2 with
   | 0,_,_,_ =>
    rw [x0,y0]
    simp only [Int.sub_mul,Int.mul_sub,Int.add_mul,Int.mul_add,Int.neg_mul,Int.mul_neg,Int.zero_mul,Int.mul_zero,Int.mul_comm M h,Int.neg_neg,ab]
    omega
   | 1,_,_,_ =>
    rw [x1,y1]
    simp only [Int.sub_mul,Int.mul_sub,Int.add_mul,Int.mul_add,Int.neg_mul,Int.mul_neg,Int.zero_mul,Int.mul_zero,Int.mul_comm M h,Int.neg_neg,ab]
    omega
   | 2,_,_,_ =>
    rw [x2,y2]
    simp only [Int.sub_mul,Int.mul_sub,Int.add_mul,Int.mul_add,Int.neg_mul,Int.mul_neg,Int.zero_mul,Int.mul_zero,Int.mul_comm M h,Int.neg_neg,ab]
    omega
   | 3,_,_,_ =>
    rw [x3,y3]
    simp only [Int.sub_mul,Int.mul_sub,Int.add_mul,Int.mul_add,Int.neg_mul,Int.mul_neg,Int.zero_mul,Int.mul_zero,Int.mul_comm M h,Int.neg_neg,ab]
    omega
   | 4,_,k1,k2 => exact absurd rfl k1
   | 5,_,k1,k2 => exact absurd rfl k2
   | 6,_,_,_ =>
    rw [x6,y6]
    simp only [Int.sub_mul,Int.mul_sub,Int.add_mul,Int.mul_add,Int.neg_mul,Int.mul_neg,Int.zero_mul,Int.mul_zero,Int.mul_comm M h,Int.neg_neg,ab]
    omega
   | 7,_,_,_ =>
    rw [x7,y7]
    simp only [Int.sub_mul,Int.mul_sub,Int.add_mul,Int.mul_add,Int.neg_mul,Int.mul_neg,Int.zero_mul,Int.mul_zero,Int.mul_comm M h,Int.neg_neg,ab]
    omega
   | j + 8,h,_,_ => omega
 | 5,_ =>
  rw [show nxt 8 5 = 6 from rfl,show nxt2 8 5 = 7 from rfl,x5,x6,x7,y5,y6,y7]
  refine ⟨?_,fun j hj k1 k2 => ?_⟩
  ·simp only [Int.sub_mul,Int.mul_sub,Int.add_mul,Int.mul_add,Int.neg_mul,Int.mul_neg,Int.zero_mul,Int.mul_zero,Int.mul_comm M h,Int.neg_neg,ab]
   (repeat' split) <;> omega
  ·match j,hj,k1,k2 with
   | 0,_,_,_ =>
    rw [x0,y0]
    simp only [Int.sub_mul,Int.mul_sub,Int.add_mul,Int.mul_add,Int.neg_mul,Int.mul_neg,Int.zero_mul,Int.mul_zero,Int.mul_comm M h,Int.neg_neg,ab]
    omega
   | 1,_,_,_ =>
    rw [x1,y1]
    simp only [Int.sub_mul,Int.mul_sub,Int.add_mul,Int.mul_add,Int.neg_mul,Int.mul_neg,Int.zero_mul,Int.mul_zero,Int.mul_comm M h,Int.neg_neg,ab]
    omega
   | 2,_,_,_ =>
    rw [x2,y2]
    simp only [Int.sub_mul,Int.mul_sub,Int.add_mul,Int.mul_add,Int.neg_mul,Int.mul_neg,Int.zero_mul,Int.mul_zero,Int.mul_comm M h,Int.neg_neg,ab]
    omega
   | 3,_,_,_ =>
    rw [x3,y3]
    simp only [Int.sub_mul,Int.mul_sub,Int.add_mul,Int.mul_add,Int.neg_mul,Int.mul_neg,Int.zero_mul,Int.mul_zero,Int.mul_comm M h,Int.neg_neg,ab]
    omega
   | 4,_,_,_ =>
    rw [x4,y4]
    simp only [Int.sub_mul,Int.mul_sub,Int.add_mul,Int.mul_add,Int.neg_mul,Int.mul_neg,Int.zero_mul,Int.mul_zero,Int.mul_comm M h,Int.neg_neg,ab]
    omega
   | 5,_,k1,k2 => exact absurd rfl k1
   | 6,_,k1,k2 => exact absurd rfl k2
   | 7,_,_,_ =>
    rw [x7,y7]
    simp only [Int.sub_mul,Int.mul_sub,Int.add_mul,Int.mul_add,Int.neg_mul,Int.mul_neg,Int.zero_mul,Int.mul_zero,Int.mul_comm M h,Int.neg_neg,ab]
    omega
   | j + 8,h,_,_ => omega
 | 6,_ =>
  rw [show nxt 8 6 = 7 from rfl,show nxt2 8 6 = 0 from rfl,x6,x7,x0,y6,y7,y0]
  refine ⟨?_,fun j hj k1 k2 => ?_⟩
  ·simp only [Int.sub_mul,Int.mul_sub,Int.add_mul,Int.mul_add,Int.neg_mul,Int.mul_neg,Int.zero_mul,Int.mul_zero,Int.mul_comm M h,Int.neg_neg,ab]
   (repeat' split) <;> omega
  ·match j,hj,k1,k2 with
   | 0,_,_,_ =>
    rw [x0,y0]
    simp only [Int.sub_mul,Int.mul_sub,Int.add_mul,Int.mul_add,Int.neg_mul,Int.mul_neg,Int.zero_mul,Int.mul_zero,Int.mul_comm M h,Int.neg_neg,ab]
    omega
   | 1,_,_,_ =>
    rw [x1,y1]
    simp only [Int.sub_mul,Int.mul_sub,Int.add_mul,Int.mul_add,Int.neg_mul,Int.mul_neg,Int.zero_mul,Int.mul_zero,Int.mul_comm M h,Int.neg_neg,ab]
    omega
   | 2,_,_,_ =>
    rw [x2,y2]
    simp only [Int.sub_mul,Int.mul_sub,Int.add_mul,Int.mul_add,Int.neg_mul,Int.mul_neg,Int.zero_mul,Int.mul_zero,Int.mul_comm M h,Int.neg_neg,ab]
    omega
   | 3,_,_,_ =>
    rw [x3,y3]
    simp only [Int.sub_mul,Int.mul_sub,Int.add_mul,Int.mul_add,Int.neg_mul,Int.mul_neg,Int.zero_mul,Int.mul_zero,Int.mul_comm M h,Int.neg_neg,ab]
    omega
   | 4,_,_,_ =>
    rw [x4,y4]
    simp only [Int.sub_mul,Int.mul_sub,Int.add_mul,Int.mul_add,Int.neg_mul,Int.mul_neg,Int.zero_mul,Int.mul_zero,Int.mul_comm M h,Int.neg_neg,ab]
    omega
   | 5,_,_,_ =>
    rw [x5,y5]
    simp only [Int.sub_mul,Int.mul_sub,Int.add_mul,Int.mul_add,Int.neg_mul,Int.mul_neg,Int.zero_mul,Int.mul_zero,Int.mul_comm M h,Int.neg_neg,ab]
    omega
   | 6,_,k1,k2 => exact absurd rfl k1
   | 7,_,k1,k2 => exact absurd rfl k2
   | j + 8,h,_,_ => omega
 | 7,_ =>
  rw [show nxt 8 7 = 0 from rfl,show nxt2 8 7 = 1 from rfl,x7,x0,x1,y7,y0,y1]
  refine ⟨?_,fun j hj k1 k2 => ?_⟩
  ·simp only [Int.sub_mul,Int.mul_sub,Int.add_mul,Int.mul_add,Int.neg_mul,Int.mul_neg,Int.zero_mul,Int.mul_zero,Int.mul_comm M h,Int.neg_neg,ab]
   (repeat' split) <;> omega
  ·match j,hj,k1,k2 with
   | 0,_,k1,k2 => exact absurd rfl k2
   | 1,_,_,_ =>
    rw [x1,y1]
    simp only [Int.sub_mul,Int.mul_sub,Int.add_mul,Int.mul_add,Int.neg_mul,Int.mul_neg,Int.zero_mul,Int.mul_zero,Int.mul_comm M h,Int.neg_neg,ab]
    omega
   | 2,_,_,_ =>
    rw [x2,y2]
    simp only [Int.sub_mul,Int.mul_sub,Int.add_mul,Int.mul_add,Int.neg_mul,Int.mul_neg,Int.zero_mul,Int.mul_zero,Int.mul_comm M h,Int.neg_neg,ab]
    omega
   | 3,_,_,_ =>
    rw [x3,y3]
    simp only [Int.sub_mul,Int.mul_sub,Int.add_mul,Int.mul_add,Int.neg_mul,Int.mul_neg,Int.zero_mul,Int.mul_zero,Int.mul_comm M h,Int.neg_neg,ab]
    omega
   | 4,_,_,_ =>
    rw [x4,y4]
    simp only [Int.sub_mul,Int.mul_sub,Int.add_mul,Int.mul_add,Int.neg_mul,Int.mul_neg,Int.zero_mul,Int.mul_zero,Int.mul_comm M h,Int.neg_neg,ab]
    omega
   | 5,_,_,_ =>
    rw [x5,y5]
    simp only [Int.sub_mul,Int.mul_sub,Int.add_mul,Int.mul_add,Int.neg_mul,Int.mul_neg,Int.zero_mul,Int.mul_zero,Int.mul_comm M h,Int.neg_neg,ab]
    omega
   | 6,_,_,_ =>
    rw [x6,y6]
    simp only [Int.sub_mul,Int.mul_sub,Int.add_mul,Int.mul_add,Int.neg_mul,Int.mul_neg,Int.zero_mul,Int.mul_zero,Int.mul_comm M h,Int.neg_neg,ab]
    omega
   | 7,_,k1,k2 => exact absurd rfl k1
   | j + 8,h,_,_ => omega
 | i + 8,h => omega
end Go.Ax
end
section
/-
  Made shapes are sound.
-/
set_option maxHeartbeats 4000000
set_option maxRecDepth 100000
namespace Go.Ax
open Go.Proofs
theorem mk_lo {a b c:Int} (i:Nat) (hi:i < mkN a):lo (mkX a b c i) ∧ lo (mkY a b c i):=by
 have b1:=@mkM_bd b b
 have b2:=@mkM_bd b c
 have t1:(mkM b b).tdiv 2 = mkM b b / 2:=Int.tdiv_eq_ediv_of_nonneg (by omega)
 have t2:(-mkM b b).tdiv 2 = -(mkM b b / 2):=by rw [Int.neg_tdiv,t1]
 unfold mkX mkY mkP
 unfold mkN at hi
 by_cases k0:modS a 5 = 0
 ·rw [if_pos k0] at hi; omega
 rw [if_neg k0] at hi
 by_cases k1:modS a 5 = 1
 ·rw [if_pos k1] at hi; omega
 rw [if_neg k1] at hi
 rw [t1,t2]
 generalize mkM b b = M at *
 generalize mkM b c = T at *
 by_cases k2:modS a 5 = 2
 ·rw [if_pos k2] at hi
  rw [if_pos k2]
  match i with
  | 0 => show lo (-M) ∧ lo (-T); unfold lo; omega
  | 1 => show lo M ∧ lo (-T); unfold lo; omega
  | 2 => show lo 0 ∧ lo T; unfold lo; omega
  | q + 3 => omega
 rw [if_neg k2] at hi
 rw [if_neg k2]
 by_cases k3:modS a 5 = 3
 ·rw [if_pos k3] at hi
  rw [if_pos k3]
  match i with
  | 0 => show lo (-(M / 2)) ∧ lo (-T); unfold lo; omega
  | 1 => show lo (M / 2) ∧ lo (-T); unfold lo; omega
  | 2 => show lo M ∧ lo 0; unfold lo; omega
  | 3 => show lo 0 ∧ lo T; unfold lo; omega
  | 4 => show lo (-M) ∧ lo 0; unfold lo; omega
  | q + 5 => omega
 rw [if_neg k3] at hi
 rw [if_neg k3]
 match i with
 | 0 => show lo M ∧ lo (-(M / 2)); unfold lo; omega
 | 1 => show lo M ∧ lo (M / 2); unfold lo; omega
 | 2 => show lo (M / 2) ∧ lo M; unfold lo; omega
 | 3 => show lo (-(M / 2)) ∧ lo M; unfold lo; omega
 | 4 => show lo (-M) ∧ lo (M / 2); unfold lo; omega
 | 5 => show lo (-M) ∧ lo (-(M / 2)); unfold lo; omega
 | 6 => show lo (-(M / 2)) ∧ lo (-M); unfold lo; omega
 | 7 => show lo (M / 2) ∧ lo (-M); unfold lo; omega
 | q + 8 => omega
theorem mk_cvx {a b c:Int} (k0:modS a 5 ≠ 0) (k1:modS a 5 ≠ 1):cvxS (mkN a) (mkX a b c) (mkY a b c) = true:=by
 have b1:=@mkM_bd b b
 have b2:=@mkM_bd b c
 have t1:(mkM b b).tdiv 2 = mkM b b / 2:=Int.tdiv_eq_ediv_of_nonneg (by omega)
 have t2:(-mkM b b).tdiv 2 = -(mkM b b / 2):=by rw [Int.neg_tdiv,t1]
 by_cases k2:modS a 5 = 2
 ·rw [show mkN a = 3 from by unfold mkN; rw [if_neg k0,if_neg k1,if_pos k2]]
  refine tri_cvx (M:=mkM b b) (T:=mkM b c) (by omega) (by omega) ?_ ?_ ?_ ?_ ?_ ?_ <;> (first | unfold mkX | unfold mkY) <;> unfold mkP <;> rw [if_pos k2] <;> rfl
 by_cases k3:modS a 5 = 3
 ·rw [show mkN a = 5 from by unfold mkN; rw [if_neg k0,if_neg k1,if_neg k2,if_pos k3]]
  refine pen_cvx (M:=mkM b b) (T:=mkM b c) (h:=mkM b b / 2) (by omega) (by omega) (by omega) (by omega) ?_ ?_ ?_ ?_ ?_ ?_ ?_ ?_ ?_ ?_ <;> (first | unfold mkX | unfold mkY) <;> unfold mkP <;> rw [if_neg k2,if_pos k3,t1,t2] <;> rfl
 ·rw [show mkN a = 8 from by unfold mkN; rw [if_neg k0,if_neg k1,if_neg k2,if_neg k3]]
  refine oct_cvx (M:=mkM b b) (h:=mkM b b / 2) (by omega) (by omega) (by omega) ?_ ?_ ?_ ?_ ?_ ?_ ?_ ?_ ?_ ?_ ?_ ?_ ?_ ?_ ?_ ?_ <;> (first | unfold mkX | unfold mkY) <;> unfold mkP <;> rw [if_neg k2,if_neg k3,t1,t2] <;> rfl
theorem mk_chk {a b c:Int}:chkS (mkK a) (mkR a b) (mkH a b b) (mkH a b c) (mkN a) (mkX a b c) (mkY a b c) = 0:=by
 have w1:=@mkW_bd b b
 have w2:=@mkW_bd b c
 by_cases k0:modS a 5 = 0
 ·unfold chkS mkK mkR mkH mkN
  rw [if_pos k0,if_pos k0,if_pos k0,if_pos k0,if_pos k0,if_pos rfl,if_neg (by simp),if_pos w1]
 by_cases k1:modS a 5 = 1
 ·unfold chkS mkK mkR mkH mkN
  rw [if_neg k0,if_neg k0,if_neg k0,if_neg k0,if_neg k0,if_pos k1,if_pos k1,if_pos k1,if_pos k1,if_neg (by decide),if_pos rfl,if_neg (by simp),if_pos ⟨w1,w2⟩]
 have hN:3 ≤ mkN a ∧ mkN a ≤ 8:=by
  unfold mkN
  rw [if_neg k0,if_neg k1]
  (repeat' split) <;> omega
 have e1:mkK a = 3:=by unfold mkK; rw [if_neg k0,if_neg k1]
 have e2:mkR a b = 0:=if_neg k0
 have e3:∀ v,mkH a b v = 0:=fun v => by unfold mkH; rw [if_neg k0,if_neg k1]
 unfold chkS
 rw [e1,e2,e3,e3,if_neg (by decide),if_neg (by decide),if_pos rfl,if_neg (by omega),if_pos mk_lo,if_pos (mk_cvx k0 k1)]
end Go.Ax
end
section
/-
  Made bodies: their weights.
-/
set_option maxHeartbeats 4000000
set_option maxRecDepth 100000
namespace Go.Ax
open Go.Proofs
theorem mk_wgE {a b c d k:Int} (hk:modS k 4 ≠ 0):wgE (mkK a) (mkR a b) (mkH a b b) (mkH a b c) (mkN a) (mkX a b c) (mkY a b c) (mkD d k) = 0:=by
 have h:=modS_bd (n:=d) (m:=1000) (by omega)
 have e:mkD d k = 1 + modS d 1000:=if_neg hk
 unfold wgE
 rw [if_neg (by rw [mk_chk]; simp),e,if_neg (by omega)]
theorem foAt_bd {x s:Int} (h:1 ≤ s ∧ s ≤ 4000):-17179869184000 ≤ x.tmod (s * 4294967296) ∧ x.tmod (s * 4294967296) ≤ 17179869184000:=by
 have h1:x.tmod (s * 4294967296) < s * 4294967296:=Int.tmod_lt_of_pos x (by omega)
 have h2:-(s * 4294967296) < x.tmod (s * 4294967296):=Int.lt_tmod_of_pos x (by omega)
 omega
end Go.Ax
end
section
/-
  Turns made of numbers are on the circle.
-/
set_option maxHeartbeats 4000000
set_option maxRecDepth 100000
namespace Go.Ax
open Go.Proofs
def abZ (x:Int):Int:=if x < 0 then -x else x
theorem qt_pair {p:Int} (h:-13493037704 ≤ p ∧ p ≤ 13493037704):∃ q,(q = 6746518852 ∨ q = 6746518851) ∧ (-6746518852 ≤ qtV p ∧ qtV p ≤ 6746518852) ∧ abZ (qtV p) ≤ q ∧ (-6746518852 ≤ qtV (if 13493037704 < p + 6746518852 then p + 6746518852 - 26986075409 else p + 6746518852) ∧ qtV (if 13493037704 < p + 6746518852 then p + 6746518852 - 26986075409 else p + 6746518852) ≤ 6746518852) ∧ abZ (qtV (if 13493037704 < p + 6746518852 then p + 6746518852 - 26986075409 else p + 6746518852)) = q - abZ (qtV p):=by
 by_cases h1:6746518852 < p
 ·refine ⟨6746518851,.inr rfl,?_⟩
  rw [if_pos (by omega)]
  unfold qtV abZ
  (repeat' split) <;> omega
 ·refine ⟨6746518852,.inl rfl,?_⟩
  rw [if_neg (by omega)]
  unfold qtV abZ
  (repeat' split) <;> omega
theorem wpV_sh {p:Int} (h:-13493037704 ≤ p ∧ p ≤ 13493037704):wpV (p + 6746518852) = if 13493037704 < p + 6746518852 then p + 6746518852 - 26986075409 else p + 6746518852:=by
 have e:(p + 6746518852).tmod 26986075409 = p + 6746518852:=by
  rcases Int.le_total 0 (p + 6746518852) with k | k
  ·rw [Int.tmod_eq_emod_of_nonneg k,Int.emod_eq_of_lt k (by omega)]
  ·have e2:p + 6746518852 = -(-(p + 6746518852)):=by omega
   rw [e2,Int.neg_tmod,Int.tmod_eq_emod_of_nonneg (by omega),Int.emod_eq_of_lt (by omega) (by omega)]
 unfold wpV
 rw [e]
 split
 ·rfl
 ·rw [if_neg (by omega)]
def cl1 (x:Int):Int:=max (-4294967296) (min x 4294967296)
theorem snV_q {v:Int} (h:-1000000000000000 ≤ v ∧ v ≤ 1000000000000000):snV v false = cl1 (sq (qtV (wpV v)) 8) ∧ snF v false = false:=by
 have hp:=@wpV_le v
 have hy:-6746518852 ≤ qtV (wpV v) ∧ qtV (wpV v) ≤ 6746518852:=by
  obtain ⟨q,h1,h2,h3,h4,h5⟩:=qt_pair hp
  exact h2
 have hs:=sq_le hy 8 (by omega)
 have e:snY v false = (qtV (wpV v),false):=by
  unfold snY
  rw [whV_in (by omega) (by omega),whF_in (by omega)]
 unfold snV snF
 rw [e,snS_eq hy 8 (by omega)]
 dsimp only
 rw [whV_in (by omega) (by omega),whF_in (by omega)]
 exact ⟨rfl,rfl⟩
theorem csV_q {v:Int} (h:-1000000000000000 ≤ v ∧ v ≤ 1000000000000000):csV v false = cl1 (sq (qtV (if 13493037704 < wpV v + 6746518852 then wpV v + 6746518852 - 26986075409 else wpV v + 6746518852)) 8) ∧ csF v false = false:=by
 have hp:=@wpV_le v
 have e:nAdd (wpV (whV v),whF v false) (6746518852,false) = (wpV v + 6746518852,false):=by
  rw [whV_in (by omega) (by omega),whF_in (by omega)]
  unfold nAdd
  dsimp only
  rw [whV_in (by omega) (by omega),whV_in (by omega) (by omega),ftV_in (by omega) (by omega),ftF_in (by omega) (by omega),whF_in (by omega),whF_in (by omega)]
  rfl
 have k:=@snV_q (wpV v + 6746518852) (by omega)
 rw [wpV_sh hp] at k
 unfold csV csF
 rw [e]
 exact k
theorem big_sq {x:Int} (h:4294967296 ≤ x ∨ x ≤ -4294967296):18446744073709551616 ≤ x * x:=by
 rcases h with h | h
 ·have:=Int.mul_le_mul h h (by omega) (by omega)
  omega
 ·have:=Int.mul_le_mul (a:=4294967296) (b:=4294967296) (c:=-x) (d:=-x) (by omega) (by omega) (by omega) (by omega)
  rw [Int.neg_mul_neg] at this
  omega
theorem cl1_sq {x:Int}:(cl1 x * cl1 x = x * x ∧ x * x ≤ 18446744073709551616) ∨ (cl1 x * cl1 x = 18446744073709551616 ∧ 18446744073709551616 ≤ x * x):=by
 by_cases h1:4294967296 < x
 ·refine .inr ⟨?_,big_sq (.inl (by omega))⟩
  rw [show cl1 x = 4294967296 from by unfold cl1; omega]
  rfl
 by_cases h2:x < -4294967296
 ·refine .inr ⟨?_,big_sq (.inr (by omega))⟩
  rw [show cl1 x = -4294967296 from by unfold cl1; omega]
  rfl
 ·refine .inl ⟨by rw [show cl1 x = x from by unfold cl1; omega],?_⟩
  have:=ab_mul (a:=x) (b:=x) (A:=4294967296) (B:=4294967296) (by omega) (by omega)
  omega
theorem sq_nn (x:Int):0 ≤ x * x:=by
 rcases Int.le_total 0 x with h | h
 ·exact Int.mul_nonneg h h
 ·have:=Int.mul_nonneg (a:=-x) (b:=-x) (by omega) (by omega)
  rw [Int.neg_mul_neg] at this
  exact this
theorem cl1_bd {x:Int}:-4294967296 ≤ cl1 x ∧ cl1 x ≤ 4294967296:=by unfold cl1; omega
theorem cl_circle {a b:Int} (h:-35184372088832 ≤ a * a + b * b - 18446744073709551616 ∧ a * a + b * b - 18446744073709551616 ≤ 35184372088832) :
  -35184372088832 ≤ cl1 a * cl1 a + cl1 b * cl1 b - 18446744073709551616 ∧ cl1 a * cl1 a + cl1 b * cl1 b - 18446744073709551616 ≤ 35184372088832:=by
 have ha:=sq_nn a
 have hb:=sq_nn b
 generalize ea:a * a = A at *
 generalize eb:b * b = B at *
 have ca:=@cl1_sq a
 have cb:=@cl1_sq b
 rw [ea] at ca
 rw [eb] at cb
 generalize cl1 a * cl1 a = P at *
 generalize cl1 b * cl1 b = Q at *
 omega
theorem foRot_ok (u:Int):rotS (foRot u).1.1 (foRot u).1.2 (foRot u).2.1 (foRot u).2.2 = 0:=by
 have hv:-1000000000000000 ≤ u.tmod (8 * 4294967296) ∧ u.tmod (8 * 4294967296) ≤ 1000000000000000:=by
  have h1:u.tmod (8 * 4294967296) < 8 * 4294967296:=Int.tmod_lt_of_pos u (by omega)
  have h2:-(8 * 4294967296) < u.tmod (8 * 4294967296):=Int.lt_tmod_of_pos u (by omega)
  omega
 unfold foRot
 dsimp only
 generalize u.tmod (8 * 4294967296) = v at *
 have hp:=@wpV_le v
 obtain ⟨q,q1,q2,q3,q4,q5⟩:=qt_pair hp
 have hc:=sq_circle q2 q1 q3 q5
 obtain ⟨s1,s2⟩:=snV_q hv
 obtain ⟨c1,c2⟩:=csV_q hv
 rw [s1,s2,c1,c2]
 generalize sq (qtV (wpV v)) 8 = S at *
 generalize sq (qtV (if 13493037704 < wpV v + 6746518852 then wpV v + 6746518852 - 26986075409 else wpV v + 6746518852)) 8 = C at *
 have hk:=cl_circle hc
 have k1:=@cl1_bd S
 have k2:=@cl1_bd C
 have e:(nDot (cl1 C,false) (cl1 C,false) (cl1 S,false) (cl1 S,false)).1 = (cl1 C * cl1 C + cl1 S * cl1 S).tdiv 4294967296:=by
  unfold nDot
  dsimp only
  rw [whV_in (by omega) (by omega),whV_in (by omega) (by omega)]
  have:=@td_err (cl1 C * cl1 C + cl1 S * cl1 S) 4294967296 (by omega)
  exact ftV_in (by omega) (by omega)
 have hd:=@td_err (cl1 C * cl1 C + cl1 S * cl1 S) 4294967296 (by omega)
 unfold rotS
 rw [e,whF_in (by omega),whF_in (by omega)]
 refine if_neg ?_
 simp
 omega
end Go.Ax
end
section
/-
  Made bodies are sound, and have a mass.
-/
set_option maxHeartbeats 4000000
set_option maxRecDepth 100000
namespace Go.Ax
open Go.Proofs
theorem far_no {x:Int} (h:-17592186044416 ≤ x ∧ x ≤ 17592186044416):farB (x,false) = false:=by
 unfold farB
 dsimp only
 rw [whF_in (by omega),whV_in (by omega) (by omega)]
 have:¬ 17592186044416 < ab x:=by unfold ab; split <;> omega
 rw [decide_eq_false this]
 rfl
theorem mk_place {a b c x y u s:Int} (hs:1 ≤ s ∧ s ≤ 4000):plErr (mkK a) (mkR a b) (mkH a b b) (mkH a b c) (mkN a) (mkX a b c) (mkY a b c) (foAt x y s) (foRot u) = 0:=by
 have h1:=@foAt_bd x s hs
 have h2:=@foAt_bd y s hs
 unfold plErr
 rw [if_neg (by rw [mk_chk]; simp),if_neg (by rw [foRot_ok]; simp)]
 unfold foAt
 dsimp only
 rw [far_no (by omega),far_no (by omega)]
 rfl
theorem mk_nwE {a b c x y u d k s:Int} (hs:1 ≤ s ∧ s ≤ 4000):nwE (mkK a) (mkR a b) (mkH a b b) (mkH a b c) (mkN a) (mkX a b c) (mkY a b c) (foAt x y s) (foRot u) (mkD d k) (modS k 4 != 0) = 0:=by
 unfold nwE
 rw [if_neg (by rw [mk_chk]; simp)]
 by_cases hk:modS k 4 = 0
 ·have e:mkD d k = 0:=if_pos hk
  rw [e,mk_place hs,hk]
  rfl
 ·have e:(modS k 4 != 0) = true:=by simpa using hk
  rw [e,if_pos rfl,mk_wgE hk,mk_place hs]
  rfl
theorem cor_lo {a b c:Int} (i:Nat) (hi:i < corN (mkK a) (mkR a b) (mkH a b b) (mkH a b c) (mkN a) (mkX a b c) (mkY a b c)):lo (corX (mkK a) (mkH a b b) (mkH a b c) (mkX a b c) i) ∧ lo (corY (mkK a) (mkH a b b) (mkH a b c) (mkY a b c) i):=by
 have w1:=@mkW_bd b b
 have w2:=@mkW_bd b c
 have h1:∀ v,0 ≤ mkH a b v ∧ mkH a b v ≤ 4096:=fun v => by
  have:=@mkW_bd b v
  unfold mkH
  (repeat' split) <;> omega
 have h2:=h1 b
 have h3:=h1 c
 unfold corN at hi
 rw [if_pos mk_chk] at hi
 unfold corX corY
 split at hi
 ·rename_i hk
  rw [if_pos hk,if_pos hk]
  match i with
  | 0 => show lo (-mkH a b b) ∧ lo (-mkH a b c); unfold lo; omega
  | 1 => show lo (mkH a b b) ∧ lo (-mkH a b c); unfold lo; omega
  | 2 => show lo (mkH a b b) ∧ lo (mkH a b c); unfold lo; omega
  | 3 => show lo (-mkH a b b) ∧ lo (mkH a b c); unfold lo; omega
  | i + 4 => omega
 ·rename_i hk
  rw [if_neg hk,if_neg hk]
  exact mk_lo i hi
theorem crI_bd {P Q:Nat → Int} {n i:Nat} (hl:∀ i,i < n → lo (P i) ∧ lo (Q i)) (hi:i < n):-33554432 ≤ crI P Q n i ∧ crI P Q n i ≤ 33554432:=by
 have hj:(i + 1) % n < n:=Nat.mod_lt _ (by omega)
 have k1:=lo_mul (hl i hi).1 (hl _ hj).2
 have k2:=lo_mul (hl i hi).2 (hl _ hj).1
 unfold crI
 rw [wrap_in (by unfold inR; omega)]
 omega
end Go.Ax
end
section
/-
  Made bodies have a mass.
-/
set_option maxHeartbeats 4000000
set_option maxRecDepth 100000
namespace Go.Ax
open Go.Proofs
theorem tdp {n k lo' hi:Int} (hk:0 < k) (hn:0 ≤ n) (h1:lo' * k ≤ n) (h2:n < hi * k):lo' ≤ n.tdiv k ∧ n.tdiv k < hi:=by
 rw [Int.tdiv_eq_ediv_of_nonneg hn]
 exact ⟨(Int.le_ediv_iff_mul_le hk).2 h1,(Int.ediv_lt_iff_lt_mul hk).2 h2⟩
end Go.Ax
end
section
/-
  The body that sleeps.
-/
set_option maxHeartbeats 4000000
set_option maxRecDepth 100000
namespace Go.Ax
open Go.Proofs
theorem sq_bd {w:Int} (h:16 ≤ w ∧ w ≤ 4096):256 ≤ w * w ∧ w * w ≤ 16777216:=by
 have h1:=Int.mul_le_mul h.1 h.1 (by omega) (by omega)
 have h2:=Int.mul_le_mul h.2 h.2 (by omega) (by omega)
 omega
theorem mk_wgS_in {k r w t d:Int} {n:Nat} {X Y:Nat → Int}:inR (wgS k r w t n X Y d).1.1 ∧ inR (wgS k r w t n X Y d).2.1:=by
 have q:∀ a b:Nb,inR (nDiv a b).1:=fun a b => by
  have h:rg (nDiv a b).1:=raV_rg
  unfold rg at h
  unfold inR
  omega
 unfold wgS
 split
 ·unfold wgM
  split
  ·exact ⟨q _ _,q _ _⟩
  ·exact ⟨q _ _,q _ _⟩
 ·exact ⟨by unfold inR; decide,by unfold inR; decide⟩
end Go.Ax
end
section
/-
  Made bodies: their weights are not below 0.
-/
set_option maxHeartbeats 4000000
set_option maxRecDepth 100000
namespace Go.Ax
open Go.Proofs
theorem cor_nn {a b c:Int} (i:Nat) (hi:i < corN (mkK a) (mkR a b) (mkH a b b) (mkH a b c) (mkN a) (mkX a b c) (mkY a b c)):0 ≤ crI (corX (mkK a) (mkH a b b) (mkH a b c) (mkX a b c)) (corY (mkK a) (mkH a b b) (mkH a b c) (mkY a b c)) (corN (mkK a) (mkR a b) (mkH a b b) (mkH a b c) (mkN a) (mkX a b c) (mkY a b c)) i:=by
 have hN:corN (mkK a) (mkR a b) (mkH a b b) (mkH a b c) (mkN a) (mkX a b c) (mkY a b c) = if mkK a = 2 then 4 else mkN a:=if_pos mk_chk
 have hl:=fun i hi => @cor_lo a b c i hi
 have e:∀ i,i < corN (mkK a) (mkR a b) (mkH a b b) (mkH a b c) (mkN a) (mkX a b c) (mkY a b c) → crI (corX (mkK a) (mkH a b b) (mkH a b c) (mkX a b c)) (corY (mkK a) (mkH a b b) (mkH a b c) (mkY a b c)) (corN (mkK a) (mkR a b) (mkH a b b) (mkH a b c) (mkN a) (mkX a b c) (mkY a b c)) i =
   corX (mkK a) (mkH a b b) (mkH a b c) (mkX a b c) i * corY (mkK a) (mkH a b b) (mkH a b c) (mkY a b c) ((i + 1) % corN (mkK a) (mkR a b) (mkH a b b) (mkH a b c) (mkN a) (mkX a b c) (mkY a b c)) - corY (mkK a) (mkH a b b) (mkH a b c) (mkY a b c) i * corX (mkK a) (mkH a b b) (mkH a b c) (mkX a b c) ((i + 1) % corN (mkK a) (mkR a b) (mkH a b b) (mkH a b c) (mkN a) (mkX a b c) (mkY a b c)):=fun i hi => by
  have hj:=Nat.mod_lt (i + 1) (show 0 < corN (mkK a) (mkR a b) (mkH a b b) (mkH a b c) (mkN a) (mkX a b c) (mkY a b c) by omega)
  have k1:=lo_mul (hl i hi).1 (hl _ hj).2
  have k2:=lo_mul (hl i hi).2 (hl _ hj).1
  unfold crI
  rw [wrap_in (by unfold inR; omega)]
 rw [e i hi]
 clear e hl
 rw [hN] at hi ⊢
 clear hN
 have b1:=@mkM_bd b b
 have b2:=@mkM_bd b c
 have t1:(mkM b b).tdiv 2 = mkM b b / 2:=Int.tdiv_eq_ediv_of_nonneg (by omega)
 have t2:(-mkM b b).tdiv 2 = -(mkM b b / 2):=by rw [Int.neg_tdiv,t1]
 by_cases k0:modS a 5 = 0
 ·have h1:mkK a = 1:=if_pos k0
  have h2:mkN a = 0:=if_pos k0
  rw [h1,h2,if_neg (by decide)] at hi
  omega
 by_cases k1:modS a 5 = 1
 ·have h1:mkK a = 2:=(if_neg k0).trans (if_pos k1)
  have w1:=@mkW_bd b b
  have w2:=@mkW_bd b c
  have h2:mkH a b b = mkW b b:=(if_neg k0).trans (if_pos k1)
  have h3:mkH a b c = mkW b c:=(if_neg k0).trans (if_pos k1)
  rw [h2,h3]
  rw [h1,if_pos rfl] at hi ⊢
  generalize mkW b b = w at *
  generalize mkW b c = t at *
  have p:=Int.mul_nonneg (show 0 ≤ w by omega) (show 0 ≤ t by omega)
  match i with
  | 0 => show 0 ≤ (-w) * (-t) - (-t) * w; rw [Int.neg_mul_neg,Int.neg_mul,Int.mul_comm t w]; omega
  | 1 => show 0 ≤ w * t - (-t) * w; rw [Int.neg_mul,Int.mul_comm t w]; omega
  | 2 => show 0 ≤ w * t - t * (-w); rw [Int.mul_neg,Int.mul_comm t w]; omega
  | 3 => show 0 ≤ (-w) * (-t) - t * (-w); rw [Int.neg_mul_neg,Int.mul_neg,Int.mul_comm t w]; omega
  | q + 4 => omega
 have h1:mkK a = 3:=(if_neg k0).trans (if_neg k1)
 rw [h1,if_neg (by decide)] at hi ⊢
 have eX:∀ i,corX 3 (mkH a b b) (mkH a b c) (mkX a b c) i = mkX a b c i:=fun i => if_neg (by decide)
 have eY:∀ i,corY 3 (mkH a b b) (mkH a b c) (mkY a b c) i = mkY a b c i:=fun i => if_neg (by decide)
 rw [eX,eX,eY,eY]
 clear eX eY h1
 unfold mkX mkY mkP
 rw [t1,t2]
 by_cases k2:modS a 5 = 2
 ·have h2:mkN a = 3:=(if_neg k0).trans ((if_neg k1).trans (if_pos k2))
  rw [h2] at hi ⊢
  rw [if_pos k2]
  generalize mkM b b = M at *
  generalize mkM b c = T at *
  have p:=Int.mul_nonneg (show 0 ≤ M by omega) (show 0 ≤ T by omega)
  match i with
  | 0 => show 0 ≤ (-M) * (-T) - (-T) * M; rw [Int.neg_mul_neg,Int.neg_mul,Int.mul_comm T M]; omega
  | 1 => show 0 ≤ M * T - (-T) * 0; omega
  | 2 => show 0 ≤ 0 * (-T) - T * (-M); rw [Int.zero_mul,Int.mul_neg,Int.mul_comm T M]; omega
  | q + 3 => omega
 by_cases k3:modS a 5 = 3
 ·have h2:mkN a = 5:=(if_neg k0).trans ((if_neg k1).trans ((if_neg k2).trans (if_pos k3)))
  rw [h2] at hi ⊢
  rw [if_neg k2,if_pos k3]
  generalize mkM b b = M at *
  generalize mkM b c = T at *
  have p:=Int.mul_nonneg (show 0 ≤ M by omega) (show 0 ≤ T by omega)
  have q:=Int.mul_nonneg (show 0 ≤ M / 2 by omega) (show 0 ≤ T by omega)
  match i with
  | 0 => show 0 ≤ (-(M / 2)) * (-T) - (-T) * (M / 2); rw [Int.neg_mul_neg,Int.neg_mul,Int.mul_comm T (M / 2)]; omega
  | 1 => show 0 ≤ M / 2 * 0 - (-T) * M; rw [Int.neg_mul,Int.mul_comm T M]; omega
  | 2 => show 0 ≤ M * T - 0 * 0; omega
  | 3 => show 0 ≤ 0 * 0 - T * (-M); rw [Int.zero_mul,Int.mul_neg,Int.mul_comm T M]; omega
  | 4 => show 0 ≤ (-M) * (-T) - 0 * (-(M / 2)); rw [Int.neg_mul_neg]; omega
  | q + 5 => omega
 ·have h2:mkN a = 8:=(if_neg k0).trans ((if_neg k1).trans ((if_neg k2).trans (if_neg k3)))
  rw [h2] at hi ⊢
  rw [if_neg k2,if_neg k3]
  generalize mkM b b = M at *
  have p:=Int.mul_nonneg (show 0 ≤ M by omega) (show 0 ≤ M by omega)
  have q:=Int.mul_nonneg (show 0 ≤ M by omega) (show 0 ≤ M / 2 by omega)
  have s:=Int.mul_nonneg (show 0 ≤ M / 2 by omega) (show 0 ≤ M / 2 by omega)
  have u:M * (M / 2) ≤ M * M:=Int.mul_le_mul_of_nonneg_left (by omega) (by omega)
  have v:M / 2 * (M / 2) ≤ M * (M / 2):=Int.mul_le_mul_of_nonneg_right (by omega) (by omega)
  match i with
  | 0 => show 0 ≤ M * (M / 2) - (-(M / 2)) * M; rw [Int.neg_mul,Int.mul_comm (M / 2) M]; omega
  | 1 => show 0 ≤ M * M - M / 2 * (M / 2); omega
  | 2 => show 0 ≤ M / 2 * M - M * (-(M / 2)); rw [Int.mul_neg,Int.mul_comm (M / 2) M]; omega
  | 3 => show 0 ≤ (-(M / 2)) * (M / 2) - M * (-M); rw [Int.neg_mul,Int.mul_neg]; omega
  | 4 => show 0 ≤ (-M) * (-(M / 2)) - M / 2 * (-M); rw [Int.neg_mul_neg,Int.mul_neg,Int.mul_comm (M / 2) M]; omega
  | 5 => show 0 ≤ (-M) * (-M) - (-(M / 2)) * (-(M / 2)); rw [Int.neg_mul_neg,Int.neg_mul_neg]; omega
  | 6 => show 0 ≤ (-(M / 2)) * (-M) - (-M) * (M / 2); rw [Int.neg_mul_neg,Int.neg_mul,Int.mul_comm (M / 2) M]; omega
  | 7 => show 0 ≤ M / 2 * (-(M / 2)) - (-M) * M; rw [Int.mul_neg,Int.neg_mul]; omega
  | q + 8 => omega
theorem wgA_nn {P Q:Nat → Int} {n:Nat} (hn:n ≤ 8) (hl:∀ i,i < n → lo (P i) ∧ lo (Q i)) (hc:∀ i,i < n → 0 ≤ crI P Q n i):∀ i:Nat,i ≤ n → 0 ≤ wgA P Q n i ∧ wgA P Q n i ≤ (i:Int) * 33554432
 | 0,_ => by show (0:Int) ≤ 0 ∧ (0:Int) ≤ _; omega
 | i + 1,h => by
  have h1:=wgA_nn hn hl hc i (by omega)
  have h2:=crI_bd hl (show i < n by omega)
  have h3:=hc i (by omega)
  show 0 ≤ IntKind.i64.wrap (wgA P Q n i + crI P Q n i) ∧ IntKind.i64.wrap (wgA P Q n i + crI P Q n i) ≤ _
  rw [wrap_in (by unfold inR; omega)]
  omega
theorem doI_eq {P Q:Nat → Int} {i j:Nat} (h1:lo (P i)) (h2:lo (Q i)) (h3:lo (P j)) (h4:lo (Q j)):doI P Q i j = P i * P j + Q i * Q j ∧ -33554432 ≤ doI P Q i j ∧ doI P Q i j ≤ 33554432:=by
 have k1:=lo_mul h1 h3
 have k2:=lo_mul h2 h4
 unfold doI
 rw [wrap_in (x:=P i * P j) (by unfold inR; omega),wrap_in (x:=Q i * Q j) (by unfold inR; omega),wrap_in (by unfold inR; omega)]
 exact ⟨rfl,by omega,by omega⟩
theorem sq_3 (a b:Int):0 ≤ a * a + a * b + b * b:=by
 have h1:=sq0 a
 have h2:=sq0 b
 have h3:=sq0 (a + b)
 rw [Int.add_mul,Int.mul_add,Int.mul_add,Int.mul_comm b a] at h3
 omega
theorem wgB_nn {P Q:Nat → Int} {n:Nat} (hn:n ≤ 8) (hl:∀ i,i < n → lo (P i) ∧ lo (Q i)) (hc:∀ i,i < n → 0 ≤ crI P Q n i):∀ i:Nat,i ≤ n → 0 ≤ wgB P Q n i ∧ wgB P Q n i ≤ (i:Int) * 3377699720527872
 | 0,_ => by show (0:Int) ≤ 0 ∧ (0:Int) ≤ _; omega
 | i + 1,h => by
  have h1:=wgB_nn hn hl hc i (by omega)
  have h2:=crI_bd hl (show i < n by omega)
  have h3:=hc i (by omega)
  have hj:=Nat.mod_lt (i + 1) (show 0 < n by omega)
  have hi:=hl i (by omega)
  have hk:=hl _ hj
  have d1:=@doI_eq P Q i i hi.1 hi.2 hi.1 hi.2
  have d2:=@doI_eq P Q i ((i + 1) % n) hi.1 hi.2 hk.1 hk.2
  have d3:=@doI_eq P Q ((i + 1) % n) ((i + 1) % n) hk.1 hk.2 hk.1 hk.2
  show 0 ≤ IntKind.i64.wrap (wgB P Q n i + IntKind.i64.wrap (crI P Q n i * IntKind.i64.wrap (IntKind.i64.wrap (doI P Q i i + doI P Q i ((i + 1) % n)) + doI P Q ((i + 1) % n) ((i + 1) % n)))) ∧ IntKind.i64.wrap (wgB P Q n i + IntKind.i64.wrap (crI P Q n i * IntKind.i64.wrap (IntKind.i64.wrap (doI P Q i i + doI P Q i ((i + 1) % n)) + doI P Q ((i + 1) % n) ((i + 1) % n)))) ≤ _
  rw [wrap_in (x:=doI P Q i i + doI P Q i ((i + 1) % n)) (by unfold inR; omega),wrap_in (x:=doI P Q i i + doI P Q i ((i + 1) % n) + doI P Q ((i + 1) % n) ((i + 1) % n)) (by unfold inR; omega)]
  have s1:=sq_3 (P i) (P ((i + 1) % n))
  have s2:=sq_3 (Q i) (Q ((i + 1) % n))
  have hs:0 ≤ doI P Q i i + doI P Q i ((i + 1) % n) + doI P Q ((i + 1) % n) ((i + 1) % n):=by omega
  have hs2:doI P Q i i + doI P Q i ((i + 1) % n) + doI P Q ((i + 1) % n) ((i + 1) % n) ≤ 100663296:=by omega
  generalize doI P Q i i + doI P Q i ((i + 1) % n) + doI P Q ((i + 1) % n) ((i + 1) % n) = S at *
  have p1:=Int.mul_nonneg h3 hs
  have p2:crI P Q n i * S ≤ 33554432 * 100663296:=Int.mul_le_mul h2.2 hs2 hs (by omega)
  rw [wrap_in (x:=crI P Q n i * S) (by unfold inR; omega),wrap_in (by unfold inR; omega)]
  omega
end Go.Ax
end
section
/-
  Made bodies: what they are.
-/
set_option maxHeartbeats 4000000
set_option maxRecDepth 100000
namespace Go.Ax
open Go.Proofs
def mkWt (a b c d k:Int):Nb × Nb:=nwW (mkK a) (mkR a b) (mkH a b b) (mkH a b c) (mkN a) (mkX a b c) (mkY a b c) (mkD d k) (modS k 4 != 0)
theorem mk0_eq {a b c x y u d k s:Int} (hs:1 ≤ s ∧ s ≤ 4000):mk0 a b c x y u d k s = ⟨mkK a,mkR a b,mkH a b b,mkH a b c,mkN a,mkX a b c,mkY a b c,foAt x y s,foRot u,zV,(0,false),(mkWt a b c d k).1,(mkWt a b c d k).2,0,false,false,1⟩:=by
 have hE:=@mk_nwE a b c x y u d k s hs
 unfold mk0 nwB
 rw [if_pos hE]
 rfl
def mkV (p q k:Int):V2:=if modS k 4 = 1 then (nuN p 200,nuN q 200) else zV
def mkO (r k:Int):Nb:=if modS k 4 = 1 then nuN r 60 else (0,false)
def mkSt (k:Int):Int:=if modS k 4 = 2 then 30 else 0
theorem mkB_eq {a b c x y u p q r d k s:Int} (hs:1 ≤ s ∧ s ≤ 4000):mkB a b c x y u p q r d k s = ⟨mkK a,mkR a b,mkH a b b,mkH a b c,mkN a,mkX a b c,mkY a b c,foAt x y s,foRot u,mkV p q k,mkO r k,(mkWt a b c d k).1,(mkWt a b c d k).2,mkSt k,decide (modS k 4 = 2 ∨ modS k 4 = 3),decide (modS k 4 = 3),1⟩:=by
 unfold mkB mkV mkO mkSt
 rw [mk0_eq hs]
 by_cases h1:modS k 4 = 1
 ·rw [if_pos h1,if_pos h1,if_pos h1,if_neg (by omega),decide_eq_false (by omega),decide_eq_false (by omega)]
 ·rw [if_neg h1,if_neg h1,if_neg h1]
  by_cases h2:modS k 4 = 2
  ·rw [if_pos h2,if_pos h2,decide_eq_true (by omega),decide_eq_false (by omega)]
  ·rw [if_neg h2,if_neg h2]
   by_cases h3:modS k 4 = 3
   ·rw [if_pos h3,decide_eq_true (by omega),decide_eq_true h3]
   ·rw [if_neg h3,decide_eq_false (by omega),decide_eq_false h3]
theorem nu_bd {x s:Int} (h:1 ≤ s ∧ s ≤ 200):-858993459200 < (nuN x s).1 ∧ (nuN x s).1 < 858993459200:=by
 have h1:x.tmod (s * 4294967296) < s * 4294967296:=Int.tmod_lt_of_pos x (by omega)
 have h2:-(s * 4294967296) < x.tmod (s * 4294967296):=Int.lt_tmod_of_pos x (by omega)
 show -858993459200 < x.tmod (s * 4294967296) ∧ x.tmod (s * 4294967296) < 858993459200
 omega
theorem mkWt_in {a b c d k:Int}:inR (mkWt a b c d k).1.1 ∧ inR (mkWt a b c d k).2.1:=by
 unfold mkWt nwW
 split
 ·exact mk_wgS_in
 ·exact ⟨by show inR 0; unfold inR; decide,by show inR 0; unfold inR; decide⟩
theorem mkB_in {a b c x y u p q r d k s:Int} (hs:1 ≤ s ∧ s ≤ 4000):inB (mkB a b c x y u p q r d k s):=by
 rw [mkB_eq hs]
 have hm:=@mkWt_in a b c d k
 have w1:=@mkW_bd b b
 have h1:∀ v,inR (mkH a b v):=fun v => by
  have:=@mkW_bd b v
  unfold mkH inR
  (repeat' split) <;> omega
 have hz:inR 0:=by unfold inR; decide
 have hu:∀ x s,1 ≤ s ∧ s ≤ 200 → inR (nuN x s).1:=fun x s h => by
  have:=@nu_bd x s h
  unfold inR; omega
 refine ⟨?_,?_,h1 b,h1 c,fun j hj => mk_inR j hj,tmod_inR (by omega),tmod_inR (by omega),csV_inR,snV_inR,?_,?_,?_,hm.1,hm.2,?_,(by unfold inR; decide:inR 1)⟩
 ·show inR (mkK a)
  unfold mkK inR
  (repeat' split) <;> omega
 ·show inR (mkR a b)
  unfold mkR inR
  (repeat' split) <;> omega
 ·show inR (mkV p q k).1.1
  unfold mkV
  split
  ·exact hu _ _ (by omega)
  ·exact hz
 ·show inR (mkV p q k).2.1
  unfold mkV
  split
  ·exact hu _ _ (by omega)
  ·exact hz
 ·show inR (mkO r k).1
  unfold mkO
  split
  ·exact hu _ _ (by omega)
  ·exact hz
 ·show inR (mkSt k)
  unfold mkSt
  split
  ·unfold inR; decide
  ·exact hz
theorem mkB_n {a b c x y u p q r d k s:Int} (hs:1 ≤ s ∧ s ≤ 4000):(mkB a b c x y u p q r d k s).n ≤ 1000:=by
 rw [mkB_eq hs]
 show mkN a ≤ 1000
 unfold mkN
 (repeat' split) <;> omega
end Go.Ax
end
section
/-
  Impulses lie in the cone of friction.
-/
set_option maxHeartbeats 4000000
set_option maxRecDepth 100000
namespace Go.Ax
open Go.Proofs
end Go.Ax
end
section
/-
  Lists of few bodies.
-/
set_option maxHeartbeats 4000000
set_option maxRecDepth 100000
namespace Go.Ax
open Go.Proofs
end Go.Ax
end
section
/-
  SolverCone: its body.
-/
set_option maxHeartbeats 4000000
set_option maxRecDepth 100000
namespace Go.Ax
open Go.Proofs
structure Th where
 a:Int
 b:Int
 c:Int
 x:Int
 y:Int
 u:Int
 p:Int
 q:Int
 r:Int
 d:Int
 k:Int
def thC (t:Th):List AV:=[i64 t.a,i64 t.b,i64 t.c,i64 t.x,i64 t.y,i64 t.u,i64 t.p,i64 t.q,i64 t.r,i64 t.d,i64 t.k]
def inT (t:Th):Prop:=inR t.a ∧ inR t.b ∧ inR t.c ∧ inR t.x ∧ inR t.y ∧ inR t.u ∧ inR t.p ∧ inR t.q ∧ inR t.r ∧ inR t.d ∧ inR t.k
def mkT (t:Th) (s:Int):Bd:=mkB t.a t.b t.c t.x t.y t.u t.p t.q t.r t.d t.k s
theorem mkT_eq {t:Th} {s:Int}:mkB t.a t.b t.c t.x t.y t.u t.p t.q t.r t.d t.k s = mkT t s:=rfl
theorem mkT_in {t:Th} {s:Int} (hs:1 ≤ s ∧ s ≤ 4000):inB (mkT t s):=mkB_in hs
theorem mkT_n {t:Th} {s:Int} (hs:1 ≤ s ∧ s ≤ 4000):(mkT t s).n ≤ 1000:=mkB_n hs
def ctP (c:Ct) (a b:Nb):Ct:={ c with p0:=a,p1:=b }
def ctR (c:Ct) (a b:Nb):Ct:={ c with r0:=a,r1:=b }
theorem put7_cont {c:Ct} {a b:Int} {e f:Bool}:List.take 7 (contC c) ++ [i64 a,bo e,i64 b,bo f] ++ List.drop 11 (contC c) = contC (ctP c (a,e) (b,f)):=(rfl)
theorem put11_cont {c:Ct} {a b:Int} {e f:Bool}:List.take 11 (contC c) ++ [i64 a,bo e,i64 b,bo f] = contC (ctR c (a,e) (b,f)):=(rfl)
theorem take15_cont {c:Ct}:List.take 15 (contC c) = contC c:=(rfl)
theorem len15_cont {c:Ct}:(contC c).length = 15:=(rfl)
attribute [go_sem] put7_cont put11_cont take15_cont len15_cont
end Go.Ax
end
section
/-
  Made bodies: bounds of their weights.
-/
set_option maxHeartbeats 4000000
set_option maxRecDepth 100000
namespace Go.Ax
open Go.Proofs
theorem wgB_two {P Q:Nat → Int} {n:Nat} (hn:n ≤ 8) (hl:∀ i,i < n → lo (P i) ∧ lo (Q i)) (hc:∀ i,i < n → 0 ≤ crI P Q n i):∀ i:Nat,i + 2 ≤ n → wgB P Q n 2 ≤ wgB P Q n (i + 2)
 | 0,_ => Int.le_refl _
 | i + 1,h => by
  have h0:=wgB_two hn hl hc i (by omega)
  have h1:=wgB_nn hn hl hc (i + 2) (by omega)
  have h2:=crI_bd hl (show i + 2 < n by omega)
  have h3:=hc (i + 2) (by omega)
  have hj:=Nat.mod_lt (i + 2 + 1) (show 0 < n by omega)
  have hi:=hl (i + 2) (by omega)
  have hk:=hl _ hj
  have d1:=@doI_eq P Q (i + 2) (i + 2) hi.1 hi.2 hi.1 hi.2
  have d2:=@doI_eq P Q (i + 2) ((i + 2 + 1) % n) hi.1 hi.2 hk.1 hk.2
  have d3:=@doI_eq P Q ((i + 2 + 1) % n) ((i + 2 + 1) % n) hk.1 hk.2 hk.1 hk.2
  show wgB P Q n 2 ≤ IntKind.i64.wrap (wgB P Q n (i + 2) + IntKind.i64.wrap (crI P Q n (i + 2) * IntKind.i64.wrap (IntKind.i64.wrap (doI P Q (i + 2) (i + 2) + doI P Q (i + 2) ((i + 2 + 1) % n)) + doI P Q ((i + 2 + 1) % n) ((i + 2 + 1) % n))))
  rw [wrap_in (x:=doI P Q (i + 2) (i + 2) + doI P Q (i + 2) ((i + 2 + 1) % n)) (by unfold inR; omega),wrap_in (x:=doI P Q (i + 2) (i + 2) + doI P Q (i + 2) ((i + 2 + 1) % n) + doI P Q ((i + 2 + 1) % n) ((i + 2 + 1) % n)) (by unfold inR; omega)]
  have s1:=sq_3 (P (i + 2)) (P ((i + 2 + 1) % n))
  have s2:=sq_3 (Q (i + 2)) (Q ((i + 2 + 1) % n))
  have hs:0 ≤ doI P Q (i + 2) (i + 2) + doI P Q (i + 2) ((i + 2 + 1) % n) + doI P Q ((i + 2 + 1) % n) ((i + 2 + 1) % n):=by omega
  have hs2:doI P Q (i + 2) (i + 2) + doI P Q (i + 2) ((i + 2 + 1) % n) + doI P Q ((i + 2 + 1) % n) ((i + 2 + 1) % n) ≤ 100663296:=by omega
  generalize doI P Q (i + 2) (i + 2) + doI P Q (i + 2) ((i + 2 + 1) % n) + doI P Q ((i + 2 + 1) % n) ((i + 2 + 1) % n) = S at *
  have p1:=Int.mul_nonneg h3 hs
  have p2:crI P Q n (i + 2) * S ≤ 33554432 * 100663296:=Int.mul_le_mul h2.2 hs2 hs (by omega)
  rw [wrap_in (x:=crI P Q n (i + 2) * S) (by unfold inR; omega),wrap_in (by unfold inR; omega)]
  omega
theorem mul_lo {a b p q:Int} (h1:p ≤ a) (h2:q ≤ b) (hp:0 ≤ p) (hq:0 ≤ q):p * q ≤ a * b:=Int.mul_le_mul h1 h2 hq (by omega)
theorem wgB_lo {P Q:Nat → Int} {n:Nat} (hn3:3 ≤ n) (hn:n ≤ 8) (hl:∀ i,i < n → lo (P i) ∧ lo (Q i)) (hc:∀ i,i < n → 0 ≤ crI P Q n i)
  (h0:512 ≤ P 0 * Q 1 - Q 0 * P 1) (h1:512 ≤ P 1 * Q 2 - Q 1 * P 2) (hd:2048 ≤ (P 0 * P 0 + Q 0 * Q 0 + (P 0 * P 1 + Q 0 * Q 1) + (P 1 * P 1 + Q 1 * Q 1)) + (P 1 * P 1 + Q 1 * Q 1 + (P 1 * P 2 + Q 1 * Q 2) + (P 2 * P 2 + Q 2 * Q 2))):1048576 ≤ wgB P Q n 2 ∧ 1 ≤ wgA P Q n 2:=by
 have e1:(0 + 1) % n = 1:=Nat.mod_eq_of_lt (by omega)
 have e2:(1 + 1) % n = 2:=Nat.mod_eq_of_lt (by omega)
 have l0:=hl 0 (by omega)
 have l1:=hl 1 (by omega)
 have l2:=hl 2 (by omega)
 have a1:=lo_mul l0.1 l1.2
 have a2:=lo_mul l0.2 l1.1
 have a3:=lo_mul l1.1 l2.2
 have a4:=lo_mul l1.2 l2.1
 have c0:crI P Q n 0 = P 0 * Q 1 - Q 0 * P 1:=by unfold crI; rw [e1,wrap_in (by unfold inR; omega)]
 have c1:crI P Q n 1 = P 1 * Q 2 - Q 1 * P 2:=by unfold crI; rw [e2,wrap_in (by unfold inR; omega)]
 obtain ⟨d1,d1a,d1b⟩:=@doI_eq P Q 0 0 l0.1 l0.2 l0.1 l0.2
 obtain ⟨d2,d2a,d2b⟩:=@doI_eq P Q 0 1 l0.1 l0.2 l1.1 l1.2
 obtain ⟨d3,d3a,d3b⟩:=@doI_eq P Q 1 1 l1.1 l1.2 l1.1 l1.2
 obtain ⟨d4,d4a,d4b⟩:=@doI_eq P Q 1 2 l1.1 l1.2 l2.1 l2.2
 obtain ⟨d5,d5a,d5b⟩:=@doI_eq P Q 2 2 l2.1 l2.2 l2.1 l2.2
 have s1:=sq_3 (P 0) (P 1)
 have s2:=sq_3 (Q 0) (Q 1)
 have s3:=sq_3 (P 1) (P 2)
 have s4:=sq_3 (Q 1) (Q 2)
 have w:wgB P Q n 2 = IntKind.i64.wrap (IntKind.i64.wrap (0 + IntKind.i64.wrap (crI P Q n 0 * IntKind.i64.wrap (IntKind.i64.wrap (doI P Q 0 0 + doI P Q 0 ((0 + 1) % n)) + doI P Q ((0 + 1) % n) ((0 + 1) % n)))) + IntKind.i64.wrap (crI P Q n 1 * IntKind.i64.wrap (IntKind.i64.wrap (doI P Q 1 1 + doI P Q 1 ((1 + 1) % n)) + doI P Q ((1 + 1) % n) ((1 + 1) % n)))):=rfl
 have v:wgA P Q n 2 = IntKind.i64.wrap (IntKind.i64.wrap (0 + crI P Q n 0) + crI P Q n 1):=rfl
 rw [e1,e2] at w
 rw [c0,c1] at v w
 rw [w,v]
 generalize hD:doI P Q 0 0 = D1 at *
 generalize doI P Q 0 1 = D2 at *
 generalize doI P Q 1 1 = D3 at *
 generalize doI P Q 1 2 = D4 at *
 generalize doI P Q 2 2 = D5 at *
 generalize hC:P 0 * Q 1 - Q 0 * P 1 = C at *
 generalize hE:P 1 * Q 2 - Q 1 * P 2 = E at *
 rw [wrap_in (x:=D1 + D2) (by unfold inR; omega),wrap_in (x:=D1 + D2 + D3) (by unfold inR; omega),wrap_in (x:=D3 + D4) (by unfold inR; omega),wrap_in (x:=D3 + D4 + D5) (by unfold inR; omega)]
 have hS:0 ≤ D1 + D2 + D3 ∧ D1 + D2 + D3 ≤ 100663296:=by omega
 have hT:0 ≤ D3 + D4 + D5 ∧ D3 + D4 + D5 ≤ 100663296:=by omega
 have hST:2048 ≤ (D1 + D2 + D3) + (D3 + D4 + D5):=by omega
 generalize D1 + D2 + D3 = S at *
 generalize D3 + D4 + D5 = T at *
 have p1:512 * S ≤ C * S:=Int.mul_le_mul_of_nonneg_right h0 hS.1
 have p2:512 * T ≤ E * T:=Int.mul_le_mul_of_nonneg_right h1 hT.1
 have hC2:C ≤ 33554432:=by omega
 have hE2:E ≤ 33554432:=by omega
 have p3:C * S ≤ 33554432 * 100663296:=Int.mul_le_mul hC2 hS.2 hS.1 (by omega)
 have p4:E * T ≤ 33554432 * 100663296:=Int.mul_le_mul hE2 hT.2 hT.1 (by omega)
 rw [wrap_in (x:=C * S) (by unfold inR; omega),wrap_in (x:=E * T) (by unfold inR; omega),wrap_in (x:=0 + C * S) (by unfold inR; omega),wrap_in (x:=0 + C * S + E * T) (by unfold inR; omega),wrap_in (x:=0 + C) (by unfold inR; omega),wrap_in (x:=0 + C + E) (by unfold inR; omega)]
 omega
theorem wgA_two {P Q:Nat → Int} {n:Nat} (hn:n ≤ 8) (hl:∀ i,i < n → lo (P i) ∧ lo (Q i)) (hc:∀ i,i < n → 0 ≤ crI P Q n i):∀ i:Nat,i + 2 ≤ n → wgA P Q n 2 ≤ wgA P Q n (i + 2)
 | 0,_ => Int.le_refl _
 | i + 1,h => by
  have h0:=wgA_two hn hl hc i (by omega)
  have h1:=wgA_nn hn hl hc (i + 2) (by omega)
  have h2:=crI_bd hl (show i + 2 < n by omega)
  have h3:=hc (i + 2) (by omega)
  show wgA P Q n 2 ≤ IntKind.i64.wrap (wgA P Q n (i + 2) + crI P Q n (i + 2))
  rw [wrap_in (by unfold inR; omega)]
  omega
theorem cor_sum {a b c:Int} (hk:mkK a ≠ 1):(1048576 ≤ wgB (corX (mkK a) (mkH a b b) (mkH a b c) (mkX a b c)) (corY (mkK a) (mkH a b b) (mkH a b c) (mkY a b c)) (corN (mkK a) (mkR a b) (mkH a b b) (mkH a b c) (mkN a) (mkX a b c) (mkY a b c)) (corN (mkK a) (mkR a b) (mkH a b b) (mkH a b c) (mkN a) (mkX a b c) (mkY a b c)) ∧
   wgB (corX (mkK a) (mkH a b b) (mkH a b c) (mkX a b c)) (corY (mkK a) (mkH a b b) (mkH a b c) (mkY a b c)) (corN (mkK a) (mkR a b) (mkH a b b) (mkH a b c) (mkN a) (mkX a b c) (mkY a b c)) (corN (mkK a) (mkR a b) (mkH a b b) (mkH a b c) (mkN a) (mkX a b c) (mkY a b c)) ≤ 27021597764222976) ∧
  1 ≤ wgA (corX (mkK a) (mkH a b b) (mkH a b c) (mkX a b c)) (corY (mkK a) (mkH a b b) (mkH a b c) (mkY a b c)) (corN (mkK a) (mkR a b) (mkH a b b) (mkH a b c) (mkN a) (mkX a b c) (mkY a b c)) (corN (mkK a) (mkR a b) (mkH a b b) (mkH a b c) (mkN a) (mkX a b c) (mkY a b c)) ∧
   wgA (corX (mkK a) (mkH a b b) (mkH a b c) (mkX a b c)) (corY (mkK a) (mkH a b b) (mkH a b c) (mkY a b c)) (corN (mkK a) (mkR a b) (mkH a b b) (mkH a b c) (mkN a) (mkX a b c) (mkY a b c)) (corN (mkK a) (mkR a b) (mkH a b b) (mkH a b c) (mkN a) (mkX a b c) (mkY a b c)) ≤ 268435456:=by
 have hN:corN (mkK a) (mkR a b) (mkH a b b) (mkH a b c) (mkN a) (mkX a b c) (mkY a b c) = if mkK a = 2 then 4 else mkN a:=if_pos mk_chk
 have hl:=fun i hi => @cor_lo a b c i hi
 have hcn:=fun i hi => @cor_nn a b c i hi
 have b1:=@mkM_bd b b
 have b2:=@mkM_bd b c
 have t1:(mkM b b).tdiv 2 = mkM b b / 2:=Int.tdiv_eq_ediv_of_nonneg (by omega)
 have t2:(-mkM b b).tdiv 2 = -(mkM b b / 2):=by rw [Int.neg_tdiv,t1]
 have k0:¬ modS a 5 = 0:=fun h => hk (if_pos h)
 suffices h:3 ≤ corN (mkK a) (mkR a b) (mkH a b b) (mkH a b c) (mkN a) (mkX a b c) (mkY a b c) ∧ corN (mkK a) (mkR a b) (mkH a b b) (mkH a b c) (mkN a) (mkX a b c) (mkY a b c) ≤ 8 ∧
   512 ≤ corX (mkK a) (mkH a b b) (mkH a b c) (mkX a b c) 0 * corY (mkK a) (mkH a b b) (mkH a b c) (mkY a b c) 1 - corY (mkK a) (mkH a b b) (mkH a b c) (mkY a b c) 0 * corX (mkK a) (mkH a b b) (mkH a b c) (mkX a b c) 1 ∧
   512 ≤ corX (mkK a) (mkH a b b) (mkH a b c) (mkX a b c) 1 * corY (mkK a) (mkH a b b) (mkH a b c) (mkY a b c) 2 - corY (mkK a) (mkH a b b) (mkH a b c) (mkY a b c) 1 * corX (mkK a) (mkH a b b) (mkH a b c) (mkX a b c) 2 ∧
   2048 ≤ (corX (mkK a) (mkH a b b) (mkH a b c) (mkX a b c) 0 * corX (mkK a) (mkH a b b) (mkH a b c) (mkX a b c) 0 + corY (mkK a) (mkH a b b) (mkH a b c) (mkY a b c) 0 * corY (mkK a) (mkH a b b) (mkH a b c) (mkY a b c) 0 + (corX (mkK a) (mkH a b b) (mkH a b c) (mkX a b c) 0 * corX (mkK a) (mkH a b b) (mkH a b c) (mkX a b c) 1 + corY (mkK a) (mkH a b b) (mkH a b c) (mkY a b c) 0 * corY (mkK a) (mkH a b b) (mkH a b c) (mkY a b c) 1) + (corX (mkK a) (mkH a b b) (mkH a b c) (mkX a b c) 1 * corX (mkK a) (mkH a b b) (mkH a b c) (mkX a b c) 1 + corY (mkK a) (mkH a b b) (mkH a b c) (mkY a b c) 1 * corY (mkK a) (mkH a b b) (mkH a b c) (mkY a b c) 1)) +
    (corX (mkK a) (mkH a b b) (mkH a b c) (mkX a b c) 1 * corX (mkK a) (mkH a b b) (mkH a b c) (mkX a b c) 1 + corY (mkK a) (mkH a b b) (mkH a b c) (mkY a b c) 1 * corY (mkK a) (mkH a b b) (mkH a b c) (mkY a b c) 1 + (corX (mkK a) (mkH a b b) (mkH a b c) (mkX a b c) 1 * corX (mkK a) (mkH a b b) (mkH a b c) (mkX a b c) 2 + corY (mkK a) (mkH a b b) (mkH a b c) (mkY a b c) 1 * corY (mkK a) (mkH a b b) (mkH a b c) (mkY a b c) 2) + (corX (mkK a) (mkH a b b) (mkH a b c) (mkX a b c) 2 * corX (mkK a) (mkH a b b) (mkH a b c) (mkX a b c) 2 + corY (mkK a) (mkH a b b) (mkH a b c) (mkY a b c) 2 * corY (mkK a) (mkH a b b) (mkH a b c) (mkY a b c) 2)) by
  obtain ⟨h3,h8,g0,g1,g2⟩:=h
  obtain ⟨u1,u2⟩:=wgB_lo h3 h8 hl hcn g0 g1 g2
  generalize corN (mkK a) (mkR a b) (mkH a b b) (mkH a b c) (mkN a) (mkX a b c) (mkY a b c) = N at *
  obtain ⟨n',rfl⟩:∃ n',N = n' + 2:=⟨N - 2,by omega⟩
  have v1:=wgB_two h8 hl hcn n' (by omega)
  have v2:=wgA_two h8 hl hcn n' (by omega)
  have v3:=wgB_nn h8 hl hcn (n' + 2) (by omega)
  have v4:=wgA_nn h8 hl hcn (n' + 2) (by omega)
  omega
 rw [hN]
 clear hN hl hcn
 by_cases k1:modS a 5 = 1
 ·have h1:mkK a = 2:=(if_neg k0).trans (if_pos k1)
  have w1:=@mkW_bd b b
  have w2:=@mkW_bd b c
  have h2:mkH a b b = mkW b b:=(if_neg k0).trans (if_pos k1)
  have h3:mkH a b c = mkW b c:=(if_neg k0).trans (if_pos k1)
  rw [h2,h3,h1,if_pos rfl]
  generalize mkW b b = w at *
  generalize mkW b c = t at *
  have p:=mul_lo (p:=16) (q:=16) w1.1 w2.1 (by omega) (by omega)
  have p1:=mul_lo (p:=16) (q:=16) w1.1 w1.1 (by omega) (by omega)
  have p2:=mul_lo (p:=16) (q:=16) w2.1 w2.1 (by omega) (by omega)
  refine ⟨by omega,by omega,?_,?_,?_⟩
  ·show 512 ≤ (-w) * (-t) - (-t) * w; rw [Int.neg_mul_neg,Int.neg_mul,Int.mul_comm t w]; omega
  ·show 512 ≤ w * t - (-t) * w; rw [Int.neg_mul,Int.mul_comm t w]; omega
  ·show 2048 ≤ ((-w) * (-w) + (-t) * (-t) + ((-w) * w + (-t) * (-t)) + (w * w + (-t) * (-t))) + (w * w + (-t) * (-t) + (w * w + (-t) * t) + (w * w + t * t))
   simp only [Int.neg_mul_neg,Int.neg_mul,Int.mul_neg,Int.neg_neg]; omega
 have h1:mkK a = 3:=(if_neg k0).trans (if_neg k1)
 rw [h1,if_neg (by decide)]
 have eX:∀ i,corX 3 (mkH a b b) (mkH a b c) (mkX a b c) i = mkX a b c i:=fun i => if_neg (by decide)
 have eY:∀ i,corY 3 (mkH a b b) (mkH a b c) (mkY a b c) i = mkY a b c i:=fun i => if_neg (by decide)
 simp only [eX,eY]
 clear eX eY h1
 unfold mkX mkY mkP
 rw [t1,t2]
 by_cases k2:modS a 5 = 2
 ·have h2:mkN a = 3:=(if_neg k0).trans ((if_neg k1).trans (if_pos k2))
  rw [h2]
  rw [if_pos k2]
  generalize mkM b b = M at *
  generalize mkM b c = T at *
  have p:=mul_lo (p:=64) (q:=64) b1.1 b2.1 (by omega) (by omega)
  have p1:=mul_lo (p:=64) (q:=64) b1.1 b1.1 (by omega) (by omega)
  have p2:=mul_lo (p:=64) (q:=64) b2.1 b2.1 (by omega) (by omega)
  refine ⟨by omega,by omega,?_,?_,?_⟩
  ·show 512 ≤ (-M) * (-T) - (-T) * M; rw [Int.neg_mul_neg,Int.neg_mul,Int.mul_comm T M]; omega
  ·show 512 ≤ M * T - (-T) * 0; omega
  ·show 2048 ≤ ((-M) * (-M) + (-T) * (-T) + ((-M) * M + (-T) * (-T)) + (M * M + (-T) * (-T))) + (M * M + (-T) * (-T) + (M * 0 + (-T) * T) + (0 * 0 + T * T))
   simp only [Int.neg_mul_neg,Int.neg_mul,Int.mul_neg,Int.neg_neg,Int.mul_zero,Int.zero_mul]; omega
 by_cases k3:modS a 5 = 3
 ·have h2:mkN a = 5:=(if_neg k0).trans ((if_neg k1).trans ((if_neg k2).trans (if_pos k3)))
  rw [h2]
  rw [if_neg k2,if_pos k3]
  generalize mkM b b = M at *
  generalize mkM b c = T at *
  have q:=mul_lo (p:=32) (q:=64) (show 32 ≤ M / 2 by omega) b2.1 (by omega) (by omega)
  have p:=mul_lo (p:=64) (q:=64) b1.1 b2.1 (by omega) (by omega)
  have p1:=mul_lo (p:=64) (q:=64) b1.1 b1.1 (by omega) (by omega)
  have p2:=mul_lo (p:=64) (q:=64) b2.1 b2.1 (by omega) (by omega)
  have p3:=mul_lo (p:=32) (q:=32) (show 32 ≤ M / 2 by omega) (show 32 ≤ M / 2 by omega) (by omega) (by omega)
  have p4:=mul_lo (p:=32) (q:=64) (show 32 ≤ M / 2 by omega) b1.1 (by omega) (by omega)
  refine ⟨by omega,by omega,?_,?_,?_⟩
  ·show 512 ≤ (-(M / 2)) * (-T) - (-T) * (M / 2); rw [Int.neg_mul_neg,Int.neg_mul,Int.mul_comm T (M / 2)]; omega
  ·show 512 ≤ M / 2 * 0 - (-T) * M; rw [Int.neg_mul,Int.mul_comm T M]; omega
  ·show 2048 ≤ ((-(M / 2)) * (-(M / 2)) + (-T) * (-T) + ((-(M / 2)) * (M / 2) + (-T) * (-T)) + (M / 2 * (M / 2) + (-T) * (-T))) + (M / 2 * (M / 2) + (-T) * (-T) + (M / 2 * M + (-T) * 0) + (M * M + 0 * 0))
   simp only [Int.neg_mul_neg,Int.neg_mul,Int.mul_neg,Int.neg_neg,Int.mul_zero,Int.zero_mul]; omega
 ·have h2:mkN a = 8:=(if_neg k0).trans ((if_neg k1).trans ((if_neg k2).trans (if_neg k3)))
  rw [h2]
  rw [if_neg k2,if_neg k3]
  generalize mkM b b = M at *
  have q:=mul_lo (p:=64) (q:=32) b1.1 (show 32 ≤ M / 2 by omega) (by omega) (by omega)
  have p1:=mul_lo (p:=64) (q:=64) b1.1 b1.1 (by omega) (by omega)
  have p3:=mul_lo (p:=32) (q:=32) (show 32 ≤ M / 2 by omega) (show 32 ≤ M / 2 by omega) (by omega) (by omega)
  have u:M * (M / 2) ≤ M * M:=Int.mul_le_mul_of_nonneg_left (by omega) (by omega)
  have v:M / 2 * (M / 2) ≤ M * (M / 2):=Int.mul_le_mul_of_nonneg_right (by omega) (by omega)
  have x:2 * (M / 2 * (M / 2)) ≤ M * (M / 2):=by
   have:2 * (M / 2) * (M / 2) ≤ M * (M / 2):=Int.mul_le_mul_of_nonneg_right (by omega) (by omega)
   rw [Int.mul_assoc] at this
   exact this
  refine ⟨by omega,by omega,?_,?_,?_⟩
  ·show 512 ≤ M * (M / 2) - (-(M / 2)) * M; rw [Int.neg_mul,Int.mul_comm (M / 2) M]; omega
  ·show 512 ≤ M * M - M / 2 * (M / 2); omega
  ·show 2048 ≤ (M * M + (-(M / 2)) * (-(M / 2)) + (M * M + (-(M / 2)) * (M / 2)) + (M * M + M / 2 * (M / 2))) + (M * M + M / 2 * (M / 2) + (M * (M / 2) + M / 2 * M) + (M / 2 * (M / 2) + M * M))
   simp only [Int.neg_mul_neg,Int.neg_mul,Int.mul_neg,Int.neg_neg,Int.mul_comm (M / 2) M]; omega
theorem rat_bd {a b lo' hi:Int} (ha:0 ≤ a) (hb:1 ≤ b) (h1:lo' * b ≤ a * 4294967296) (h2:a * 4294967296 < (hi + 1) * b) (hh:hi ≤ 9223372036854775806):(nRat a b).2 = false ∧ lo' ≤ (nRat a b).1 ∧ (nRat a b).1 ≤ hi:=by
 obtain ⟨k1,k2⟩:=@tdp (a * 4294967296) b lo' (hi + 1) (by omega) (by omega) h1 h2
 have k0:0 ≤ (a * 4294967296).tdiv b:=Int.tdiv_nonneg (by omega) (by omega)
 unfold nRat raV raF
 rw [if_neg (by omega),if_neg (by omega)]
 generalize (a * 4294967296).tdiv b = q at *
 unfold ftV ftF
 rw [if_neg (by omega),if_neg (by omega),decide_eq_false (by omega)]
 exact ⟨rfl,by dsimp only; omega,by dsimp only; omega⟩
theorem div_bd2 {x:Nb} {b l hi lo' hi':Int} (hx:x.2 = false ∧ l ≤ x.1 ∧ x.1 ≤ hi) (hl:0 ≤ l) (hb:1 ≤ b ∧ b ≤ 9223372036854775807) (h1:lo' * b ≤ l * 4294967296) (h2:hi * 4294967296 < (hi' + 1) * b) (hm:hi ≤ 9223372036854775806) (hh:hi' ≤ 9223372036854775806):(nDiv x (b,false)).2 = false ∧ lo' ≤ (nDiv x (b,false)).1 ∧ (nDiv x (b,false)).1 ≤ hi':=by
 obtain ⟨x1,x2,x3⟩:=hx
 have q:=@rat_bd x.1 b lo' hi' (by omega) (by omega) (by omega) (by omega) hh
 have e1:whV x.1 = x.1:=by unfold whV; rw [if_neg (by omega)]
 have e2:whV b = b:=by unfold whV; rw [if_neg (by omega)]
 have f1:whF x.1 x.2 = false:=by rw [x1]; unfold whF; rw [decide_eq_false (by omega)]; rfl
 have f2:whF b false = false:=by unfold whF; rw [decide_eq_false (by omega)]; rfl
 have e:nDiv x (b,false) = nRat x.1 b:=by
  unfold nDiv nRat
  dsimp only
  rw [e1,e2,f1,f2,Bool.or_false,Bool.or_false]
 rw [e]
 exact q
def wok (m:Nb × Nb):Prop:=(m.1.2 = false ∧ 2000 ≤ m.1.1 ∧ m.1.1 ≤ 562949953421312) ∧ m.2.2 = false ∧ 8 ≤ m.2.1 ∧ m.2.1 ≤ 211106232532992
theorem wg_ok {a b c d k:Int} (hk:modS k 4 ≠ 0):wok (mkWt a b c d k):=by
 have e0:mkWt a b c d k = wgS (mkK a) (mkR a b) (mkH a b b) (mkH a b c) (mkN a) (mkX a b c) (mkY a b c) (mkD d k):=if_pos (by simpa using hk)
 rw [e0]
 have e:mkD d k = 1 + modS d 1000:=if_neg hk
 have hd:=modS_bd (n:=d) (m:=1000) (by omega)
 have hE:=@mk_wgE a b c d k hk
 rw [e] at hE ⊢
 have hS:wgS (mkK a) (mkR a b) (mkH a b b) (mkH a b c) (mkN a) (mkX a b c) (mkY a b c) (1 + modS d 1000) = wgM (mkK a) (mkR a b) (mkH a b b) (mkH a b c) (mkN a) (mkX a b c) (mkY a b c) (1 + modS d 1000):=if_pos hE
 rw [hS]
 generalize modS d 1000 = D at *
 have eI:nInt (1 + D) = ((1 + D) * 4294967296,false):=nInt_in (by omega)
 unfold wgM
 rw [eI]
 by_cases h:mkK a = 1
 ·rw [if_pos h]
  have h0:modS a 5 = 0:=by
   apply Classical.byContradiction
   intro hn
   unfold mkK at h
   rw [if_neg hn] at h
   split at h <;> omega
  have hr:mkR a b = mkW b b:=if_pos h0
  have hw:=sq_bd (@mkW_bd b b)
  have hq:=Int.mul_le_mul hw.2 hw.2 (by omega) (by omega)
  have hq0:=Int.mul_le_mul hw.1 hw.1 (by omega) (by omega)
  rw [hr,wrap_in (x:=mkW b b * mkW b b) (by unfold inR; omega),wrap_in (x:=mkW b b * mkW b b * (mkW b b * mkW b b)) (by unfold inR; omega)]
  generalize hR:mkW b b * mkW b b = R at *
  generalize hQ:R * R = Q at *
  unfold piN
  have m1:=@rat_bd 65536 R 16777216 1099511627776 (by omega) (by omega) (by omega) (by omega) (by omega)
  have m2:=@div_bd2 _ 13493037704 _ _ 5340353 400000000000 m1 (by omega) (by omega) (by omega) (by omega) (by omega) (by omega)
  have m3:=@div_bd2 _ ((1 + D) * 4294967296) _ _ 2000 562949953421312 m2 (by omega) (by omega) (by omega) (by omega) (by omega) (by omega)
  have i1:=@rat_bd 8589934592 Q 131072 562949953421312 (by omega) (by omega) (by omega) (by omega) (by omega)
  have i2:=@div_bd2 _ 13493037704 _ _ 41721 211106232532992 i1 (by omega) (by omega) (by omega) (by omega) (by omega) (by omega)
  have i3:=@div_bd2 _ ((1 + D) * 4294967296) _ _ 8 211106232532992 i2 (by omega) (by omega) (by omega) (by omega) (by omega) (by omega)
  exact ⟨m3,i3⟩
 ·rw [if_neg h]
  obtain ⟨⟨B1,B2⟩,A1,A2⟩:=@cor_sum a b c h
  generalize wgB (corX (mkK a) (mkH a b b) (mkH a b c) (mkX a b c)) (corY (mkK a) (mkH a b b) (mkH a b c) (mkY a b c)) (corN (mkK a) (mkR a b) (mkH a b b) (mkH a b c) (mkN a) (mkX a b c) (mkY a b c)) (corN (mkK a) (mkR a b) (mkH a b b) (mkH a b c) (mkN a) (mkX a b c) (mkY a b c)) = B at *
  generalize wgA (corX (mkK a) (mkH a b b) (mkH a b c) (mkX a b c)) (corY (mkK a) (mkH a b b) (mkH a b c) (mkY a b c)) (corN (mkK a) (mkR a b) (mkH a b b) (mkH a b c) (mkN a) (mkX a b c) (mkY a b c)) (corN (mkK a) (mkR a b) (mkH a b b) (mkH a b c) (mkN a) (mkX a b c) (mkY a b c)) = A at *
  have m1:=@rat_bd 131072 A 2097152 562949953421312 (by omega) (by omega) (by omega) (by omega) (by omega)
  have m3:=@div_bd2 _ ((1 + D) * 4294967296) _ _ 2000 562949953421312 m1 (by omega) (by omega) (by omega) (by omega) (by omega) (by omega)
  have i1:=@rat_bd 51539607552 B 8192 211106232532992 (by omega) (by omega) (by omega) (by omega) (by omega)
  have i3:=@div_bd2 _ ((1 + D) * 4294967296) _ _ 8 211106232532992 i1 (by omega) (by omega) (by omega) (by omega) (by omega) (by omega)
  exact ⟨m3,i3⟩
end Go.Ax
end
section
/-
  The least and the greatest coordinate of a polygon.
-/
set_option maxHeartbeats 4000000
set_option maxRecDepth 100000
namespace Go.Ax
open Go.Proofs
theorem mnS_le' {Z:Nat → Int}:∀ {n j:Nat},j < n → mnS Z n ≤ Z j
 | 0,j,h => absurd h (Nat.not_lt_zero j)
 | i + 1,j,h => by
  unfold mnS
  split
  ·rename_i e; subst e
   rw [show j = 0 by omega]; exact Int.le_refl _
  ·by_cases e:j = i
   ·subst e; exact Int.min_le_right _ _
   ·exact Int.le_trans (Int.min_le_left _ _) (mnS_le' (by omega))
theorem mxS_ge' {Z:Nat → Int}:∀ {n j:Nat},j < n → Z j ≤ mxS Z n
 | 0,j,h => absurd h (Nat.not_lt_zero j)
 | i + 1,j,h => by
  unfold mxS
  split
  ·rename_i e; subst e
   rw [show j = 0 by omega]; exact Int.le_refl _
  ·by_cases e:j = i
   ·subst e; exact Int.le_max_right _ _
   ·exact Int.le_trans (mxS_ge' (by omega)) (Int.le_max_left _ _)
theorem mnS_at {Z:Nat → Int}:∀ {n:Nat},0 < n → ∃ j,j < n ∧ mnS Z n = Z j
 | i + 1,h => by
  unfold mnS
  split
  ·exact ⟨0,by omega,rfl⟩
  ·obtain ⟨j,j1,j2⟩:=mnS_at (Z:=Z) (n:=i) (by omega)
   by_cases e:mnS Z i ≤ Z i
   ·exact ⟨j,by omega,by rw [Int.min_eq_left e,j2]⟩
   ·exact ⟨i,by omega,by rw [Int.min_eq_right (by omega)]⟩
theorem mxS_at {Z:Nat → Int}:∀ {n:Nat},0 < n → ∃ j,j < n ∧ mxS Z n = Z j
 | i + 1,h => by
  unfold mxS
  split
  ·exact ⟨0,by omega,rfl⟩
  ·obtain ⟨j,j1,j2⟩:=mxS_at (Z:=Z) (n:=i) (by omega)
   by_cases e:mxS Z i ≤ Z i
   ·exact ⟨i,by omega,by rw [Int.max_eq_right e]⟩
   ·exact ⟨j,by omega,by rw [Int.max_eq_left (by omega),j2]⟩
theorem mnW_v {x y:Int} (hx:-2097152 ≤ x ∧ x ≤ 2097152) (hy:-2097152 ≤ y ∧ y ≤ 2097152):mnW x y = y - x:=wrap_in (by unfold inR; omega)
theorem dtW_v {a b c d:Int} (ha:sm a) (hb:sm b) (hc:sm c) (hd:sm d):dtW a b c d = a * c + b * d:=by
 have h1:=sm_mul ha hc
 have h2:=sm_mul hb hd
 unfold dtW
 rw [wrap_in (x:=a * c) (by unfold inR; omega),wrap_in (x:=b * d) (by unfold inR; omega),wrap_in (by unfold inR; omega)]
end Go.Ax
end
section
/-
  Numbers that are not flagged, and how great they are.
-/
set_option maxHeartbeats 4000000
namespace Go.Ax
def gd (a:Nb) (B:Int):Prop:=a.2 = false ∧ -B ≤ a.1 ∧ a.1 ≤ B
theorem gd_wh {a:Nb} {B:Int} (h:gd a B) (hB:B ≤ 9223372036854775807):whV a.1 = a.1 ∧ whF a.1 a.2 = false:=by
 obtain ⟨h1,h2,h3⟩:=h
 have hr:rg a.1:=by unfold rg; omega
 exact ⟨whV_of hr,by rw [whF_of hr]; exact h1⟩
theorem ft_bd {v C:Int} (h:-C ≤ v ∧ v ≤ C) (hC:C ≤ 9223372036854775807):ftV v = v ∧ ftF v = false:=by
 unfold ftV ftF
 rw [if_neg (by omega),if_neg (by omega),decide_eq_false (by omega)]
 exact ⟨rfl,rfl⟩
theorem tdiv_bd {v C k:Int} (hk:0 < k) (h:-(C * k) ≤ v ∧ v ≤ C * k):-C ≤ v.tdiv k ∧ v.tdiv k ≤ C:=by
 by_cases s:0 ≤ v
 ·rw [Int.tdiv_eq_ediv_of_nonneg s]
  have h1:0 ≤ v / k:=Int.ediv_nonneg s (by omega)
  have h2:v / k ≤ C:=Int.ediv_le_of_le_mul hk h.2
  omega
 ·have e:v.tdiv k = -((-v) / k):=by
   rw [← Int.tdiv_eq_ediv_of_nonneg (show 0 ≤ -v by omega),Int.neg_tdiv,Int.neg_neg]
  rw [e]
  have h1:0 ≤ (-v) / k:=Int.ediv_nonneg (by omega) (by omega)
  have h2:(-v) / k ≤ C:=Int.ediv_le_of_le_mul hk (by omega)
  omega
theorem gd_mul {a b:Nb} {A B C:Int} (ha:gd a A) (hb:gd b B) (hA:0 ≤ A) (lA:A ≤ 9223372036854775807) (lB:B ≤ 9223372036854775807) (h:A * B ≤ C * 4294967296) (lC:C ≤ 9223372036854775807):gd (nMul a b) C:=by
 obtain ⟨w1,w2⟩:=gd_wh ha lA
 obtain ⟨w3,w4⟩:=gd_wh hb lB
 have m:=mul_bd hA ha.2 hb.2
 have t:=tdiv_bd (v:=a.1 * b.1) (C:=C) (k:=4294967296) (by omega) (by omega)
 obtain ⟨f1,f2⟩:=ft_bd t lC
 unfold nMul
 rw [w1,w2,w3,w4,f1,f2]
 exact ⟨rfl,t⟩
theorem gd_dot {a b c d:Nb} {A B C D E:Int} (ha:gd a A) (hb:gd b B) (hc:gd c C) (hd:gd d D) (hA:0 ≤ A) (hC:0 ≤ C) (lA:A ≤ 9223372036854775807) (lB:B ≤ 9223372036854775807) (lC:C ≤ 9223372036854775807) (lD:D ≤ 9223372036854775807)
  (h:A * B + C * D ≤ E * 4294967296) (lE:E ≤ 9223372036854775807):gd (nDot a b c d) E:=by
 obtain ⟨w1,w2⟩:=gd_wh ha lA
 obtain ⟨w3,w4⟩:=gd_wh hb lB
 obtain ⟨w5,w6⟩:=gd_wh hc lC
 obtain ⟨w7,w8⟩:=gd_wh hd lD
 have m:=mul_bd hA ha.2 hb.2
 have m2:=mul_bd hC hc.2 hd.2
 have t:=tdiv_bd (v:=a.1 * b.1 + c.1 * d.1) (C:=E) (k:=4294967296) (by omega) (by omega)
 obtain ⟨f1,f2⟩:=ft_bd t lE
 unfold nDot
 rw [w1,w2,w3,w4,w5,w6,w7,w8,f1,f2]
 exact ⟨rfl,t⟩
theorem gd_sub {a b:Nb} {A B:Int} (ha:gd a A) (hb:gd b B) (hA:0 ≤ A) (hB:0 ≤ B) (l:A + B ≤ 9223372036854775807):gd (nSub a b) (A + B):=by
 obtain ⟨w1,w2⟩:=gd_wh ha (by omega)
 obtain ⟨w3,w4⟩:=gd_wh hb (by omega)
 have t:-(A + B) ≤ a.1 - b.1 ∧ a.1 - b.1 ≤ A + B:=by have:=ha.2; have:=hb.2; omega
 obtain ⟨f1,f2⟩:=ft_bd t l
 unfold nSub
 rw [w1,w2,w3,w4,f1,f2]
 exact ⟨rfl,t⟩
theorem gd_neg {a:Nb} {A:Int} (ha:gd a A) (l:A ≤ 9223372036854775807):gd (nNeg a) A:=by
 obtain ⟨w1,w2⟩:=gd_wh ha l
 unfold nNeg
 rw [w1,w2]
 exact ⟨rfl,by have:=ha.2; dsimp only; omega⟩
theorem gd_rat {s S:Int} (h:-S ≤ s ∧ s ≤ S) (l:S ≤ 549755813887):nRat s 256 = (s * 16777216,false):=by
 have e:(s * 4294967296).tdiv 256 = s * 16777216:=by
  rw [show s * 4294967296 = (s * 16777216) * 256 by omega,Int.mul_tdiv_cancel _ (by omega)]
 have t:-(S * 16777216) ≤ s * 16777216 ∧ s * 16777216 ≤ S * 16777216:=by omega
 obtain ⟨f1,f2⟩:=ft_bd t (by omega)
 unfold nRat raV raF
 rw [if_neg (by omega),if_neg (by omega),e,f1,f2]
 rfl
theorem gd_div {a b:Nb} {A C L:Int} (ha:gd a A) (lA:A ≤ 9223372036854775807) (hb:b.2 = false) (hL:0 < L) (hb1:L ≤ b.1) (hb2:b.1 ≤ 9223372036854775807) (hC:0 ≤ C) (h:A * 4294967296 ≤ C * L) (lC:C ≤ 9223372036854775807):gd (nDiv a b) C:=by
 obtain ⟨w1,w2⟩:=gd_wh ha lA
 obtain ⟨w3,w4⟩:=gd_wh (a:=b) (B:=9223372036854775807) ⟨hb,by omega,hb2⟩ (by omega)
 have k:C * L ≤ C * b.1:=Int.mul_le_mul_of_nonneg_left hb1 hC
 have t:=tdiv_bd (v:=a.1 * 4294967296) (C:=C) (k:=b.1) (by omega) (by have:=ha.2; omega)
 obtain ⟨f1,f2⟩:=ft_bd t lC
 unfold nDiv raV raF
 rw [w1,w2,w3,w4,if_neg (by omega),if_neg (by omega),f1,f2]
 exact ⟨rfl,t⟩
theorem isq_bd {n r:Nat} (hn:n < 340282366920938463463374607431768211456) (h:n ≤ r * r):isq n ≤ r:=by
 refine Nat.not_lt.1 fun q => ?_
 have:=(isq_ok hn).1
 have:=Nat.mul_le_mul q q
 have e:(r + 1) * (r + 1) = r * r + r + r + 1:=by rw [Nat.add_mul,Nat.mul_add]; omega
 have e2:r.succ * r.succ = (r + 1) * (r + 1):=rfl
 omega
theorem isq_lo {n r:Nat} (hn:n < 340282366920938463463374607431768211456) (h:r * r ≤ n):r ≤ isq n:=by
 refine Nat.not_lt.1 fun q => ?_
 have:=(isq_ok hn).2
 have:=Nat.mul_le_mul q q
 have e2:(isq n).succ * (isq n).succ = (isq n + 1) * (isq n + 1):=rfl
 omega
end Go.Ax
end
section
/-
  When a way meets a disc: it is no flagged number.
-/
set_option maxHeartbeats 4000000
namespace Go.Ax
theorem hyp_ok {a b:Nb} {S:Int} (ha:gd a S) (hb:gd b S) (h0:0 ≤ S) (l:S ≤ 2305843009213693951):(nHyp a b).2 = false ∧ a.1 ≤ (nHyp a b).1 ∧ -a.1 ≤ (nHyp a b).1 ∧ b.1 ≤ (nHyp a b).1 ∧ -b.1 ≤ (nHyp a b).1 ∧ (nHyp a b).1 ≤ 2 * S:=by
 obtain ⟨w1,w2⟩:=gd_wh ha (by omega)
 obtain ⟨w3,w4⟩:=gd_wh hb (by omega)
 have m1:=mul_bd h0 ha.2 ha.2
 have m2:=mul_bd h0 hb.2 hb.2
 have s1:=sq0 a.1
 have s2:=sq0 b.1
 have lS:S * S ≤ 2305843009213693951 * 2305843009213693951:=by
  have h1:S * S ≤ 2305843009213693951 * S:=Int.mul_le_mul_of_nonneg_right l h0
  have h2:2305843009213693951 * S ≤ 2305843009213693951 * 2305843009213693951:=Int.mul_le_mul_of_nonneg_left l (by omega)
  omega
 have hN:(((a.1 * a.1 + b.1 * b.1).toNat:Nat):Int) = a.1 * a.1 + b.1 * b.1:=Int.toNat_of_nonneg (by omega)
 have kk:(a.1 * a.1 + b.1 * b.1).toNat < 340282366920938463463374607431768211456:=by omega
 have up:isq (a.1 * a.1 + b.1 * b.1).toNat ≤ (2 * S).toNat:=by
  refine isq_bd kk ?_
  have e1:(((2 * S).toNat:Nat):Int) = 2 * S:=Int.toNat_of_nonneg (by omega)
  have e2:(((2 * S).toNat * (2 * S).toNat:Nat):Int) = (2 * S) * (2 * S):=by rw [Int.natCast_mul,e1]
  have e3:(2 * S) * (2 * S) = 4 * (S * S):=by grind
  omega
 have lo:∀ z:Int,z * z ≤ a.1 * a.1 + b.1 * b.1 → z ≤ (isq (a.1 * a.1 + b.1 * b.1).toNat:Int):=fun z hz => by
  by_cases hz0:z ≤ 0
  ·omega
  ·have e1:((z.toNat:Nat):Int) = z:=Int.toNat_of_nonneg (by omega)
   have e2:((z.toNat * z.toNat:Nat):Int) = z * z:=by rw [Int.natCast_mul,e1]
   have:=isq_lo (r:=z.toNat) kk (by omega)
   omega
 have e1:(-a.1) * (-a.1) = a.1 * a.1:=Int.neg_mul_neg ..
 have e2:(-b.1) * (-b.1) = b.1 * b.1:=Int.neg_mul_neg ..
 have l1:=lo a.1 (by omega)
 have l2:=lo (-a.1) (by omega)
 have l3:=lo b.1 (by omega)
 have l4:=lo (-b.1) (by omega)
 unfold nHyp
 rw [w1,w2,w3,w4]
 generalize isq (a.1 * a.1 + b.1 * b.1).toNat = q at *
 obtain ⟨f1,f2⟩:=ft_bd (v:=(q:Int)) (C:=2 * S) (by omega) (by omega)
 rw [f1,f2]
 exact ⟨rfl,l1,l2,l3,l4,by dsimp only; omega⟩
theorem gd_zero {B:Int} (h:0 ≤ B):gd (0,false) B:=⟨rfl,by dsimp only; omega⟩
theorem un_ok {x y S:Int} (hx:-S ≤ x ∧ x ≤ S) (hy:-S ≤ y ∧ y ≤ S) (h0:0 ≤ S) (l:S ≤ 70368744177664):gd (unS x false y false).2.1 4294967296 ∧ gd (unS x false y false).2.2 4294967296:=by
 have hB:gd (unB x y).1 281474976710656 ∧ gd (unB x y).2 281474976710656:=by
  unfold unB
  split
  ·rename_i h
   have h1:-16777216 ≤ x ∧ x ≤ 16777216:=by have:=h.1; unfold ab at this; split at this <;> omega
   have h2:-16777216 ≤ y ∧ y ≤ 16777216:=by have:=h.2; unfold ab at this; split at this <;> omega
   exact ⟨⟨rfl,by dsimp only; omega⟩,⟨rfl,by dsimp only; omega⟩⟩
  ·exact ⟨⟨rfl,by dsimp only; omega⟩,⟨rfl,by dsimp only; omega⟩⟩
 obtain ⟨k1,k2,k3,k4,k5,k6⟩:=hyp_ok hB.1 hB.2 (by omega) (by omega)
 unfold unS
 split
 ·exact ⟨gd_zero (by omega),gd_zero (by omega)⟩
 ·split
  ·exact ⟨gd_zero (by omega),gd_zero (by omega)⟩
  ·rename_i hn
   have hne:(nHyp (unB x y).1 (unB x y).2).1 ≠ 0:=fun q => hn (.inr q)
   generalize nHyp (unB x y).1 (unB x y).2 = H at *
   have hH:0 < H.1:=by omega
   refine ⟨gd_div (A:=H.1) (L:=H.1) ⟨hB.1.1,by omega⟩ (by omega) k1 hH (Int.le_refl _) (by omega) (by omega) (by omega) (by omega),gd_div (A:=H.1) (L:=H.1) ⟨hB.2.1,by omega⟩ (by omega) k1 hH (Int.le_refl _) (by omega) (by omega) (by omega) (by omega)⟩
end Go.Ax
end
section
/-
  Unit vectors have the length 1, but for 256 parts.
-/
set_option maxHeartbeats 4000000
namespace Go.Ax
theorem aSq (x:Int):ab x * ab x = x * x:=by
 unfold ab
 split
 ·rw [Int.neg_mul_neg]
 ·rfl
theorem aMul (x y:Int):ab (x * y) = ab x * ab y:=by rw [ab_natAbs,ab_natAbs,ab_natAbs,Int.natAbs_mul]; rfl
theorem td_ab {x q:Int} (hq:0 < q):ab (x.tdiv q) * q ≤ ab x ∧ ab x < (ab (x.tdiv q) + 1) * q:=by
 have key:∀ y:Int,0 ≤ y → y / q * q ≤ y ∧ y < (y / q + 1) * q ∧ 0 ≤ y / q:=fun y hy =>
  ⟨Int.ediv_mul_le y (by omega),Int.lt_ediv_add_one_mul_self y hq,Int.ediv_nonneg hy (by omega)⟩
 by_cases s:0 ≤ x
 ·obtain ⟨k1,k2,k3⟩:=key x s
  rw [Int.tdiv_eq_ediv_of_nonneg s]
  have e1:ab x = x:=by unfold ab; rw [if_neg (by omega)]
  have e2:ab (x / q) = x / q:=by unfold ab; rw [if_neg (by omega)]
  rw [e1,e2]
  exact ⟨k1,k2⟩
 ·obtain ⟨k1,k2,k3⟩:=key (-x) (by omega)
  have e:x.tdiv q = -((-x) / q):=by
   rw [← Int.tdiv_eq_ediv_of_nonneg (show 0 ≤ -x by omega),Int.neg_tdiv,Int.neg_neg]
  have e1:ab x = -x:=by unfold ab; rw [if_pos (by omega)]
  have e2:ab (x.tdiv q) = (-x) / q:=by rw [e]; unfold ab; split <;> omega
  rw [e1,e2]
  exact ⟨k1,k2⟩
theorem sq_mono {a b:Int} (h0:0 ≤ a) (h:a ≤ b):a * a ≤ b * b:=Int.mul_le_mul h h h0 (by omega)
theorem unit_sq {u v q:Int} (hq:16777216 ≤ q) (h1:q * q ≤ u * u + v * v) (h2:u * u + v * v < (q + 1) * (q + 1)) :
  4294967292 * 4294967292 ≤ (u * 4294967296).tdiv q * (u * 4294967296).tdiv q + (v * 4294967296).tdiv q * (v * 4294967296).tdiv q ∧
  (u * 4294967296).tdiv q * (u * 4294967296).tdiv q + (v * 4294967296).tdiv q * (v * 4294967296).tdiv q < 4294967553 * 4294967553:=by
 obtain ⟨a1,a2⟩:=@td_ab (u * 4294967296) q (by omega)
 obtain ⟨b1,b2⟩:=@td_ab (v * 4294967296) q (by omega)
 rw [aMul,show ab 4294967296 = 4294967296 from rfl] at a1 a2 b1 b2
 rw [← aSq u,← aSq v] at h1 h2
 rw [← aSq ((u * 4294967296).tdiv q),← aSq ((v * 4294967296).tdiv q)]
 have nu:=ab_nonneg u
 have nv:=ab_nonneg v
 have na:=ab_nonneg ((u * 4294967296).tdiv q)
 have nb:=ab_nonneg ((v * 4294967296).tdiv q)
 generalize ab ((u * 4294967296).tdiv q) = A at *
 generalize ab ((v * 4294967296).tdiv q) = B at *
 generalize ab u = U at *
 generalize ab v = V at *
 have s1:=sq_mono (Int.mul_nonneg na (show 0 ≤ q by omega)) a1
 have s2:=sq_mono (Int.mul_nonneg nb (show 0 ≤ q by omega)) b1
 have e1:A * q * (A * q) = A * A * (q * q):=by grind
 have e2:B * q * (B * q) = B * B * (q * q):=by grind
 have e3:U * 4294967296 * (U * 4294967296) = 18446744073709551616 * (U * U):=by grind
 have e4:V * 4294967296 * (V * 4294967296) = 18446744073709551616 * (V * V):=by grind
 rw [e1,e3] at s1
 rw [e2,e4] at s2
 have up:A * A + B * B < 4294967553 * 4294967553:=by
  refine Int.not_le.1 fun hn => ?_
  have k1:4294967553 * 4294967553 * (q * q) ≤ (A * A + B * B) * (q * q):=Int.mul_le_mul_of_nonneg_right hn (Int.mul_nonneg (by omega) (by omega))
  rw [Int.add_mul] at k1
  have k2:=sq_mono (a:=4294967296 * (q + 1)) (b:=4294967553 * q) (by omega) (by omega)
  have e5:4294967296 * (q + 1) * (4294967296 * (q + 1)) = 18446744073709551616 * ((q + 1) * (q + 1)):=by grind
  have e6:4294967553 * q * (4294967553 * q) = 4294967553 * 4294967553 * (q * q):=by grind
  rw [e5,e6] at k2
  omega
 refine ⟨?_,up⟩
 have t1:=sq_mono (a:=U * 4294967296) (b:=(A + 1) * q) (by omega) (by omega)
 have t2:=sq_mono (a:=V * 4294967296) (b:=(B + 1) * q) (by omega) (by omega)
 rw [e3] at t1
 rw [e4] at t2
 have e7:(A + 1) * q * ((A + 1) * q) = (A + 1) * (A + 1) * (q * q):=by grind
 have e8:(B + 1) * q * ((B + 1) * q) = (B + 1) * (B + 1) * (q * q):=by grind
 rw [e7] at t1
 rw [e8] at t2
 have lo:18446744073709551616 ≤ (A + 1) * (A + 1) + (B + 1) * (B + 1):=by
  refine Int.not_lt.1 fun hn => ?_
  have k1:((A + 1) * (A + 1) + (B + 1) * (B + 1)) * (q * q) < 18446744073709551616 * (q * q):=Int.mul_lt_mul_of_pos_right hn (Int.mul_pos (by omega) (by omega))
  rw [Int.add_mul] at k1
  omega
 have hA:A < 4294967553:=by
  refine Int.not_le.1 fun hn => ?_
  have:=sq_mono (by decide) hn
  have:=Int.mul_nonneg nb nb
  omega
 have hB:B < 4294967553:=by
  refine Int.not_le.1 fun hn => ?_
  have:=sq_mono (by decide) hn
  have:=Int.mul_nonneg na na
  omega
 have e9:(A + 1) * (A + 1) = A * A + 2 * A + 1:=by grind
 have e10:(B + 1) * (B + 1) = B * B + 2 * B + 1:=by grind
 omega
theorem hyp_sq {u v:Int} (hu:-281474976710656 ≤ u ∧ u ≤ 281474976710656) (hv:-281474976710656 ≤ v ∧ v ≤ 281474976710656):∃ q,nHyp (u,false) (v,false) = (q,false) ∧ 0 ≤ q ∧ q * q ≤ u * u + v * v ∧ u * u + v * v < (q + 1) * (q + 1) ∧ q ≤ 562949953421312:=by
 have m1:=mul_bd (A:=281474976710656) (B:=281474976710656) (by omega) hu hu
 have m2:=mul_bd (A:=281474976710656) (B:=281474976710656) (by omega) hv hv
 have s1:=sq0 u
 have s2:=sq0 v
 have hN:(((u * u + v * v).toNat:Nat):Int) = u * u + v * v:=Int.toNat_of_nonneg (by omega)
 obtain ⟨k1,k2⟩:=isq_ok (n:=(u * u + v * v).toNat) (by omega)
 have hq:isq (u * u + v * v).toNat ≤ 562949953421312:=by
  refine isq_bd (by omega) ?_
  omega
 have e:nHyp (u,false) (v,false) = ((isq (u * u + v * v).toNat:Int),false):=by
  unfold nHyp
  dsimp only
  rw [whV_of (by unfold rg; omega),whV_of (by unfold rg; omega),whF_of (by unfold rg; omega),whF_of (by unfold rg; omega),ftV_of (by unfold rg; omega),ftF_of (by unfold rg; omega)]
  rfl
 refine ⟨(isq (u * u + v * v).toNat:Int),e,Int.natCast_nonneg _,?_,?_,by omega⟩
 ·rw [← Int.natCast_mul]; omega
 ·have:(((isq (u * u + v * v).toNat + 1) * (isq (u * u + v * v).toNat + 1):Nat):Int) = ((isq (u * u + v * v).toNat:Int) + 1) * ((isq (u * u + v * v).toNat:Int) + 1):=by rw [Int.natCast_mul]; rfl
  omega
theorem un_big {x y S:Int} (hx:-S ≤ x ∧ x ≤ S) (hy:-S ≤ y ∧ y ≤ S) (h0:0 ≤ S) (l:S ≤ 70368744177664):∃ u v,unB x y = ((u,false),(v,false)) ∧ (-281474976710656 ≤ u ∧ u ≤ 281474976710656) ∧ (-281474976710656 ≤ v ∧ v ≤ 281474976710656) ∧ ((u = 0 ∧ v = 0) ∨ 16777216 ≤ ab u ∨ 16777216 ≤ ab v):=by
 unfold unB
 split
 ·rename_i h
  have h1:-16777216 ≤ x ∧ x ≤ 16777216:=by have:=h.1; unfold ab at this; split at this <;> omega
  have h2:-16777216 ≤ y ∧ y ≤ 16777216:=by have:=h.2; unfold ab at this; split at this <;> omega
  refine ⟨_,_,rfl,by omega,by omega,?_⟩
  unfold ab
  (repeat' split) <;> omega
 ·rename_i h
  refine ⟨_,_,rfl,by omega,by omega,?_⟩
  omega
theorem un_eq {x y S:Int} (hx:-S ≤ x ∧ x ≤ S) (hy:-S ≤ y ∧ y ≤ S) (h0:0 ≤ S) (l:S ≤ 70368744177664) (h:(unS x false y false).1 = true):∃ a b,(unS x false y false).2 = ((a,false),(b,false)) ∧ 4294967292 * 4294967292 ≤ a * a + b * b ∧ a * a + b * b < 4294967553 * 4294967553 ∧ (-4294967296 ≤ a ∧ a ≤ 4294967296) ∧ (-4294967296 ≤ b ∧ b ≤ 4294967296):=by
 obtain ⟨g1,g2⟩:=un_ok hx hy h0 l
 obtain ⟨u,v,hB,hu,hv,hz⟩:=un_big hx hy h0 l
 obtain ⟨q,e,q0,q1,q2,q3⟩:=hyp_sq hu hv
 have hw1:whF x false = false:=whF_of (by unfold rg; omega)
 have hw2:whF y false = false:=whF_of (by unfold rg; omega)
 have hq:¬ ((nHyp (unB x y).1 (unB x y).2).2 = true ∨ (nHyp (unB x y).1 (unB x y).2).1 = 0):=fun c => by
  unfold unS at h
  rw [if_neg (by rw [hw1,hw2]; simp),if_pos c] at h
  cases h
 have hU:unS x false y false = (true,nDiv (unB x y).1 (nHyp (unB x y).1 (unB x y).2),nDiv (unB x y).2 (nHyp (unB x y).1 (unB x y).2)):=by
  unfold unS
  rw [if_neg (by rw [hw1,hw2]; simp),if_neg hq]
 rw [hB] at hq hU
 dsimp only at hq hU
 rw [e] at hq hU
 have hq0:q ≠ 0:=fun c => hq (.inr c)
 rw [hU] at g1 g2 ⊢
 have big:16777216 ≤ q:=by
  refine Int.not_lt.1 fun hn => ?_
  have k:(q + 1) * (q + 1) ≤ 16777216 * 16777216:=sq_mono (by omega) (by omega)
  have s1:=sq0 u
  have s2:=sq0 v
  rcases hz with ⟨z1,z2⟩ | z | z
  ·subst z1 z2
   have:q * q ≤ 0:=by omega
   have:0 < q * q:=Int.mul_pos (by omega) (by omega)
   omega
  ·have:=sq_mono (a:=16777216) (by decide) z
   rw [aSq] at this
   omega
  ·have:=sq_mono (a:=16777216) (by decide) z
   rw [aSq] at this
   omega
 obtain ⟨r1,r2⟩:=unit_sq big q1 q2
 have ev:∀ w:Int,(-281474976710656 ≤ w ∧ w ≤ 281474976710656) → (nDiv (w,false) (q,false)).2 = false → (nDiv (w,false) (q,false)) = ((w * 4294967296).tdiv q,false):=fun w hw hf => by
  have hval:(nDiv (w,false) (q,false)).1 = (w * 4294967296).tdiv q:=by
   show raV (whV w) (whV q) = _
   rw [whV_of (by unfold rg; omega),whV_of (by unfold rg; omega)]
   unfold raV
   rw [if_neg hq0]
   have t:=tdiv_bd (v:=w * 4294967296) (C:=1208925819614629174706176) (k:=q) (by omega) (by
    have:1208925819614629174706176 * 16777216 ≤ 1208925819614629174706176 * q:=by omega
    omega)
   have hf':raF (whV w) (whV q) = false:=by
    have:(raF (whV w) (whV q) || (whF w false || whF q false)) = false:=hf
    rw [Bool.or_eq_false_iff] at this
    exact this.1
   rw [whV_of (by unfold rg; omega),whV_of (by unfold rg; omega)] at hf'
   unfold raF at hf'
   rw [if_neg hq0] at hf'
   unfold ftF at hf'
   have:=of_decide_eq_false hf'
   exact ftV_of (by unfold rg; omega)
  exact Prod.ext hval hf
 have d1:=ev u hu g1.1
 have d2:=ev v hv g2.1
 dsimp only at g1 g2 ⊢
 rw [d1] at g1 ⊢
 rw [d2] at g2 ⊢
 exact ⟨_,_,rfl,r1,r2,g1.2,g2.2⟩
end Go.Ax
end
section
/-
  Where forms touch: between the ends of an edge; directions of length 1.
-/
set_option maxHeartbeats 4000000
set_option maxRecDepth 100000
namespace Go.Ax
theorem gd_le {a:Nb} {A B:Int} (h:gd a A) (l:A ≤ B):gd a B:=⟨h.1,by have:=h.2; omega⟩
def uv (v:V2):Prop:=v.1.2 = false ∧ v.2.2 = false ∧ 4294967292 * 4294967292 ≤ v.1.1 * v.1.1 + v.2.1 * v.2.1 ∧ v.1.1 * v.1.1 + v.2.1 * v.2.1 < 4294967553 * 4294967553 ∧ (-4294967296 ≤ v.1.1 ∧ v.1.1 ≤ 4294967296) ∧ (-4294967296 ≤ v.2.1 ∧ v.2.1 ≤ 4294967296)
theorem uv_gd {v:V2} (h:uv v):gd v.1 4294967296 ∧ gd v.2 4294967296:=⟨⟨h.1,h.2.2.2.2.1⟩,h.2.1,h.2.2.2.2.2⟩
theorem uv_un {v:V2} {S:Int} (h1:gd v.1 S) (h2:gd v.2 S) (h0:0 ≤ S) (l:S ≤ 70368744177664) (h:(vUnit v).1 = true):uv (vUnit v).2:=by
 have e:vUnit v = unS v.1.1 false v.2.1 false:=by
  unfold vUnit
  rw [h1.1,h2.1]
 rw [e] at h ⊢
 obtain ⟨a,b,e2,k1,k2,k3,k4⟩:=un_eq h1.2 h2.2 h0 l h
 rw [e2]
 exact ⟨rfl,rfl,k1,k2,k3,k4⟩
theorem un_true {x y S:Int} (hx:-S ≤ x ∧ x ≤ S) (hy:-S ≤ y ∧ y ≤ S) (h0:0 ≤ S) (l:S ≤ 70368744177664) (h:x ≠ 0 ∨ y ≠ 0):(unS x false y false).1 = true:=by
 have hw1:whF x false = false:=whF_of (by unfold rg; omega)
 have hw2:whF y false = false:=whF_of (by unfold rg; omega)
 obtain ⟨u,v,hB,hu,hv,hz⟩:=un_big hx hy h0 l
 obtain ⟨q,e,q0,q1,q2,q3⟩:=hyp_sq hu hv
 have hne:¬ (u = 0 ∧ v = 0):=fun c => by
  unfold unB at hB
  split at hB
  ·have e1:=congrArg (fun p => p.1.1) hB
   have e2:=congrArg (fun p => p.2.1) hB
   dsimp only at e1 e2
   omega
  ·have e1:=congrArg (fun p => p.1.1) hB
   have e2:=congrArg (fun p => p.2.1) hB
   dsimp only at e1 e2
   omega
 have hq:q ≠ 0:=fun c => by
  subst c
  have s1:=sq0 u
  have s2:=sq0 v
  have e1:u * u = 0:=by omega
  have e2:v * v = 0:=by omega
  rcases Int.mul_eq_zero.1 e1 with z | z <;> rcases Int.mul_eq_zero.1 e2 with z' | z' <;> exact hne ⟨z,z'⟩
 unfold unS
 rw [if_neg (by rw [hw1,hw2]; simp),hB]
 dsimp only
 rw [e,if_neg (by simpa using hq)]
theorem int_in {k:Int} (h:-2147483647 ≤ k ∧ k ≤ 2147483647):nInt k = (k * 4294967296,false):=by
 unfold nInt
 rw [ftV_of (by unfold rg; omega),ftF_of (by unfold rg; omega)]
 rfl
theorem loc_in {x y:Int} (hx:-549755813887 ≤ x ∧ x ≤ 549755813887) (hy:-549755813887 ≤ y ∧ y ≤ 549755813887):vLoc x y = ((x * 16777216,false),(y * 16777216,false)):=by
 unfold vLoc
 rw [gd_rat (S:=549755813887) (by omega) (by omega),gd_rat (S:=549755813887) (by omega) (by omega)]
def sml (n:Nat) (X Y:Nat → Int):Prop:=∀ i,i < n → (-12000 ≤ X i ∧ X i ≤ 12000) ∧ (-12000 ≤ Y i ∧ Y i ≤ 12000)
theorem edge_ne {n:Nat} {X Y:Nat → Int} (hc:convexS n X Y = true) {i:Nat} (hi:i < n):X (nxt n i) - X i ≠ 0 ∨ Y (nxt n i) - Y i ≠ 0:=by
 obtain ⟨h3,_,hcv⟩:=convexS_iff.1 hc
 refine Classical.byContradiction fun hn => ?_
 have e1:X (nxt n i) - X i = 0:=by omega
 have e2:Y (nxt n i) - Y i = 0:=by omega
 obtain ⟨k,hk,k1,k2⟩:∃ k,k < n ∧ k ≠ i ∧ k ≠ nxt n i:=by
  by_cases c0:(0:Nat) ≠ i ∧ (0:Nat) ≠ nxt n i
  ·exact ⟨0,by omega,c0⟩
  by_cases c1:(1:Nat) ≠ i ∧ (1:Nat) ≠ nxt n i
  ·exact ⟨1,by omega,c1⟩
  exact ⟨2,by omega,by omega,by omega⟩
 have:=hcv i hi k hk k1 k2
 unfold turnS at this
 rw [e1,e2,Int.zero_mul,Int.zero_mul] at this
 omega
def wid (n:Nat) (X Y:Nat → Int):Prop:=∀ i,i < n → ∀ j,j < n → (-16384 ≤ X j - X i ∧ X j - X i ≤ 16384) ∧ (-16384 ≤ Y j - Y i ∧ Y j - Y i ≤ 16384)
theorem norm_un {a b c d:Int} (h1:-16384 ≤ c - a ∧ c - a ≤ 16384) (h2:-16384 ≤ d - b ∧ d - b ≤ 16384) (hne:c - a ≠ 0 ∨ d - b ≠ 0):uv (vNorm a b c d):=by
 unfold vNorm vOf
 rw [int_in (by omega),int_in (by omega)]
 refine uv_un (S:=70368744177664) ⟨rfl,by dsimp only; omega⟩ ⟨rfl,by dsimp only; omega⟩ (by omega) (by omega) ?_
 unfold vUnit
 dsimp only
 exact un_true (S:=70368744177664) (by omega) (by omega) (by omega) (by omega) (by omega)
theorem edN_un {n:Nat} {X Y:Nat → Int} (hc:convexS n X Y = true) (hw:wid n X Y) {i:Nat} (hi:i < n):uv (edN n X Y i):=
 norm_un (hw i hi _ (nxt_lt hi)).1 (hw i hi _ (nxt_lt hi)).2 (edge_ne hc hi)
theorem mn_in {a b:Int} (ha:-12000 ≤ a ∧ a ≤ 12000) (hb:-12000 ≤ b ∧ b ≤ 12000):mnW a b = b - a:=mnW_v (by omega) (by omega)
theorem flT_un {n:Nat} {X Y:Nat → Int} (hc:convexS n X Y = true) (hs:sml n X Y) (hw:wid n X Y) {i:Nat} (hi:i < n):uv (flT n X Y i):=by
 have s1:=hs i hi
 have s2:=hs _ (nxt_lt hi)
 have w:=hw i hi _ (nxt_lt hi)
 have hne:=edge_ne hc hi
 unfold flT vOf
 rw [mn_in s1.1 s2.1,mn_in s1.2 s2.2,int_in (by omega),int_in (by omega)]
 refine uv_un (S:=70368744177664) ⟨rfl,by dsimp only; omega⟩ ⟨rfl,by dsimp only; omega⟩ (by omega) (by omega) ?_
 unfold vUnit
 dsimp only
 exact un_true (S:=70368744177664) (by omega) (by omega) (by omega) (by omega) (by omega)
def bt (lo hi:Int) (a:Nb):Prop:=a.2 = false ∧ lo ≤ a.1 ∧ a.1 ≤ hi
theorem bt_gd {lo hi:Int} {a:Nb} {B:Int} (h:bt lo hi a) (h1:-B ≤ lo) (h2:hi ≤ B):gd a B:=⟨h.1,by have:=h.2; omega⟩
theorem td_btw {d t:Int} (h0:0 ≤ t) (h1:t ≤ 4294967296):(0 ≤ d → 0 ≤ (d * t).tdiv 4294967296 ∧ (d * t).tdiv 4294967296 ≤ d) ∧ (d ≤ 0 → d ≤ (d * t).tdiv 4294967296 ∧ (d * t).tdiv 4294967296 ≤ 0):=by
 refine ⟨fun hd => ?_,fun hd => ?_⟩
 ·have k1:=Int.mul_nonneg hd h0
  have k2:d * t ≤ d * 4294967296:=Int.mul_le_mul_of_nonneg_left h1 hd
  rw [Int.tdiv_eq_ediv_of_nonneg k1]
  exact ⟨Int.ediv_nonneg k1 (by decide),Int.ediv_le_of_le_mul (by decide) (by omega)⟩
 ·have k1:=Int.mul_nonneg (show 0 ≤ -d by omega) h0
  have k2:-d * t ≤ -d * 4294967296:=Int.mul_le_mul_of_nonneg_left h1 (by omega)
  have e:(d * t).tdiv 4294967296 = -((-d * t) / 4294967296):=by
   rw [← Int.tdiv_eq_ediv_of_nonneg k1,Int.neg_mul,Int.neg_tdiv,Int.neg_neg]
  rw [e]
  have h1:0 ≤ (-d * t) / 4294967296:=Int.ediv_nonneg k1 (by decide)
  have h2:(-d * t) / 4294967296 ≤ -d:=Int.ediv_le_of_le_mul (by decide) (by omega)
  omega
theorem bt_go {x d t:Nb} {lo hi:Int} (hx:bt lo hi x) (hd:d.2 = false) (h1:lo ≤ x.1 + d.1) (h2:x.1 + d.1 ≤ hi) (ht:bt 0 4294967296 t) (l1:-1152921504606846976 ≤ lo) (l2:hi ≤ 1152921504606846976):bt lo hi (nAdd x (nMul d t)):=by
 obtain ⟨x1,x2,x3⟩:=hx
 obtain ⟨t1,t2,t3⟩:=ht
 have k:=@td_btw d.1 t.1 t2 t3
 have em:nMul d t = ((d.1 * t.1).tdiv 4294967296,false):=by
  unfold nMul
  rw [whV_of (v:=d.1) (by unfold rg; omega),whV_of (v:=t.1) (by unfold rg; omega),whF_of (v:=d.1) (by unfold rg; omega),whF_of (v:=t.1) (by unfold rg; omega),t1,hd]
  have:rg ((d.1 * t.1).tdiv 4294967296):=by unfold rg; omega
  rw [ftV_of this,ftF_of this]
  rfl
 rw [em]
 unfold nAdd
 dsimp only
 have hr:-2305843009213693952 ≤ (d.1 * t.1).tdiv 4294967296 ∧ (d.1 * t.1).tdiv 4294967296 ≤ 2305843009213693952:=by omega
 rw [whV_of (v:=x.1) (by unfold rg; omega),whV_of (v:=(d.1 * t.1).tdiv 4294967296) (by unfold rg; omega),whF_of (v:=x.1) (by unfold rg; omega),whF_of (v:=(d.1 * t.1).tdiv 4294967296) (by unfold rg; omega),ftV_of (by unfold rg; omega),ftF_of (by unfold rg; omega),x1]
 exact ⟨rfl,by dsimp only; omega,by dsimp only; omega⟩
theorem bt_part {x y t:Nb} {lo hi:Int} (hx:bt lo hi x) (hy:bt lo hi y) (ht:bt 0 4294967296 t) (l1:-1152921504606846976 ≤ lo) (l2:hi ≤ 1152921504606846976):bt lo hi (nAdd x (nMul (nSub y x) t)):=by
 have hx':=hx
 obtain ⟨x1,x2,x3⟩:=hx
 obtain ⟨y1,y2,y3⟩:=hy
 have es:nSub y x = (y.1 - x.1,false):=by
  unfold nSub
  rw [whV_of (v:=y.1) (by unfold rg; omega),whV_of (v:=x.1) (by unfold rg; omega),whF_of (v:=y.1) (by unfold rg; omega),whF_of (v:=x.1) (by unfold rg; omega),ftV_of (by unfold rg; omega),ftF_of (by unfold rg; omega),x1,y1]
  rfl
 rw [es]
 exact bt_go hx' rfl (by dsimp only; omega) (by dsimp only; omega) ht l1 l2
theorem bt_ratio {i j:Nb} (hi:gd i 4611686018427387903) (hj:gd j 4611686018427387903) (h1:i.1 < 0) (h2:0 ≤ j.1):bt 0 4294967296 (nDiv i (nSub i j)):=by
 obtain ⟨i1,i2,i3⟩:=hi
 obtain ⟨j1,j2,j3⟩:=hj
 have es:nSub i j = (i.1 - j.1,false):=by
  unfold nSub
  rw [whV_of (v:=i.1) (by unfold rg; omega),whV_of (v:=j.1) (by unfold rg; omega),whF_of (v:=i.1) (by unfold rg; omega),whF_of (v:=j.1) (by unfold rg; omega),ftV_of (by unfold rg; omega),ftF_of (by unfold rg; omega),i1,j1]
  rfl
 have e:(i.1 * 4294967296).tdiv (i.1 - j.1) = (-i.1 * 4294967296) / (j.1 - i.1):=by
  rw [← Int.tdiv_eq_ediv_of_nonneg (show 0 ≤ -i.1 * 4294967296 by omega),show -i.1 * 4294967296 = -(i.1 * 4294967296) by omega,show j.1 - i.1 = -(i.1 - j.1) by omega,Int.neg_tdiv,Int.tdiv_neg,Int.neg_neg]
 have k1:0 ≤ (-i.1 * 4294967296) / (j.1 - i.1):=Int.ediv_nonneg (by omega) (by omega)
 have k2:(-i.1 * 4294967296) / (j.1 - i.1) ≤ 4294967296:=Int.ediv_le_of_le_mul (by omega) (by omega)
 rw [es]
 unfold nDiv
 dsimp only
 rw [whV_of (v:=i.1) (by unfold rg; omega),whV_of (v:=i.1 - j.1) (by unfold rg; omega),whF_of (v:=i.1) (by unfold rg; omega),whF_of (v:=i.1 - j.1) (by unfold rg; omega),i1]
 unfold raV raF
 rw [if_neg (by omega),if_neg (by omega),e,ftV_of (by unfold rg; omega),ftF_of (by unfold rg; omega)]
 exact ⟨rfl,k1,k2⟩
def bx (a b c d:Int) (v:V2):Prop:=bt a c v.1 ∧ bt b d v.2
theorem bx_clpX {a b c d:Int} {x y:V2} {i j:Nb} (hx:bx a b c d x) (hy:bx a b c d y) (hi:gd i 4611686018427387903) (hj:gd j 4611686018427387903) (l1:-1152921504606846976 ≤ a) (l2:c ≤ 1152921504606846976) (l3:-1152921504606846976 ≤ b) (l4:d ≤ 1152921504606846976):bx a b c d (clpX x y i j):=by
 unfold clpX
 split
 ·rename_i h
  have t:=bt_ratio hi hj h.1 h.2
  exact ⟨bt_part hx.1 hy.1 t l1 l2,bt_part hx.2 hy.2 t l3 l4⟩
 ·exact hx
theorem bx_clpY {a b c d:Int} {x y:V2} {i j:Nb} (hx:bx a b c d x) (hy:bx a b c d y) (hi:gd i 4611686018427387903) (hj:gd j 4611686018427387903) (l1:-1152921504606846976 ≤ a) (l2:c ≤ 1152921504606846976) (l3:-1152921504606846976 ≤ b) (l4:d ≤ 1152921504606846976):bx a b c d (clpY x y i j):=by
 unfold clpY
 split
 ·rename_i h
  have t:=bt_ratio hj hi h.1 h.2
  exact ⟨bt_part hy.1 hx.1 t l1 l2,bt_part hy.2 hx.2 t l3 l4⟩
 ·exact hy
theorem uv_dot {t x:V2} {B:Int} (ht:uv t) (h1:gd x.1 B) (h2:gd x.2 B) (h0:0 ≤ B) (l:B ≤ 1152921504606846976):gd (vDot t x) (2 * B):=by
 obtain ⟨t1,t2⟩:=uv_gd ht
 exact gd_dot t1 h1 t2 h2 (by omega) (by omega) (by omega) (by omega) (by omega) (by omega) (by omega) (by omega)
theorem fl_bx {a b c d:Int} {t x y:V2} {e:Nb} (ht:uv t) (hx:bx a b c d x) (hy:bx a b c d y) (he:gd e 1125899906842624) (l1:-1125899906842624 ≤ a) (l2:c ≤ 1125899906842624) (l3:-1125899906842624 ≤ b) (l4:d ≤ 1125899906842624) :
  bx a b c d (flX t x y e) ∧ bx a b c d (flY t x y e):=by
 have g:∀ v,bx a b c d v → gd (vDot t v) (2 * 1125899906842624):=fun v hv => uv_dot ht (bt_gd hv.1 l1 l2) (bt_gd hv.2 l3 l4) (by omega) (by omega)
 have w:∀ v,bx a b c d v → gd (vDot t v) 4611686018427387903:=fun v hv => gd_le (g v hv) (by omega)
 have h1:bx a b c d (cl1X t x y):=bx_clpX hx hy (w x hx) (w y hy) (by omega) (by omega) (by omega) (by omega)
 have h2:bx a b c d (cl1Y t x y):=bx_clpY hx hy (w x hx) (w y hy) (by omega) (by omega) (by omega) (by omega)
 have w':∀ v,bx a b c d v → gd (nSub e (vDot t v)) 4611686018427387903:=fun v hv => gd_le (gd_sub he (g v hv) (by omega) (by omega) (by omega)) (by omega)
 exact ⟨bx_clpX h1 h2 (w' _ h1) (w' _ h2) (by omega) (by omega) (by omega) (by omega),bx_clpY h1 h2 (w' _ h1) (w' _ h2) (by omega) (by omega) (by omega) (by omega)⟩
end Go.Ax
end