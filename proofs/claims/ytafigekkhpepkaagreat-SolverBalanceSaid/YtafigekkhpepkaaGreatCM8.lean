/-
  Made polygons of five and eight corners are convex.
-/
import Derived.Test.YtafigekkhpepkaaGreatCM7
set_option linter.unusedVariables false
set_option linter.unusedSimpArgs false
section
set_option maxHeartbeats 4000000
set_option maxRecDepth 100000
namespace Go.Ax
open Go.Proofs Go.Proofs.Tryz
theorem pen_cvx {M T h:Int} (hM:64≤M) (hT:64≤T) (h1:2 * h≤M) (h2:M≤2 * h + 1) {X Y:Nat→Int} (x0:X 0 = -h) (y0:Y 0 = -T) (x1:X 1 = h) (y1:Y 1 = -T) (x2:X 2 = M) (y2:Y 2 = 0) (x3:X 3 = 0) (y3:Y 3 = T) (x4:X 4 = -M) (y4:Y 4 = 0):cvxS 5 X Y = true:=by
 obtain ⟨p1,p2⟩:=mul_ge hM hT
 have q1:(2 * h) * T≤M * T:=Int.mul_le_mul_of_nonneg_right h1 (by omega)
 have q2:M * T≤(2 * h + 1) * T:=Int.mul_le_mul_of_nonneg_right h2 (by omega)
 have q3:h * 64≤h * T:=Int.mul_le_mul_of_nonneg_left hT (by omega)
 rw [Int.mul_assoc] at q1
 rw [Int.add_mul,Int.mul_assoc,Int.one_mul] at q2
 unfold cvxS
 refine decide_eq_true fun i hi => ?_
 match i,hi with
 | 0,_ =>
  rw [show nxt 5 0 = 1 from rfl,show nxt2 5 0 = 2 from rfl,x0,x1,x2,y0,y1,y2]
  refine ⟨?_,fun j hj k1 k2 => ?_⟩
  ·simp only [Int.sub_mul,Int.mul_sub,Int.add_mul,Int.mul_add,Int.neg_mul,Int.mul_neg,Int.zero_mul,Int.mul_zero,Int.mul_comm T M,Int.mul_comm T h,Int.neg_neg,ab]
   (repeat' split) <;> omega
  ·match j,hj,k1,k2 with
   | 0,_,k1,k2 => exact absurd rfl k1
   | 1,_,k1,k2 => exact absurd rfl k2
   | 2,_,_,_ =>
    rw [x2,y2]
    simp only [Int.sub_mul,Int.mul_sub,Int.add_mul,Int.mul_add,Int.neg_mul,Int.mul_neg,Int.zero_mul,Int.mul_zero,Int.mul_comm T M,Int.mul_comm T h,Int.neg_neg,ab]
    omega
   | 3,_,_,_ =>
    rw [x3,y3]
    simp only [Int.sub_mul,Int.mul_sub,Int.add_mul,Int.mul_add,Int.neg_mul,Int.mul_neg,Int.zero_mul,Int.mul_zero,Int.mul_comm T M,Int.mul_comm T h,Int.neg_neg,ab]
    omega
   | 4,_,_,_ =>
    rw [x4,y4]
    simp only [Int.sub_mul,Int.mul_sub,Int.add_mul,Int.mul_add,Int.neg_mul,Int.mul_neg,Int.zero_mul,Int.mul_zero,Int.mul_comm T M,Int.mul_comm T h,Int.neg_neg,ab]
    omega
   | j + 5,h,_,_ => omega
 | 1,_ =>
  rw [show nxt 5 1 = 2 from rfl,show nxt2 5 1 = 3 from rfl,x1,x2,x3,y1,y2,y3]
  refine ⟨?_,fun j hj k1 k2 => ?_⟩
  ·simp only [Int.sub_mul,Int.mul_sub,Int.add_mul,Int.mul_add,Int.neg_mul,Int.mul_neg,Int.zero_mul,Int.mul_zero,Int.mul_comm T M,Int.mul_comm T h,Int.neg_neg,ab]
   (repeat' split) <;> omega
  ·match j,hj,k1,k2 with
   | 0,_,_,_ =>
    rw [x0,y0]
    simp only [Int.sub_mul,Int.mul_sub,Int.add_mul,Int.mul_add,Int.neg_mul,Int.mul_neg,Int.zero_mul,Int.mul_zero,Int.mul_comm T M,Int.mul_comm T h,Int.neg_neg,ab]
    omega
   | 1,_,k1,k2 => exact absurd rfl k1
   | 2,_,k1,k2 => exact absurd rfl k2
   | 3,_,_,_ =>
    rw [x3,y3]
    simp only [Int.sub_mul,Int.mul_sub,Int.add_mul,Int.mul_add,Int.neg_mul,Int.mul_neg,Int.zero_mul,Int.mul_zero,Int.mul_comm T M,Int.mul_comm T h,Int.neg_neg,ab]
    omega
   | 4,_,_,_ =>
    rw [x4,y4]
    simp only [Int.sub_mul,Int.mul_sub,Int.add_mul,Int.mul_add,Int.neg_mul,Int.mul_neg,Int.zero_mul,Int.mul_zero,Int.mul_comm T M,Int.mul_comm T h,Int.neg_neg,ab]
    omega
   | j + 5,h,_,_ => omega
 | 2,_ =>
  rw [show nxt 5 2 = 3 from rfl,show nxt2 5 2 = 4 from rfl,x2,x3,x4,y2,y3,y4]
  refine ⟨?_,fun j hj k1 k2 => ?_⟩
  ·simp only [Int.sub_mul,Int.mul_sub,Int.add_mul,Int.mul_add,Int.neg_mul,Int.mul_neg,Int.zero_mul,Int.mul_zero,Int.mul_comm T M,Int.mul_comm T h,Int.neg_neg,ab]
   (repeat' split) <;> omega
  ·match j,hj,k1,k2 with
   | 0,_,_,_ =>
    rw [x0,y0]
    simp only [Int.sub_mul,Int.mul_sub,Int.add_mul,Int.mul_add,Int.neg_mul,Int.mul_neg,Int.zero_mul,Int.mul_zero,Int.mul_comm T M,Int.mul_comm T h,Int.neg_neg,ab]
    omega
   | 1,_,_,_ =>
    rw [x1,y1]
    simp only [Int.sub_mul,Int.mul_sub,Int.add_mul,Int.mul_add,Int.neg_mul,Int.mul_neg,Int.zero_mul,Int.mul_zero,Int.mul_comm T M,Int.mul_comm T h,Int.neg_neg,ab]
    omega
   | 2,_,k1,k2 => exact absurd rfl k1
   | 3,_,k1,k2 => exact absurd rfl k2
   | 4,_,_,_ =>
    rw [x4,y4]
    simp only [Int.sub_mul,Int.mul_sub,Int.add_mul,Int.mul_add,Int.neg_mul,Int.mul_neg,Int.zero_mul,Int.mul_zero,Int.mul_comm T M,Int.mul_comm T h,Int.neg_neg,ab]
    omega
   | j + 5,h,_,_ => omega
 | 3,_ =>
  rw [show nxt 5 3 = 4 from rfl,show nxt2 5 3 = 0 from rfl,x3,x4,x0,y3,y4,y0]
  refine ⟨?_,fun j hj k1 k2 => ?_⟩
  ·simp only [Int.sub_mul,Int.mul_sub,Int.add_mul,Int.mul_add,Int.neg_mul,Int.mul_neg,Int.zero_mul,Int.mul_zero,Int.mul_comm T M,Int.mul_comm T h,Int.neg_neg,ab]
   (repeat' split) <;> omega
  ·match j,hj,k1,k2 with
   | 0,_,_,_ =>
    rw [x0,y0]
    simp only [Int.sub_mul,Int.mul_sub,Int.add_mul,Int.mul_add,Int.neg_mul,Int.mul_neg,Int.zero_mul,Int.mul_zero,Int.mul_comm T M,Int.mul_comm T h,Int.neg_neg,ab]
    omega
   | 1,_,_,_ =>
    rw [x1,y1]
    simp only [Int.sub_mul,Int.mul_sub,Int.add_mul,Int.mul_add,Int.neg_mul,Int.mul_neg,Int.zero_mul,Int.mul_zero,Int.mul_comm T M,Int.mul_comm T h,Int.neg_neg,ab]
    omega
   | 2,_,_,_ =>
    rw [x2,y2]
    simp only [Int.sub_mul,Int.mul_sub,Int.add_mul,Int.mul_add,Int.neg_mul,Int.mul_neg,Int.zero_mul,Int.mul_zero,Int.mul_comm T M,Int.mul_comm T h,Int.neg_neg,ab]
    omega
   | 3,_,k1,k2 => exact absurd rfl k1
   | 4,_,k1,k2 => exact absurd rfl k2
   | j + 5,h,_,_ => omega
 | 4,_ =>
  rw [show nxt 5 4 = 0 from rfl,show nxt2 5 4 = 1 from rfl,x4,x0,x1,y4,y0,y1]
  refine ⟨?_,fun j hj k1 k2 => ?_⟩
  ·simp only [Int.sub_mul,Int.mul_sub,Int.add_mul,Int.mul_add,Int.neg_mul,Int.mul_neg,Int.zero_mul,Int.mul_zero,Int.mul_comm T M,Int.mul_comm T h,Int.neg_neg,ab]
   (repeat' split) <;> omega
  ·match j,hj,k1,k2 with
   | 0,_,k1,k2 => exact absurd rfl k2
   | 1,_,_,_ =>
    rw [x1,y1]
    simp only [Int.sub_mul,Int.mul_sub,Int.add_mul,Int.mul_add,Int.neg_mul,Int.mul_neg,Int.zero_mul,Int.mul_zero,Int.mul_comm T M,Int.mul_comm T h,Int.neg_neg,ab]
    omega
   | 2,_,_,_ =>
    rw [x2,y2]
    simp only [Int.sub_mul,Int.mul_sub,Int.add_mul,Int.mul_add,Int.neg_mul,Int.mul_neg,Int.zero_mul,Int.mul_zero,Int.mul_comm T M,Int.mul_comm T h,Int.neg_neg,ab]
    omega
   | 3,_,_,_ =>
    rw [x3,y3]
    simp only [Int.sub_mul,Int.mul_sub,Int.add_mul,Int.mul_add,Int.neg_mul,Int.mul_neg,Int.zero_mul,Int.mul_zero,Int.mul_comm T M,Int.mul_comm T h,Int.neg_neg,ab]
    omega
   | 4,_,k1,k2 => exact absurd rfl k1
   | j + 5,h,_,_ => omega
 | i + 5,h => omega
theorem oct_cvx {M h:Int} (hM:64≤M) (h1:2 * h≤M) (h2:M≤2 * h + 1) {X Y:Nat→Int} (x0:X 0 = M) (y0:Y 0 = -h) (x1:X 1 = M) (y1:Y 1 = h) (x2:X 2 = h) (y2:Y 2 = M) (x3:X 3 = -h) (y3:Y 3 = M) (x4:X 4 = -M) (y4:Y 4 = h) (x5:X 5 = -M) (y5:Y 5 = -h) (x6:X 6 = -h) (y6:Y 6 = -M) (x7:X 7 = h) (y7:Y 7 = -M):cvxS 8 X Y = true:=by
 have p1:64 * M≤M * M:=Int.mul_le_mul_of_nonneg_right hM (by omega)
 have q1:(2 * h) * M≤M * M:=Int.mul_le_mul_of_nonneg_right h1 (by omega)
 have q2:M * M≤(2 * h + 1) * M:=Int.mul_le_mul_of_nonneg_right h2 (by omega)
 have q3:h * (2 * h)≤h * M:=Int.mul_le_mul_of_nonneg_left h1 (by omega)
 have q4:h * M≤h * (2 * h + 1):=Int.mul_le_mul_of_nonneg_left h2 (by omega)
 have q5:32 * h≤h * h:=Int.mul_le_mul_of_nonneg_right (by omega) (by omega)
 rw [Int.mul_assoc] at q1
 rw [Int.add_mul,Int.mul_assoc,Int.one_mul] at q2
 rw [Int.mul_left_comm] at q3
 rw [Int.mul_add,Int.mul_left_comm,Int.mul_one] at q4
 unfold cvxS
 refine decide_eq_true fun i hi => ?_
 match i,hi with
 | 0,_ =>
  rw [show nxt 8 0 = 1 from rfl,show nxt2 8 0 = 2 from rfl,x0,x1,x2,y0,y1,y2]
  refine ⟨?_,fun j hj k1 k2 => ?_⟩
  ·simp only [Int.sub_mul,Int.mul_sub,Int.add_mul,Int.mul_add,Int.neg_mul,Int.mul_neg,Int.zero_mul,Int.mul_zero,Int.mul_comm M h,Int.neg_neg,ab]
   (repeat' split) <;> omega
  ·match j,hj,k1,k2 with
   | 0,_,k1,k2 => exact absurd rfl k1
   | 1,_,k1,k2 => exact absurd rfl k2
   | 2,_,_,_ =>
    rw [x2,y2]
    simp only [Int.sub_mul,Int.mul_sub,Int.add_mul,Int.mul_add,Int.neg_mul,Int.mul_neg,Int.zero_mul,Int.mul_zero,Int.mul_comm M h,Int.neg_neg,ab]
    omega
   | 3,_,_,_ =>
    rw [x3,y3]
    simp only [Int.sub_mul,Int.mul_sub,Int.add_mul,Int.mul_add,Int.neg_mul,Int.mul_neg,Int.zero_mul,Int.mul_zero,Int.mul_comm M h,Int.neg_neg,ab]
    omega
   | 4,_,_,_ =>
    rw [x4,y4]
    simp only [Int.sub_mul,Int.mul_sub,Int.add_mul,Int.mul_add,Int.neg_mul,Int.mul_neg,Int.zero_mul,Int.mul_zero,Int.mul_comm M h,Int.neg_neg,ab]
    omega
   | 5,_,_,_ =>
    rw [x5,y5]
    simp only [Int.sub_mul,Int.mul_sub,Int.add_mul,Int.mul_add,Int.neg_mul,Int.mul_neg,Int.zero_mul,Int.mul_zero,Int.mul_comm M h,Int.neg_neg,ab]
    omega
   | 6,_,_,_ =>
    rw [x6,y6]
    simp only [Int.sub_mul,Int.mul_sub,Int.add_mul,Int.mul_add,Int.neg_mul,Int.mul_neg,Int.zero_mul,Int.mul_zero,Int.mul_comm M h,Int.neg_neg,ab]
    omega
   | 7,_,_,_ =>
    rw [x7,y7]
    simp only [Int.sub_mul,Int.mul_sub,Int.add_mul,Int.mul_add,Int.neg_mul,Int.mul_neg,Int.zero_mul,Int.mul_zero,Int.mul_comm M h,Int.neg_neg,ab]
    omega
   | j + 8,h,_,_ => omega
 | 1,_ =>
  rw [show nxt 8 1 = 2 from rfl,show nxt2 8 1 = 3 from rfl,x1,x2,x3,y1,y2,y3]
  refine ⟨?_,fun j hj k1 k2 => ?_⟩
  ·simp only [Int.sub_mul,Int.mul_sub,Int.add_mul,Int.mul_add,Int.neg_mul,Int.mul_neg,Int.zero_mul,Int.mul_zero,Int.mul_comm M h,Int.neg_neg,ab]
   (repeat' split) <;> omega
  ·match j,hj,k1,k2 with
   | 0,_,_,_ =>
    rw [x0,y0]
    simp only [Int.sub_mul,Int.mul_sub,Int.add_mul,Int.mul_add,Int.neg_mul,Int.mul_neg,Int.zero_mul,Int.mul_zero,Int.mul_comm M h,Int.neg_neg,ab]
    omega
   | 1,_,k1,k2 => exact absurd rfl k1
   | 2,_,k1,k2 => exact absurd rfl k2
   | 3,_,_,_ =>
    rw [x3,y3]
    simp only [Int.sub_mul,Int.mul_sub,Int.add_mul,Int.mul_add,Int.neg_mul,Int.mul_neg,Int.zero_mul,Int.mul_zero,Int.mul_comm M h,Int.neg_neg,ab]
    omega
   | 4,_,_,_ =>
    rw [x4,y4]
    simp only [Int.sub_mul,Int.mul_sub,Int.add_mul,Int.mul_add,Int.neg_mul,Int.mul_neg,Int.zero_mul,Int.mul_zero,Int.mul_comm M h,Int.neg_neg,ab]
    omega
   | 5,_,_,_ =>
    rw [x5,y5]
    simp only [Int.sub_mul,Int.mul_sub,Int.add_mul,Int.mul_add,Int.neg_mul,Int.mul_neg,Int.zero_mul,Int.mul_zero,Int.mul_comm M h,Int.neg_neg,ab]
    omega
   | 6,_,_,_ =>
    rw [x6,y6]
    simp only [Int.sub_mul,Int.mul_sub,Int.add_mul,Int.mul_add,Int.neg_mul,Int.mul_neg,Int.zero_mul,Int.mul_zero,Int.mul_comm M h,Int.neg_neg,ab]
    omega
   | 7,_,_,_ =>
    rw [x7,y7]
    simp only [Int.sub_mul,Int.mul_sub,Int.add_mul,Int.mul_add,Int.neg_mul,Int.mul_neg,Int.zero_mul,Int.mul_zero,Int.mul_comm M h,Int.neg_neg,ab]
    omega
   | j + 8,h,_,_ => omega
 | 2,_ =>
  rw [show nxt 8 2 = 3 from rfl,show nxt2 8 2 = 4 from rfl,x2,x3,x4,y2,y3,y4]
  refine ⟨?_,fun j hj k1 k2 => ?_⟩
  ·simp only [Int.sub_mul,Int.mul_sub,Int.add_mul,Int.mul_add,Int.neg_mul,Int.mul_neg,Int.zero_mul,Int.mul_zero,Int.mul_comm M h,Int.neg_neg,ab]
   (repeat' split) <;> omega
  ·match j,hj,k1,k2 with
   | 0,_,_,_ =>
    rw [x0,y0]
    simp only [Int.sub_mul,Int.mul_sub,Int.add_mul,Int.mul_add,Int.neg_mul,Int.mul_neg,Int.zero_mul,Int.mul_zero,Int.mul_comm M h,Int.neg_neg,ab]
    omega
   | 1,_,_,_ =>
    rw [x1,y1]
    simp only [Int.sub_mul,Int.mul_sub,Int.add_mul,Int.mul_add,Int.neg_mul,Int.mul_neg,Int.zero_mul,Int.mul_zero,Int.mul_comm M h,Int.neg_neg,ab]
    omega
   | 2,_,k1,k2 => exact absurd rfl k1
   | 3,_,k1,k2 => exact absurd rfl k2
   | 4,_,_,_ =>
    rw [x4,y4]
    simp only [Int.sub_mul,Int.mul_sub,Int.add_mul,Int.mul_add,Int.neg_mul,Int.mul_neg,Int.zero_mul,Int.mul_zero,Int.mul_comm M h,Int.neg_neg,ab]
    omega
   | 5,_,_,_ =>
    rw [x5,y5]
    simp only [Int.sub_mul,Int.mul_sub,Int.add_mul,Int.mul_add,Int.neg_mul,Int.mul_neg,Int.zero_mul,Int.mul_zero,Int.mul_comm M h,Int.neg_neg,ab]
    omega
   | 6,_,_,_ =>
    rw [x6,y6]
    simp only [Int.sub_mul,Int.mul_sub,Int.add_mul,Int.mul_add,Int.neg_mul,Int.mul_neg,Int.zero_mul,Int.mul_zero,Int.mul_comm M h,Int.neg_neg,ab]
    omega
   | 7,_,_,_ =>
    rw [x7,y7]
    simp only [Int.sub_mul,Int.mul_sub,Int.add_mul,Int.mul_add,Int.neg_mul,Int.mul_neg,Int.zero_mul,Int.mul_zero,Int.mul_comm M h,Int.neg_neg,ab]
    omega
   | j + 8,h,_,_ => omega
 | 3,_ =>
  rw [show nxt 8 3 = 4 from rfl,show nxt2 8 3 = 5 from rfl,x3,x4,x5,y3,y4,y5]
  refine ⟨?_,fun j hj k1 k2 => ?_⟩
  ·simp only [Int.sub_mul,Int.mul_sub,Int.add_mul,Int.mul_add,Int.neg_mul,Int.mul_neg,Int.zero_mul,Int.mul_zero,Int.mul_comm M h,Int.neg_neg,ab]
   (repeat' split) <;> omega
  ·match j,hj,k1,k2 with
   | 0,_,_,_ =>
    rw [x0,y0]
    simp only [Int.sub_mul,Int.mul_sub,Int.add_mul,Int.mul_add,Int.neg_mul,Int.mul_neg,Int.zero_mul,Int.mul_zero,Int.mul_comm M h,Int.neg_neg,ab]
    omega
   | 1,_,_,_ =>
    rw [x1,y1]
    simp only [Int.sub_mul,Int.mul_sub,Int.add_mul,Int.mul_add,Int.neg_mul,Int.mul_neg,Int.zero_mul,Int.mul_zero,Int.mul_comm M h,Int.neg_neg,ab]
    omega
   | 2,_,_,_ =>
    rw [x2,y2]
    simp only [Int.sub_mul,Int.mul_sub,Int.add_mul,Int.mul_add,Int.neg_mul,Int.mul_neg,Int.zero_mul,Int.mul_zero,Int.mul_comm M h,Int.neg_neg,ab]
    omega
   | 3,_,k1,k2 => exact absurd rfl k1
   | 4,_,k1,k2 => exact absurd rfl k2
   | 5,_,_,_ =>
    rw [x5,y5]
    simp only [Int.sub_mul,Int.mul_sub,Int.add_mul,Int.mul_add,Int.neg_mul,Int.mul_neg,Int.zero_mul,Int.mul_zero,Int.mul_comm M h,Int.neg_neg,ab]
    omega
   | 6,_,_,_ =>
    rw [x6,y6]
    simp only [Int.sub_mul,Int.mul_sub,Int.add_mul,Int.mul_add,Int.neg_mul,Int.mul_neg,Int.zero_mul,Int.mul_zero,Int.mul_comm M h,Int.neg_neg,ab]
    omega
   | 7,_,_,_ =>
    rw [x7,y7]
    simp only [Int.sub_mul,Int.mul_sub,Int.add_mul,Int.mul_add,Int.neg_mul,Int.mul_neg,Int.zero_mul,Int.mul_zero,Int.mul_comm M h,Int.neg_neg,ab]
    omega
   | j + 8,h,_,_ => omega
 | 4,_ =>
  rw [show nxt 8 4 = 5 from rfl,show nxt2 8 4 = 6 from rfl,x4,x5,x6,y4,y5,y6]
  refine ⟨?_,fun j hj k1 k2 => ?_⟩
  ·simp only [Int.sub_mul,Int.mul_sub,Int.add_mul,Int.mul_add,Int.neg_mul,Int.mul_neg,Int.zero_mul,Int.mul_zero,Int.mul_comm M h,Int.neg_neg,ab]
   (repeat' split) <;> omega
  ·match j,hj,k1,k2 with
   | 0,_,_,_ =>
    rw [x0,y0]
    simp only [Int.sub_mul,Int.mul_sub,Int.add_mul,Int.mul_add,Int.neg_mul,Int.mul_neg,Int.zero_mul,Int.mul_zero,Int.mul_comm M h,Int.neg_neg,ab]
    omega
   | 1,_,_,_ =>
    rw [x1,y1]
    simp only [Int.sub_mul,Int.mul_sub,Int.add_mul,Int.mul_add,Int.neg_mul,Int.mul_neg,Int.zero_mul,Int.mul_zero,Int.mul_comm M h,Int.neg_neg,ab]
    omega
   | 2,_,_,_ =>
    rw [x2,y2]
    simp only [Int.sub_mul,Int.mul_sub,Int.add_mul,Int.mul_add,Int.neg_mul,Int.mul_neg,Int.zero_mul,Int.mul_zero,Int.mul_comm M h,Int.neg_neg,ab]
    omega
   | 3,_,_,_ =>
    rw [x3,y3]
    simp only [Int.sub_mul,Int.mul_sub,Int.add_mul,Int.mul_add,Int.neg_mul,Int.mul_neg,Int.zero_mul,Int.mul_zero,Int.mul_comm M h,Int.neg_neg,ab]
    omega
   | 4,_,k1,k2 => exact absurd rfl k1
   | 5,_,k1,k2 => exact absurd rfl k2
   | 6,_,_,_ =>
    rw [x6,y6]
    simp only [Int.sub_mul,Int.mul_sub,Int.add_mul,Int.mul_add,Int.neg_mul,Int.mul_neg,Int.zero_mul,Int.mul_zero,Int.mul_comm M h,Int.neg_neg,ab]
    omega
   | 7,_,_,_ =>
    rw [x7,y7]
    simp only [Int.sub_mul,Int.mul_sub,Int.add_mul,Int.mul_add,Int.neg_mul,Int.mul_neg,Int.zero_mul,Int.mul_zero,Int.mul_comm M h,Int.neg_neg,ab]
    omega
   | j + 8,h,_,_ => omega
 | 5,_ =>
  rw [show nxt 8 5 = 6 from rfl,show nxt2 8 5 = 7 from rfl,x5,x6,x7,y5,y6,y7]
  refine ⟨?_,fun j hj k1 k2 => ?_⟩
  ·simp only [Int.sub_mul,Int.mul_sub,Int.add_mul,Int.mul_add,Int.neg_mul,Int.mul_neg,Int.zero_mul,Int.mul_zero,Int.mul_comm M h,Int.neg_neg,ab]
   (repeat' split) <;> omega
  ·match j,hj,k1,k2 with
   | 0,_,_,_ =>
    rw [x0,y0]
    simp only [Int.sub_mul,Int.mul_sub,Int.add_mul,Int.mul_add,Int.neg_mul,Int.mul_neg,Int.zero_mul,Int.mul_zero,Int.mul_comm M h,Int.neg_neg,ab]
    omega
   | 1,_,_,_ =>
    rw [x1,y1]
    simp only [Int.sub_mul,Int.mul_sub,Int.add_mul,Int.mul_add,Int.neg_mul,Int.mul_neg,Int.zero_mul,Int.mul_zero,Int.mul_comm M h,Int.neg_neg,ab]
    omega
   | 2,_,_,_ =>
    rw [x2,y2]
    simp only [Int.sub_mul,Int.mul_sub,Int.add_mul,Int.mul_add,Int.neg_mul,Int.mul_neg,Int.zero_mul,Int.mul_zero,Int.mul_comm M h,Int.neg_neg,ab]
    omega
   | 3,_,_,_ =>
    rw [x3,y3]
    simp only [Int.sub_mul,Int.mul_sub,Int.add_mul,Int.mul_add,Int.neg_mul,Int.mul_neg,Int.zero_mul,Int.mul_zero,Int.mul_comm M h,Int.neg_neg,ab]
    omega
   | 4,_,_,_ =>
    rw [x4,y4]
    simp only [Int.sub_mul,Int.mul_sub,Int.add_mul,Int.mul_add,Int.neg_mul,Int.mul_neg,Int.zero_mul,Int.mul_zero,Int.mul_comm M h,Int.neg_neg,ab]
    omega
   | 5,_,k1,k2 => exact absurd rfl k1
   | 6,_,k1,k2 => exact absurd rfl k2
   | 7,_,_,_ =>
    rw [x7,y7]
    simp only [Int.sub_mul,Int.mul_sub,Int.add_mul,Int.mul_add,Int.neg_mul,Int.mul_neg,Int.zero_mul,Int.mul_zero,Int.mul_comm M h,Int.neg_neg,ab]
    omega
   | j + 8,h,_,_ => omega
 | 6,_ =>
  rw [show nxt 8 6 = 7 from rfl,show nxt2 8 6 = 0 from rfl,x6,x7,x0,y6,y7,y0]
  refine ⟨?_,fun j hj k1 k2 => ?_⟩
  ·simp only [Int.sub_mul,Int.mul_sub,Int.add_mul,Int.mul_add,Int.neg_mul,Int.mul_neg,Int.zero_mul,Int.mul_zero,Int.mul_comm M h,Int.neg_neg,ab]
   (repeat' split) <;> omega
  ·match j,hj,k1,k2 with
   | 0,_,_,_ =>
    rw [x0,y0]
    simp only [Int.sub_mul,Int.mul_sub,Int.add_mul,Int.mul_add,Int.neg_mul,Int.mul_neg,Int.zero_mul,Int.mul_zero,Int.mul_comm M h,Int.neg_neg,ab]
    omega
   | 1,_,_,_ =>
    rw [x1,y1]
    simp only [Int.sub_mul,Int.mul_sub,Int.add_mul,Int.mul_add,Int.neg_mul,Int.mul_neg,Int.zero_mul,Int.mul_zero,Int.mul_comm M h,Int.neg_neg,ab]
    omega
   | 2,_,_,_ =>
    rw [x2,y2]
    simp only [Int.sub_mul,Int.mul_sub,Int.add_mul,Int.mul_add,Int.neg_mul,Int.mul_neg,Int.zero_mul,Int.mul_zero,Int.mul_comm M h,Int.neg_neg,ab]
    omega
   | 3,_,_,_ =>
    rw [x3,y3]
    simp only [Int.sub_mul,Int.mul_sub,Int.add_mul,Int.mul_add,Int.neg_mul,Int.mul_neg,Int.zero_mul,Int.mul_zero,Int.mul_comm M h,Int.neg_neg,ab]
    omega
   | 4,_,_,_ =>
    rw [x4,y4]
    simp only [Int.sub_mul,Int.mul_sub,Int.add_mul,Int.mul_add,Int.neg_mul,Int.mul_neg,Int.zero_mul,Int.mul_zero,Int.mul_comm M h,Int.neg_neg,ab]
    omega
   | 5,_,_,_ =>
    rw [x5,y5]
    simp only [Int.sub_mul,Int.mul_sub,Int.add_mul,Int.mul_add,Int.neg_mul,Int.mul_neg,Int.zero_mul,Int.mul_zero,Int.mul_comm M h,Int.neg_neg,ab]
    omega
   | 6,_,k1,k2 => exact absurd rfl k1
   | 7,_,k1,k2 => exact absurd rfl k2
   | j + 8,h,_,_ => omega
 | 7,_ =>
  rw [show nxt 8 7 = 0 from rfl,show nxt2 8 7 = 1 from rfl,x7,x0,x1,y7,y0,y1]
  refine ⟨?_,fun j hj k1 k2 => ?_⟩
  ·simp only [Int.sub_mul,Int.mul_sub,Int.add_mul,Int.mul_add,Int.neg_mul,Int.mul_neg,Int.zero_mul,Int.mul_zero,Int.mul_comm M h,Int.neg_neg,ab]
   (repeat' split) <;> omega
  ·match j,hj,k1,k2 with
   | 0,_,k1,k2 => exact absurd rfl k2
   | 1,_,_,_ =>
    rw [x1,y1]
    simp only [Int.sub_mul,Int.mul_sub,Int.add_mul,Int.mul_add,Int.neg_mul,Int.mul_neg,Int.zero_mul,Int.mul_zero,Int.mul_comm M h,Int.neg_neg,ab]
    omega
   | 2,_,_,_ =>
    rw [x2,y2]
    simp only [Int.sub_mul,Int.mul_sub,Int.add_mul,Int.mul_add,Int.neg_mul,Int.mul_neg,Int.zero_mul,Int.mul_zero,Int.mul_comm M h,Int.neg_neg,ab]
    omega
   | 3,_,_,_ =>
    rw [x3,y3]
    simp only [Int.sub_mul,Int.mul_sub,Int.add_mul,Int.mul_add,Int.neg_mul,Int.mul_neg,Int.zero_mul,Int.mul_zero,Int.mul_comm M h,Int.neg_neg,ab]
    omega
   | 4,_,_,_ =>
    rw [x4,y4]
    simp only [Int.sub_mul,Int.mul_sub,Int.add_mul,Int.mul_add,Int.neg_mul,Int.mul_neg,Int.zero_mul,Int.mul_zero,Int.mul_comm M h,Int.neg_neg,ab]
    omega
   | 5,_,_,_ =>
    rw [x5,y5]
    simp only [Int.sub_mul,Int.mul_sub,Int.add_mul,Int.mul_add,Int.neg_mul,Int.mul_neg,Int.zero_mul,Int.mul_zero,Int.mul_comm M h,Int.neg_neg,ab]
    omega
   | 6,_,_,_ =>
    rw [x6,y6]
    simp only [Int.sub_mul,Int.mul_sub,Int.add_mul,Int.mul_add,Int.neg_mul,Int.mul_neg,Int.zero_mul,Int.mul_zero,Int.mul_comm M h,Int.neg_neg,ab]
    omega
   | 7,_,k1,k2 => exact absurd rfl k1
   | j + 8,h,_,_ => omega
 | i + 8,h => omega
theorem mk_lo {a b c:Int} (i:Nat) (hi:i < mkN a):lo (mkX a b c i)∧lo (mkY a b c i):=by
 have b1:=@mkM_bd b b
 have b2:=@mkM_bd b c
 have t1:(mkM b b).tdiv 2 = mkM b b / 2:=Int.tdiv_eq_ediv_of_nonneg (by omega)
 have t2:(-mkM b b).tdiv 2 = -(mkM b b / 2):=by rw [Int.neg_tdiv,t1]
 unfold mkX mkY mkP
 unfold mkN at hi
 by_cases k0:modS a 5 = 0
 ·rw [if_pos k0] at hi; omega
 rw [if_neg k0] at hi
 by_cases k1:modS a 5 = 1
 ·rw [if_pos k1] at hi; omega
 rw [if_neg k1] at hi
 rw [t1,t2]
 generalize mkM b b = M at *
 generalize mkM b c = T at *
 by_cases k2:modS a 5 = 2
 ·rw [if_pos k2] at hi
  rw [if_pos k2]
  match i with
  | 0 => show lo (-M)∧lo (-T); unfold lo; omega
  | 1 => show lo M∧lo (-T); unfold lo; omega
  | 2 => show lo 0∧lo T; unfold lo; omega
  | q + 3 => omega
 rw [if_neg k2] at hi
 rw [if_neg k2]
 by_cases k3:modS a 5 = 3
 ·rw [if_pos k3] at hi
  rw [if_pos k3]
  match i with
  | 0 => show lo (-(M / 2))∧lo (-T); unfold lo; omega
  | 1 => show lo (M / 2)∧lo (-T); unfold lo; omega
  | 2 => show lo M∧lo 0; unfold lo; omega
  | 3 => show lo 0∧lo T; unfold lo; omega
  | 4 => show lo (-M)∧lo 0; unfold lo; omega
  | q + 5 => omega
 rw [if_neg k3] at hi
 rw [if_neg k3]
 match i with
 | 0 => show lo M∧lo (-(M / 2)); unfold lo; omega
 | 1 => show lo M∧lo (M / 2); unfold lo; omega
 | 2 => show lo (M / 2)∧lo M; unfold lo; omega
 | 3 => show lo (-(M / 2))∧lo M; unfold lo; omega
 | 4 => show lo (-M)∧lo (M / 2); unfold lo; omega
 | 5 => show lo (-M)∧lo (-(M / 2)); unfold lo; omega
 | 6 => show lo (-(M / 2))∧lo (-M); unfold lo; omega
 | 7 => show lo (M / 2)∧lo (-M); unfold lo; omega
 | q + 8 => omega
theorem mk_cvx {a b c:Int} (k0:modS a 5≠0) (k1:modS a 5≠1):cvxS (mkN a) (mkX a b c) (mkY a b c) = true:=by
 have b1:=@mkM_bd b b
 have b2:=@mkM_bd b c
 have t1:(mkM b b).tdiv 2 = mkM b b / 2:=Int.tdiv_eq_ediv_of_nonneg (by omega)
 have t2:(-mkM b b).tdiv 2 = -(mkM b b / 2):=by rw [Int.neg_tdiv,t1]
 by_cases k2:modS a 5 = 2
 ·rw [show mkN a = 3 from by unfold mkN; rw [if_neg k0,if_neg k1,if_pos k2]]
  refine tri_cvx (M:=mkM b b) (T:=mkM b c) (by omega) (by omega) ?_ ?_ ?_ ?_ ?_ ?_ <;> (first | unfold mkX | unfold mkY) <;> unfold mkP <;> rw [if_pos k2] <;> rfl
 by_cases k3:modS a 5 = 3
 ·rw [show mkN a = 5 from by unfold mkN; rw [if_neg k0,if_neg k1,if_neg k2,if_pos k3]]
  refine pen_cvx (M:=mkM b b) (T:=mkM b c) (h:=mkM b b / 2) (by omega) (by omega) (by omega) (by omega) ?_ ?_ ?_ ?_ ?_ ?_ ?_ ?_ ?_ ?_ <;> (first | unfold mkX | unfold mkY) <;> unfold mkP <;> rw [if_neg k2,if_pos k3,t1,t2] <;> rfl
 ·rw [show mkN a = 8 from by unfold mkN; rw [if_neg k0,if_neg k1,if_neg k2,if_neg k3]]
  refine oct_cvx (M:=mkM b b) (h:=mkM b b / 2) (by omega) (by omega) (by omega) ?_ ?_ ?_ ?_ ?_ ?_ ?_ ?_ ?_ ?_ ?_ ?_ ?_ ?_ ?_ ?_ <;> (first | unfold mkX | unfold mkY) <;> unfold mkP <;> rw [if_neg k2,if_neg k3,t1,t2] <;> rfl
theorem mk_chk {a b c:Int}:chkS (mkK a) (mkR a b) (mkH a b b) (mkH a b c) (mkN a) (mkX a b c) (mkY a b c) = 0:=by
 have w1:=@mkW_bd b b
 have w2:=@mkW_bd b c
 by_cases k0:modS a 5 = 0
 ·unfold chkS mkK mkR mkH mkN
  rw [if_pos k0,if_pos k0,if_pos k0,if_pos k0,if_pos k0,if_pos rfl,if_neg (by simp),if_pos w1]
 by_cases k1:modS a 5 = 1
 ·unfold chkS mkK mkR mkH mkN
  rw [if_neg k0,if_neg k0,if_neg k0,if_neg k0,if_neg k0,if_pos k1,if_pos k1,if_pos k1,if_pos k1,if_neg (by decide),if_pos rfl,if_neg (by simp),if_pos ⟨w1,w2⟩]
 have hN:3≤mkN a∧mkN a≤8:=by
  unfold mkN
  rw [if_neg k0,if_neg k1]
  (repeat' split) <;> omega
 have e1:mkK a = 3:=by unfold mkK; rw [if_neg k0,if_neg k1]
 have e2:mkR a b = 0:=if_neg k0
 have e3:∀ v,mkH a b v = 0:=fun v => by unfold mkH; rw [if_neg k0,if_neg k1]
 unfold chkS
 rw [e1,e2,e3,e3,if_neg (by decide),if_neg (by decide),if_pos rfl,if_neg (by omega),if_pos mk_lo,if_pos (mk_cvx k0 k1)]
theorem mk_wgE {a b c d k:Int} (hk:modS k 4≠0):wgE (mkK a) (mkR a b) (mkH a b b) (mkH a b c) (mkN a) (mkX a b c) (mkY a b c) (mkD d k) = 0:=by
 have h:=modS_bd (n:=d) (m:=1000) (by omega)
 have e:mkD d k = 1 + modS d 1000:=if_neg hk
 unfold wgE
 rw [if_neg (by rw [mk_chk]; simp),e,if_neg (by omega)]
theorem foAt_bd {x s:Int} (h:1≤s∧s≤4000):-17179869184000≤x.tmod (s * 4294967296)∧x.tmod (s * 4294967296)≤17179869184000:=by
 have h1:x.tmod (s * 4294967296) < s * 4294967296:=Int.tmod_lt_of_pos x (by omega)
 have h2:-(s * 4294967296) < x.tmod (s * 4294967296):=Int.lt_tmod_of_pos x (by omega)
 omega
def abZ (x:Int):Int:=if x < 0 then -x else x
theorem qt_pair {p:Int} (h:-13493037704≤p∧p≤13493037704):∃ q,(q = 6746518852∨q = 6746518851)∧(-6746518852≤qtV p∧qtV p≤6746518852)∧abZ (qtV p)≤q∧(-6746518852≤qtV (if 13493037704 < p + 6746518852 then p + 6746518852 - 26986075409 else p + 6746518852)∧qtV (if 13493037704 < p + 6746518852 then p + 6746518852 - 26986075409 else p + 6746518852)≤6746518852)∧abZ (qtV (if 13493037704 < p + 6746518852 then p + 6746518852 - 26986075409 else p + 6746518852)) = q - abZ (qtV p):=by
 by_cases h1:6746518852 < p
 ·refine ⟨6746518851,.inr rfl,?_⟩
  rw [if_pos (by omega)]
  unfold qtV abZ
  (repeat' split) <;> omega
 ·refine ⟨6746518852,.inl rfl,?_⟩
  rw [if_neg (by omega)]
  unfold qtV abZ
  (repeat' split) <;> omega
theorem wpV_sh {p:Int} (h:-13493037704≤p∧p≤13493037704):wpV (p + 6746518852) = if 13493037704 < p + 6746518852 then p + 6746518852 - 26986075409 else p + 6746518852:=by
 have e:(p + 6746518852).tmod 26986075409 = p + 6746518852:=by
  rcases Int.le_total 0 (p + 6746518852) with k | k
  ·rw [Int.tmod_eq_emod_of_nonneg k,Int.emod_eq_of_lt k (by omega)]
  ·have e2:p + 6746518852 = -(-(p + 6746518852)):=by omega
   rw [e2,Int.neg_tmod,Int.tmod_eq_emod_of_nonneg (by omega),Int.emod_eq_of_lt (by omega) (by omega)]
 unfold wpV
 rw [e]
 split
 ·rfl
 ·rw [if_neg (by omega)]
def cl1 (x:Int):Int:=max (-4294967296) (min x 4294967296)
theorem snV_q {v:Int} (h:-1000000000000000≤v∧v≤1000000000000000):snV v false = cl1 (sq (qtV (wpV v)) 8)∧snF v false = false:=by
 have hp:=@wpV_le v
 have hy:-6746518852≤qtV (wpV v)∧qtV (wpV v)≤6746518852:=by
  obtain ⟨q,h1,h2,h3,h4,h5⟩:=qt_pair hp
  exact h2
 have hs:=sq_le hy 8 (by omega)
 have e:snY v false = (qtV (wpV v),false):=by
  unfold snY
  rw [whV_in (by omega) (by omega),whF_in (by omega)]
 unfold snV snF
 rw [e,snS_eq hy 8 (by omega)]
 dsimp only
 rw [whV_in (by omega) (by omega),whF_in (by omega)]
 exact ⟨rfl,rfl⟩
theorem csV_q {v:Int} (h:-1000000000000000≤v∧v≤1000000000000000):csV v false = cl1 (sq (qtV (if 13493037704 < wpV v + 6746518852 then wpV v + 6746518852 - 26986075409 else wpV v + 6746518852)) 8)∧csF v false = false:=by
 have hp:=@wpV_le v
 have e:nAdd (wpV (whV v),whF v false) (6746518852,false) = (wpV v + 6746518852,false):=by
  rw [whV_in (by omega) (by omega),whF_in (by omega)]
  unfold nAdd
  dsimp only
  rw [whV_in (by omega) (by omega),whV_in (by omega) (by omega),ftV_in (by omega) (by omega),ftF_in (by omega) (by omega),whF_in (by omega),whF_in (by omega)]
  rfl
 have k:=@snV_q (wpV v + 6746518852) (by omega)
 rw [wpV_sh hp] at k
 unfold csV csF
 rw [e]
 exact k
theorem big_sq {x:Int} (h:4294967296≤x∨x≤-4294967296):18446744073709551616≤x * x:=by
 rcases h with h | h
 ·have:=Int.mul_le_mul h h (by omega) (by omega)
  omega
 ·have:=Int.mul_le_mul (a:=4294967296) (b:=4294967296) (c:=-x) (d:=-x) (by omega) (by omega) (by omega) (by omega)
  rw [Int.neg_mul_neg] at this
  omega
theorem cl1_sq {x:Int}:(cl1 x * cl1 x = x * x∧x * x≤18446744073709551616)∨(cl1 x * cl1 x = 18446744073709551616∧18446744073709551616≤x * x):=by
 by_cases h1:4294967296 < x
 ·refine .inr ⟨?_,big_sq (.inl (by omega))⟩
  rw [show cl1 x = 4294967296 from by unfold cl1; omega]
  rfl
 by_cases h2:x < -4294967296
 ·refine .inr ⟨?_,big_sq (.inr (by omega))⟩
  rw [show cl1 x = -4294967296 from by unfold cl1; omega]
  rfl
 ·refine .inl ⟨by rw [show cl1 x = x from by unfold cl1; omega],?_⟩
  have:=ab_mul (a:=x) (b:=x) (A:=4294967296) (B:=4294967296) (by omega) (by omega)
  omega
theorem sq_nn (x:Int):0≤x * x:=by
 rcases Int.le_total 0 x with h | h
 ·exact Int.mul_nonneg h h
 ·have:=Int.mul_nonneg (a:=-x) (b:=-x) (by omega) (by omega)
  rw [Int.neg_mul_neg] at this
  exact this
theorem cl1_bd {x:Int}:-4294967296≤cl1 x∧cl1 x≤4294967296:=by unfold cl1; omega
theorem cl_circle {a b:Int} (h:-35184372088832≤a * a + b * b - 18446744073709551616∧a * a + b * b - 18446744073709551616≤35184372088832) :
  -35184372088832≤cl1 a * cl1 a + cl1 b * cl1 b - 18446744073709551616∧cl1 a * cl1 a + cl1 b * cl1 b - 18446744073709551616≤35184372088832:=by
 have ha:=sq_nn a
 have hb:=sq_nn b
 generalize ea:a * a = A at *
 generalize eb:b * b = B at *
 have ca:=@cl1_sq a
 have cb:=@cl1_sq b
 rw [ea] at ca
 rw [eb] at cb
 generalize cl1 a * cl1 a = P at *
 generalize cl1 b * cl1 b = Q at *
 omega
theorem foRot_ok (u:Int):rotS (foRot u).1.1 (foRot u).1.2 (foRot u).2.1 (foRot u).2.2 = 0:=by
 have hv:-1000000000000000≤u.tmod (8 * 4294967296)∧u.tmod (8 * 4294967296)≤1000000000000000:=by
  have h1:u.tmod (8 * 4294967296) < 8 * 4294967296:=Int.tmod_lt_of_pos u (by omega)
  have h2:-(8 * 4294967296) < u.tmod (8 * 4294967296):=Int.lt_tmod_of_pos u (by omega)
  omega
 unfold foRot
 dsimp only
 generalize u.tmod (8 * 4294967296) = v at *
 have hp:=@wpV_le v
 obtain ⟨q,q1,q2,q3,q4,q5⟩:=qt_pair hp
 have hc:=sq_circle q2 q1 q3 q5
 obtain ⟨s1,s2⟩:=snV_q hv
 obtain ⟨c1,c2⟩:=csV_q hv
 rw [s1,s2,c1,c2]
 generalize sq (qtV (wpV v)) 8 = S at *
 generalize sq (qtV (if 13493037704 < wpV v + 6746518852 then wpV v + 6746518852 - 26986075409 else wpV v + 6746518852)) 8 = C at *
 have hk:=cl_circle hc
 have k1:=@cl1_bd S
 have k2:=@cl1_bd C
 have e:(nDot (cl1 C,false) (cl1 C,false) (cl1 S,false) (cl1 S,false)).1 = (cl1 C * cl1 C + cl1 S * cl1 S).tdiv 4294967296:=by
  unfold nDot
  dsimp only
  rw [whV_in (by omega) (by omega),whV_in (by omega) (by omega)]
  have:=@td_err (cl1 C * cl1 C + cl1 S * cl1 S) 4294967296 (by omega)
  exact ftV_in (by omega) (by omega)
 have hd:=@td_err (cl1 C * cl1 C + cl1 S * cl1 S) 4294967296 (by omega)
 unfold rotS
 rw [e,whF_in (by omega),whF_in (by omega)]
 refine if_neg ?_
 simp
 omega
theorem far_no {x:Int} (h:-17592186044416≤x∧x≤17592186044416):farB (x,false) = false:=by
 unfold farB
 dsimp only
 rw [whF_in (by omega),whV_in (by omega) (by omega)]
 have:¬ 17592186044416 < ab x:=by unfold ab; split <;> omega
 rw [decide_eq_false this]
 rfl
theorem mk_place {a b c x y u s:Int} (hs:1≤s∧s≤4000):plErr (mkK a) (mkR a b) (mkH a b b) (mkH a b c) (mkN a) (mkX a b c) (mkY a b c) (foAt x y s) (foRot u) = 0:=by
 have h1:=@foAt_bd x s hs
 have h2:=@foAt_bd y s hs
 unfold plErr
 rw [if_neg (by rw [mk_chk]; simp),if_neg (by rw [foRot_ok]; simp)]
 unfold foAt
 dsimp only
 rw [far_no (by omega),far_no (by omega)]
 rfl
theorem mk_nwE {a b c x y u d k s:Int} (hs:1≤s∧s≤4000):nwE (mkK a) (mkR a b) (mkH a b b) (mkH a b c) (mkN a) (mkX a b c) (mkY a b c) (foAt x y s) (foRot u) (mkD d k) (modS k 4 != 0) = 0:=by
 unfold nwE
 rw [if_neg (by rw [mk_chk]; simp)]
 by_cases hk:modS k 4 = 0
 ·have e:mkD d k = 0:=if_pos hk
  rw [e,mk_place hs,hk]
  rfl
 ·have e:(modS k 4 != 0) = true:=by simpa using hk
  rw [e,if_pos rfl,mk_wgE hk,mk_place hs]
  rfl
theorem cor_lo {a b c:Int} (i:Nat) (hi:i < corN (mkK a) (mkR a b) (mkH a b b) (mkH a b c) (mkN a) (mkX a b c) (mkY a b c)):lo (corX (mkK a) (mkH a b b) (mkH a b c) (mkX a b c) i)∧lo (corY (mkK a) (mkH a b b) (mkH a b c) (mkY a b c) i):=by
 have w1:=@mkW_bd b b
 have w2:=@mkW_bd b c
 have h1:∀ v,0≤mkH a b v∧mkH a b v≤4096:=fun v => by
  have:=@mkW_bd b v
  unfold mkH
  (repeat' split) <;> omega
 have h2:=h1 b
 have h3:=h1 c
 unfold corN at hi
 rw [if_pos mk_chk] at hi
 unfold corX corY
 split at hi
 ·rename_i hk
  rw [if_pos hk,if_pos hk]
  match i with
  | 0 => show lo (-mkH a b b)∧lo (-mkH a b c); unfold lo; omega
  | 1 => show lo (mkH a b b)∧lo (-mkH a b c); unfold lo; omega
  | 2 => show lo (mkH a b b)∧lo (mkH a b c); unfold lo; omega
  | 3 => show lo (-mkH a b b)∧lo (mkH a b c); unfold lo; omega
  | i + 4 => omega
 ·rename_i hk
  rw [if_neg hk,if_neg hk]
  exact mk_lo i hi
theorem crI_bd {P Q:Nat→Int} {n i:Nat} (hl:∀ i,i < n→lo (P i)∧lo (Q i)) (hi:i < n):-33554432≤crI P Q n i∧crI P Q n i≤33554432:=by
 have hj:(i + 1) % n < n:=Nat.mod_lt _ (by omega)
 have k1:=lo_mul (hl i hi).1 (hl _ hj).2
 have k2:=lo_mul (hl i hi).2 (hl _ hj).1
 unfold crI
 rw [wrap_in (inRo (by omega))]
 omega
theorem tdp {n k lo' hi:Int} (hk:0 < k) (hn:0≤n) (h1:lo' * k≤n) (h2:n < hi * k):lo'≤n.tdiv k∧n.tdiv k < hi:=by
 rw [Int.tdiv_eq_ediv_of_nonneg hn]
 exact ⟨(Int.le_ediv_iff_mul_le hk).2 h1,(Int.ediv_lt_iff_lt_mul hk).2 h2⟩
theorem sq_bd {w:Int} (h:16≤w∧w≤4096):256≤w * w∧w * w≤16777216:=by
 have h1:=Int.mul_le_mul h.1 h.1 (by omega) (by omega)
 have h2:=Int.mul_le_mul h.2 h.2 (by omega) (by omega)
 omega
theorem mk_wgS_in {k r w t d:Int} {n:Nat} {X Y:Nat→Int}:inR (wgS k r w t n X Y d).1.1∧inR (wgS k r w t n X Y d).2.1:=by
 have q:∀ a b:Nb,inR (nDiv a b).1:=fun a b => by
  have h:rg (nDiv a b).1:=raV_rg
  unfold rg at h
  unfold inR
  omega
 unfold wgS
 split
 ·unfold wgM
  split
  ·exact ⟨q _ _,q _ _⟩
  ·exact ⟨q _ _,q _ _⟩
 ·exact ⟨by unfold inR; decide,by unfold inR; decide⟩
theorem cor_nn {a b c:Int} (i:Nat) (hi:i < corN (mkK a) (mkR a b) (mkH a b b) (mkH a b c) (mkN a) (mkX a b c) (mkY a b c)):0≤crI (corX (mkK a) (mkH a b b) (mkH a b c) (mkX a b c)) (corY (mkK a) (mkH a b b) (mkH a b c) (mkY a b c)) (corN (mkK a) (mkR a b) (mkH a b b) (mkH a b c) (mkN a) (mkX a b c) (mkY a b c)) i:=by
 have hN:corN (mkK a) (mkR a b) (mkH a b b) (mkH a b c) (mkN a) (mkX a b c) (mkY a b c) = if mkK a = 2 then 4 else mkN a:=if_pos mk_chk
 have hl:=fun i hi => @cor_lo a b c i hi
 have e:∀ i,i < corN (mkK a) (mkR a b) (mkH a b b) (mkH a b c) (mkN a) (mkX a b c) (mkY a b c)→crI (corX (mkK a) (mkH a b b) (mkH a b c) (mkX a b c)) (corY (mkK a) (mkH a b b) (mkH a b c) (mkY a b c)) (corN (mkK a) (mkR a b) (mkH a b b) (mkH a b c) (mkN a) (mkX a b c) (mkY a b c)) i =
   corX (mkK a) (mkH a b b) (mkH a b c) (mkX a b c) i * corY (mkK a) (mkH a b b) (mkH a b c) (mkY a b c) ((i + 1) % corN (mkK a) (mkR a b) (mkH a b b) (mkH a b c) (mkN a) (mkX a b c) (mkY a b c)) - corY (mkK a) (mkH a b b) (mkH a b c) (mkY a b c) i * corX (mkK a) (mkH a b b) (mkH a b c) (mkX a b c) ((i + 1) % corN (mkK a) (mkR a b) (mkH a b b) (mkH a b c) (mkN a) (mkX a b c) (mkY a b c)):=fun i hi => by
  have hj:=Nat.mod_lt (i + 1) (show 0 < corN (mkK a) (mkR a b) (mkH a b b) (mkH a b c) (mkN a) (mkX a b c) (mkY a b c) by omega)
  have k1:=lo_mul (hl i hi).1 (hl _ hj).2
  have k2:=lo_mul (hl i hi).2 (hl _ hj).1
  unfold crI
  rw [wrap_in (inRo (by omega))]
 rw [e i hi]
 clear e hl
 rw [hN] at hi ⊢
 clear hN
 have b1:=@mkM_bd b b
 have b2:=@mkM_bd b c
 have t1:(mkM b b).tdiv 2 = mkM b b / 2:=Int.tdiv_eq_ediv_of_nonneg (by omega)
 have t2:(-mkM b b).tdiv 2 = -(mkM b b / 2):=by rw [Int.neg_tdiv,t1]
 by_cases k0:modS a 5 = 0
 ·have h1:mkK a = 1:=if_pos k0
  have h2:mkN a = 0:=if_pos k0
  rw [h1,h2,if_neg (by decide)] at hi
  omega
 by_cases k1:modS a 5 = 1
 ·have h1:mkK a = 2:=(if_neg k0).trans (if_pos k1)
  have w1:=@mkW_bd b b
  have w2:=@mkW_bd b c
  have h2:mkH a b b = mkW b b:=(if_neg k0).trans (if_pos k1)
  have h3:mkH a b c = mkW b c:=(if_neg k0).trans (if_pos k1)
  rw [h2,h3]
  rw [h1,if_pos rfl] at hi ⊢
  generalize mkW b b = w at *
  generalize mkW b c = t at *
  have p:=Int.mul_nonneg (show 0≤w by omega) (show 0≤t by omega)
  match i with
  | 0 => show 0≤(-w) * (-t) - (-t) * w; rw [Int.neg_mul_neg,Int.neg_mul,Int.mul_comm t w]; omega
  | 1 => show 0≤w * t - (-t) * w; rw [Int.neg_mul,Int.mul_comm t w]; omega
  | 2 => show 0≤w * t - t * (-w); rw [Int.mul_neg,Int.mul_comm t w]; omega
  | 3 => show 0≤(-w) * (-t) - t * (-w); rw [Int.neg_mul_neg,Int.mul_neg,Int.mul_comm t w]; omega
  | q + 4 => omega
 have h1:mkK a = 3:=(if_neg k0).trans (if_neg k1)
 rw [h1,if_neg (by decide)] at hi ⊢
 have eX:∀ i,corX 3 (mkH a b b) (mkH a b c) (mkX a b c) i = mkX a b c i:=fun i => if_neg (by decide)
 have eY:∀ i,corY 3 (mkH a b b) (mkH a b c) (mkY a b c) i = mkY a b c i:=fun i => if_neg (by decide)
 rw [eX,eX,eY,eY]
 clear eX eY h1
 unfold mkX mkY mkP
 rw [t1,t2]
 by_cases k2:modS a 5 = 2
 ·have h2:mkN a = 3:=(if_neg k0).trans ((if_neg k1).trans (if_pos k2))
  rw [h2] at hi ⊢
  rw [if_pos k2]
  generalize mkM b b = M at *
  generalize mkM b c = T at *
  have p:=Int.mul_nonneg (show 0≤M by omega) (show 0≤T by omega)
  match i with
  | 0 => show 0≤(-M) * (-T) - (-T) * M; rw [Int.neg_mul_neg,Int.neg_mul,Int.mul_comm T M]; omega
  | 1 => show 0≤M * T - (-T) * 0; omega
  | 2 => show 0≤0 * (-T) - T * (-M); rw [Int.zero_mul,Int.mul_neg,Int.mul_comm T M]; omega
  | q + 3 => omega
 by_cases k3:modS a 5 = 3
 ·have h2:mkN a = 5:=(if_neg k0).trans ((if_neg k1).trans ((if_neg k2).trans (if_pos k3)))
  rw [h2] at hi ⊢
  rw [if_neg k2,if_pos k3]
  generalize mkM b b = M at *
  generalize mkM b c = T at *
  have p:=Int.mul_nonneg (show 0≤M by omega) (show 0≤T by omega)
  have q:=Int.mul_nonneg (show 0≤M / 2 by omega) (show 0≤T by omega)
  match i with
  | 0 => show 0≤(-(M / 2)) * (-T) - (-T) * (M / 2); rw [Int.neg_mul_neg,Int.neg_mul,Int.mul_comm T (M / 2)]; omega
  | 1 => show 0≤M / 2 * 0 - (-T) * M; rw [Int.neg_mul,Int.mul_comm T M]; omega
  | 2 => show 0≤M * T - 0 * 0; omega
  | 3 => show 0≤0 * 0 - T * (-M); rw [Int.zero_mul,Int.mul_neg,Int.mul_comm T M]; omega
  | 4 => show 0≤(-M) * (-T) - 0 * (-(M / 2)); rw [Int.neg_mul_neg]; omega
  | q + 5 => omega
 ·have h2:mkN a = 8:=(if_neg k0).trans ((if_neg k1).trans ((if_neg k2).trans (if_neg k3)))
  rw [h2] at hi ⊢
  rw [if_neg k2,if_neg k3]
  generalize mkM b b = M at *
  have p:=Int.mul_nonneg (show 0≤M by omega) (show 0≤M by omega)
  have q:=Int.mul_nonneg (show 0≤M by omega) (show 0≤M / 2 by omega)
  have s:=Int.mul_nonneg (show 0≤M / 2 by omega) (show 0≤M / 2 by omega)
  have u:M * (M / 2)≤M * M:=Int.mul_le_mul_of_nonneg_left (by omega) (by omega)
  have v:M / 2 * (M / 2)≤M * (M / 2):=Int.mul_le_mul_of_nonneg_right (by omega) (by omega)
  match i with
  | 0 => show 0≤M * (M / 2) - (-(M / 2)) * M; rw [Int.neg_mul,Int.mul_comm (M / 2) M]; omega
  | 1 => show 0≤M * M - M / 2 * (M / 2); omega
  | 2 => show 0≤M / 2 * M - M * (-(M / 2)); rw [Int.mul_neg,Int.mul_comm (M / 2) M]; omega
  | 3 => show 0≤(-(M / 2)) * (M / 2) - M * (-M); rw [Int.neg_mul,Int.mul_neg]; omega
  | 4 => show 0≤(-M) * (-(M / 2)) - M / 2 * (-M); rw [Int.neg_mul_neg,Int.mul_neg,Int.mul_comm (M / 2) M]; omega
  | 5 => show 0≤(-M) * (-M) - (-(M / 2)) * (-(M / 2)); rw [Int.neg_mul_neg,Int.neg_mul_neg]; omega
  | 6 => show 0≤(-(M / 2)) * (-M) - (-M) * (M / 2); rw [Int.neg_mul_neg,Int.neg_mul,Int.mul_comm (M / 2) M]; omega
  | 7 => show 0≤M / 2 * (-(M / 2)) - (-M) * M; rw [Int.mul_neg,Int.neg_mul]; omega
  | q + 8 => omega
theorem wgA_nn {P Q:Nat→Int} {n:Nat} (hn:n≤8) (hl:∀ i,i < n→lo (P i)∧lo (Q i)) (hc:∀ i,i < n→0≤crI P Q n i):∀ i:Nat,i≤n→0≤wgA P Q n i∧wgA P Q n i≤(i:Int) * 33554432
 | 0,_ => by show (0:Int)≤0∧(0:Int)≤_; omega
 | i + 1,h => by
  have h1:=wgA_nn hn hl hc i (by omega)
  have h2:=crI_bd hl (show i < n by omega)
  have h3:=hc i (by omega)
  show 0≤IntKind.i64.wrap (wgA P Q n i + crI P Q n i)∧IntKind.i64.wrap (wgA P Q n i + crI P Q n i)≤_
  rw [wrap_in (inRo (by omega))]
  omega
theorem doI_eq {P Q:Nat→Int} {i j:Nat} (h1:lo (P i)) (h2:lo (Q i)) (h3:lo (P j)) (h4:lo (Q j)):doI P Q i j = P i * P j + Q i * Q j∧-33554432≤doI P Q i j∧doI P Q i j≤33554432:=by
 have k1:=lo_mul h1 h3
 have k2:=lo_mul h2 h4
 unfold doI
 rw [wrap_in (x:=P i * P j) (inRo (by omega)),wrap_in (x:=Q i * Q j) (inRo (by omega)),wrap_in (inRo (by omega))]
 exact ⟨rfl,by omega,by omega⟩
theorem sq_3 (a b:Int):0≤a * a + a * b + b * b:=by
 have h1:=sq0 a
 have h2:=sq0 b
 have h3:=sq0 (a + b)
 rw [Int.add_mul,Int.mul_add,Int.mul_add,Int.mul_comm b a] at h3
 omega
theorem wgB_nn {P Q:Nat→Int} {n:Nat} (hn:n≤8) (hl:∀ i,i < n→lo (P i)∧lo (Q i)) (hc:∀ i,i < n→0≤crI P Q n i):∀ i:Nat,i≤n→0≤wgB P Q n i∧wgB P Q n i≤(i:Int) * 3377699720527872
 | 0,_ => by show (0:Int)≤0∧(0:Int)≤_; omega
 | i + 1,h => by
  have h1:=wgB_nn hn hl hc i (by omega)
  have h2:=crI_bd hl (show i < n by omega)
  have h3:=hc i (by omega)
  have hj:=Nat.mod_lt (i + 1) (show 0 < n by omega)
  have hi:=hl i (by omega)
  have hk:=hl _ hj
  have d1:=@doI_eq P Q i i hi.1 hi.2 hi.1 hi.2
  have d2:=@doI_eq P Q i ((i + 1) % n) hi.1 hi.2 hk.1 hk.2
  have d3:=@doI_eq P Q ((i + 1) % n) ((i + 1) % n) hk.1 hk.2 hk.1 hk.2
  show 0≤IntKind.i64.wrap (wgB P Q n i + IntKind.i64.wrap (crI P Q n i * IntKind.i64.wrap (IntKind.i64.wrap (doI P Q i i + doI P Q i ((i + 1) % n)) + doI P Q ((i + 1) % n) ((i + 1) % n))))∧IntKind.i64.wrap (wgB P Q n i + IntKind.i64.wrap (crI P Q n i * IntKind.i64.wrap (IntKind.i64.wrap (doI P Q i i + doI P Q i ((i + 1) % n)) + doI P Q ((i + 1) % n) ((i + 1) % n))))≤_
  rw [wrap_in (x:=doI P Q i i + doI P Q i ((i + 1) % n)) (inRo (by omega)),wrap_in (x:=doI P Q i i + doI P Q i ((i + 1) % n) + doI P Q ((i + 1) % n) ((i + 1) % n)) (inRo (by omega))]
  have s1:=sq_3 (P i) (P ((i + 1) % n))
  have s2:=sq_3 (Q i) (Q ((i + 1) % n))
  have hs:0≤doI P Q i i + doI P Q i ((i + 1) % n) + doI P Q ((i + 1) % n) ((i + 1) % n):=by omega
  have hs2:doI P Q i i + doI P Q i ((i + 1) % n) + doI P Q ((i + 1) % n) ((i + 1) % n)≤100663296:=by omega
  generalize doI P Q i i + doI P Q i ((i + 1) % n) + doI P Q ((i + 1) % n) ((i + 1) % n) = S at *
  have p1:=Int.mul_nonneg h3 hs
  have p2:crI P Q n i * S≤33554432 * 100663296:=Int.mul_le_mul h2.2 hs2 hs (by omega)
  rw [wrap_in (x:=crI P Q n i * S) (inRo (by omega)),wrap_in (inRo (by omega))]
  omega
def mkWt (a b c d k:Int):Nb×Nb:=nwW (mkK a) (mkR a b) (mkH a b b) (mkH a b c) (mkN a) (mkX a b c) (mkY a b c) (mkD d k) (modS k 4 != 0)
theorem mk0_eq {a b c x y u d k s:Int} (hs:1≤s∧s≤4000):mk0 a b c x y u d k s = ⟨mkK a,mkR a b,mkH a b b,mkH a b c,mkN a,mkX a b c,mkY a b c,foAt x y s,foRot u,zV,(0,false),(mkWt a b c d k).1,(mkWt a b c d k).2,0,false,false,1⟩:=by
 have hE:=@mk_nwE a b c x y u d k s hs
 unfold mk0 nwB
 rw [if_pos hE]
 rfl
def mkV (p q k:Int):V2:=if modS k 4 = 1 then (nuN p 200,nuN q 200) else zV
def mkO (r k:Int):Nb:=if modS k 4 = 1 then nuN r 60 else (0,false)
def mkSt (k:Int):Int:=if modS k 4 = 2 then 30 else 0
theorem mkB_eq {a b c x y u p q r d k s:Int} (hs:1≤s∧s≤4000):mkB a b c x y u p q r d k s = ⟨mkK a,mkR a b,mkH a b b,mkH a b c,mkN a,mkX a b c,mkY a b c,foAt x y s,foRot u,mkV p q k,mkO r k,(mkWt a b c d k).1,(mkWt a b c d k).2,mkSt k,decide (modS k 4 = 2∨modS k 4 = 3),decide (modS k 4 = 3),1⟩:=by
 unfold mkB mkV mkO mkSt
 rw [mk0_eq hs]
 by_cases h1:modS k 4 = 1
 ·rw [if_pos h1,if_pos h1,if_pos h1,if_neg (by omega),decide_eq_false (by omega),decide_eq_false (by omega)]
 ·rw [if_neg h1,if_neg h1,if_neg h1]
  by_cases h2:modS k 4 = 2
  ·rw [if_pos h2,if_pos h2,decide_eq_true (by omega),decide_eq_false (by omega)]
  ·rw [if_neg h2,if_neg h2]
   by_cases h3:modS k 4 = 3
   ·rw [if_pos h3,decide_eq_true (by omega),decide_eq_true h3]
   ·rw [if_neg h3,decide_eq_false (by omega),decide_eq_false h3]
theorem nu_bd {x s:Int} (h:1≤s∧s≤200):-858993459200 < (nuN x s).1∧(nuN x s).1 < 858993459200:=by
 have h1:x.tmod (s * 4294967296) < s * 4294967296:=Int.tmod_lt_of_pos x (by omega)
 have h2:-(s * 4294967296) < x.tmod (s * 4294967296):=Int.lt_tmod_of_pos x (by omega)
 show -858993459200 < x.tmod (s * 4294967296)∧x.tmod (s * 4294967296) < 858993459200
 omega
theorem mkWt_in {a b c d k:Int}:inR (mkWt a b c d k).1.1∧inR (mkWt a b c d k).2.1:=by
 unfold mkWt nwW
 split
 ·exact mk_wgS_in
 ·exact ⟨by show inR 0; unfold inR; decide,by show inR 0; unfold inR; decide⟩
theorem mkB_in {a b c x y u p q r d k s:Int} (hs:1≤s∧s≤4000):inB (mkB a b c x y u p q r d k s):=by
 rw [mkB_eq hs]
 have hm:=@mkWt_in a b c d k
 have w1:=@mkW_bd b b
 have h1:∀ v,inR (mkH a b v):=fun v => by
  have:=@mkW_bd b v
  unfold mkH inR
  (repeat' split) <;> omega
 have hz:inR 0:=by unfold inR; decide
 have hu:∀ x s,1≤s∧s≤200→inR (nuN x s).1:=fun x s h => by
  have:=@nu_bd x s h
  unfold inR; omega
 refine ⟨?_,?_,h1 b,h1 c,fun j hj => mk_inR j hj,tmod_inR (by omega),tmod_inR (by omega),csV_inR,snV_inR,?_,?_,?_,hm.1,hm.2,?_,(by unfold inR; decide:inR 1)⟩
 ·show inR (mkK a)
  unfold mkK inR
  (repeat' split) <;> omega
 ·show inR (mkR a b)
  unfold mkR inR
  (repeat' split) <;> omega
 ·show inR (mkV p q k).1.1
  unfold mkV
  split
  ·exact hu _ _ (by omega)
  ·exact hz
 ·show inR (mkV p q k).2.1
  unfold mkV
  split
  ·exact hu _ _ (by omega)
  ·exact hz
 ·show inR (mkO r k).1
  unfold mkO
  split
  ·exact hu _ _ (by omega)
  ·exact hz
 ·show inR (mkSt k)
  unfold mkSt
  split
  ·unfold inR; decide
  ·exact hz
theorem mkB_n {a b c x y u p q r d k s:Int} (hs:1≤s∧s≤4000):(mkB a b c x y u p q r d k s).n≤1000:=by
 rw [mkB_eq hs]
 show mkN a≤1000
 unfold mkN
 (repeat' split) <;> omega
theorem wgB_two {P Q:Nat→Int} {n:Nat} (hn:n≤8) (hl:∀ i,i < n→lo (P i)∧lo (Q i)) (hc:∀ i,i < n→0≤crI P Q n i):∀ i:Nat,i + 2≤n→wgB P Q n 2≤wgB P Q n (i + 2)
 | 0,_ => Int.le_refl _
 | i + 1,h => by
  have h0:=wgB_two hn hl hc i (by omega)
  have h1:=wgB_nn hn hl hc (i + 2) (by omega)
  have h2:=crI_bd hl (show i + 2 < n by omega)
  have h3:=hc (i + 2) (by omega)
  have hj:=Nat.mod_lt (i + 2 + 1) (show 0 < n by omega)
  have hi:=hl (i + 2) (by omega)
  have hk:=hl _ hj
  have d1:=@doI_eq P Q (i + 2) (i + 2) hi.1 hi.2 hi.1 hi.2
  have d2:=@doI_eq P Q (i + 2) ((i + 2 + 1) % n) hi.1 hi.2 hk.1 hk.2
  have d3:=@doI_eq P Q ((i + 2 + 1) % n) ((i + 2 + 1) % n) hk.1 hk.2 hk.1 hk.2
  show wgB P Q n 2≤IntKind.i64.wrap (wgB P Q n (i + 2) + IntKind.i64.wrap (crI P Q n (i + 2) * IntKind.i64.wrap (IntKind.i64.wrap (doI P Q (i + 2) (i + 2) + doI P Q (i + 2) ((i + 2 + 1) % n)) + doI P Q ((i + 2 + 1) % n) ((i + 2 + 1) % n))))
  rw [wrap_in (x:=doI P Q (i + 2) (i + 2) + doI P Q (i + 2) ((i + 2 + 1) % n)) (inRo (by omega)),wrap_in (x:=doI P Q (i + 2) (i + 2) + doI P Q (i + 2) ((i + 2 + 1) % n) + doI P Q ((i + 2 + 1) % n) ((i + 2 + 1) % n)) (inRo (by omega))]
  have s1:=sq_3 (P (i + 2)) (P ((i + 2 + 1) % n))
  have s2:=sq_3 (Q (i + 2)) (Q ((i + 2 + 1) % n))
  have hs:0≤doI P Q (i + 2) (i + 2) + doI P Q (i + 2) ((i + 2 + 1) % n) + doI P Q ((i + 2 + 1) % n) ((i + 2 + 1) % n):=by omega
  have hs2:doI P Q (i + 2) (i + 2) + doI P Q (i + 2) ((i + 2 + 1) % n) + doI P Q ((i + 2 + 1) % n) ((i + 2 + 1) % n)≤100663296:=by omega
  generalize doI P Q (i + 2) (i + 2) + doI P Q (i + 2) ((i + 2 + 1) % n) + doI P Q ((i + 2 + 1) % n) ((i + 2 + 1) % n) = S at *
  have p1:=Int.mul_nonneg h3 hs
  have p2:crI P Q n (i + 2) * S≤33554432 * 100663296:=Int.mul_le_mul h2.2 hs2 hs (by omega)
  rw [wrap_in (x:=crI P Q n (i + 2) * S) (inRo (by omega)),wrap_in (inRo (by omega))]
  omega
theorem mul_lo {a b p q:Int} (h1:p≤a) (h2:q≤b) (hp:0≤p) (hq:0≤q):p * q≤a * b:=Int.mul_le_mul h1 h2 hq (by omega)
theorem wgB_lo {P Q:Nat→Int} {n:Nat} (hn3:3≤n) (hn:n≤8) (hl:∀ i,i < n→lo (P i)∧lo (Q i)) (hc:∀ i,i < n→0≤crI P Q n i)
  (h0:512≤P 0 * Q 1 - Q 0 * P 1) (h1:512≤P 1 * Q 2 - Q 1 * P 2) (hd:2048≤(P 0 * P 0 + Q 0 * Q 0 + (P 0 * P 1 + Q 0 * Q 1) + (P 1 * P 1 + Q 1 * Q 1)) + (P 1 * P 1 + Q 1 * Q 1 + (P 1 * P 2 + Q 1 * Q 2) + (P 2 * P 2 + Q 2 * Q 2))):1048576≤wgB P Q n 2∧1≤wgA P Q n 2:=by
 have e1:(0 + 1) % n = 1:=Nat.mod_eq_of_lt (by omega)
 have e2:(1 + 1) % n = 2:=Nat.mod_eq_of_lt (by omega)
 have l0:=hl 0 (by omega)
 have l1:=hl 1 (by omega)
 have l2:=hl 2 (by omega)
 have a1:=lo_mul l0.1 l1.2
 have a2:=lo_mul l0.2 l1.1
 have a3:=lo_mul l1.1 l2.2
 have a4:=lo_mul l1.2 l2.1
 have c0:crI P Q n 0 = P 0 * Q 1 - Q 0 * P 1:=by unfold crI; rw [e1,wrap_in (inRo (by omega))]
 have c1:crI P Q n 1 = P 1 * Q 2 - Q 1 * P 2:=by unfold crI; rw [e2,wrap_in (inRo (by omega))]
 obtain ⟨d1,d1a,d1b⟩:=@doI_eq P Q 0 0 l0.1 l0.2 l0.1 l0.2
 obtain ⟨d2,d2a,d2b⟩:=@doI_eq P Q 0 1 l0.1 l0.2 l1.1 l1.2
 obtain ⟨d3,d3a,d3b⟩:=@doI_eq P Q 1 1 l1.1 l1.2 l1.1 l1.2
 obtain ⟨d4,d4a,d4b⟩:=@doI_eq P Q 1 2 l1.1 l1.2 l2.1 l2.2
 obtain ⟨d5,d5a,d5b⟩:=@doI_eq P Q 2 2 l2.1 l2.2 l2.1 l2.2
 have s1:=sq_3 (P 0) (P 1)
 have s2:=sq_3 (Q 0) (Q 1)
 have s3:=sq_3 (P 1) (P 2)
 have s4:=sq_3 (Q 1) (Q 2)
 have w:wgB P Q n 2 = IntKind.i64.wrap (IntKind.i64.wrap (0 + IntKind.i64.wrap (crI P Q n 0 * IntKind.i64.wrap (IntKind.i64.wrap (doI P Q 0 0 + doI P Q 0 ((0 + 1) % n)) + doI P Q ((0 + 1) % n) ((0 + 1) % n)))) + IntKind.i64.wrap (crI P Q n 1 * IntKind.i64.wrap (IntKind.i64.wrap (doI P Q 1 1 + doI P Q 1 ((1 + 1) % n)) + doI P Q ((1 + 1) % n) ((1 + 1) % n)))):=rfl
 have v:wgA P Q n 2 = IntKind.i64.wrap (IntKind.i64.wrap (0 + crI P Q n 0) + crI P Q n 1):=rfl
 rw [e1,e2] at w
 rw [c0,c1] at v w
 rw [w,v]
 generalize hD:doI P Q 0 0 = D1 at *
 generalize doI P Q 0 1 = D2 at *
 generalize doI P Q 1 1 = D3 at *
 generalize doI P Q 1 2 = D4 at *
 generalize doI P Q 2 2 = D5 at *
 generalize hC:P 0 * Q 1 - Q 0 * P 1 = C at *
 generalize hE:P 1 * Q 2 - Q 1 * P 2 = E at *
 rw [wrap_in (x:=D1 + D2) (inRo (by omega)),wrap_in (x:=D1 + D2 + D3) (inRo (by omega)),wrap_in (x:=D3 + D4) (inRo (by omega)),wrap_in (x:=D3 + D4 + D5) (inRo (by omega))]
 have hS:0≤D1 + D2 + D3∧D1 + D2 + D3≤100663296:=by omega
 have hT:0≤D3 + D4 + D5∧D3 + D4 + D5≤100663296:=by omega
 have hST:2048≤(D1 + D2 + D3) + (D3 + D4 + D5):=by omega
 generalize D1 + D2 + D3 = S at *
 generalize D3 + D4 + D5 = T at *
 have p1:512 * S≤C * S:=Int.mul_le_mul_of_nonneg_right h0 hS.1
 have p2:512 * T≤E * T:=Int.mul_le_mul_of_nonneg_right h1 hT.1
 have hC2:C≤33554432:=by omega
 have hE2:E≤33554432:=by omega
 have p3:C * S≤33554432 * 100663296:=Int.mul_le_mul hC2 hS.2 hS.1 (by omega)
 have p4:E * T≤33554432 * 100663296:=Int.mul_le_mul hE2 hT.2 hT.1 (by omega)
 rw [wrap_in (x:=C * S) (inRo (by omega)),wrap_in (x:=E * T) (inRo (by omega)),wrap_in (x:=0 + C * S) (inRo (by omega)),wrap_in (x:=0 + C * S + E * T) (inRo (by omega)),wrap_in (x:=0 + C) (inRo (by omega)),wrap_in (x:=0 + C + E) (inRo (by omega))]
 omega
theorem wgA_two {P Q:Nat→Int} {n:Nat} (hn:n≤8) (hl:∀ i,i < n→lo (P i)∧lo (Q i)) (hc:∀ i,i < n→0≤crI P Q n i):∀ i:Nat,i + 2≤n→wgA P Q n 2≤wgA P Q n (i + 2)
 | 0,_ => Int.le_refl _
 | i + 1,h => by
  have h0:=wgA_two hn hl hc i (by omega)
  have h1:=wgA_nn hn hl hc (i + 2) (by omega)
  have h2:=crI_bd hl (show i + 2 < n by omega)
  have h3:=hc (i + 2) (by omega)
  show wgA P Q n 2≤IntKind.i64.wrap (wgA P Q n (i + 2) + crI P Q n (i + 2))
  rw [wrap_in (inRo (by omega))]
  omega
theorem cor_sum {a b c:Int} (hk:mkK a≠1):(1048576≤wgB (corX (mkK a) (mkH a b b) (mkH a b c) (mkX a b c)) (corY (mkK a) (mkH a b b) (mkH a b c) (mkY a b c)) (corN (mkK a) (mkR a b) (mkH a b b) (mkH a b c) (mkN a) (mkX a b c) (mkY a b c)) (corN (mkK a) (mkR a b) (mkH a b b) (mkH a b c) (mkN a) (mkX a b c) (mkY a b c)) ∧
   wgB (corX (mkK a) (mkH a b b) (mkH a b c) (mkX a b c)) (corY (mkK a) (mkH a b b) (mkH a b c) (mkY a b c)) (corN (mkK a) (mkR a b) (mkH a b b) (mkH a b c) (mkN a) (mkX a b c) (mkY a b c)) (corN (mkK a) (mkR a b) (mkH a b b) (mkH a b c) (mkN a) (mkX a b c) (mkY a b c))≤27021597764222976) ∧
  1≤wgA (corX (mkK a) (mkH a b b) (mkH a b c) (mkX a b c)) (corY (mkK a) (mkH a b b) (mkH a b c) (mkY a b c)) (corN (mkK a) (mkR a b) (mkH a b b) (mkH a b c) (mkN a) (mkX a b c) (mkY a b c)) (corN (mkK a) (mkR a b) (mkH a b b) (mkH a b c) (mkN a) (mkX a b c) (mkY a b c)) ∧
   wgA (corX (mkK a) (mkH a b b) (mkH a b c) (mkX a b c)) (corY (mkK a) (mkH a b b) (mkH a b c) (mkY a b c)) (corN (mkK a) (mkR a b) (mkH a b b) (mkH a b c) (mkN a) (mkX a b c) (mkY a b c)) (corN (mkK a) (mkR a b) (mkH a b b) (mkH a b c) (mkN a) (mkX a b c) (mkY a b c))≤268435456:=by
 have hN:corN (mkK a) (mkR a b) (mkH a b b) (mkH a b c) (mkN a) (mkX a b c) (mkY a b c) = if mkK a = 2 then 4 else mkN a:=if_pos mk_chk
 have hl:=fun i hi => @cor_lo a b c i hi
 have hcn:=fun i hi => @cor_nn a b c i hi
 have b1:=@mkM_bd b b
 have b2:=@mkM_bd b c
 have t1:(mkM b b).tdiv 2 = mkM b b / 2:=Int.tdiv_eq_ediv_of_nonneg (by omega)
 have t2:(-mkM b b).tdiv 2 = -(mkM b b / 2):=by rw [Int.neg_tdiv,t1]
 have k0:¬ modS a 5 = 0:=fun h => hk (if_pos h)
 suffices h:3≤corN (mkK a) (mkR a b) (mkH a b b) (mkH a b c) (mkN a) (mkX a b c) (mkY a b c)∧corN (mkK a) (mkR a b) (mkH a b b) (mkH a b c) (mkN a) (mkX a b c) (mkY a b c)≤8 ∧
   512≤corX (mkK a) (mkH a b b) (mkH a b c) (mkX a b c) 0 * corY (mkK a) (mkH a b b) (mkH a b c) (mkY a b c) 1 - corY (mkK a) (mkH a b b) (mkH a b c) (mkY a b c) 0 * corX (mkK a) (mkH a b b) (mkH a b c) (mkX a b c) 1 ∧
   512≤corX (mkK a) (mkH a b b) (mkH a b c) (mkX a b c) 1 * corY (mkK a) (mkH a b b) (mkH a b c) (mkY a b c) 2 - corY (mkK a) (mkH a b b) (mkH a b c) (mkY a b c) 1 * corX (mkK a) (mkH a b b) (mkH a b c) (mkX a b c) 2 ∧
   2048≤(corX (mkK a) (mkH a b b) (mkH a b c) (mkX a b c) 0 * corX (mkK a) (mkH a b b) (mkH a b c) (mkX a b c) 0 + corY (mkK a) (mkH a b b) (mkH a b c) (mkY a b c) 0 * corY (mkK a) (mkH a b b) (mkH a b c) (mkY a b c) 0 + (corX (mkK a) (mkH a b b) (mkH a b c) (mkX a b c) 0 * corX (mkK a) (mkH a b b) (mkH a b c) (mkX a b c) 1 + corY (mkK a) (mkH a b b) (mkH a b c) (mkY a b c) 0 * corY (mkK a) (mkH a b b) (mkH a b c) (mkY a b c) 1) + (corX (mkK a) (mkH a b b) (mkH a b c) (mkX a b c) 1 * corX (mkK a) (mkH a b b) (mkH a b c) (mkX a b c) 1 + corY (mkK a) (mkH a b b) (mkH a b c) (mkY a b c) 1 * corY (mkK a) (mkH a b b) (mkH a b c) (mkY a b c) 1)) +
    (corX (mkK a) (mkH a b b) (mkH a b c) (mkX a b c) 1 * corX (mkK a) (mkH a b b) (mkH a b c) (mkX a b c) 1 + corY (mkK a) (mkH a b b) (mkH a b c) (mkY a b c) 1 * corY (mkK a) (mkH a b b) (mkH a b c) (mkY a b c) 1 + (corX (mkK a) (mkH a b b) (mkH a b c) (mkX a b c) 1 * corX (mkK a) (mkH a b b) (mkH a b c) (mkX a b c) 2 + corY (mkK a) (mkH a b b) (mkH a b c) (mkY a b c) 1 * corY (mkK a) (mkH a b b) (mkH a b c) (mkY a b c) 2) + (corX (mkK a) (mkH a b b) (mkH a b c) (mkX a b c) 2 * corX (mkK a) (mkH a b b) (mkH a b c) (mkX a b c) 2 + corY (mkK a) (mkH a b b) (mkH a b c) (mkY a b c) 2 * corY (mkK a) (mkH a b b) (mkH a b c) (mkY a b c) 2)) by
  obtain ⟨h3,h8,g0,g1,g2⟩:=h
  obtain ⟨u1,u2⟩:=wgB_lo h3 h8 hl hcn g0 g1 g2
  generalize corN (mkK a) (mkR a b) (mkH a b b) (mkH a b c) (mkN a) (mkX a b c) (mkY a b c) = N at *
  obtain ⟨n',rfl⟩:∃ n',N = n' + 2:=⟨N - 2,by omega⟩
  have v1:=wgB_two h8 hl hcn n' (by omega)
  have v2:=wgA_two h8 hl hcn n' (by omega)
  have v3:=wgB_nn h8 hl hcn (n' + 2) (by omega)
  have v4:=wgA_nn h8 hl hcn (n' + 2) (by omega)
  omega
 rw [hN]
 clear hN hl hcn
 by_cases k1:modS a 5 = 1
 ·have h1:mkK a = 2:=(if_neg k0).trans (if_pos k1)
  have w1:=@mkW_bd b b
  have w2:=@mkW_bd b c
  have h2:mkH a b b = mkW b b:=(if_neg k0).trans (if_pos k1)
  have h3:mkH a b c = mkW b c:=(if_neg k0).trans (if_pos k1)
  rw [h2,h3,h1,if_pos rfl]
  generalize mkW b b = w at *
  generalize mkW b c = t at *
  have p:=mul_lo (p:=16) (q:=16) w1.1 w2.1 (by omega) (by omega)
  have p1:=mul_lo (p:=16) (q:=16) w1.1 w1.1 (by omega) (by omega)
  have p2:=mul_lo (p:=16) (q:=16) w2.1 w2.1 (by omega) (by omega)
  refine ⟨by omega,by omega,?_,?_,?_⟩
  ·show 512≤(-w) * (-t) - (-t) * w; rw [Int.neg_mul_neg,Int.neg_mul,Int.mul_comm t w]; omega
  ·show 512≤w * t - (-t) * w; rw [Int.neg_mul,Int.mul_comm t w]; omega
  ·show 2048≤((-w) * (-w) + (-t) * (-t) + ((-w) * w + (-t) * (-t)) + (w * w + (-t) * (-t))) + (w * w + (-t) * (-t) + (w * w + (-t) * t) + (w * w + t * t))
   simp only [Int.neg_mul_neg,Int.neg_mul,Int.mul_neg,Int.neg_neg]; omega
 have h1:mkK a = 3:=(if_neg k0).trans (if_neg k1)
 rw [h1,if_neg (by decide)]
 have eX:∀ i,corX 3 (mkH a b b) (mkH a b c) (mkX a b c) i = mkX a b c i:=fun i => if_neg (by decide)
 have eY:∀ i,corY 3 (mkH a b b) (mkH a b c) (mkY a b c) i = mkY a b c i:=fun i => if_neg (by decide)
 simp only [eX,eY]
 clear eX eY h1
 unfold mkX mkY mkP
 rw [t1,t2]
 by_cases k2:modS a 5 = 2
 ·have h2:mkN a = 3:=(if_neg k0).trans ((if_neg k1).trans (if_pos k2))
  rw [h2]
  rw [if_pos k2]
  generalize mkM b b = M at *
  generalize mkM b c = T at *
  have p:=mul_lo (p:=64) (q:=64) b1.1 b2.1 (by omega) (by omega)
  have p1:=mul_lo (p:=64) (q:=64) b1.1 b1.1 (by omega) (by omega)
  have p2:=mul_lo (p:=64) (q:=64) b2.1 b2.1 (by omega) (by omega)
  refine ⟨by omega,by omega,?_,?_,?_⟩
  ·show 512≤(-M) * (-T) - (-T) * M; rw [Int.neg_mul_neg,Int.neg_mul,Int.mul_comm T M]; omega
  ·show 512≤M * T - (-T) * 0; omega
  ·show 2048≤((-M) * (-M) + (-T) * (-T) + ((-M) * M + (-T) * (-T)) + (M * M + (-T) * (-T))) + (M * M + (-T) * (-T) + (M * 0 + (-T) * T) + (0 * 0 + T * T))
   simp only [Int.neg_mul_neg,Int.neg_mul,Int.mul_neg,Int.neg_neg,Int.mul_zero,Int.zero_mul]; omega
 by_cases k3:modS a 5 = 3
 ·have h2:mkN a = 5:=(if_neg k0).trans ((if_neg k1).trans ((if_neg k2).trans (if_pos k3)))
  rw [h2]
  rw [if_neg k2,if_pos k3]
  generalize mkM b b = M at *
  generalize mkM b c = T at *
  have q:=mul_lo (p:=32) (q:=64) (show 32≤M / 2 by omega) b2.1 (by omega) (by omega)
  have p:=mul_lo (p:=64) (q:=64) b1.1 b2.1 (by omega) (by omega)
  have p1:=mul_lo (p:=64) (q:=64) b1.1 b1.1 (by omega) (by omega)
  have p2:=mul_lo (p:=64) (q:=64) b2.1 b2.1 (by omega) (by omega)
  have p3:=mul_lo (p:=32) (q:=32) (show 32≤M / 2 by omega) (show 32≤M / 2 by omega) (by omega) (by omega)
  have p4:=mul_lo (p:=32) (q:=64) (show 32≤M / 2 by omega) b1.1 (by omega) (by omega)
  refine ⟨by omega,by omega,?_,?_,?_⟩
  ·show 512≤(-(M / 2)) * (-T) - (-T) * (M / 2); rw [Int.neg_mul_neg,Int.neg_mul,Int.mul_comm T (M / 2)]; omega
  ·show 512≤M / 2 * 0 - (-T) * M; rw [Int.neg_mul,Int.mul_comm T M]; omega
  ·show 2048≤((-(M / 2)) * (-(M / 2)) + (-T) * (-T) + ((-(M / 2)) * (M / 2) + (-T) * (-T)) + (M / 2 * (M / 2) + (-T) * (-T))) + (M / 2 * (M / 2) + (-T) * (-T) + (M / 2 * M + (-T) * 0) + (M * M + 0 * 0))
   simp only [Int.neg_mul_neg,Int.neg_mul,Int.mul_neg,Int.neg_neg,Int.mul_zero,Int.zero_mul]; omega
 ·have h2:mkN a = 8:=(if_neg k0).trans ((if_neg k1).trans ((if_neg k2).trans (if_neg k3)))
  rw [h2]
  rw [if_neg k2,if_neg k3]
  generalize mkM b b = M at *
  have q:=mul_lo (p:=64) (q:=32) b1.1 (show 32≤M / 2 by omega) (by omega) (by omega)
  have p1:=mul_lo (p:=64) (q:=64) b1.1 b1.1 (by omega) (by omega)
  have p3:=mul_lo (p:=32) (q:=32) (show 32≤M / 2 by omega) (show 32≤M / 2 by omega) (by omega) (by omega)
  have u:M * (M / 2)≤M * M:=Int.mul_le_mul_of_nonneg_left (by omega) (by omega)
  have v:M / 2 * (M / 2)≤M * (M / 2):=Int.mul_le_mul_of_nonneg_right (by omega) (by omega)
  have x:2 * (M / 2 * (M / 2))≤M * (M / 2):=by
   have:2 * (M / 2) * (M / 2)≤M * (M / 2):=Int.mul_le_mul_of_nonneg_right (by omega) (by omega)
   rw [Int.mul_assoc] at this
   exact this
  refine ⟨by omega,by omega,?_,?_,?_⟩
  ·show 512≤M * (M / 2) - (-(M / 2)) * M; rw [Int.neg_mul,Int.mul_comm (M / 2) M]; omega
  ·show 512≤M * M - M / 2 * (M / 2); omega
  ·show 2048≤(M * M + (-(M / 2)) * (-(M / 2)) + (M * M + (-(M / 2)) * (M / 2)) + (M * M + M / 2 * (M / 2))) + (M * M + M / 2 * (M / 2) + (M * (M / 2) + M / 2 * M) + (M / 2 * (M / 2) + M * M))
   simp only [Int.neg_mul_neg,Int.neg_mul,Int.mul_neg,Int.neg_neg,Int.mul_comm (M / 2) M]; omega
theorem rat_bd {a b lo' hi:Int} (ha:0≤a) (hb:1≤b) (h1:lo' * b≤a * 4294967296) (h2:a * 4294967296 < (hi + 1) * b) (hh:hi≤9223372036854775806):(nRat a b).2 = false∧lo'≤(nRat a b).1∧(nRat a b).1≤hi:=by
 obtain ⟨k1,k2⟩:=@tdp (a * 4294967296) b lo' (hi + 1) (by omega) (by omega) h1 h2
 have k0:0≤(a * 4294967296).tdiv b:=Int.tdiv_nonneg (by omega) (by omega)
 unfold nRat raV raF
 rw [if_neg (by omega),if_neg (by omega)]
 generalize (a * 4294967296).tdiv b = q at *
 unfold ftV ftF
 rw [if_neg (by omega),if_neg (by omega),decide_eq_false (by omega)]
 exact ⟨rfl,by dsimp only; omega,by dsimp only; omega⟩
theorem div_bd2 {x:Nb} {b l hi lo' hi':Int} (hx:x.2 = false∧l≤x.1∧x.1≤hi) (hl:0≤l) (hb:1≤b∧b≤9223372036854775807) (h1:lo' * b≤l * 4294967296) (h2:hi * 4294967296 < (hi' + 1) * b) (hm:hi≤9223372036854775806) (hh:hi'≤9223372036854775806):(nDiv x (b,false)).2 = false∧lo'≤(nDiv x (b,false)).1∧(nDiv x (b,false)).1≤hi':=by
 obtain ⟨x1,x2,x3⟩:=hx
 have q:=@rat_bd x.1 b lo' hi' (by omega) (by omega) (by omega) (by omega) hh
 have e1:whV x.1 = x.1:=by unfold whV; rw [if_neg (by omega)]
 have e2:whV b = b:=by unfold whV; rw [if_neg (by omega)]
 have f1:whF x.1 x.2 = false:=by rw [x1]; unfold whF; rw [decide_eq_false (by omega)]; rfl
 have f2:whF b false = false:=by unfold whF; rw [decide_eq_false (by omega)]; rfl
 have e:nDiv x (b,false) = nRat x.1 b:=by
  unfold nDiv nRat
  dsimp only
  rw [e1,e2,f1,f2,Bool.or_false,Bool.or_false]
 rw [e]
 exact q
def wok (m:Nb×Nb):Prop:=(m.1.2 = false∧2000≤m.1.1∧m.1.1≤562949953421312)∧m.2.2 = false∧8≤m.2.1∧m.2.1≤211106232532992
theorem wg_ok {a b c d k:Int} (hk:modS k 4≠0):wok (mkWt a b c d k):=by
 have e0:mkWt a b c d k = wgS (mkK a) (mkR a b) (mkH a b b) (mkH a b c) (mkN a) (mkX a b c) (mkY a b c) (mkD d k):=if_pos (by simpa using hk)
 rw [e0]
 have e:mkD d k = 1 + modS d 1000:=if_neg hk
 have hd:=modS_bd (n:=d) (m:=1000) (by omega)
 have hE:=@mk_wgE a b c d k hk
 rw [e] at hE ⊢
 have hS:wgS (mkK a) (mkR a b) (mkH a b b) (mkH a b c) (mkN a) (mkX a b c) (mkY a b c) (1 + modS d 1000) = wgM (mkK a) (mkR a b) (mkH a b b) (mkH a b c) (mkN a) (mkX a b c) (mkY a b c) (1 + modS d 1000):=if_pos hE
 rw [hS]
 generalize modS d 1000 = D at *
 have eI:nInt (1 + D) = ((1 + D) * 4294967296,false):=nInt_in (by omega)
 unfold wgM
 rw [eI]
 by_cases h:mkK a = 1
 ·rw [if_pos h]
  have h0:modS a 5 = 0:=by
   apply Classical.byContradiction
   intro hn
   unfold mkK at h
   rw [if_neg hn] at h
   split at h <;> omega
  have hr:mkR a b = mkW b b:=if_pos h0
  have hw:=sq_bd (@mkW_bd b b)
  have hq:=Int.mul_le_mul hw.2 hw.2 (by omega) (by omega)
  have hq0:=Int.mul_le_mul hw.1 hw.1 (by omega) (by omega)
  rw [hr,wrap_in (x:=mkW b b * mkW b b) (inRo (by omega)),wrap_in (x:=mkW b b * mkW b b * (mkW b b * mkW b b)) (inRo (by omega))]
  generalize hR:mkW b b * mkW b b = R at *
  generalize hQ:R * R = Q at *
  unfold piN
  have m1:=@rat_bd 65536 R 16777216 1099511627776 (by omega) (by omega) (by omega) (by omega) (by omega)
  have m2:=@div_bd2 _ 13493037704 _ _ 5340353 400000000000 m1 (by omega) (by omega) (by omega) (by omega) (by omega) (by omega)
  have m3:=@div_bd2 _ ((1 + D) * 4294967296) _ _ 2000 562949953421312 m2 (by omega) (by omega) (by omega) (by omega) (by omega) (by omega)
  have i1:=@rat_bd 8589934592 Q 131072 562949953421312 (by omega) (by omega) (by omega) (by omega) (by omega)
  have i2:=@div_bd2 _ 13493037704 _ _ 41721 211106232532992 i1 (by omega) (by omega) (by omega) (by omega) (by omega) (by omega)
  have i3:=@div_bd2 _ ((1 + D) * 4294967296) _ _ 8 211106232532992 i2 (by omega) (by omega) (by omega) (by omega) (by omega) (by omega)
  exact ⟨m3,i3⟩
 ·rw [if_neg h]
  obtain ⟨⟨B1,B2⟩,A1,A2⟩:=@cor_sum a b c h
  generalize wgB (corX (mkK a) (mkH a b b) (mkH a b c) (mkX a b c)) (corY (mkK a) (mkH a b b) (mkH a b c) (mkY a b c)) (corN (mkK a) (mkR a b) (mkH a b b) (mkH a b c) (mkN a) (mkX a b c) (mkY a b c)) (corN (mkK a) (mkR a b) (mkH a b b) (mkH a b c) (mkN a) (mkX a b c) (mkY a b c)) = B at *
  generalize wgA (corX (mkK a) (mkH a b b) (mkH a b c) (mkX a b c)) (corY (mkK a) (mkH a b b) (mkH a b c) (mkY a b c)) (corN (mkK a) (mkR a b) (mkH a b b) (mkH a b c) (mkN a) (mkX a b c) (mkY a b c)) (corN (mkK a) (mkR a b) (mkH a b b) (mkH a b c) (mkN a) (mkX a b c) (mkY a b c)) = A at *
  have m1:=@rat_bd 131072 A 2097152 562949953421312 (by omega) (by omega) (by omega) (by omega) (by omega)
  have m3:=@div_bd2 _ ((1 + D) * 4294967296) _ _ 2000 562949953421312 m1 (by omega) (by omega) (by omega) (by omega) (by omega) (by omega)
  have i1:=@rat_bd 51539607552 B 8192 211106232532992 (by omega) (by omega) (by omega) (by omega) (by omega)
  have i3:=@div_bd2 _ ((1 + D) * 4294967296) _ _ 8 211106232532992 i1 (by omega) (by omega) (by omega) (by omega) (by omega) (by omega)
  exact ⟨m3,i3⟩
def c269:Con
 | [.agg [.v (.int .i64 a),.v (.int .i64 b)],.agg [.v (.int .i64 c),.v (.int .i64 d)]] => some ([],i64 (IntKind.i64.wrap (IntKind.i64.wrap (a * c) + IntKind.i64.wrap (b * d))))
 | _ => none
theorem con269:ConOK prog 269 c269:=ConOK.of (G:=[]) (H:=[]) .nil func269 fun l ob r hc hob => by
 unfold c269 at hc
 split at hc
 ·cases hc
  refine ⟨by kernel_rfl,fnVC_go (rs:=[.tmp 4]) rfl rfl ?_⟩
  simp only [go_sem]
  intro z h z1 h1 z2 h2
  rw [h2,h1,h]
 ·cases hc
theorem vc272 (k x y r:Int) (n:Nat) (X Y:Nat→Int) (px py:Int) (hc:checkS k x y r n X Y = 0) (hp:validS px py = true) (hn:n≤9223372036854775806):fnVC prog [(268,c268),(269,c269),(294,c294)] [] Tryz.f272 [formA k x y r n fun i => [i64 (X i),i64 (Y i)],.agg [i64 px,i64 py]] (· = bo (holdsS k x y r n X Y px py)):=by
 refine fnVC_go (rs:=[.tmp 4]) rfl rfl ?_
 simp only [go_sem,c268,c269,c294]
 obtain ⟨hk,v1,v2,h1,h2⟩:=check_1 hc
 refine ⟨fun hk1 z hz z1 hz1 z2 hz2 z3 hz3 => ?_,fun hk1 => ?_⟩
 ·have hk1:k = 1:=by simpa using hk1
  subst hz hz1
  rw [hz2,hz3,dist2_wrap v1 hp,sq_wrap (by have:=h1 hk1; unfold sm; omega)]
  unfold holdsS; rw [if_pos hk1]
 have hk1:k≠1:=by simpa using hk1
 have h3:=(convexS_iff.1 (h2 hk1).2.2).1
 have eh:holdsS k x y r n X Y px py = inS n X Y px py:=by unfold holdsS; rw [if_neg hk1]
 rw [eh]
 refine loopC_go (fun (i:Nat) => i≤n∧∀ j,j < i→0≤turnS (X j) (Y j) (X (nxt n j)) (Y (nxt n j)) px py) (fun i => n - i) (fun i => [(6,i64 i)]) (fun _ => []) [1,0] [23,24,25,26,27,30,31,32,33,34,35,36,37,38,39,40,41,42,43,44,45,46,47,4,28,29,6] 0 (by kernel_rfl) ?_ ⟨Nat.zero_le _,fun j hj => by omega⟩ ?_ ?_
 ·intro x _; simp [goodNames]
 ·simp only [go_sem]
 ·intro i hi
  have hn0:((n:Int) = 0) = False:=eq_false (by omega)
  simp only [go_sem,c268,c269,c294,hn0]
  have ei:i < n→IntKind.i64.wrap ((i:Int) + 1) = i + 1:=fun h => wrap_in (inRo (by omega))
  refine ⟨fun hin => ?_,fun hin => (inS_iff.2 fun j hj => hi.2 j (by omega)).symm⟩
  have hin':i < n:=by omega
  refine ⟨by omega,hin,fun z hz z1 hz1 => ?_⟩
  rw [hz,ei hin',tmod_nxt hin'] at hz1
  have hnl:=nxt_lt hin'
  subst hz1
  have es:sideS (X i) (Y i) (X (nxt n i)) (Y (nxt n i)) px py < 0 ↔ turnS (X i) (Y i) (X (nxt n i)) (Y (nxt n i)) px py < 0:=by
   unfold sideS
   rw [if_pos ⟨v2 i hin',v2 _ hnl,hp⟩]
   split
   ·omega
   ·split <;> omega
  refine ⟨by omega,by omega,fun z2 hz2 => ?_⟩
  simp only [Int.toNat_natCast] at hz2
  refine ⟨fun h => false_of fun hc => ?_,fun h z3 hz3 => ⟨i + 1,⟨by omega,fun j hj => ?_⟩,by omega,?_⟩⟩
  ·have:=inS_iff.1 hc i hin'
   rw [hz2] at h
   have:=es.1 h
   omega
  ·by_cases e:j = i
   ·subst e
    rw [hz2] at h
    have:¬ turnS (X j) (Y j) (X (nxt n j)) (Y (nxt n j)) px py < 0:=fun a => h (es.2 a)
    omega
   ·exact hi.2 j (by omega)
  ·rw [hz3,ei hin']; rfl
theorem con272:ConOK prog 272 c272:=ConOK.go (G:=[(268,c268),(269,c269),(294,c294)]) (H:=[]) (.cons con268 (.cons con269 (.cons con294 .nil))) func272 fun l ob rr hc hob => by
 unfold c272 at hc
 split at hc
 ·rename_i k x y r n g px py
  cases hc
  have hs:spots n g:=hob _ (by simp)
  exact ⟨[formA k x y r n fun i => [i64 (gx g 0 i),i64 (gx g 1 i)],.agg [i64 px,i64 py]],fun w I vs h => Rs_two (Rs_form hs) (fun v h => h) h,by kernel_rfl,vc272 k x y r n _ _ px py (hob _ (by simp)) (hob _ (by simp)) (hob _ (by simp))⟩
 ·cases hc
def c273:Con
 | [.agg [.v (.int .i64 k),.v (.int .i64 x),.v (.int .i64 y),.v (.int .i64 r),.ro n 2 g],.v (.int .i64 i)] => some ([spots n g,0≤i,i < n,n≤9223372036854775806],.tup [.agg [i64 (gx g 0 i.toNat),i64 (gx g 1 i.toNat)],.agg [i64 (gx g 0 (nxt n i.toNat)),i64 (gx g 1 (nxt n i.toNat))]])
 | _ => none
theorem vc273 (k x y r:Int) (n:Nat) (X Y:Nat→Int) (i:Nat) (hi:i < n) (hn:n≤9223372036854775806):fnVC prog [] [(1,⟨[(15,.slot 4),(16,.slot 5)],[(6,[.slot 4]),(10,[.slot 4]),(14,[.slot 4])]⟩)] Tryz.f273 [formA k x y r n fun i => [i64 (X i),i64 (Y i)],i64 i] (· = .tup [.agg [i64 (X i),i64 (Y i)],.agg [i64 (X (nxt n i)),i64 (Y (nxt n i))]]):=by
 refine fnVC_go (rs:=[.cell 4 101,.cell 5 101]) rfl rfl ?_
 have hn0:((n:Int) = 0) = False:=eq_false (by omega)
 simp only [go_sem,hn0]
 have hl:=nxt_lt hi
 refine ⟨by omega,by omega,fun z hz z1 hz1 => ?_⟩
 rw [wrap_in (inRo (by omega))] at hz
 rw [hz,tmod_nxt hi] at hz1
 subst hz1
 exact ⟨by omega,by omega,rfl⟩
theorem con273:ConOK prog 273 c273:=ConOK.go (G:=[]) (H:=[(1,⟨[(15,.slot 4),(16,.slot 5)],[(6,[.slot 4]),(10,[.slot 4]),(14,[.slot 4])]⟩)]) .nil func273 fun l ob rr hc hob => by
 unfold c273 at hc
 split at hc
 ·rename_i k x y r n g i
  cases hc
  have hs:spots n g:=hob _ (by simp)
  have h0:0≤i:=hob _ (by simp)
  have h1:i < n:=hob _ (by simp)
  have e:i = (i.toNat:Int):=by omega
  refine ⟨[formA k x y r n fun i => [i64 (gx g 0 i),i64 (gx g 1 i)],i64 (i.toNat:Int)],fun w I vs h => Rs_two (Rs_form hs) (fun v h => by rw [← e]; exact h) h,by kernel_rfl,vc273 k x y r n _ _ i.toNat (by omega) (hob _ (by simp))⟩
 ·cases hc
def dtW (a b c d:Int):Int:=IntKind.i64.wrap (IntKind.i64.wrap (a * c) + IntKind.i64.wrap (b * d))
def crW (a b c d:Int):Int:=IntKind.i64.wrap (IntKind.i64.wrap (a * d) - IntKind.i64.wrap (b * c))
def mnW (a b:Int):Int:=IntKind.i64.wrap (b - a)
def farS (ax ay bx byy cx cy r:Int):Bool:=
 if dtW (mnW ax cx) (mnW ay cy) (mnW ax bx) (mnW ay byy)≤0 then decide (IntKind.i64.wrap (r * r) < dtW (mnW ax cx) (mnW ay cy) (mnW ax cx) (mnW ay cy))
 else if dtW (mnW ax bx) (mnW ay byy) (mnW ax bx) (mnW ay byy)≤dtW (mnW ax cx) (mnW ay cy) (mnW ax bx) (mnW ay byy) then decide (IntKind.i64.wrap (r * r) < dtW (mnW bx cx) (mnW byy cy) (mnW bx cx) (mnW byy cy))
 else decide (0 < cmpS (crW (mnW ax bx) (mnW ay byy) (mnW ax cx) (mnW ay cy) * crW (mnW ax bx) (mnW ay byy) (mnW ax cx) (mnW ay cy)) (IntKind.i64.wrap (r * r) * dtW (mnW ax bx) (mnW ay byy) (mnW ax bx) (mnW ay byy)))
theorem dtW_eq {a b c d:Int}:IntKind.i64.wrap (IntKind.i64.wrap (a * c) + IntKind.i64.wrap (b * d)) = dtW a b c d:=rfl
theorem mnW_eq {a b:Int}:IntKind.i64.wrap (b - a) = mnW a b:=rfl
theorem dtW_inR {a b c d:Int}:inR (dtW a b c d):=wrap_inR _
def clrS (n:Nat) (X Y:Nat→Int) (m:Nat) (Z T:Nat→Int):Bool:=decide (∃ i,i < n∧∀ j,j < m→turnS (X i) (Y i) (X (nxt n i)) (Y (nxt n i)) (Z j) (T j) < 0)
def outS (n:Nat) (X Y:Nat→Int) (cx cy r:Int):Bool:=decide (inS n X Y cx cy = false∧∀ i,i < n→farS (X i) (Y i) (X (nxt n i)) (Y (nxt n i)) cx cy r = true)
theorem vc271 (k x y r:Int) (n:Nat) (X Y:Nat→Int) (k' x' y' r':Int) (m:Nat) (Z T:Nat→Int) (hX:∀ i,i < n→inR (X i)∧inR (Y i)) (hZ:∀ i,i < m→inR (Z i)∧inR (T i)) (hn:n≤9223372036854775806) (hm:m≤9223372036854775806) (vX:∀ i,i < n→validS (X i) (Y i) = true) (vZ:∀ i,i < m→validS (Z i) (T i) = true) :
  fnVC prog [(273,c273),(294,c294)] [] Tryz.f271 [formA k x y r n fun i => [i64 (X i),i64 (Y i)],formA k' x' y' r' m fun i => [i64 (Z i),i64 (T i)]] (· = bo (clrS n X Y m Z T)):=by
 refine fnVC_go (rs:=[.tmp 4]) rfl rfl ?_
 simp only [go_sem]
 have hg:spots n fun i => [i64 (X i),i64 (Y i)]:=fun i hi => ⟨rfl,hX i hi⟩
 refine loopC_go (fun (i:Nat) => i≤n∧∀ j,j < i→¬ ∀ l,l < m→turnS (X j) (Y j) (X (nxt n j)) (Y (nxt n j)) (Z l) (T l) < 0) (fun i => n - i) (fun i => [(5,i64 i)]) (fun _ => []) [1,0] [10,11,12,13,14,18,19,20,17,21,22,6,7,8,9,23,24,25,26,27,30,31,32,33,34,35,36,37,38,39,40,41,8,28,29,9,42,4,15,16,5] 0 (by kernel_rfl) ?_ ⟨Nat.zero_le _,fun l hl => by omega⟩ ?_ ?_
 ·intro x _; simp [goodNames]
 ·simp only [go_sem]
 intro i hi
 simp only [go_sem,c273,c294]
 refine ⟨fun hin => ⟨hg,by omega,hin,hn,?_⟩,fun hin => ?_⟩
 ·have hlt:i < n:=by omega
  refine loopC_go (fun (j:Nat) => j≤m) (fun j => m - j) (fun j => [(9,i64 j),(8,bo (decide (∀ l,l < j→turnS (X i) (Y i) (X (nxt n i)) (Y (nxt n i)) (Z l) (T l) < 0)))]) (fun _ => []) [16,15,1,0] [23,24,25,26,27,30,31,32,33,34,35,36,37,38,39,40,41,8,28,29,9] 0 (by kernel_rfl) ?_ (Nat.zero_le _) ?_ ?_
  ·intro x _; simp [goodNames]
  ·simp only [go_sem]
   exact (decide_eq_true fun l hl => absurd hl (Nat.not_lt_zero l)).symm
  intro j hj
  simp only [go_sem,c273,c294]
  refine ⟨fun hin2 => ⟨fun _ => by omega,fun _ => hin2,fun z hz z1 hz1 => ⟨j + 1,by omega,by omega,by rw [hz1,wrap_in (inRo (by omega))]; rfl,?_⟩⟩,fun hin2 => ⟨fun h => ?_,fun h z hz => ⟨i + 1,⟨by omega,fun j' hj' => ?_⟩,by omega,by rw [hz,wrap_in (inRo (by omega))]; rfl⟩⟩⟩
  ·have hs:z < 0 ↔ turnS (X i) (Y i) (X (nxt n i)) (Y (nxt n i)) (Z j) (T j) < 0:=by
    rw [hz]
    unfold sideS
    rw [if_pos ⟨vX i hlt,vX _ (nxt_lt hlt),vZ j (by omega)⟩]
    split
    ·omega
    ·split <;> omega
   rw [Bool.eq_iff_iff]
   simp only [Bool.and_eq_true,decide_eq_true_eq,hs]
   constructor
   ·rintro ⟨h1,h2⟩ l hl
    by_cases e:l = j
    ·subst e; exact h2
    ·exact h1 l (by omega)
   ·intro h
    exact ⟨fun l hl => h l (by omega),h j (by omega)⟩
  ·exact (decide_eq_true (show ∃ i,_ from ⟨i,hlt,fun l hl => h l (by omega)⟩)).symm
  ·by_cases e:j' = i
   ·subst e
    intro hc
    exact h fun l hl => hc l (by omega)
   ·exact hi.2 j' (by omega)
 ·exact (decide_eq_false (fun ⟨j,hj,hc⟩ => hi.2 j (by omega) hc)).symm
def c271:Con
 | [.agg [.v (.int .i64 k),.v (.int .i64 x),.v (.int .i64 y),.v (.int .i64 r),.ro n 2 g],.agg [.v (.int .i64 k'),.v (.int .i64 x'),.v (.int .i64 y'),.v (.int .i64 r'),.ro m 2 g']] => some ([spots n g,spots m g',n≤9223372036854775806,m≤9223372036854775806,∀ i,i < n→validS (gx g 0 i) (gx g 1 i) = true,∀ i,i < m→validS (gx g' 0 i) (gx g' 1 i) = true],bo (clrS n (gx g 0) (gx g 1) m (gx g' 0) (gx g' 1)))
 | _ => none
theorem con271:ConOK prog 271 c271:=ConOK.go (G:=[(273,c273),(294,c294)]) (H:=[]) (.cons con273 (.cons con294 .nil)) func271 fun l ob rr hc hob => by
 unfold c271 at hc
 split at hc
 ·rename_i k x y r n g k' x' y' r' m g'
  cases hc
  have hs:spots n g:=hob _ (by simp)
  have hs':spots m g':=hob _ (by simp)
  exact ⟨[formA k x y r n fun i => [i64 (gx g 0 i),i64 (gx g 1 i)],formA k' x' y' r' m fun i => [i64 (gx g' 0 i),i64 (gx g' 1 i)]],fun w I vs h => Rs_two (Rs_form hs) (Rs_form hs') h,by kernel_rfl,vc271 k x y r n _ _ k' x' y' r' m _ _ (fun i hi => (hs i hi).2) (fun i hi => (hs' i hi).2) (hob _ (by simp)) (hob _ (by simp)) (hob _ (by simp)) (hob _ (by simp))⟩
 ·cases hc
theorem vc270 (k x y r:Int) (n:Nat) (X Y:Nat→Int) (k' x' y' r':Int) (m:Nat) (Z T:Nat→Int) (hX:∀ i,i < n→inR (X i)∧inR (Y i)) (hn:n≤9223372036854775806) (hc:checkS k x y r n X Y = 0) (hk:¬ k = 1) (vC:validS x' y' = true) :
  fnVC prog [(272,c272),(273,c273),(268,c268),(269,c269),(296,c306),(295,c295)] [(7,⟨[(9,.made 7),(10,.made 8)],[]⟩)] Tryz.f270 [formA k x y r n fun i => [i64 (X i),i64 (Y i)],formA k' x' y' r' m fun i => [i64 (Z i),i64 (T i)]] (· = bo (outS n X Y x' y' r')):=by
 refine fnVC_go (rs:=[.tmp 4]) rfl rfl ?_
 simp only [go_sem,c272,c273,c268,c269,c306,c295]
 have hg:spots n fun i => [i64 (X i),i64 (Y i)]:=fun i hi => ⟨rfl,hX i hi⟩
 have eX:gx (fun i => [i64 (X i),i64 (Y i)]) 0 = X:=rfl
 have eY:gx (fun i => [i64 (X i),i64 (Y i)]) 1 = Y:=rfl
 have hh:holdsS k x y r n X Y x' y' = inS n X Y x' y':=if_neg hk
 rw [eX,eY,hh]
 intro z hz
 refine ⟨hg,hn,hc,vC,fun h => ?_,fun h => ?_⟩
 ·refine (decide_eq_false fun hq => ?_).symm
  rw [← hz,h] at hq
  exact absurd hq.1 (by simp)
 refine loopC_go (fun (i:Nat) => i≤n∧∀ j,j < i→farS (X j) (Y j) (X (nxt n j)) (Y (nxt n j)) x' y' r' = true) (fun i => n - i) (fun i => [(5,i64 i)]) (fun _ => []) [1,0] [16,17,18,19,20,24,25,26,23,27,28,6,7,29,30,31,32,33,34,35,8,9,36,37,38,39,40,41,10,11,42,43,44,45,46,47,48,49,50,51,52,4,53,54,55,56,57,58,59,60,61,62,63,64,65,66,67,68,4,69,70,71,72,73,74,75,76,77,78,79,80,81,82,4,21,22,5] 0 (by kernel_rfl) ?_ ⟨Nat.zero_le _,fun l hl => by omega⟩ ?_ ?_
 ·intro x _; simp [goodNames]
 ·simp only [go_sem]
 intro i hi
 simp only [go_sem,c272,c273,c268,c269,c306,c295]
 simp only [forall_eq,mnW_eq,dtW_eq]
 refine ⟨fun hin => ?_,fun hin => ?_⟩
 ·have hlt:i < n:=by omega
  have no:farS (X i) (Y i) (X (nxt n i)) (Y (nxt n i)) x' y' r' = false→false = outS n X Y x' y' r':=fun e => (decide_eq_false (fun hq => by have:=hq.2 i hlt; rw [e] at this; cases this)).symm
  have yes:farS (X i) (Y i) (X (nxt n i)) (Y (nxt n i)) x' y' r' = true→∃ y:Nat,(y≤n∧∀ j,j < y→farS (X j) (Y j) (X (nxt n j)) (Y (nxt n j)) x' y' r' = true)∧n - y < n - i∧IntKind.i64.wrap ((i:Int) + 1) = (y:Int):=fun e =>
   ⟨i + 1,⟨by omega,fun j hj => by
    by_cases q:j = i
    ·subst q; exact e
    ·exact hi.2 j (by omega)⟩,by omega,by rw [wrap_in (inRo (by omega))]; rfl⟩
  refine ⟨hg,by omega,hin,hn,fun g1 => ⟨fun g2 => no ?_,fun g2 => yes ?_⟩,fun g1 => ⟨fun g3 => ⟨fun g2 => no ?_,fun g2 => yes ?_⟩,fun g3 => ⟨wrap_inR _,wrap_inR _,wrap_inR _,dtW_inR,fun g2 => no ?_,fun g2 => yes ?_⟩⟩⟩
  ·unfold farS; rw [if_pos g1]; exact decide_eq_false (by omega)
  ·unfold farS; rw [if_pos g1]; exact decide_eq_true (by omega)
  ·unfold farS; rw [if_neg g1,if_pos g3]; exact decide_eq_false (by omega)
  ·unfold farS; rw [if_neg g1,if_pos g3]; exact decide_eq_true (by omega)
  ·unfold farS; rw [if_neg g1,if_neg g3]; exact decide_eq_false (Int.not_lt.2 g2)
  ·unfold farS; rw [if_neg g1,if_neg g3]; exact decide_eq_true (Int.not_le.1 g2)
 ·refine (decide_eq_true ⟨by rw [← hz,h],fun j hj => hi.2 j (by omega)⟩).symm
def c270:Con
 | [.agg [.v (.int .i64 k),.v (.int .i64 x),.v (.int .i64 y),.v (.int .i64 r),.ro n 2 g],.agg [.v (.int .i64 k'),.v (.int .i64 x'),.v (.int .i64 y'),.v (.int .i64 r'),.ro m 2 g']] => some ([spots n g,spots m g',n≤9223372036854775806,checkS k x y r n (gx g 0) (gx g 1) = 0,¬ k = 1,validS x' y' = true],bo (outS n (gx g 0) (gx g 1) x' y' r'))
 | _ => none
theorem con270:ConOK prog 270 c270:=ConOK.go (G:=[(272,c272),(273,c273),(268,c268),(269,c269),(296,c306),(295,c295)]) (H:=[(7,⟨[(9,.made 7),(10,.made 8)],[]⟩)]) (.cons con272 (.cons con273 (.cons con268 (.cons con269 (.cons con296 (.cons con295 .nil)))))) func270 fun l ob rr hc hob => by
 unfold c270 at hc
 split at hc
 ·rename_i k x y r n g k' x' y' r' m g'
  cases hc
  have hs:spots n g:=hob _ (by simp)
  have hs':spots m g':=hob _ (by simp)
  exact ⟨[formA k x y r n fun i => [i64 (gx g 0 i),i64 (gx g 1 i)],formA k' x' y' r' m fun i => [i64 (gx g' 0 i),i64 (gx g' 1 i)]],fun w I vs h => Rs_two (Rs_form hs) (Rs_form hs') h,by kernel_rfl,vc270 k x y r n _ _ k' x' y' r' m _ _ (fun i hi => (hs i hi).2) (hob _ (by simp)) (hob _ (by simp)) (hob _ (by simp)) (hob _ (by simp))⟩
 ·cases hc
def k83:Con
 | [.agg [.v (.int .i64 a),.v (.int .i64 b)],.agg [.v (.int .i64 c),.v (.int .i64 d)]] => some ([validS a b = true,validS c d = true],veA (vNorm a b c d))
 | _ => none
theorem kon83:ConOK prog 274 k83:=ConOK.of (G:=[(276,k149),(141,k140)]) (H:=[]) (.cons kon149 (.cons kon140 .nil)) func274 fun l ob r hc hob => by
 unfold k83 at hc
 split at hc
 ·rename_i a b c d
  cases hc
  have h_0:=ob0 hob
  have h_1:=ob1 hob
  refine ⟨by kernel_rfl,fnVC_go (rs:=[.cell 4 26]) rfl rfl ?_⟩
  simp only [go_sem,k149,k140]
  have v1:=validS_iff.1 h_0
  have v2:=validS_iff.1 h_1
  simp only [forall_eq]
  rw [wrap_in (x:=d - b) (inRo (by omega)),wrap_in (x:=a - c) (inRo (by omega)),show a - c = -(c - a) by omega]
  exact ⟨inRo (by omega),inRo (by omega),rfl⟩
 ·cases hc
def ddS (x y r a b s:Int):Bool:=decide (IntKind.i64.wrap (IntKind.i64.wrap (r + s) * IntKind.i64.wrap (r + s)) < dtW (mnW x a) (mnW y b) (mnW x a) (mnW y b))
def apS (k x y r:Int) (n:Nat) (X Y:Nat→Int) (k' x' y' r':Int) (m:Nat) (Z T:Nat→Int):Bool:=
 if checkS k x y r n X Y = 0∧checkS k' x' y' r' m Z T = 0 then
  (if k = 1 then (if k' = 1 then ddS x y r x' y' r' else outS m Z T x y r) else if k' = 1 then outS n X Y x' y' r' else (clrS n X Y m Z T || clrS m Z T n X Y))
 else false
def c228:Con
 | [.agg [.v (.int .i64 k),.v (.int .i64 x),.v (.int .i64 y),.v (.int .i64 r),.ro n 2 g],.agg [.v (.int .i64 k'),.v (.int .i64 x'),.v (.int .i64 y'),.v (.int .i64 r'),.ro m 2 g']] => some ([spots n g,spots m g',n≤9223372036854775806,m≤9223372036854775806,inR x,inR y,inR r,inR x',inR y',inR r'],
   bo (apS k x y r n (gx g 0) (gx g 1) k' x' y' r' m (gx g' 0) (gx g' 1)))
 | _ => none
theorem vc228 (k x y r:Int) (n:Nat) (g:Nat→List AV) (k' x' y' r':Int) (m:Nat) (g':Nat→List AV) (hg:spots n g) (hg':spots m g') (hn:n≤9223372036854775806) (hm:m≤9223372036854775806) (h1:inR x) (h2:inR y) (h3:inR r) (h4:inR x') (h5:inR y') (h6:inR r') :
  fnVC prog [(215,c261),(268,c268),(269,c269),(270,c270),(271,c271)] [] Tryz.f228 [formA k x y r n g,formA k' x' y' r' m g'] (· = bo (apS k x y r n (gx g 0) (gx g 1) k' x' y' r' m (gx g' 0) (gx g' 1))):=by
 refine fnVC_go (rs:=[.tmp 4]) rfl rfl ?_
 simp only [go_sem,c261,c268,c269,c270,c271]
 simp only [forall_eq,mnW_eq,dtW_eq]
 refine ⟨hg,hn,h1,h2,h3,fun _ => hg',fun _ => hm,fun _ => h4,fun _ => h5,fun _ => h6,fun h => ?_,fun h => ?_⟩
 ·unfold apS
  rw [if_neg (fun q => by
   rcases h with h | h
   ·exact (bne_iff_ne.1 h) q.1
   ·exact (bne_iff_ne.1 h) q.2)]
 have hA:checkS k x y r n (gx g 0) (gx g 1) = 0:=bne_eq_false_iff_eq.1 h.1
 have hB:checkS k' x' y' r' m (gx g' 0) (gx g' 1) = 0:=bne_eq_false_iff_eq.1 h.2
 have vA:=(check_1 hA).2
 have vB:=(check_1 hB).2
 refine ⟨fun q => ?_,fun q => ⟨fun q1 => ?_,fun q1 => ⟨fun q2 => ?_,fun q2 => ?_⟩⟩⟩
 ·unfold apS; rw [if_pos ⟨hA,hB⟩,if_pos (by simpa using q.1),if_pos (by simpa using q.2)]; rfl
 ·have hk:k = 1:=by simpa using q1
  have hk':¬ k' = 1:=by rw [q1,Bool.true_and] at q; simpa using q
  exact ⟨hg',hg,hm,hB,hk',vA.1,by unfold apS; rw [if_pos ⟨hA,hB⟩,if_pos hk,if_neg hk']⟩
 ·have hk:¬ k = 1:=by simpa using q1
  have hk':k' = 1:=by simpa using q2
  exact ⟨hg,hg',hn,hA,hk,vB.1,by unfold apS; rw [if_pos ⟨hA,hB⟩,if_neg hk,if_pos hk']⟩
 ·have hk:¬ k = 1:=by simpa using q1
  have hk':¬ k' = 1:=by simpa using q2
  exact ⟨hg,hg',hn,hm,vA.2.1,vB.2.1,fun _ => hg',fun _ => hg,fun _ => hm,fun _ => hn,fun _ => vB.2.1,fun _ => vA.2.1,by unfold apS; rw [if_pos ⟨hA,hB⟩,if_neg hk,if_neg hk']⟩
theorem con228:ConOK prog 228 c228:=ConOK.go (G:=[(215,c261),(268,c268),(269,c269),(270,c270),(271,c271)]) (H:=[]) (.cons con215 (.cons con268 (.cons con269 (.cons con270 (.cons con271 .nil))))) func228 fun l ob rr hc hob => by
 unfold c228 at hc
 split at hc
 ·rename_i k x y r n g k' x' y' r' m g'
  cases hc
  exact ⟨_,fun w I vs h => h,by kernel_rfl,vc228 k x y r n g k' x' y' r' m g' (hob _ (by simp)) (hob _ (by simp)) (hob _ (by simp)) (hob _ (by simp)) (hob _ (by simp)) (hob _ (by simp)) (hob _ (by simp)) (hob _ (by simp)) (hob _ (by simp)) (hob _ (by simp))⟩
 ·cases hc
def hgt (a b c d x y:Int):Nb:=vDot (vNorm a b c d) (vLoc (mnW a x) (mnW b y))
def mnN (h:Nat→Nb):Nat→Nb
 | 0 => h 0
 | n + 1 => nMn (mnN h n) (h (n + 1))
def gapS (a b c d k x y r:Int) (n:Nat) (X Y:Nat→Int):Nb:=
 if k = 1 then nSub (hgt a b c d x y) (nRat r 256) else mnN (fun j => hgt a b c d (X j) (Y j)) (n - 1)
theorem hgt_rg {a b c d x y:Int}:rg (hgt a b c d x y).1:=nDot_rg
theorem mnN_step {h:Nat→Nb} {n:Nat} (h1:rg (mnN h n).1) (h2:rg (h (n + 1)).1):mnN h (n + 1) = (if (h (n + 1)).1 < (mnN h n).1 then (h (n + 1)).1 else (mnN h n).1,(mnN h n).2 || (h (n + 1)).2):=by
 show nMn (mnN h n) (h (n + 1)) = _
 unfold nMn
 rw [whV_of h1,whV_of h2,whF_of h1,whF_of h2]
theorem mnN_rg {h:Nat→Nb} (hr:∀ i,rg (h i).1):∀ n,rg (mnN h n).1
 | 0 => hr 0
 | n + 1 => by
  have h1:=mnN_rg hr n
  have h2:=hr (n + 1)
  rw [mnN_step h1 h2]
  dsimp only
  split
  ·exact h2
  ·exact h1
theorem vc275 (a b c d k x y r:Int) (n:Nat) (X Y:Nat→Int) (hX:∀ i,i < n→inR (X i)∧inR (Y i)) (hn:n≤9223372036854775806) (h1:inR r) (v1:validS a b = true) (v2:validS c d = true) (h0:¬ k = 1→0 < n) :
  fnVC prog [(274,k83),(268,c268),(213,k69),(34,k145),(28,k54),(81,k46),(165,k163)] [(3,⟨[(11,.slot 6)],[]⟩),(4,⟨[(10,.made 9)],[]⟩),(8,⟨[(13,.slot 8)],[]⟩)] Tryz.f275 [.agg [i64 a,i64 b],.agg [i64 c,i64 d],formA k x y r n fun i => [i64 (X i),i64 (Y i)]] (· = nbA (gapS a b c d k x y r n X Y)):=by
 refine fnVC_go (rs:=[.cell 6 24]) rfl rfl ?_
 simp only [go_sem,k83,c268,k69,k145,k54,k46,k163]
 refine ⟨v1,v2,fun h => ?_,fun h => ?_⟩
 ·have hk:k = 1:=by simpa using h
  refine fun z hz z1 hz1 => ⟨by rw [hz]; exact wrap_inR _,by rw [hz1]; exact wrap_inR _,h1,?_⟩
  unfold gapS
  rw [if_pos hk,hz,hz1]
  rfl
 ·have hk:¬ k = 1:=by simpa using h
  have hpos:=h0 hk
  refine ⟨by omega,fun z hz z1 hz1 => ⟨by rw [hz]; exact wrap_inR _,by rw [hz1]; exact wrap_inR _,?_⟩⟩
  have e0:vDot (vNorm a b c d) (vLoc z z1) = mnN (fun j => hgt a b c d (X j) (Y j)) 0:=by rw [hz,hz1]; rfl
  refine loopC_go (fun (j:Nat) => 1≤j∧j≤n) (fun j => n - j) (fun j => [(9,i64 j)]) (fun j => [(21,fam1 24 2 [i64 (mnN (fun j => hgt a b c d (X j) (Y j)) (j - 1)).1,bo (mnN (fun j => hgt a b c d (X j) (Y j)) (j - 1)).2] none)]) [7,3,2,1,0] [36,37,38,39,40,43,44,45,46,47,48,49,50,51,52,53,54,55,41,42,9] 1 (by kernel_rfl) ?_ ⟨Nat.le_refl _,hpos⟩ ?_ ?_
  ·intro x _; simp [goodNames,asg]
  ·simp only [go_sem,e0]
  intro j hj
  simp only [go_sem,k83,c268,k69,k145,k54,k46,k163]
  refine ⟨fun hin => ⟨by omega,hin,fun y1 hy1 y2 hy2 => ⟨by rw [hy1]; exact wrap_inR _,by rw [hy2]; exact wrap_inR _,rg_inR (mnN_rg (fun _ => hgt_rg) _),fun y3 hy3 => ⟨j + 1,by omega,by omega,by rw [hy3,wrap_in (inRo (by omega))]; rfl,?_⟩⟩⟩,fun hin => ?_⟩
  ·have e:nMn (mnN (fun j => hgt a b c d (X j) (Y j)) (j - 1)) (vDot (vNorm a b c d) (vLoc y1 y2)) = mnN (fun j => hgt a b c d (X j) (Y j)) (j + 1 - 1):=by
    rw [hy1,hy2]
    obtain ⟨q,rfl⟩:∃ q,j = q + 1:=⟨j - 1,by omega⟩
    rfl
   rw [e]
   exact ⟨rfl,rfl⟩
  ·have e:j = n:=by omega
   subst e
   unfold gapS
   rw [if_neg hk]
   rfl
def k95:Con
 | [.agg [.v (.int .i64 a),.v (.int .i64 b)],.agg [.v (.int .i64 c),.v (.int .i64 d)],.agg [.v (.int .i64 k),.v (.int .i64 x),.v (.int .i64 y),.v (.int .i64 r),.ro n 2 g]] => some ([spots n g,n≤9223372036854775806,inR r,validS a b = true,validS c d = true,¬ k = 1→0 < n],nbA (gapS a b c d k x y r n (gx g 0) (gx g 1)))
 | _ => none
theorem kon95:ConOK prog 275 k95:=ConOK.go (G:=[(274,k83),(268,c268),(213,k69),(34,k145),(28,k54),(81,k46),(165,k163)]) (H:=[(3,⟨[(11,.slot 6)],[]⟩),(4,⟨[(10,.made 9)],[]⟩),(8,⟨[(13,.slot 8)],[]⟩)]) (.cons kon83 (.cons con268 (.cons kon69 (.cons kon145 (.cons kon54 (.cons kon46 (.cons kon163 .nil))))))) func275 fun l ob rr hc hob => by
 unfold k95 at hc
 split at hc
 ·rename_i a b c d k x y r n g
  cases hc
  have hs:spots n g:=hob _ (by simp)
  refine ⟨[.agg [i64 a,i64 b],.agg [i64 c,i64 d],formA k x y r n fun i => [i64 (gx g 0 i),i64 (gx g 1 i)]],fun w I vs h => ?_,by kernel_rfl,vc275 a b c d k x y r n _ _ (fun i hi => (hs i hi).2) (hob _ (by simp)) (hob _ (by simp)) (hob _ (by simp)) (hob _ (by simp)) (hob _ (by simp))⟩
  obtain ⟨x1,xs,rfl,p1,p2⟩:=h.inv
  obtain ⟨x2,ys,rfl,p3,p4⟩:=p2.inv
  exact .cons p1 (.cons p3 (Rs_one (Rs_form hs) p4))
 ·cases hc
abbrev AxT:=Int×Int×Nb
def axF (o:Int) (G:Nat→Nb) (s:AxT):Nat→AxT
 | 0 => s
 | i + 1 => if (axF o G s i).2.1 < 0∨0 < cmpS (whV (G i).1) (whV (axF o G s i).2.2.1) then (o,(i:Int),G i) else axF o G s i
def ax0:AxT:=(0,-1,(0,false))
def axOK (s:AxT):Prop:=s = ax0∨0≤s.2.1
def axC (q:Bool) (s:AxT):List AV:=[bo q,i64 s.1,i64 s.2.1,i64 s.2.2.1,bo s.2.2.2]
theorem axF_ok {o:Int} {G:Nat→Nb} {s:AxT} (h:axOK s):∀ n,axOK (axF o G s n)
 | 0 => h
 | n + 1 => by
  have ih:=axF_ok (o:=o) (G:=G) h n
  unfold axF
  split
  ·exact .inr (Int.natCast_nonneg n)
  ·exact ih
def axA (q:Bool) (s:AxT):AV:=.agg (axC q s)
theorem bnd_ax {q:Bool} {s:AxT}:bnd (axA q s) = .agg [bo q,i64 s.1,i64 s.2.1,i64 s.2.2.1,bo s.2.2.2]:=(rfl)
theorem plain_ax {q:Bool} {s:AxT}:plain 3 (axA q s) = true:=(rfl)
attribute [go_sem] bnd_ax plain_ax
def axSt (n:Nat) (G:Nat→Nb) (m:Nat) (G':Nat→Nb):Nat→AxT
 | 0 => ax0
 | 1 => axF 0 G ax0 n
 | _ => axF 1 G' (axF 0 G ax0 n) m
def gP (n:Nat) (X Y:Nat→Int) (m:Nat) (Z T:Nat→Int) (j:Nat):Nb:=mnN (fun l => hgt (X j) (Y j) (X (nxt n j)) (Y (nxt n j)) (Z l) (T l)) (m - 1)
def gD (n:Nat) (X Y:Nat→Int) (x y r:Int) (j:Nat):Nb:=nSub (hgt (X j) (Y j) (X (nxt n j)) (Y (nxt n j)) x y) (nRat r 256)
theorem gD_rg {n:Nat} {X Y:Nat→Int} {x y r:Int} {j:Nat}:rg (gD n X Y x y r j).1:=nSub_rg
theorem axF_hit {o:Int} {G:Nat→Nb} {s:AxT} {j:Nat} (h:(axF o G s j).2.1 < 0∨0 < cmpS (whV (G j).1) (whV (axF o G s j).2.2.1)):axF o G s (j + 1) = (o,(j:Int),G j):=by
 conv => lhs; unfold axF
 rw [if_pos h]
theorem axF_not {o:Int} {G:Nat→Nb} {s:AxT} {j:Nat} (h:¬ ((axF o G s j).2.1 < 0∨0 < cmpS (whV (G j).1) (whV (axF o G s j).2.2.1))):axF o G s (j + 1) = axF o G s j:=by
 conv => lhs; unfold axF
 rw [if_neg h]
def axS (k x y r:Int) (n:Nat) (X Y:Nat→Int) (k' x' y' r':Int) (m:Nat) (Z T:Nat→Int):AxT:=
 if checkS k x y r n X Y = 0∧checkS k' x' y' r' m Z T = 0 then
  (if k = 1 then (if k' = 1 then (0,-1,nSub (vLen (vLoc (mnW x x') (mnW y y'))) (nRat (IntKind.i64.wrap (r + r')) 256)) else axSt 0 (gD m Z T x y r) m (gD m Z T x y r) 2)
   else if k' = 1 then axSt n (gD n X Y x' y' r') 0 (gD n X Y x' y' r') 2 else axSt n (gP n X Y m Z T) m (gP m Z T n X Y) 2)
 else (0,0,(0,false))
theorem fig_n {k x y r:Int} {n:Nat} {X Y:Nat→Int} (h:checkS k x y r n X Y = 0) (hk:¬ k = 1):3≤n∧n≤8:=by
 have:=(check_1 h).2.2.2.2 hk
 exact ⟨(convexS_iff.1 this.2.2).1,this.2.1⟩
def c232:Con
 | [.agg [.v (.int .i64 k),.v (.int .i64 x),.v (.int .i64 y),.v (.int .i64 r),.ro n 2 g],.agg [.v (.int .i64 k'),.v (.int .i64 x'),.v (.int .i64 y'),.v (.int .i64 r'),.ro m 2 g']] => some ([spots n g,spots m g',n≤9223372036854775806,m≤9223372036854775806,inR x,inR y,inR r,inR x',inR y',inR r'],
   axA (apS k x y r n (gx g 0) (gx g 1) k' x' y' r' m (gx g' 0) (gx g' 1)) (axS k x y r n (gx g 0) (gx g 1) k' x' y' r' m (gx g' 0) (gx g' 1)))
 | _ => none
theorem vc232 (k x y r:Int) (n:Nat) (X Y:Nat→Int) (k' x' y' r':Int) (m:Nat) (Z T:Nat→Int) (hX:∀ i,i < n→inR (X i)∧inR (Y i)) (hZ:∀ i,i < m→inR (Z i)∧inR (T i)) (hn:n≤9223372036854775806) (hm:m≤9223372036854775806) (h1:inR x) (h2:inR y) (h3:inR r) (h4:inR x') (h5:inR y') (h6:inR r') :
  fnVC prog [(215,c261),(228,c228),(268,c268),(213,k69),(142,k47),(28,k54),(81,k46),(273,c273),(275,k95),(29,c29)] [(5,⟨[(15,.slot 5)],[]⟩),(10,⟨[(4,.made 2),(5,.made 3)],[(1,[.made 2])]⟩),(12,⟨[(2,.slot 7),(3,.slot 8)],[(1,[.slot 7])]⟩),(19,⟨[(4,.slot 5),(6,.slot 5),(8,.slot 5)],[(2,[.slot 5])]⟩)] Tryz.f232 [formA k x y r n fun i => [i64 (X i),i64 (Y i)],formA k' x' y' r' m fun i => [i64 (Z i),i64 (T i)]] (· = axA (apS k x y r n X Y k' x' y' r' m Z T) (axS k x y r n X Y k' x' y' r' m Z T)):=by
 refine fnVC_go (rs:=[.cell 4 232]) rfl rfl ?_
 have hg:spots n fun i => [i64 (X i),i64 (Y i)]:=fun i hi => ⟨rfl,hX i hi⟩
 have hg':spots m fun i => [i64 (Z i),i64 (T i)]:=fun i hi => ⟨rfl,hZ i hi⟩
 have eX:gx (fun i => [i64 (X i),i64 (Y i)]) 0 = X:=rfl
 have eY:gx (fun i => [i64 (X i),i64 (Y i)]) 1 = Y:=rfl
 have eZ:gx (fun i => [i64 (Z i),i64 (T i)]) 0 = Z:=rfl
 have eT:gx (fun i => [i64 (Z i),i64 (T i)]) 1 = T:=rfl
 simp only [go_sem,c261,c228,c268,k69,k47,k54,k46,c273,k95,c29,eX,eY,eZ,eT]
 intro c hc
 refine ⟨hg,hn,h1,h2,h3,fun c' hc' => ⟨fun _ => hg',fun _ => hm,fun _ => h4,fun _ => h5,fun _ => h6,fun h => ?_,fun h q hq => ⟨hg,hg',hn,hm,h1,h2,h3,h4,h5,h6,fun hk => ?_,fun hk => ?_⟩⟩⟩
 ·have hN:¬ (checkS k x y r n X Y = 0∧checkS k' x' y' r' m Z T = 0):=fun q => by
   rw [hc,hc'] at h
   rcases h with h | h
   ·exact (bne_iff_ne.1 h) q.1
   ·exact (bne_iff_ne.1 h) q.2
  simp only [apS,axS,if_neg hN]; rfl
 ·have hA:checkS k x y r n X Y = 0:=by rw [← hc]; exact bne_eq_false_iff_eq.1 h.1
  have hB:checkS k' x' y' r' m Z T = 0:=by rw [← hc']; exact bne_eq_false_iff_eq.1 h.2
  have hAB:=And.intro hA hB
  have k1:k = 1:=by simpa using hk.1
  have k2:k' = 1:=by simpa using hk.2
  refine fun z hz z1 hz1 => ⟨by rw [hz]; exact wrap_inR _,by rw [hz1]; exact wrap_inR _,fun z2 hz2 => ⟨by rw [hz2]; exact wrap_inR _,?_⟩⟩
  rw [hq,hz,hz1,hz2]
  simp only [axS,if_pos hAB,if_pos k1,if_pos k2]; rfl
 have hA:checkS k x y r n X Y = 0:=by rw [← hc]; exact bne_eq_false_iff_eq.1 h.1
 have hB:checkS k' x' y' r' m Z T = 0:=by rw [← hc']; exact bne_eq_false_iff_eq.1 h.2
 have hAB:=And.intro hA hB
 have vX:=(check_1 hA).2.2.1
 have vZ:=(check_1 hB).2.2.1
 have nA:k = 1→n = 0:=fun e => ((check_1 hA).2.2.2.1 e).2.2.2
 have nB:k' = 1→m = 0:=fun e => ((check_1 hB).2.2.2.1 e).2.2.2
 have pA:¬ k = 1→0 < n:=fun e => by have:=fig_n hA e; omega
 have pB:¬ k' = 1→0 < m:=fun e => by have:=fig_n hB e; omega
 have hS:∃ S:Nat→AxT,S 0 = (0,-1,(0,false))∧S 1 = axF 0 (fun j => gapS (X j) (Y j) (X (nxt n j)) (Y (nxt n j)) k' x' y' r' m Z T) (S 0) n∧S 2 = axF 1 (fun j => gapS (Z j) (T j) (Z (nxt m j)) (T (nxt m j)) k x y r n X Y) (S 1) m∧axS k x y r n X Y k' x' y' r' m Z T = S 2:=by
  refine ⟨axSt n (fun j => gapS (X j) (Y j) (X (nxt n j)) (Y (nxt n j)) k' x' y' r' m Z T) m (fun j => gapS (Z j) (T j) (Z (nxt m j)) (T (nxt m j)) k x y r n X Y),rfl,rfl,rfl,?_⟩
  unfold axS
  rw [if_pos hAB]
  by_cases e:k = 1
  ·by_cases e':k' = 1
   ·rw [e,e'] at hk; cases hk
   ·have hG:(fun j => gapS (Z j) (T j) (Z (nxt m j)) (T (nxt m j)) k x y r n X Y) = gD m Z T x y r:=funext fun j => if_pos e
    rw [if_pos e,if_neg e',hG,nA e]
    rfl
  ·by_cases e':k' = 1
   ·have hG:(fun j => gapS (X j) (Y j) (X (nxt n j)) (Y (nxt n j)) k' x' y' r' m Z T) = gD n X Y x' y' r':=funext fun j => if_pos e'
    rw [if_neg e,if_pos e',hG,nB e']
    rfl
   ·have hG:(fun j => gapS (X j) (Y j) (X (nxt n j)) (Y (nxt n j)) k' x' y' r' m Z T) = gP n X Y m Z T:=funext fun j => if_neg e'
    have hG':(fun j => gapS (Z j) (T j) (Z (nxt m j)) (T (nxt m j)) k x y r n X Y) = gP m Z T n X Y:=funext fun j => if_neg e
    rw [if_neg e,if_neg e',hG,hG']
 obtain ⟨S,s0,s1,s2,s3⟩:=hS
 rw [s3]
 have k0:axOK (S 0):=.inl s0
 have k1:axOK (S 1):=by rw [s1]; exact axF_ok k0 _
 refine loopC_go (fun (i:Nat) => i≤2) (fun i => 2 - i) (fun i => [(6,i64 i)]) (fun i => [(15,fam1 232 5 (axC q (S i)) none)]) [2,1,0] [50,51,54,55,7,8,56,57,58,59,9,60,61,62,63,64,68,69,70,67,71,72,10,11,73,74,75,76,12,77,78,79,80,81,82,83,84,85,86,87,88,89,90,91,92,65,66,9,52,53,6] 0 (by kernel_rfl) ?_ (Nat.zero_le _) ?_ ?_
 ·intro x _; simp [goodNames,asg]
 ·simp only [go_sem,s0,axC]
 intro i hi
 match i with
 | 0 =>
  simp only [go_sem,axC]
  simp only [false_imp_iff,true_imp_iff,reduceCtorEq,true_and,and_true,Bool.false_eq_true]
  refine ⟨fun h => absurd h (by decide),fun _ => ?_⟩
  refine loopC_go (fun (j:Nat) => j≤n) (fun j => n - j) (fun j => [(9,i64 j)]) (fun j => [(15,fam1 232 5 (axC q (axF 0 (fun j => gapS (X j) (Y j) (X (nxt n j)) (Y (nxt n j)) k' x' y' r' m Z T) (S 0) j)) none)]) [31,30,2,1,0] [60,61,62,63,64,68,69,70,67,71,72,10,11,73,74,75,76,12,77,78,79,80,81,82,83,84,85,86,87,88,89,90,91,92,65,66,9] 0 (by kernel_rfl) ?_ (Nat.zero_le _) ?_ ?_
  ·intro x _; simp [goodNames,asg]
  ·simp only [go_sem,axF,axC]
  intro j hj
  simp only [go_sem,c261,c228,c268,k69,k47,k54,k46,c273,k95,c29,axC]
  refine ⟨fun hin => ?_,fun hin z hz => ⟨1,by omega,by omega,by rw [hz]; decide,?_⟩⟩
  ·have hlt:j < n:=by omega
   refine ⟨hg,by omega,hin,hn,hg',hm,h6,vX j hlt,vX _ (nxt_lt hlt),pB,fun z hz => ⟨fun h z1 hz1 => ⟨j + 1,by omega,by omega,by rw [hz1,wrap_in (inRo (by omega))]; rfl,?_⟩,fun h z1 hz1 => ⟨j + 1,by omega,by omega,by rw [hz1,wrap_in (inRo (by omega))]; rfl,?_⟩⟩⟩
   ·rw [axF_hit (h.imp id (fun q => by rw [hz] at q; exact q))]
    exact ⟨rfl,rfl,rfl,rfl⟩
   ·rw [axF_not (by
     rintro (q | q)
     ·exact h.1 q
     ·exact h.2 (by rw [hz]; exact q))]
    exact ⟨rfl,rfl,rfl,rfl⟩
  ·rw [s1,show j = n by omega]
   exact ⟨rfl,rfl,rfl,rfl⟩
 | 1 =>
  simp only [go_sem,axC]
  simp only [false_imp_iff,true_imp_iff,reduceCtorEq,true_and,and_true,Bool.false_eq_true]
  refine ⟨fun _ => ?_,fun h => absurd h (by decide)⟩
  refine loopC_go (fun (j:Nat) => j≤m) (fun j => m - j) (fun j => [(9,i64 j)]) (fun j => [(15,fam1 232 5 (axC q (axF 1 (fun j => gapS (Z j) (T j) (Z (nxt m j)) (T (nxt m j)) k x y r n X Y) (S 1) j)) none)]) [31,30,2,1,0] [60,61,62,63,64,68,69,70,67,71,72,10,11,73,74,75,76,12,77,78,79,80,81,82,83,84,85,86,87,88,89,90,91,92,65,66,9] 0 (by kernel_rfl) ?_ (Nat.zero_le _) ?_ ?_
  ·intro x _; simp [goodNames,asg]
  ·simp only [go_sem,axF,axC]
  intro j hj
  simp only [go_sem,c261,c228,c268,k69,k47,k54,k46,c273,k95,c29,axC]
  refine ⟨fun hin => ?_,fun hin z hz => ⟨2,by omega,by omega,by rw [hz]; decide,?_⟩⟩
  ·have hlt:j < m:=by omega
   refine ⟨hg',by omega,hin,hm,hg,hn,h3,vZ j hlt,vZ _ (nxt_lt hlt),pA,fun z hz => ⟨fun h z1 hz1 => ⟨j + 1,by omega,by omega,by rw [hz1,wrap_in (inRo (by omega))]; rfl,?_⟩,fun h z1 hz1 => ⟨j + 1,by omega,by omega,by rw [hz1,wrap_in (inRo (by omega))]; rfl,?_⟩⟩⟩
   ·rw [axF_hit (h.imp id (fun q => by rw [hz] at q; exact q))]
    exact ⟨rfl,rfl,rfl,rfl⟩
   ·rw [axF_not (by
     rintro (q | q)
     ·exact h.1 q
     ·exact h.2 (by rw [hz]; exact q))]
    exact ⟨rfl,rfl,rfl,rfl⟩
  ·rw [s2,show j = m by omega]
   exact ⟨rfl,rfl,rfl,rfl⟩
 | 2 =>
  simp only [go_sem,axC]
  simp only [false_imp_iff,true_imp_iff,reduceCtorEq,true_and,and_true,Bool.false_eq_true]
  rw [hq]; rfl
 | q + 3 => omega
theorem con232:ConOK prog 232 c232:=ConOK.go (G:=[(215,c261),(228,c228),(268,c268),(213,k69),(142,k47),(28,k54),(81,k46),(273,c273),(275,k95),(29,c29)]) (H:=[(5,⟨[(15,.slot 5)],[]⟩),(10,⟨[(4,.made 2),(5,.made 3)],[(1,[.made 2])]⟩),(12,⟨[(2,.slot 7),(3,.slot 8)],[(1,[.slot 7])]⟩),(19,⟨[(4,.slot 5),(6,.slot 5),(8,.slot 5)],[(2,[.slot 5])]⟩)]) (.cons con215 (.cons con228 (.cons con268 (.cons kon69 (.cons kon47 (.cons kon54 (.cons kon46 (.cons con273 (.cons kon95 (.cons con29 .nil)))))))))) func232 fun l ob rr hc hob => by
 unfold c232 at hc
 split at hc
 ·rename_i k x y r n g k' x' y' r' m g'
  cases hc
  have hs:spots n g:=hob _ (by simp)
  have hs':spots m g':=hob _ (by simp)
  exact ⟨[formA k x y r n fun i => [i64 (gx g 0 i),i64 (gx g 1 i)],formA k' x' y' r' m fun i => [i64 (gx g' 0 i),i64 (gx g' 1 i)]],fun w I vs h => Rs_two (Rs_form hs) (Rs_form hs') h,by kernel_rfl,vc232 k x y r n _ _ k' x' y' r' m _ _ (fun i hi => (hs i hi).2) (fun i hi => (hs' i hi).2) (hob _ (by simp)) (hob _ (by simp)) (hob _ (by simp)) (hob _ (by simp)) (hob _ (by simp)) (hob _ (by simp)) (hob _ (by simp)) (hob _ (by simp))⟩
 ·cases hc
structure Mf where
 nv:V2
 n:Nat
 P:Nat→V2
 D:Nat→Nb
abbrev mfA (m:Mf):AV:=manC m.nv m.n m.P m.D
def mf0:Mf:=⟨zV,0,fun _ => zV,fun _ => (0,false)⟩
def mf1 (nv p:V2) (d:Nb):Mf:=⟨nv,1,fun _ => p,fun _ => d⟩
def oneV:V2:=((4294967296,false),(0,false))
def edN (n:Nat) (X Y:Nat→Int) (i:Nat):V2:=vNorm (X i) (Y i) (X (nxt n i)) (Y (nxt n i))
def twN (d:V2):V2:=if (vUnit d).1 = true then (vUnit d).2 else oneV
def twD (d:V2) (r s:Int):Nb:=nPos (nSub (nRat (IntKind.i64.wrap (r + s)) 256) (vLen d))
def twP (x y r:Int) (d:V2) (e:Nb):V2:=vAdd (vLoc x y) (vScale (twN d) (nSub (nRat r 256) (nDiv e (nInt 2))))
def twoS (x y r x' y' r':Int):Mf:=mf1 (twN (vLoc (mnW x x') (mnW y y'))) (twP x y r (vLoc (mnW x x') (mnW y y')) (twD (vLoc (mnW x x') (mnW y y')) r r')) (twD (vLoc (mnW x x') (mnW y y')) r r')
def deepS (n:Nat) (X Y:Nat→Int) (x y r:Int) (s:AxT):Mf:=
 mf1 (edN n X Y s.2.1.toNat) (vSub (vLoc x y) (vScale (edN n X Y s.2.1.toNat) (nRat r 256))) (nPos (nNeg s.2.2))
def rdT (n:Nat) (X Y:Nat→Int) (x y:Int) (i:Nat):Nb:=
 nCl (nRat (dtW (mnW (X i) x) (mnW (Y i) y) (mnW (X i) (X (nxt n i))) (mnW (Y i) (Y (nxt n i)))) (dtW (mnW (X i) (X (nxt n i))) (mnW (Y i) (Y (nxt n i))) (mnW (X i) (X (nxt n i))) (mnW (Y i) (Y (nxt n i))))) (0,false) (4294967296,false)
def rdP (n:Nat) (X Y:Nat→Int) (x y:Int) (i:Nat):V2:=vAdd (vLoc (X i) (Y i)) (vScale (vLoc (mnW (X i) (X (nxt n i))) (mnW (Y i) (Y (nxt n i)))) (rdT n X Y x y i))
def rdM (n:Nat) (X Y:Nat→Int) (x y:Int) (i:Nat):V2:=vSub (vLoc x y) (rdP n X Y x y i)
def rdL (n:Nat) (X Y:Nat→Int) (x y:Int) (i:Nat):Nb:=vLen (rdM n X Y x y i)
def rdV (n:Nat) (X Y:Nat→Int) (x y:Int) (i:Nat):V2:=
 if (0 < (rdT n X Y x y i).1∧(rdT n X Y x y i).1 < 4294967296)∨(vUnit (rdM n X Y x y i)).1 = false then vNorm (X i) (Y i) (X (nxt n i)) (Y (nxt n i)) else (vUnit (rdM n X Y x y i)).2
def leI (h:Nat→Nb):Nat→Nat
 | 0 => 0
 | i + 1 => if cmpS (whV (h (i + 1)).1) (whV (h (leI h i)).1) < 0 then i + 1 else leI h i
def rdS (n:Nat) (X Y:Nat→Int) (x y r:Int):Mf:=
 mf1 (rdV n X Y x y (leI (rdL n X Y x y) (n - 1))) (rdP n X Y x y (leI (rdL n X Y x y) (n - 1))) (nPos (nSub (nRat r 256) (rdL n X Y x y (leI (rdL n X Y x y) (n - 1)))))
def pdS (n:Nat) (X Y:Nat→Int) (x y r:Int):Mf:=if inS n X Y x y = true then deepS n X Y x y r (axSt n (gD n X Y x y r) 0 (gD n X Y x y r) 2) else rdS n X Y x y r
def cutS (x y:V2) (i j:Nb):V2:=vAdd x (vScale (vSub y x) (nDiv i (nSub i j)))
def clpX (x y:V2) (i j:Nb):V2:=if i.1 < 0∧0≤j.1 then cutS x y i j else x
def clpY (x y:V2) (i j:Nb):V2:=if j.1 < 0∧0≤i.1 then cutS y x j i else y
theorem clpX_in1 {x y:V2} {i j:Nb} (h:inR x.1.1):inR (clpX x y i j).1.1:=by
 unfold clpX
 split
 ·exact of_eq_true iVAdd1
 ·exact h
theorem clpX_in2 {x y:V2} {i j:Nb} (h:inR x.2.1):inR (clpX x y i j).2.1:=by
 unfold clpX
 split
 ·exact of_eq_true iVAdd2
 ·exact h
theorem clpY_in1 {x y:V2} {i j:Nb} (h:inR y.1.1):inR (clpY x y i j).1.1:=by
 unfold clpY
 split
 ·exact of_eq_true iVAdd1
 ·exact h
theorem clpY_in2 {x y:V2} {i j:Nb} (h:inR y.2.1):inR (clpY x y i j).2.1:=by
 unfold clpY
 split
 ·exact of_eq_true iVAdd2
 ·exact h
def agK (m:Nat) (Z T:Nat→Int) (nv:V2) (j:Nat):Nb:=vDot (vNorm (Z j) (T j) (Z (nxt m j)) (T (nxt m j))) nv
def fx0 (X Y Z T:Nat→Int) (i j:Nat):V2:=vLoc (mnW (X i) (Z j)) (mnW (Y i) (T j))
def flT (n:Nat) (X Y:Nat→Int) (i:Nat):V2:=(vUnit (vOf (mnW (X i) (X (nxt n i))) (mnW (Y i) (Y (nxt n i))))).2
def flE (n:Nat) (X Y:Nat→Int) (i:Nat):Nb:=vLen (vLoc (mnW (X i) (X (nxt n i))) (mnW (Y i) (Y (nxt n i))))
def cl1X (t x y:V2):V2:=clpX x y (vDot t x) (vDot t y)
def cl1Y (t x y:V2):V2:=clpY x y (vDot t x) (vDot t y)
def cl2X (t x y:V2) (e:Nb):V2:=clpX x y (nSub e (vDot t x)) (nSub e (vDot t y))
def cl2Y (t x y:V2) (e:Nb):V2:=clpY x y (nSub e (vDot t x)) (nSub e (vDot t y))
def flX (t x y:V2) (e:Nb):V2:=cl2X t (cl1X t x y) (cl1Y t x y) e
def flY (t x y:V2) (e:Nb):V2:=cl2Y t (cl1X t x y) (cl1Y t x y) e
def flM (nv p x y:V2):Mf:=
 if (vDot nv x).1≤0 then
  (if (vDot nv y).1≤0 then ⟨nv,2,fun j => if j = 0 then vAdd p x else vAdd p y,fun j => if j = 0 then nNeg (vDot nv x) else nNeg (vDot nv y)⟩ else mf1 nv (vAdd p x) (nNeg (vDot nv x)))
 else mf1 nv (vAdd p y) (nNeg (vDot nv y))
def edH (n:Nat) (X Y Z T:Nat→Int) (i j:Nat):Nb:=hgt (X i) (Y i) (X (nxt n i)) (Y (nxt n i)) (Z j) (T j)
def flJ (n:Nat) (X Y:Nat→Int) (m:Nat) (Z T:Nat→Int) (i:Nat):Nat:=leI (agK m Z T (edN n X Y i)) (m - 1)
def flW (n:Nat) (X Y:Nat→Int) (m:Nat) (Z T:Nat→Int) (i:Nat):Nat:=leI (edH n X Y Z T i) (m - 1)
def flA (n:Nat) (X Y:Nat→Int) (m:Nat) (Z T:Nat→Int) (i j:Nat):V2:=flX (flT n X Y i) (fx0 X Y Z T i j) (fx0 X Y Z T i (nxt m j)) (flE n X Y i)
def flB (n:Nat) (X Y:Nat→Int) (m:Nat) (Z T:Nat→Int) (i j:Nat):V2:=flY (flT n X Y i) (fx0 X Y Z T i j) (fx0 X Y Z T i (nxt m j)) (flE n X Y i)
def flK (nv p a b q:V2) (d:Nb):Mf:=if (vDot nv a).1≤0∨(vDot nv b).1≤0 then flM nv p a b else mf1 nv q d
def flS (n:Nat) (X Y:Nat→Int) (m:Nat) (Z T:Nat→Int) (i:Nat):Mf:=
 flK (edN n X Y i) (vLoc (X i) (Y i)) (flA n X Y m Z T i (flJ n X Y m Z T i)) (flB n X Y m Z T i (flJ n X Y m Z T i)) (vLoc (Z (flW n X Y m Z T i)) (T (flW n X Y m Z T i))) (nPos (nNeg (edH n X Y Z T i (flW n X Y m Z T i))))
def trnS (m:Mf):Mf:=⟨vScale m.nv (nInt (-1)),m.n,m.P,m.D⟩
def clipS (k x y r:Int) (n:Nat) (X Y:Nat→Int) (k' x' y' r':Int) (m:Nat) (Z T:Nat→Int):Mf:=
 if checkS k x y r n X Y = 0∧checkS k' x' y' r' m Z T = 0∧apS k x y r n X Y k' x' y' r' m Z T = false then
  (if k = 1 then (if k' = 1 then twoS x y r x' y' r' else trnS (pdS m Z T x y r))
   else if k' = 1 then pdS n X Y x' y' r'
   else if (axS k x y r n X Y k' x' y' r' m Z T).1 = 0 then flS n X Y m Z T (axS k x y r n X Y k' x' y' r' m Z T).2.1.toNat
   else trnS (flS m Z T n X Y (axS k x y r n X Y k' x' y' r' m Z T).2.1.toNat))
 else mf0
def clipB (k x y r:Int) (n:Nat) (X Y:Nat→Int) (k' x' y' r':Int) (m:Nat) (Z T:Nat→Int):Bool:=
 decide (checkS k x y r n X Y = 0∧checkS k' x' y' r' m Z T = 0∧apS k x y r n X Y k' x' y' r' m Z T = false)
theorem alk_ro6 {n:Nat} {f g:Nat→List AV} (h:∀ i,i < n→g i = f i):alk (.ro n 6 f) (.ro n 6 g):=fun w ρ v hR => ro_alike h hR
theorem alk_nil6 {f:Nat→List AV}:alk (.ro 0 6 f) (.v (.slice none 0 0)):=fun w ρ v hR => by
 cases hR
 exact .ro 0 0 (Nat.le_refl _) (fun h => absurd h (by omega)) (fun h => absurd h (by omega)) (fun i h => absurd h (by omega)) (fun i k h => absurd h (by omega)) (fun i k c x h => absurd h (by omega))
theorem alk_one {nv p:V2} {d:Nb} {g:Nat→List AV} (h:g 0 = tchC p d):alk (mfA (mf1 nv p d)) (.agg [i64 nv.1.1,bo nv.1.2,i64 nv.2.1,bo nv.2.2,.ro 1 6 g]):=by
 refine alk_shape (alk_ro6 fun i hi => ?_)
 have e:i = 0:=Nat.lt_one_iff.1 hi
 subst e
 exact h
abbrev edA (k x y r:Int) (n:Nat) (X Y:Nat→Int):AV:=formA k x y r n fun i => [i64 (X i),i64 (Y i)]
def kcut:Con
 | [.agg [.v (.int .i64 x),.v (.bool e),.v (.int .i64 y),.v (.bool f)],.agg [.v (.int .i64 a),.v (.bool g),.v (.int .i64 b),.v (.bool h)],.agg [.v (.int .i64 i),.v (.bool k)],.agg [.v (.int .i64 j),.v (.bool l)]] => some ([inR x,inR y,inR a,inR b,inR i,inR j],veA (cutS ((x,e),(y,f)) ((a,g),(b,h)) (i,k) (j,l)))
 | _ => none
theorem koncut:ConOK prog 297 kcut:=ConOK.of (G:=[(32,k181),(81,k46),(80,k144),(85,k147),(86,k138)]) (H:=[(1,⟨[(12,.slot 8)],[]⟩)]) (.cons kon181 (.cons kon46 (.cons kon144 (.cons kon147 (.cons kon138 .nil))))) func297 fun l ob rr hc hob => by
 unfold kcut at hc
 split at hc
 ·rename_i x e y f a g b h i k j l
  cases hc
  have h_0:=ob0 hob
  have h_1:=ob1 hob
  have h_2:=ob2 hob
  have h_3:=ob3 hob
  have h_4:=ob4 hob
  have h_5:=ob5 hob
  refine ⟨by kernel_rfl,fnVC_go (rs:=[.cell 8 26]) rfl rfl ?_⟩
  simp only [go_sem,k181,k46,k144,k147,k138,iMul,iDiv,iInt,iAdd,iSub,iRat,iDot,iHyp,iSq,iNeg,iPos,iAbs,iMx,iMn,iCl,iWh,iLoc1,iLoc2,iVAdd1,iVAdd2,iVSub1,iVSub2,iScale1,iScale2,iVDot,iVCross,iLen,iOf1,iOf2,iUnit1,iUnit2,h_0,h_1,h_2,h_3,h_4,h_5]
  rfl
 ·cases hc
def kclp:Con
 | [.agg [.v (.int .i64 x),.v (.bool e),.v (.int .i64 y),.v (.bool f)],.agg [.v (.int .i64 a),.v (.bool g),.v (.int .i64 b),.v (.bool h)],.agg [.v (.int .i64 i),.v (.bool k)],.agg [.v (.int .i64 j),.v (.bool l)]] => some ([inR x,inR y,inR a,inR b,inR i,inR j],.tup [.agg [i64 (clpX ((x,e),(y,f)) ((a,g),(b,h)) (i,k) (j,l)).1.1,bo (clpX ((x,e),(y,f)) ((a,g),(b,h)) (i,k) (j,l)).1.2,i64 (clpX ((x,e),(y,f)) ((a,g),(b,h)) (i,k) (j,l)).2.1,bo (clpX ((x,e),(y,f)) ((a,g),(b,h)) (i,k) (j,l)).2.2],.agg [i64 (clpY ((x,e),(y,f)) ((a,g),(b,h)) (i,k) (j,l)).1.1,bo (clpY ((x,e),(y,f)) ((a,g),(b,h)) (i,k) (j,l)).1.2,i64 (clpY ((x,e),(y,f)) ((a,g),(b,h)) (i,k) (j,l)).2.1,bo (clpY ((x,e),(y,f)) ((a,g),(b,h)) (i,k) (j,l)).2.2]])
 | _ => none
theorem konclp:ConOK prog 277 kclp:=ConOK.of (G:=[(297,kcut)]) (H:=[(2,⟨[(6,.slot 8),(7,.slot 9)],[(5,[.slot 8])]⟩),(4,⟨[(6,.slot 8),(7,.slot 9)],[]⟩),(5,⟨[(2,.slot 8),(3,.slot 9)],[(1,[.slot 8])]⟩)]) (.cons koncut .nil) func277 fun l ob rr hc hob => by
 unfold kclp at hc
 split at hc
 ·rename_i x e y f a g b h i k j l
  cases hc
  have h_0:=ob0 hob
  have h_1:=ob1 hob
  have h_2:=ob2 hob
  have h_3:=ob3 hob
  have h_4:=ob4 hob
  have h_5:=ob5 hob
  refine ⟨by kernel_rfl,fnVC_go (rs:=[.cell 8 26,.cell 9 26]) rfl rfl ?_⟩
  simp only [go_sem,kcut,iMul,iDiv,iInt,iAdd,iSub,iRat,iDot,iHyp,iSq,iNeg,iPos,iAbs,iMx,iMn,iCl,iWh,iLoc1,iLoc2,iVAdd1,iVAdd2,iVSub1,iVSub2,iScale1,iScale2,iVDot,iVCross,iLen,iOf1,iOf2,iUnit1,iUnit2,h_0,h_1,h_2,h_3,h_4,h_5]
  refine ⟨fun h => ?_,fun h => ⟨fun h2 => ?_,fun h2 => ?_⟩⟩
  ·unfold clpX clpY
   dsimp only
   rw [if_pos h,if_neg (by omega)]
  ·have h:¬ (i < 0∧0≤j):=by simpa using h
   unfold clpX clpY
   dsimp only
   rw [if_neg h,if_pos h2]
  ·have h:¬ (i < 0∧0≤j):=by simpa using h
   have h2:¬ (j < 0∧0≤i):=by simpa using h2
   unfold clpX clpY
   dsimp only
   rw [if_neg h,if_neg h2]
 ·cases hc
def ktrn:Con
 | [.agg [.v (.int .i64 x),.v (.bool e),.v (.int .i64 y),.v (.bool f),.ro n 6 g]] => some ([inR x,inR y],.agg [i64 (vScale ((x,e),(y,f)) (nInt (-1))).1.1,bo (vScale ((x,e),(y,f)) (nInt (-1))).1.2,i64 (vScale ((x,e),(y,f)) (nInt (-1))).2.1,bo (vScale ((x,e),(y,f)) (nInt (-1))).2.2,.ro n 6 g])
 | _ => none
theorem kontrn:ConOK prog 231 ktrn:=ConOK.of (G:=[(143,k50),(85,k147)]) (H:=[(1,⟨[(5,.slot 1)],[]⟩)]) (.cons kon50 (.cons kon147 .nil)) func231 fun l ob rr hc hob => by
 unfold ktrn at hc
 split at hc
 ·rename_i x e y f n g
  cases hc
  have h_0:=ob0 hob
  have h_1:=ob1 hob
  refine ⟨by kernel_rfl,fnVC_go (rs:=[.cell 2 29]) rfl rfl ?_⟩
  simp only [go_sem,k50,k147,iMul,iDiv,iInt,iAdd,iSub,iRat,iDot,iHyp,iSq,iNeg,iPos,iAbs,iMx,iMn,iCl,iWh,iLoc1,iLoc2,iVAdd1,iVAdd2,iVSub1,iVSub2,iScale1,iScale2,iVDot,iVCross,iLen,iOf1,iOf2,iUnit1,iUnit2,h_0,h_1]
  done
 ·cases hc
def c229:Con
 | [.agg [.v (.int .i64 k),.v (.int .i64 x),.v (.int .i64 y),.v (.int .i64 r),.ro n 2 g],.agg [.v (.int .i64 k'),.v (.int .i64 x'),.v (.int .i64 y'),.v (.int .i64 r'),.ro m 2 g']] => some ([inR r,inR r',inR x,inR y],mfA (twoS x y r x' y' r'))
 | _ => none
theorem vc229 (k x y r:Int) (n:Nat) (g:Nat→List AV) (k' x' y' r':Int) (m:Nat) (g':Nat→List AV) (h1:inR r) (h2:inR r') (h3:inR x) (h4:inR y) :
  fnVC prog [(268,c268),(213,k69),(141,k140),(28,k54),(142,k47),(81,k46),(78,k143),(143,k50),(80,k144),(85,k147),(86,k138)] [(5,⟨[(13,.made 12)],[]⟩),(6,⟨[(8,.made 7)],[]⟩),(7,⟨[(13,.slot 4)],[]⟩)] Tryz.f229 [formA k x y r n g,formA k' x' y' r' m g'] (alk (mfA (twoS x y r x' y' r'))):=by
 refine fnVC_go (rs:=[.cell 4 29]) rfl rfl ?_
 simp only [go_sem,c268,k69,k140,k54,k47,k46,k143,k50,k144,k147,k138,h1,h2]
 simp only [forall_eq,mnW_eq]
 have i1:∀ a b,inR (mnW a b):=fun a b => wrap_inR _
 refine ⟨i1 _ _,i1 _ _,fun h => ⟨wrap_inR _,h3,h4,?_⟩,fun h => ⟨wrap_inR _,h3,h4,?_⟩⟩
 ·have e:twN (vLoc (mnW x x') (mnW y y')) = oneV:=if_neg (by rw [h]; decide)
  unfold twoS
  rw [e]
  refine alk_one ?_
  unfold twP
  rw [e]
  rfl
 ·have e:twN (vLoc (mnW x x') (mnW y y')) = (vUnit (vLoc (mnW x x') (mnW y y'))).2:=if_pos h
  unfold twoS
  rw [e]
  refine alk_one ?_
  unfold twP
  rw [e]
  rfl
theorem con229:ConOK prog 229 c229:=ConOK.goR (G:=[(268,c268),(213,k69),(141,k140),(28,k54),(142,k47),(81,k46),(78,k143),(143,k50),(80,k144),(85,k147),(86,k138)]) (H:=[(5,⟨[(13,.made 12)],[]⟩),(6,⟨[(8,.made 7)],[]⟩),(7,⟨[(13,.slot 4)],[]⟩)]) (.cons con268 (.cons kon69 (.cons kon140 (.cons kon54 (.cons kon47 (.cons kon46 (.cons kon143 (.cons kon50 (.cons kon144 (.cons kon147 (.cons kon138 .nil))))))))))) func229 fun l ob rr hc hob => by
 unfold c229 at hc
 split at hc
 ·rename_i k x y r n g k' x' y' r' m g'
  cases hc
  exact ⟨_,fun w I vs h => h,by kernel_rfl,vc229 k x y r n g k' x' y' r' m g' (hob _ (by simp)) (hob _ (by simp)) (hob _ (by simp)) (hob _ (by simp))⟩
 ·cases hc
end Go.Ax
end