/-
  Made polygons are convex.
-/
import Derived.Test.YtlpbblcepjlfpaaGreatCM8
import Derived.ShutString
import Derived.ChangeOld
import Derived.Below
set_option linter.unusedVariables false
set_option linter.unusedSimpArgs false
section
set_option maxHeartbeats 4000000
set_option maxRecDepth 100000
namespace Go.Ax
open Go.Proofs
theorem mul_ge {M T:Int} (hM:64 ≤ M) (hT:64 ≤ T):64 * M ≤ M * T ∧ 64 * T ≤ M * T:=by
 have h1:M * 64 ≤ M * T:=Int.mul_le_mul_of_nonneg_left hT (by omega)
 have h2:64 * T ≤ M * T:=Int.mul_le_mul_of_nonneg_right hM (by omega)
 omega
theorem tri_cvx {M T:Int} (hM:64 ≤ M) (hT:64 ≤ T) {X Y:Nat → Int} (x0:X 0 = -M) (x1:X 1 = M) (x2:X 2 = 0) (y0:Y 0 = -T) (y1:Y 1 = -T) (y2:Y 2 = T):cvxS 3 X Y = true:=by
 obtain ⟨p1,p2⟩:=mul_ge hM hT
 unfold cvxS
 refine decide_eq_true fun i hi => ?_
 match i,hi with
 | 0,_ =>
  rw [show nxt 3 0 = 1 from rfl,show nxt2 3 0 = 2 from rfl,x0,x1,x2,y0,y1,y2]
  refine ⟨?_,fun j hj k1 k2 => ?_⟩
  ·simp only [Int.sub_mul,Int.mul_sub,Int.add_mul,Int.mul_add,Int.neg_mul,Int.mul_neg,Int.zero_mul,Int.mul_zero,Int.mul_comm T M,Int.neg_neg,ab]
   (repeat' split) <;> omega
  ·match j,hj,k1,k2 with
   | 0,_,k1,k2 => exact absurd rfl k1
   | 1,_,k1,k2 => exact absurd rfl k2
   | 2,_,_,_ =>
    rw [x2,y2]
    simp only [Int.sub_mul,Int.mul_sub,Int.add_mul,Int.mul_add,Int.neg_mul,Int.mul_neg,Int.zero_mul,Int.mul_zero,Int.mul_comm T M,Int.neg_neg,ab]
    omega
   | j + 3,h,_,_ => omega
 | 1,_ =>
  rw [show nxt 3 1 = 2 from rfl,show nxt2 3 1 = 0 from rfl,x0,x1,x2,y0,y1,y2]
  refine ⟨?_,fun j hj k1 k2 => ?_⟩
  ·simp only [Int.sub_mul,Int.mul_sub,Int.add_mul,Int.mul_add,Int.neg_mul,Int.mul_neg,Int.zero_mul,Int.mul_zero,Int.mul_comm T M,Int.neg_neg,ab]
   (repeat' split) <;> omega
  ·match j,hj,k1,k2 with
   | 0,_,_,_ =>
    rw [x0,y0]
    simp only [Int.sub_mul,Int.mul_sub,Int.add_mul,Int.mul_add,Int.neg_mul,Int.mul_neg,Int.zero_mul,Int.mul_zero,Int.mul_comm T M,Int.neg_neg,ab]
    omega
   | 1,_,k1,k2 => exact absurd rfl k1
   | 2,_,k1,k2 => exact absurd rfl k2
   | j + 3,h,_,_ => omega
 | 2,_ =>
  rw [show nxt 3 2 = 0 from rfl,show nxt2 3 2 = 1 from rfl,x0,x1,x2,y0,y1,y2]
  refine ⟨?_,fun j hj k1 k2 => ?_⟩
  ·simp only [Int.sub_mul,Int.mul_sub,Int.add_mul,Int.mul_add,Int.neg_mul,Int.mul_neg,Int.zero_mul,Int.mul_zero,Int.mul_comm T M,Int.neg_neg,ab]
   (repeat' split) <;> omega
  ·match j,hj,k1,k2 with
   | 0,_,k1,k2 => exact absurd rfl k2
   | 1,_,_,_ =>
    rw [x1,y1]
    simp only [Int.sub_mul,Int.mul_sub,Int.add_mul,Int.mul_add,Int.neg_mul,Int.mul_neg,Int.zero_mul,Int.mul_zero,Int.mul_comm T M,Int.neg_neg,ab]
    omega
   | 2,_,k1,k2 => exact absurd rfl k1
   | j + 3,h,_,_ => omega
 | i + 3,h => omega
end Go.Ax
end
section
/-
  Made polygons of five and eight corners are convex.
-/
set_option maxHeartbeats 4000000
set_option maxRecDepth 100000
namespace Go.Ax
open Go.Proofs
theorem pen_cvx {M T h:Int} (hM:64 ≤ M) (hT:64 ≤ T) (h1:2 * h ≤ M) (h2:M ≤ 2 * h + 1) {X Y:Nat → Int} (x0:X 0 = -h) (y0:Y 0 = -T) (x1:X 1 = h) (y1:Y 1 = -T) (x2:X 2 = M) (y2:Y 2 = 0) (x3:X 3 = 0) (y3:Y 3 = T) (x4:X 4 = -M) (y4:Y 4 = 0):cvxS 5 X Y = true:=by
 obtain ⟨p1,p2⟩:=mul_ge hM hT
 have q1:(2 * h) * T ≤ M * T:=Int.mul_le_mul_of_nonneg_right h1 (by omega)
 have q2:M * T ≤ (2 * h + 1) * T:=Int.mul_le_mul_of_nonneg_right h2 (by omega)
 have q3:h * 64 ≤ h * T:=Int.mul_le_mul_of_nonneg_left hT (by omega)
 rw [Int.mul_assoc] at q1
 rw [Int.add_mul,Int.mul_assoc,Int.one_mul] at q2
 unfold cvxS
 refine decide_eq_true fun i hi => ?_
 match i,hi with
 | 0,_ =>
  rw [show nxt 5 0 = 1 from rfl,show nxt2 5 0 = 2 from rfl,x0,x1,x2,y0,y1,y2]
  refine ⟨?_,fun j hj k1 k2 => ?_⟩
  ·simp only [Int.sub_mul,Int.mul_sub,Int.add_mul,Int.mul_add,Int.neg_mul,Int.mul_neg,Int.zero_mul,Int.mul_zero,Int.mul_comm T M,Int.mul_comm T h,Int.neg_neg,ab]
   (repeat' split) <;> omega
  ·match j,hj,k1,k2 with
   | 0,_,k1,k2 => exact absurd rfl k1
   | 1,_,k1,k2 => exact absurd rfl k2
   | 2,_,_,_ =>
    rw [x2,y2]
    simp only [Int.sub_mul,Int.mul_sub,Int.add_mul,Int.mul_add,Int.neg_mul,Int.mul_neg,Int.zero_mul,Int.mul_zero,Int.mul_comm T M,Int.mul_comm T h,Int.neg_neg,ab]
    omega
   | 3,_,_,_ =>
    rw [x3,y3]
    simp only [Int.sub_mul,Int.mul_sub,Int.add_mul,Int.mul_add,Int.neg_mul,Int.mul_neg,Int.zero_mul,Int.mul_zero,Int.mul_comm T M,Int.mul_comm T h,Int.neg_neg,ab]
    omega
   | 4,_,_,_ =>
    rw [x4,y4]
    simp only [Int.sub_mul,Int.mul_sub,Int.add_mul,Int.mul_add,Int.neg_mul,Int.mul_neg,Int.zero_mul,Int.mul_zero,Int.mul_comm T M,Int.mul_comm T h,Int.neg_neg,ab]
    omega
   | j + 5,h,_,_ => omega
 | 1,_ =>
  rw [show nxt 5 1 = 2 from rfl,show nxt2 5 1 = 3 from rfl,x1,x2,x3,y1,y2,y3]
  refine ⟨?_,fun j hj k1 k2 => ?_⟩
  ·simp only [Int.sub_mul,Int.mul_sub,Int.add_mul,Int.mul_add,Int.neg_mul,Int.mul_neg,Int.zero_mul,Int.mul_zero,Int.mul_comm T M,Int.mul_comm T h,Int.neg_neg,ab]
   (repeat' split) <;> omega
  ·match j,hj,k1,k2 with
   | 0,_,_,_ =>
    rw [x0,y0]
    simp only [Int.sub_mul,Int.mul_sub,Int.add_mul,Int.mul_add,Int.neg_mul,Int.mul_neg,Int.zero_mul,Int.mul_zero,Int.mul_comm T M,Int.mul_comm T h,Int.neg_neg,ab]
    omega
   | 1,_,k1,k2 => exact absurd rfl k1
   | 2,_,k1,k2 => exact absurd rfl k2
   | 3,_,_,_ =>
    rw [x3,y3]
    simp only [Int.sub_mul,Int.mul_sub,Int.add_mul,Int.mul_add,Int.neg_mul,Int.mul_neg,Int.zero_mul,Int.mul_zero,Int.mul_comm T M,Int.mul_comm T h,Int.neg_neg,ab]
    omega
   | 4,_,_,_ =>
    rw [x4,y4]
    simp only [Int.sub_mul,Int.mul_sub,Int.add_mul,Int.mul_add,Int.neg_mul,Int.mul_neg,Int.zero_mul,Int.mul_zero,Int.mul_comm T M,Int.mul_comm T h,Int.neg_neg,ab]
    omega
   | j + 5,h,_,_ => omega
 | 2,_ =>
  rw [show nxt 5 2 = 3 from rfl,show nxt2 5 2 = 4 from rfl,x2,x3,x4,y2,y3,y4]
  refine ⟨?_,fun j hj k1 k2 => ?_⟩
  ·simp only [Int.sub_mul,Int.mul_sub,Int.add_mul,Int.mul_add,Int.neg_mul,Int.mul_neg,Int.zero_mul,Int.mul_zero,Int.mul_comm T M,Int.mul_comm T h,Int.neg_neg,ab]
   (repeat' split) <;> omega
  ·match j,hj,k1,k2 with
   | 0,_,_,_ =>
    rw [x0,y0]
    simp only [Int.sub_mul,Int.mul_sub,Int.add_mul,Int.mul_add,Int.neg_mul,Int.mul_neg,Int.zero_mul,Int.mul_zero,Int.mul_comm T M,Int.mul_comm T h,Int.neg_neg,ab]
    omega
   | 1,_,_,_ =>
    rw [x1,y1]
    simp only [Int.sub_mul,Int.mul_sub,Int.add_mul,Int.mul_add,Int.neg_mul,Int.mul_neg,Int.zero_mul,Int.mul_zero,Int.mul_comm T M,Int.mul_comm T h,Int.neg_neg,ab]
    omega
   | 2,_,k1,k2 => exact absurd rfl k1
   | 3,_,k1,k2 => exact absurd rfl k2
   | 4,_,_,_ =>
    rw [x4,y4]
    simp only [Int.sub_mul,Int.mul_sub,Int.add_mul,Int.mul_add,Int.neg_mul,Int.mul_neg,Int.zero_mul,Int.mul_zero,Int.mul_comm T M,Int.mul_comm T h,Int.neg_neg,ab]
    omega
   | j + 5,h,_,_ => omega
 | 3,_ =>
  rw [show nxt 5 3 = 4 from rfl,show nxt2 5 3 = 0 from rfl,x3,x4,x0,y3,y4,y0]
  refine ⟨?_,fun j hj k1 k2 => ?_⟩
  ·simp only [Int.sub_mul,Int.mul_sub,Int.add_mul,Int.mul_add,Int.neg_mul,Int.mul_neg,Int.zero_mul,Int.mul_zero,Int.mul_comm T M,Int.mul_comm T h,Int.neg_neg,ab]
   (repeat' split) <;> omega
  ·match j,hj,k1,k2 with
   | 0,_,_,_ =>
    rw [x0,y0]
    simp only [Int.sub_mul,Int.mul_sub,Int.add_mul,Int.mul_add,Int.neg_mul,Int.mul_neg,Int.zero_mul,Int.mul_zero,Int.mul_comm T M,Int.mul_comm T h,Int.neg_neg,ab]
    omega
   | 1,_,_,_ =>
    rw [x1,y1]
    simp only [Int.sub_mul,Int.mul_sub,Int.add_mul,Int.mul_add,Int.neg_mul,Int.mul_neg,Int.zero_mul,Int.mul_zero,Int.mul_comm T M,Int.mul_comm T h,Int.neg_neg,ab]
    omega
   | 2,_,_,_ =>
    rw [x2,y2]
    simp only [Int.sub_mul,Int.mul_sub,Int.add_mul,Int.mul_add,Int.neg_mul,Int.mul_neg,Int.zero_mul,Int.mul_zero,Int.mul_comm T M,Int.mul_comm T h,Int.neg_neg,ab]
    omega
   | 3,_,k1,k2 => exact absurd rfl k1
   | 4,_,k1,k2 => exact absurd rfl k2
   | j + 5,h,_,_ => omega
 | 4,_ =>
  rw [show nxt 5 4 = 0 from rfl,show nxt2 5 4 = 1 from rfl,x4,x0,x1,y4,y0,y1]
  refine ⟨?_,fun j hj k1 k2 => ?_⟩
  ·simp only [Int.sub_mul,Int.mul_sub,Int.add_mul,Int.mul_add,Int.neg_mul,Int.mul_neg,Int.zero_mul,Int.mul_zero,Int.mul_comm T M,Int.mul_comm T h,Int.neg_neg,ab]
   (repeat' split) <;> omega
  ·match j,hj,k1,k2 with
   | 0,_,k1,k2 => exact absurd rfl k2
   | 1,_,_,_ =>
    rw [x1,y1]
    simp only [Int.sub_mul,Int.mul_sub,Int.add_mul,Int.mul_add,Int.neg_mul,Int.mul_neg,Int.zero_mul,Int.mul_zero,Int.mul_comm T M,Int.mul_comm T h,Int.neg_neg,ab]
    omega
   | 2,_,_,_ =>
    rw [x2,y2]
    simp only [Int.sub_mul,Int.mul_sub,Int.add_mul,Int.mul_add,Int.neg_mul,Int.mul_neg,Int.zero_mul,Int.mul_zero,Int.mul_comm T M,Int.mul_comm T h,Int.neg_neg,ab]
    omega
   | 3,_,_,_ =>
    rw [x3,y3]
    simp only [Int.sub_mul,Int.mul_sub,Int.add_mul,Int.mul_add,Int.neg_mul,Int.mul_neg,Int.zero_mul,Int.mul_zero,Int.mul_comm T M,Int.mul_comm T h,Int.neg_neg,ab]
    omega
   | 4,_,k1,k2 => exact absurd rfl k1
   | j + 5,h,_,_ => omega
 | i + 5,h => omega
theorem oct_cvx {M h:Int} (hM:64 ≤ M) (h1:2 * h ≤ M) (h2:M ≤ 2 * h + 1) {X Y:Nat → Int} (x0:X 0 = M) (y0:Y 0 = -h) (x1:X 1 = M) (y1:Y 1 = h) (x2:X 2 = h) (y2:Y 2 = M) (x3:X 3 = -h) (y3:Y 3 = M) (x4:X 4 = -M) (y4:Y 4 = h) (x5:X 5 = -M) (y5:Y 5 = -h) (x6:X 6 = -h) (y6:Y 6 = -M) (x7:X 7 = h) (y7:Y 7 = -M):cvxS 8 X Y = true:=by
 have p1:64 * M ≤ M * M:=Int.mul_le_mul_of_nonneg_right hM (by omega)
 have q1:(2 * h) * M ≤ M * M:=Int.mul_le_mul_of_nonneg_right h1 (by omega)
 have q2:M * M ≤ (2 * h + 1) * M:=Int.mul_le_mul_of_nonneg_right h2 (by omega)
 have q3:h * (2 * h) ≤ h * M:=Int.mul_le_mul_of_nonneg_left h1 (by omega)
 have q4:h * M ≤ h * (2 * h + 1):=Int.mul_le_mul_of_nonneg_left h2 (by omega)
 have q5:32 * h ≤ h * h:=Int.mul_le_mul_of_nonneg_right (by omega) (by omega)
 rw [Int.mul_assoc] at q1
 rw [Int.add_mul,Int.mul_assoc,Int.one_mul] at q2
 rw [Int.mul_left_comm] at q3
 rw [Int.mul_add,Int.mul_left_comm,Int.mul_one] at q4
 unfold cvxS
 refine decide_eq_true fun i hi => ?_
 match i,hi with
 | 0,_ =>
  rw [show nxt 8 0 = 1 from rfl,show nxt2 8 0 = 2 from rfl,x0,x1,x2,y0,y1,y2]
  refine ⟨?_,fun j hj k1 k2 => ?_⟩
  ·simp only [Int.sub_mul,Int.mul_sub,Int.add_mul,Int.mul_add,Int.neg_mul,Int.mul_neg,Int.zero_mul,Int.mul_zero,Int.mul_comm M h,Int.neg_neg,ab]
   (repeat' split) <;> omega
  ·match j,hj,k1,k2 with
   | 0,_,k1,k2 => exact absurd rfl k1
   | 1,_,k1,k2 => exact absurd rfl k2
   | 2,_,_,_ =>
    rw [x2,y2]
    simp only [Int.sub_mul,Int.mul_sub,Int.add_mul,Int.mul_add,Int.neg_mul,Int.mul_neg,Int.zero_mul,Int.mul_zero,Int.mul_comm M h,Int.neg_neg,ab]
    omega
   | 3,_,_,_ =>
    rw [x3,y3]
    simp only [Int.sub_mul,Int.mul_sub,Int.add_mul,Int.mul_add,Int.neg_mul,Int.mul_neg,Int.zero_mul,Int.mul_zero,Int.mul_comm M h,Int.neg_neg,ab]
    omega
   | 4,_,_,_ =>
    rw [x4,y4]
    simp only [Int.sub_mul,Int.mul_sub,Int.add_mul,Int.mul_add,Int.neg_mul,Int.mul_neg,Int.zero_mul,Int.mul_zero,Int.mul_comm M h,Int.neg_neg,ab]
    omega
   | 5,_,_,_ =>
    rw [x5,y5]
    simp only [Int.sub_mul,Int.mul_sub,Int.add_mul,Int.mul_add,Int.neg_mul,Int.mul_neg,Int.zero_mul,Int.mul_zero,Int.mul_comm M h,Int.neg_neg,ab]
    omega
   | 6,_,_,_ =>
    rw [x6,y6]
    simp only [Int.sub_mul,Int.mul_sub,Int.add_mul,Int.mul_add,Int.neg_mul,Int.mul_neg,Int.zero_mul,Int.mul_zero,Int.mul_comm M h,Int.neg_neg,ab]
    omega
   | 7,_,_,_ =>
    rw [x7,y7]
    simp only [Int.sub_mul,Int.mul_sub,Int.add_mul,Int.mul_add,Int.neg_mul,Int.mul_neg,Int.zero_mul,Int.mul_zero,Int.mul_comm M h,Int.neg_neg,ab]
    omega
   | j + 8,h,_,_ => omega
 | 1,_ =>
  rw [show nxt 8 1 = 2 from rfl,show nxt2 8 1 = 3 from rfl,x1,x2,x3,y1,y2,y3]
  refine ⟨?_,fun j hj k1 k2 => ?_⟩
  ·simp only [Int.sub_mul,Int.mul_sub,Int.add_mul,Int.mul_add,Int.neg_mul,Int.mul_neg,Int.zero_mul,Int.mul_zero,Int.mul_comm M h,Int.neg_neg,ab]
   (repeat' split) <;> omega
  ·match j,hj,k1,k2 with
   | 0,_,_,_ =>
    rw [x0,y0]
    simp only [Int.sub_mul,Int.mul_sub,Int.add_mul,Int.mul_add,Int.neg_mul,Int.mul_neg,Int.zero_mul,Int.mul_zero,Int.mul_comm M h,Int.neg_neg,ab]
    omega
   | 1,_,k1,k2 => exact absurd rfl k1
   | 2,_,k1,k2 => exact absurd rfl k2
   | 3,_,_,_ =>
    rw [x3,y3]
    simp only [Int.sub_mul,Int.mul_sub,Int.add_mul,Int.mul_add,Int.neg_mul,Int.mul_neg,Int.zero_mul,Int.mul_zero,Int.mul_comm M h,Int.neg_neg,ab]
    omega
   | 4,_,_,_ =>
    rw [x4,y4]
    simp only [Int.sub_mul,Int.mul_sub,Int.add_mul,Int.mul_add,Int.neg_mul,Int.mul_neg,Int.zero_mul,Int.mul_zero,Int.mul_comm M h,Int.neg_neg,ab]
    omega
   | 5,_,_,_ =>
    rw [x5,y5]
    simp only [Int.sub_mul,Int.mul_sub,Int.add_mul,Int.mul_add,Int.neg_mul,Int.mul_neg,Int.zero_mul,Int.mul_zero,Int.mul_comm M h,Int.neg_neg,ab]
    omega
   | 6,_,_,_ =>
    rw [x6,y6]
    simp only [Int.sub_mul,Int.mul_sub,Int.add_mul,Int.mul_add,Int.neg_mul,Int.mul_neg,Int.zero_mul,Int.mul_zero,Int.mul_comm M h,Int.neg_neg,ab]
    omega
   | 7,_,_,_ =>
    rw [x7,y7]
    simp only [Int.sub_mul,Int.mul_sub,Int.add_mul,Int.mul_add,Int.neg_mul,Int.mul_neg,Int.zero_mul,Int.mul_zero,Int.mul_comm M h,Int.neg_neg,ab]
    omega
   | j + 8,h,_,_ => omega
 | 2,_ =>
  rw [show nxt 8 2 = 3 from rfl,show nxt2 8 2 = 4 from rfl,x2,x3,x4,y2,y3,y4]
  refine ⟨?_,fun j hj k1 k2 => ?_⟩
  ·simp only [Int.sub_mul,Int.mul_sub,Int.add_mul,Int.mul_add,Int.neg_mul,Int.mul_neg,Int.zero_mul,Int.mul_zero,Int.mul_comm M h,Int.neg_neg,ab]
   (repeat' split) <;> omega
  ·match j,hj,k1,k2 with
   | 0,_,_,_ =>
    rw [x0,y0]
    simp only [Int.sub_mul,Int.mul_sub,Int.add_mul,Int.mul_add,Int.neg_mul,Int.mul_neg,Int.zero_mul,Int.mul_zero,Int.mul_comm M h,Int.neg_neg,ab]
    omega
   | 1,_,_,_ =>
    rw [x1,y1]
    simp only [Int.sub_mul,Int.mul_sub,Int.add_mul,Int.mul_add,Int.neg_mul,Int.mul_neg,Int.zero_mul,Int.mul_zero,Int.mul_comm M h,Int.neg_neg,ab]
    omega
   | 2,_,k1,k2 => exact absurd rfl k1
   | 3,_,k1,k2 => exact absurd rfl k2
   | 4,_,_,_ =>
    rw [x4,y4]
    simp only [Int.sub_mul,Int.mul_sub,Int.add_mul,Int.mul_add,Int.neg_mul,Int.mul_neg,Int.zero_mul,Int.mul_zero,Int.mul_comm M h,Int.neg_neg,ab]
    omega
   | 5,_,_,_ =>
    rw [x5,y5]
    simp only [Int.sub_mul,Int.mul_sub,Int.add_mul,Int.mul_add,Int.neg_mul,Int.mul_neg,Int.zero_mul,Int.mul_zero,Int.mul_comm M h,Int.neg_neg,ab]
    omega
   | 6,_,_,_ =>
    rw [x6,y6]
    simp only [Int.sub_mul,Int.mul_sub,Int.add_mul,Int.mul_add,Int.neg_mul,Int.mul_neg,Int.zero_mul,Int.mul_zero,Int.mul_comm M h,Int.neg_neg,ab]
    omega
   | 7,_,_,_ =>
    rw [x7,y7]
    simp only [Int.sub_mul,Int.mul_sub,Int.add_mul,Int.mul_add,Int.neg_mul,Int.mul_neg,Int.zero_mul,Int.mul_zero,Int.mul_comm M h,Int.neg_neg,ab]
    omega
   | j + 8,h,_,_ => omega
 | 3,_ =>
  rw [show nxt 8 3 = 4 from rfl,show nxt2 8 3 = 5 from rfl,x3,x4,x5,y3,y4,y5]
  refine ⟨?_,fun j hj k1 k2 => ?_⟩
  ·simp only [Int.sub_mul,Int.mul_sub,Int.add_mul,Int.mul_add,Int.neg_mul,Int.mul_neg,Int.zero_mul,Int.mul_zero,Int.mul_comm M h,Int.neg_neg,ab]
   (repeat' split) <;> omega
  ·match j,hj,k1,k2 with
   | 0,_,_,_ =>
    rw [x0,y0]
    simp only [Int.sub_mul,Int.mul_sub,Int.add_mul,Int.mul_add,Int.neg_mul,Int.mul_neg,Int.zero_mul,Int.mul_zero,Int.mul_comm M h,Int.neg_neg,ab]
    omega
   | 1,_,_,_ =>
    rw [x1,y1]
    simp only [Int.sub_mul,Int.mul_sub,Int.add_mul,Int.mul_add,Int.neg_mul,Int.mul_neg,Int.zero_mul,Int.mul_zero,Int.mul_comm M h,Int.neg_neg,ab]
    omega
   | 2,_,_,_ =>
    rw [x2,y2]
    simp only [Int.sub_mul,Int.mul_sub,Int.add_mul,Int.mul_add,Int.neg_mul,Int.mul_neg,Int.zero_mul,Int.mul_zero,Int.mul_comm M h,Int.neg_neg,ab]
    omega
   | 3,_,k1,k2 => exact absurd rfl k1
   | 4,_,k1,k2 => exact absurd rfl k2
   | 5,_,_,_ =>
    rw [x5,y5]
    simp only [Int.sub_mul,Int.mul_sub,Int.add_mul,Int.mul_add,Int.neg_mul,Int.mul_neg,Int.zero_mul,Int.mul_zero,Int.mul_comm M h,Int.neg_neg,ab]
    omega
   | 6,_,_,_ =>
    rw [x6,y6]
    simp only [Int.sub_mul,Int.mul_sub,Int.add_mul,Int.mul_add,Int.neg_mul,Int.mul_neg,Int.zero_mul,Int.mul_zero,Int.mul_comm M h,Int.neg_neg,ab]
    omega
   | 7,_,_,_ =>
    rw [x7,y7]
    simp only [Int.sub_mul,Int.mul_sub,Int.add_mul,Int.mul_add,Int.neg_mul,Int.mul_neg,Int.zero_mul,Int.mul_zero,Int.mul_comm M h,Int.neg_neg,ab]
    omega
   | j + 8,h,_,_ => omega
 | 4,_ =>
  rw [show nxt 8 4 = 5 from rfl,show nxt2 8 4 = 6 from rfl,x4,x5,x6,y4,y5,y6]
  refine ⟨?_,fun j hj k1 k2 => ?_⟩
  ·simp only [Int.sub_mul,Int.mul_sub,Int.add_mul,Int.mul_add,Int.neg_mul,Int.mul_neg,Int.zero_mul,Int.mul_zero,Int.mul_comm M h,Int.neg_neg,ab]
   (repeat' split) <;> omega
  ·match j,hj,k1,k2 with
   | 0,_,_,_ =>
    rw [x0,y0]
    simp only [Int.sub_mul,Int.mul_sub,Int.add_mul,Int.mul_add,Int.neg_mul,Int.mul_neg,Int.zero_mul,Int.mul_zero,Int.mul_comm M h,Int.neg_neg,ab]
    omega
   | 1,_,_,_ =>
    rw [x1,y1]
    simp only [Int.sub_mul,Int.mul_sub,Int.add_mul,Int.mul_add,Int.neg_mul,Int.mul_neg,Int.zero_mul,Int.mul_zero,Int.mul_comm M h,Int.neg_neg,ab]
    omega
   | 2,_,_,_ =>
    rw [x2,y2]
    simp only [Int.sub_mul,Int.mul_sub,Int.add_mul,Int.mul_add,Int.neg_mul,Int.mul_neg,Int.zero_mul,Int.mul_zero,Int.mul_comm M h,Int.neg_neg,ab]
    omega
   | 3,_,_,_ =>
    rw [x3,y3]
    simp only [Int.sub_mul,Int.mul_sub,Int.add_mul,Int.mul_add,Int.neg_mul,Int.mul_neg,Int.zero_mul,Int.mul_zero,Int.mul_comm M h,Int.neg_neg,ab]
    omega
   | 4,_,k1,k2 => exact absurd rfl k1
   | 5,_,k1,k2 => exact absurd rfl k2
   | 6,_,_,_ =>
    rw [x6,y6]
    simp only [Int.sub_mul,Int.mul_sub,Int.add_mul,Int.mul_add,Int.neg_mul,Int.mul_neg,Int.zero_mul,Int.mul_zero,Int.mul_comm M h,Int.neg_neg,ab]
    omega
   | 7,_,_,_ =>
    rw [x7,y7]
    simp only [Int.sub_mul,Int.mul_sub,Int.add_mul,Int.mul_add,Int.neg_mul,Int.mul_neg,Int.zero_mul,Int.mul_zero,Int.mul_comm M h,Int.neg_neg,ab]
    omega
   | j + 8,h,_,_ => omega
 | 5,_ =>
  rw [show nxt 8 5 = 6 from rfl,show nxt2 8 5 = 7 from rfl,x5,x6,x7,y5,y6,y7]
  refine ⟨?_,fun j hj k1 k2 => ?_⟩
  ·simp only [Int.sub_mul,Int.mul_sub,Int.add_mul,Int.mul_add,Int.neg_mul,Int.mul_neg,Int.zero_mul,Int.mul_zero,Int.mul_comm M h,Int.neg_neg,ab]
   (repeat' split) <;> omega
  ·match j,hj,k1,k2 with
   | 0,_,_,_ =>
    rw [x0,y0]
    simp only [Int.sub_mul,Int.mul_sub,Int.add_mul,Int.mul_add,Int.neg_mul,Int.mul_neg,Int.zero_mul,Int.mul_zero,Int.mul_comm M h,Int.neg_neg,ab]
    omega
   | 1,_,_,_ =>
    rw [x1,y1]
    simp only [Int.sub_mul,Int.mul_sub,Int.add_mul,Int.mul_add,Int.neg_mul,Int.mul_neg,Int.zero_mul,Int.mul_zero,Int.mul_comm M h,Int.neg_neg,ab]
    omega
   | 2,_,_,_ =>
    rw [x2,y2]
    simp only [Int.sub_mul,Int.mul_sub,Int.add_mul,Int.mul_add,Int.neg_mul,Int.mul_neg,Int.zero_mul,Int.mul_zero,Int.mul_comm M h,Int.neg_neg,ab]
    omega
   | 3,_,_,_ =>
    rw [x3,y3]
    simp only [Int.sub_mul,Int.mul_sub,Int.add_mul,Int.mul_add,Int.neg_mul,Int.mul_neg,Int.zero_mul,Int.mul_zero,Int.mul_comm M h,Int.neg_neg,ab]
    omega
   | 4,_,_,_ =>
    rw [x4,y4]
    simp only [Int.sub_mul,Int.mul_sub,Int.add_mul,Int.mul_add,Int.neg_mul,Int.mul_neg,Int.zero_mul,Int.mul_zero,Int.mul_comm M h,Int.neg_neg,ab]
    omega
   | 5,_,k1,k2 => exact absurd rfl k1
   | 6,_,k1,k2 => exact absurd rfl k2
   | 7,_,_,_ =>
    rw [x7,y7]
    simp only [Int.sub_mul,Int.mul_sub,Int.add_mul,Int.mul_add,Int.neg_mul,Int.mul_neg,Int.zero_mul,Int.mul_zero,Int.mul_comm M h,Int.neg_neg,ab]
    omega
   | j + 8,h,_,_ => omega
 | 6,_ =>
  rw [show nxt 8 6 = 7 from rfl,show nxt2 8 6 = 0 from rfl,x6,x7,x0,y6,y7,y0]
  refine ⟨?_,fun j hj k1 k2 => ?_⟩
  ·simp only [Int.sub_mul,Int.mul_sub,Int.add_mul,Int.mul_add,Int.neg_mul,Int.mul_neg,Int.zero_mul,Int.mul_zero,Int.mul_comm M h,Int.neg_neg,ab]
   (repeat' split) <;> omega
  ·match j,hj,k1,k2 with
   | 0,_,_,_ =>
    rw [x0,y0]
    simp only [Int.sub_mul,Int.mul_sub,Int.add_mul,Int.mul_add,Int.neg_mul,Int.mul_neg,Int.zero_mul,Int.mul_zero,Int.mul_comm M h,Int.neg_neg,ab]
    omega
   | 1,_,_,_ =>
    rw [x1,y1]
    simp only [Int.sub_mul,Int.mul_sub,Int.add_mul,Int.mul_add,Int.neg_mul,Int.mul_neg,Int.zero_mul,Int.mul_zero,Int.mul_comm M h,Int.neg_neg,ab]
    omega
   | 2,_,_,_ =>
    rw [x2,y2]
    simp only [Int.sub_mul,Int.mul_sub,Int.add_mul,Int.mul_add,Int.neg_mul,Int.mul_neg,Int.zero_mul,Int.mul_zero,Int.mul_comm M h,Int.neg_neg,ab]
    omega
   | 3,_,_,_ =>
    rw [x3,y3]
    simp only [Int.sub_mul,Int.mul_sub,Int.add_mul,Int.mul_add,Int.neg_mul,Int.mul_neg,Int.zero_mul,Int.mul_zero,Int.mul_comm M h,Int.neg_neg,ab]
    omega
   | 4,_,_,_ =>
    rw [x4,y4]
    simp only [Int.sub_mul,Int.mul_sub,Int.add_mul,Int.mul_add,Int.neg_mul,Int.mul_neg,Int.zero_mul,Int.mul_zero,Int.mul_comm M h,Int.neg_neg,ab]
    omega
   | 5,_,_,_ =>
    rw [x5,y5]
    simp only [Int.sub_mul,Int.mul_sub,Int.add_mul,Int.mul_add,Int.neg_mul,Int.mul_neg,Int.zero_mul,Int.mul_zero,Int.mul_comm M h,Int.neg_neg,ab]
    omega
   | 6,_,k1,k2 => exact absurd rfl k1
   | 7,_,k1,k2 => exact absurd rfl k2
   | j + 8,h,_,_ => omega
 | 7,_ =>
  rw [show nxt 8 7 = 0 from rfl,show nxt2 8 7 = 1 from rfl,x7,x0,x1,y7,y0,y1]
  refine ⟨?_,fun j hj k1 k2 => ?_⟩
  ·simp only [Int.sub_mul,Int.mul_sub,Int.add_mul,Int.mul_add,Int.neg_mul,Int.mul_neg,Int.zero_mul,Int.mul_zero,Int.mul_comm M h,Int.neg_neg,ab]
   (repeat' split) <;> omega
  ·match j,hj,k1,k2 with
   | 0,_,k1,k2 => exact absurd rfl k2
   | 1,_,_,_ =>
    rw [x1,y1]
    simp only [Int.sub_mul,Int.mul_sub,Int.add_mul,Int.mul_add,Int.neg_mul,Int.mul_neg,Int.zero_mul,Int.mul_zero,Int.mul_comm M h,Int.neg_neg,ab]
    omega
   | 2,_,_,_ =>
    rw [x2,y2]
    simp only [Int.sub_mul,Int.mul_sub,Int.add_mul,Int.mul_add,Int.neg_mul,Int.mul_neg,Int.zero_mul,Int.mul_zero,Int.mul_comm M h,Int.neg_neg,ab]
    omega
   | 3,_,_,_ =>
    rw [x3,y3]
    simp only [Int.sub_mul,Int.mul_sub,Int.add_mul,Int.mul_add,Int.neg_mul,Int.mul_neg,Int.zero_mul,Int.mul_zero,Int.mul_comm M h,Int.neg_neg,ab]
    omega
   | 4,_,_,_ =>
    rw [x4,y4]
    simp only [Int.sub_mul,Int.mul_sub,Int.add_mul,Int.mul_add,Int.neg_mul,Int.mul_neg,Int.zero_mul,Int.mul_zero,Int.mul_comm M h,Int.neg_neg,ab]
    omega
   | 5,_,_,_ =>
    rw [x5,y5]
    simp only [Int.sub_mul,Int.mul_sub,Int.add_mul,Int.mul_add,Int.neg_mul,Int.mul_neg,Int.zero_mul,Int.mul_zero,Int.mul_comm M h,Int.neg_neg,ab]
    omega
   | 6,_,_,_ =>
    rw [x6,y6]
    simp only [Int.sub_mul,Int.mul_sub,Int.add_mul,Int.mul_add,Int.neg_mul,Int.mul_neg,Int.zero_mul,Int.mul_zero,Int.mul_comm M h,Int.neg_neg,ab]
    omega
   | 7,_,k1,k2 => exact absurd rfl k1
   | j + 8,h,_,_ => omega
 | i + 8,h => omega
end Go.Ax
end
section
/-
  Made shapes are sound.
-/
set_option maxHeartbeats 4000000
set_option maxRecDepth 100000
namespace Go.Ax
open Go.Proofs
theorem mk_lo {a b c:Int} (i:Nat) (hi:i < mkN a):lo (mkX a b c i) ∧ lo (mkY a b c i):=by
 have b1:=@mkM_bd b b
 have b2:=@mkM_bd b c
 have t1:(mkM b b).tdiv 2 = mkM b b / 2:=Int.tdiv_eq_ediv_of_nonneg (by omega)
 have t2:(-mkM b b).tdiv 2 = -(mkM b b / 2):=by rw [Int.neg_tdiv,t1]
 unfold mkX mkY mkP
 unfold mkN at hi
 by_cases k0:modS a 5 = 0
 ·rw [if_pos k0] at hi; omega
 rw [if_neg k0] at hi
 by_cases k1:modS a 5 = 1
 ·rw [if_pos k1] at hi; omega
 rw [if_neg k1] at hi
 rw [t1,t2]
 generalize mkM b b = M at *
 generalize mkM b c = T at *
 by_cases k2:modS a 5 = 2
 ·rw [if_pos k2] at hi
  rw [if_pos k2]
  match i with
  | 0 => show lo (-M) ∧ lo (-T); unfold lo; omega
  | 1 => show lo M ∧ lo (-T); unfold lo; omega
  | 2 => show lo 0 ∧ lo T; unfold lo; omega
  | q + 3 => omega
 rw [if_neg k2] at hi
 rw [if_neg k2]
 by_cases k3:modS a 5 = 3
 ·rw [if_pos k3] at hi
  rw [if_pos k3]
  match i with
  | 0 => show lo (-(M / 2)) ∧ lo (-T); unfold lo; omega
  | 1 => show lo (M / 2) ∧ lo (-T); unfold lo; omega
  | 2 => show lo M ∧ lo 0; unfold lo; omega
  | 3 => show lo 0 ∧ lo T; unfold lo; omega
  | 4 => show lo (-M) ∧ lo 0; unfold lo; omega
  | q + 5 => omega
 rw [if_neg k3] at hi
 rw [if_neg k3]
 match i with
 | 0 => show lo M ∧ lo (-(M / 2)); unfold lo; omega
 | 1 => show lo M ∧ lo (M / 2); unfold lo; omega
 | 2 => show lo (M / 2) ∧ lo M; unfold lo; omega
 | 3 => show lo (-(M / 2)) ∧ lo M; unfold lo; omega
 | 4 => show lo (-M) ∧ lo (M / 2); unfold lo; omega
 | 5 => show lo (-M) ∧ lo (-(M / 2)); unfold lo; omega
 | 6 => show lo (-(M / 2)) ∧ lo (-M); unfold lo; omega
 | 7 => show lo (M / 2) ∧ lo (-M); unfold lo; omega
 | q + 8 => omega
theorem mk_cvx {a b c:Int} (k0:modS a 5 ≠ 0) (k1:modS a 5 ≠ 1):cvxS (mkN a) (mkX a b c) (mkY a b c) = true:=by
 have b1:=@mkM_bd b b
 have b2:=@mkM_bd b c
 have t1:(mkM b b).tdiv 2 = mkM b b / 2:=Int.tdiv_eq_ediv_of_nonneg (by omega)
 have t2:(-mkM b b).tdiv 2 = -(mkM b b / 2):=by rw [Int.neg_tdiv,t1]
 by_cases k2:modS a 5 = 2
 ·rw [show mkN a = 3 from by unfold mkN; rw [if_neg k0,if_neg k1,if_pos k2]]
  refine tri_cvx (M:=mkM b b) (T:=mkM b c) (by omega) (by omega) ?_ ?_ ?_ ?_ ?_ ?_ <;> (first | unfold mkX | unfold mkY) <;> unfold mkP <;> rw [if_pos k2] <;> rfl
 by_cases k3:modS a 5 = 3
 ·rw [show mkN a = 5 from by unfold mkN; rw [if_neg k0,if_neg k1,if_neg k2,if_pos k3]]
  refine pen_cvx (M:=mkM b b) (T:=mkM b c) (h:=mkM b b / 2) (by omega) (by omega) (by omega) (by omega) ?_ ?_ ?_ ?_ ?_ ?_ ?_ ?_ ?_ ?_ <;> (first | unfold mkX | unfold mkY) <;> unfold mkP <;> rw [if_neg k2,if_pos k3,t1,t2] <;> rfl
 ·rw [show mkN a = 8 from by unfold mkN; rw [if_neg k0,if_neg k1,if_neg k2,if_neg k3]]
  refine oct_cvx (M:=mkM b b) (h:=mkM b b / 2) (by omega) (by omega) (by omega) ?_ ?_ ?_ ?_ ?_ ?_ ?_ ?_ ?_ ?_ ?_ ?_ ?_ ?_ ?_ ?_ <;> (first | unfold mkX | unfold mkY) <;> unfold mkP <;> rw [if_neg k2,if_neg k3,t1,t2] <;> rfl
theorem mk_chk {a b c:Int}:chkS (mkK a) (mkR a b) (mkH a b b) (mkH a b c) (mkN a) (mkX a b c) (mkY a b c) = 0:=by
 have w1:=@mkW_bd b b
 have w2:=@mkW_bd b c
 by_cases k0:modS a 5 = 0
 ·unfold chkS mkK mkR mkH mkN
  rw [if_pos k0,if_pos k0,if_pos k0,if_pos k0,if_pos k0,if_pos rfl,if_neg (by simp),if_pos w1]
 by_cases k1:modS a 5 = 1
 ·unfold chkS mkK mkR mkH mkN
  rw [if_neg k0,if_neg k0,if_neg k0,if_neg k0,if_neg k0,if_pos k1,if_pos k1,if_pos k1,if_pos k1,if_neg (by decide),if_pos rfl,if_neg (by simp),if_pos ⟨w1,w2⟩]
 have hN:3 ≤ mkN a ∧ mkN a ≤ 8:=by
  unfold mkN
  rw [if_neg k0,if_neg k1]
  (repeat' split) <;> omega
 have e1:mkK a = 3:=by unfold mkK; rw [if_neg k0,if_neg k1]
 have e2:mkR a b = 0:=if_neg k0
 have e3:∀ v,mkH a b v = 0:=fun v => by unfold mkH; rw [if_neg k0,if_neg k1]
 unfold chkS
 rw [e1,e2,e3,e3,if_neg (by decide),if_neg (by decide),if_pos rfl,if_neg (by omega),if_pos mk_lo,if_pos (mk_cvx k0 k1)]
end Go.Ax
end
section
/-
  Made bodies: their weights.
-/
set_option maxHeartbeats 4000000
set_option maxRecDepth 100000
namespace Go.Ax
open Go.Proofs
theorem foAt_bd {x s:Int} (h:1 ≤ s ∧ s ≤ 4000):-17179869184000 ≤ x.tmod (s * 4294967296) ∧ x.tmod (s * 4294967296) ≤ 17179869184000:=by
 have h1:x.tmod (s * 4294967296) < s * 4294967296:=Int.tmod_lt_of_pos x (by omega)
 have h2:-(s * 4294967296) < x.tmod (s * 4294967296):=Int.lt_tmod_of_pos x (by omega)
 omega
end Go.Ax
end
section
/-
  Turns made of numbers are on the circle.
-/
set_option maxHeartbeats 4000000
set_option maxRecDepth 100000
namespace Go.Ax
open Go.Proofs
def abZ (x:Int):Int:=if x < 0 then -x else x
theorem qt_pair {p:Int} (h:-13493037704 ≤ p ∧ p ≤ 13493037704):∃ q,(q = 6746518852 ∨ q = 6746518851) ∧ (-6746518852 ≤ qtV p ∧ qtV p ≤ 6746518852) ∧ abZ (qtV p) ≤ q ∧ (-6746518852 ≤ qtV (if 13493037704 < p + 6746518852 then p + 6746518852 - 26986075409 else p + 6746518852) ∧ qtV (if 13493037704 < p + 6746518852 then p + 6746518852 - 26986075409 else p + 6746518852) ≤ 6746518852) ∧ abZ (qtV (if 13493037704 < p + 6746518852 then p + 6746518852 - 26986075409 else p + 6746518852)) = q - abZ (qtV p):=by
 by_cases h1:6746518852 < p
 ·refine ⟨6746518851,.inr rfl,?_⟩
  rw [if_pos (by omega)]
  unfold qtV abZ
  (repeat' split) <;> omega
 ·refine ⟨6746518852,.inl rfl,?_⟩
  rw [if_neg (by omega)]
  unfold qtV abZ
  (repeat' split) <;> omega
theorem wpV_sh {p:Int} (h:-13493037704 ≤ p ∧ p ≤ 13493037704):wpV (p + 6746518852) = if 13493037704 < p + 6746518852 then p + 6746518852 - 26986075409 else p + 6746518852:=by
 have e:(p + 6746518852).tmod 26986075409 = p + 6746518852:=by
  rcases Int.le_total 0 (p + 6746518852) with k | k
  ·rw [Int.tmod_eq_emod_of_nonneg k,Int.emod_eq_of_lt k (by omega)]
  ·have e2:p + 6746518852 = -(-(p + 6746518852)):=by omega
   rw [e2,Int.neg_tmod,Int.tmod_eq_emod_of_nonneg (by omega),Int.emod_eq_of_lt (by omega) (by omega)]
 unfold wpV
 rw [e]
 split
 ·rfl
 ·rw [if_neg (by omega)]
def cl1 (x:Int):Int:=max (-4294967296) (min x 4294967296)
theorem snV_q {v:Int} (h:-1000000000000000 ≤ v ∧ v ≤ 1000000000000000):snV v false = cl1 (sq (qtV (wpV v)) 8) ∧ snF v false = false:=by
 have hp:=@wpV_le v
 have hy:-6746518852 ≤ qtV (wpV v) ∧ qtV (wpV v) ≤ 6746518852:=by
  obtain ⟨q,h1,h2,h3,h4,h5⟩:=qt_pair hp
  exact h2
 have hs:=sqj_le hy 8 (by omega)
 have e:snY v false = (qtV (wpV v),false):=by
  unfold snY
  rw [whV_in (by omega) (by omega),whF_in (by omega)]
 unfold snV snF
 rw [e,snS_eq hy 8 (by omega)]
 dsimp only
 rw [whV_in (by omega) (by omega),whF_in (by omega)]
 exact ⟨rfl,rfl⟩
theorem csV_q {v:Int} (h:-1000000000000000 ≤ v ∧ v ≤ 1000000000000000):csV v false = cl1 (sq (qtV (if 13493037704 < wpV v + 6746518852 then wpV v + 6746518852 - 26986075409 else wpV v + 6746518852)) 8) ∧ csF v false = false:=by
 have hp:=@wpV_le v
 have e:nAdd (wpV (whV v),whF v false) (6746518852,false) = (wpV v + 6746518852,false):=by
  rw [whV_in (by omega) (by omega),whF_in (by omega)]
  unfold nAdd
  dsimp only
  rw [whV_in (by omega) (by omega),whV_in (by omega) (by omega),ftV_in (by omega) (by omega),ftF_in (by omega) (by omega),whF_in (by omega),whF_in (by omega)]
  rfl
 have k:=@snV_q (wpV v + 6746518852) (by omega)
 rw [wpV_sh hp] at k
 unfold csV csF
 rw [e]
 exact k
theorem big_sq {x:Int} (h:4294967296 ≤ x ∨ x ≤ -4294967296):18446744073709551616 ≤ x * x:=by
 rcases h with h | h
 ·have:=Int.mul_le_mul h h (by omega) (by omega)
  omega
 ·have:=Int.mul_le_mul (a:=4294967296) (b:=4294967296) (c:=-x) (d:=-x) (by omega) (by omega) (by omega) (by omega)
  rw [Int.neg_mul_neg] at this
  omega
theorem cl1_sq {x:Int}:(cl1 x * cl1 x = x * x ∧ x * x ≤ 18446744073709551616) ∨ (cl1 x * cl1 x = 18446744073709551616 ∧ 18446744073709551616 ≤ x * x):=by
 by_cases h1:4294967296 < x
 ·refine .inr ⟨?_,big_sq (.inl (by omega))⟩
  rw [show cl1 x = 4294967296 from by unfold cl1; omega]
  rfl
 by_cases h2:x < -4294967296
 ·refine .inr ⟨?_,big_sq (.inr (by omega))⟩
  rw [show cl1 x = -4294967296 from by unfold cl1; omega]
  rfl
 ·refine .inl ⟨by rw [show cl1 x = x from by unfold cl1; omega],?_⟩
  have:=ab_mul (a:=x) (b:=x) (A:=4294967296) (B:=4294967296) (by omega) (by omega)
  omega
theorem sq_nn (x:Int):0 ≤ x * x:=by
 rcases Int.le_total 0 x with h | h
 ·exact Int.mul_nonneg h h
 ·have:=Int.mul_nonneg (a:=-x) (b:=-x) (by omega) (by omega)
  rw [Int.neg_mul_neg] at this
  exact this
theorem cl1_bd {x:Int}:-4294967296 ≤ cl1 x ∧ cl1 x ≤ 4294967296:=by unfold cl1; omega
theorem cl_circle {a b:Int} (h:-35184372088832 ≤ a * a + b * b - 18446744073709551616 ∧ a * a + b * b - 18446744073709551616 ≤ 35184372088832) :
  -35184372088832 ≤ cl1 a * cl1 a + cl1 b * cl1 b - 18446744073709551616 ∧ cl1 a * cl1 a + cl1 b * cl1 b - 18446744073709551616 ≤ 35184372088832:=by
 have ha:=sq_nn a
 have hb:=sq_nn b
 generalize ea:a * a = A at *
 generalize eb:b * b = B at *
 have ca:=@cl1_sq a
 have cb:=@cl1_sq b
 rw [ea] at ca
 rw [eb] at cb
 generalize cl1 a * cl1 a = P at *
 generalize cl1 b * cl1 b = Q at *
 omega
theorem foRot_ok (u:Int):rotS (foRot u).1.1 (foRot u).1.2 (foRot u).2.1 (foRot u).2.2 = 0:=by
 have hv:-1000000000000000 ≤ u.tmod (8 * 4294967296) ∧ u.tmod (8 * 4294967296) ≤ 1000000000000000:=by
  have h1:u.tmod (8 * 4294967296) < 8 * 4294967296:=Int.tmod_lt_of_pos u (by omega)
  have h2:-(8 * 4294967296) < u.tmod (8 * 4294967296):=Int.lt_tmod_of_pos u (by omega)
  omega
 unfold foRot
 dsimp only
 generalize u.tmod (8 * 4294967296) = v at *
 have hp:=@wpV_le v
 obtain ⟨q,q1,q2,q3,q4,q5⟩:=qt_pair hp
 have hc:=sq_circle q2 q1 q3 q5
 obtain ⟨s1,s2⟩:=snV_q hv
 obtain ⟨c1,c2⟩:=csV_q hv
 rw [s1,s2,c1,c2]
 generalize sq (qtV (wpV v)) 8 = S at *
 generalize sq (qtV (if 13493037704 < wpV v + 6746518852 then wpV v + 6746518852 - 26986075409 else wpV v + 6746518852)) 8 = C at *
 have hk:=cl_circle hc
 have k1:=@cl1_bd S
 have k2:=@cl1_bd C
 have e:(nDot (cl1 C,false) (cl1 C,false) (cl1 S,false) (cl1 S,false)).1 = (cl1 C * cl1 C + cl1 S * cl1 S).tdiv 4294967296:=by
  unfold nDot
  dsimp only
  rw [whV_in (by omega) (by omega),whV_in (by omega) (by omega)]
  have:=@td_err (cl1 C * cl1 C + cl1 S * cl1 S) 4294967296 (by omega)
  exact ftV_in (by omega) (by omega)
 have hd:=@td_err (cl1 C * cl1 C + cl1 S * cl1 S) 4294967296 (by omega)
 unfold rotS
 rw [e,whF_in (by omega),whF_in (by omega)]
 refine if_neg ?_
 simp
 omega
end Go.Ax
end
section
/-
  Made bodies are sound, and have a mass.
-/
set_option maxHeartbeats 4000000
set_option maxRecDepth 100000
namespace Go.Ax
open Go.Proofs
theorem far_no {x:Int} (h:-17592186044416 ≤ x ∧ x ≤ 17592186044416):farB (x,false) = false:=by
 unfold farB
 dsimp only
 rw [whF_in (by omega),whV_in (by omega) (by omega)]
 have:¬ 17592186044416 < ab x:=by unfold ab; split <;> omega
 rw [decide_eq_false this]
 rfl
theorem mk_place {a b c x y u s:Int} (hs:1 ≤ s ∧ s ≤ 4000):plErr (mkK a) (mkR a b) (mkH a b b) (mkH a b c) (mkN a) (mkX a b c) (mkY a b c) (foAt x y s) (foRot u) = 0:=by
 have h1:=@foAt_bd x s hs
 have h2:=@foAt_bd y s hs
 unfold plErr
 rw [if_neg (by rw [mk_chk]; simp),if_neg (by rw [foRot_ok]; simp)]
 unfold foAt
 dsimp only
 rw [far_no (by omega),far_no (by omega)]
 rfl
theorem cor_lo {a b c:Int} (i:Nat) (hi:i < corN (mkK a) (mkR a b) (mkH a b b) (mkH a b c) (mkN a) (mkX a b c) (mkY a b c)):lo (corX (mkK a) (mkH a b b) (mkH a b c) (mkX a b c) i) ∧ lo (corY (mkK a) (mkH a b b) (mkH a b c) (mkY a b c) i):=by
 have w1:=@mkW_bd b b
 have w2:=@mkW_bd b c
 have h1:∀ v,0 ≤ mkH a b v ∧ mkH a b v ≤ 4096:=fun v => by
  have:=@mkW_bd b v
  unfold mkH
  (repeat' split) <;> omega
 have h2:=h1 b
 have h3:=h1 c
 unfold corN at hi
 rw [if_pos mk_chk] at hi
 unfold corX corY
 split at hi
 ·rename_i hk
  rw [if_pos hk,if_pos hk]
  match i with
  | 0 => show lo (-mkH a b b) ∧ lo (-mkH a b c); unfold lo; omega
  | 1 => show lo (mkH a b b) ∧ lo (-mkH a b c); unfold lo; omega
  | 2 => show lo (mkH a b b) ∧ lo (mkH a b c); unfold lo; omega
  | 3 => show lo (-mkH a b b) ∧ lo (mkH a b c); unfold lo; omega
  | i + 4 => omega
 ·rename_i hk
  rw [if_neg hk,if_neg hk]
  exact mk_lo i hi
end Go.Ax
end
section
/-
  Corners with a margin stay convex when they are turned and rounded.
-/
set_option maxHeartbeats 4000000
set_option maxRecDepth 100000
namespace Go.Ax
open Go.Proofs
def mg (ax ay bx byy cx cy:Int):Prop:=2 * (ab (bx - ax) + ab (byy - ay) + (ab (cx - ax) + ab (cy - ay))) + 8 ≤ (bx - ax) * (cy - ay) - (byy - ay) * (cx - ax)
def mrg (n:Nat) (X Y:Nat → Int):Prop:=∀ i,i < n → ∀ j,j < n → j ≠ i → j ≠ nxt n i → mg (X i) (Y i) (X (nxt n i)) (Y (nxt n i)) (X j) (Y j)
theorem abs_mul (x y:Int):ab (x * y) = ab x * ab y:=by rw [ab_natAbs,ab_natAbs,ab_natAbs,Int.natAbs_mul]; rfl
theorem abs_le (x:Int):x ≤ ab x ∧ -x ≤ ab x:=by unfold ab; split <;> omega
theorem abs_add (x y:Int):ab (x + y) ≤ ab x + ab y:=by unfold ab; (repeat' split) <;> omega
theorem abs_sub (x y:Int):ab (x - y) ≤ ab x + ab y:=by unfold ab; (repeat' split) <;> omega
theorem abs_bil {p q g h H K:Int} (hg:ab g ≤ H) (hh:ab h ≤ H) (hp:ab p + ab q ≤ K):ab (p * h - q * g) ≤ H * K:=by
 have h1:=abs_sub (p * h) (q * g)
 rw [abs_mul,abs_mul] at h1
 have k1:ab p * ab h ≤ ab p * H:=Int.mul_le_mul_of_nonneg_left hh (ab_nonneg _)
 have k2:ab q * ab g ≤ ab q * H:=Int.mul_le_mul_of_nonneg_left hg (ab_nonneg _)
 have k3:(ab p + ab q) * H ≤ K * H:=Int.mul_le_mul_of_nonneg_right hp (by have:=ab_nonneg g; omega)
 rw [Int.add_mul] at k3
 rw [Int.mul_comm H K]
 omega
theorem abs_lin {c s x y S:Int} (hS:ab c + ab s ≤ S):ab (c * x - s * y) + ab (s * x + c * y) ≤ S * (ab x + ab y):=by
 have h1:=abs_sub (c * x) (s * y)
 have h2:=abs_add (s * x) (c * y)
 rw [abs_mul,abs_mul] at h1 h2
 have k:(ab c + ab s) * (ab x + ab y) ≤ S * (ab x + ab y):=Int.mul_le_mul_of_nonneg_right hS (by have:=ab_nonneg x; have:=ab_nonneg y; omega)
 have e:(ab c + ab s) * (ab x + ab y) = ab c * ab x + ab s * ab y + (ab s * ab x + ab c * ab y):=by
  rw [Int.add_mul,Int.mul_add,Int.mul_add]; omega
 omega
theorem rot_cross {c s ex ey fx fy d1 d2 g1 g2:Int} (hc:18446462598732840960 ≤ c * c + s * s) (hS:ab c + ab s ≤ 6442450944)
  (h1:ab d1 ≤ 4294967808) (h2:ab d2 ≤ 4294967808) (h3:ab g1 ≤ 4294967808) (h4:ab g2 ≤ 4294967808)
  (hm:2 * (ab ex + ab ey + (ab fx + ab fy)) + 8 ≤ ex * fy - ey * fx) :
  0 < (c * ex - s * ey + d1) * (s * fx + c * fy + g2) - (s * ex + c * ey + d2) * (c * fx - s * fy + g1):=by
 have e:(c * ex - s * ey + d1) * (s * fx + c * fy + g2) - (s * ex + c * ey + d2) * (c * fx - s * fy + g1)
   = (c * c + s * s) * (ex * fy - ey * fx) + ((c * ex - s * ey) * g2 - (s * ex + c * ey) * g1) - ((c * fx - s * fy) * d2 - (s * fx + c * fy) * d1) + (d1 * g2 - d2 * g1):=by grind
 have b1:=abs_bil (p:=c * ex - s * ey) (q:=s * ex + c * ey) h3 h4 (abs_lin hS)
 have b2:=abs_bil (p:=c * fx - s * fy) (q:=s * fx + c * fy) h1 h2 (abs_lin hS)
 have b3:=abs_bil (p:=d1) (q:=d2) (K:=8589935616) h3 h4 (by omega)
 have m:=Int.mul_le_mul_of_nonneg_right hc (show 0 ≤ ex * fy - ey * fx by have:=ab_nonneg ex; have:=ab_nonneg ey; have:=ab_nonneg fx; have:=ab_nonneg fy; omega)
 rw [e]
 have l1:=abs_le ((c * ex - s * ey) * g2 - (s * ex + c * ey) * g1)
 have l2:=abs_le ((c * fx - s * fy) * d2 - (s * fx + c * fy) * d1)
 have l3:=abs_le (d1 * g2 - d2 * g1)
 have n1:=ab_nonneg ex
 have n2:=ab_nonneg ey
 have n3:=ab_nonneg fx
 have n4:=ab_nonneg fy
 generalize ab ex + ab ey = E at *
 generalize ab fx + ab fy = F at *
 generalize ex * fy - ey * fx = M at *
 generalize (c * c + s * s) * M = Q at *
 generalize (c * ex - s * ey) * g2 - (s * ex + c * ey) * g1 = r1 at *
 generalize (c * fx - s * fy) * d2 - (s * fx + c * fy) * d1 = r2 at *
 generalize d1 * g2 - d2 * g1 = r3 at *
 have hE:0 ≤ E:=by omega
 have hF:0 ≤ F:=by omega
 clear n1 n2 n3 n4 e h1 h2 h3 h4 hS hc
 omega
theorem rot_sum {c s:Int} (h:c * c + s * s ≤ 18447025548686262272):ab c + ab s ≤ 6442450944:=by
 refine Int.not_lt.1 fun hn => ?_
 have a1:=ab_nonneg c
 have a2:=ab_nonneg s
 have e1:ab c * ab c = c * c:=by rw [← abs_mul]; have:=sq0 c; unfold ab; rw [if_neg (by omega)]
 have e2:ab s * ab s = s * s:=by rw [← abs_mul]; have:=sq0 s; unfold ab; rw [if_neg (by omega)]
 have q:=sq0 (ab c - ab s)
 have w:6442450945 * 6442450945 ≤ (ab c + ab s) * (ab c + ab s):=Int.mul_le_mul hn hn (by omega) (by omega)
 have e3:(ab c - ab s) * (ab c - ab s) = ab c * ab c - 2 * (ab c * ab s) + ab s * ab s:=by grind
 have e4:(ab c + ab s) * (ab c + ab s) = ab c * ab c + 2 * (ab c * ab s) + ab s * ab s:=by grind
 rw [e3] at q
 rw [e4] at w
 omega
theorem foRot_bd (u:Int):(foRot u).1.2 = false ∧ (foRot u).2.2 = false ∧ (-4294967296 ≤ (foRot u).1.1 ∧ (foRot u).1.1 ≤ 4294967296) ∧ (-4294967296 ≤ (foRot u).2.1 ∧ (foRot u).2.1 ≤ 4294967296) ∧
  18446708889337462784 ≤ (foRot u).1.1 * (foRot u).1.1 + (foRot u).2.1 * (foRot u).2.1 ∧ (foRot u).1.1 * (foRot u).1.1 + (foRot u).2.1 * (foRot u).2.1 ≤ 18446779258081640448:=by
 have hv:-1000000000000000 ≤ u.tmod (8 * 4294967296) ∧ u.tmod (8 * 4294967296) ≤ 1000000000000000:=by
  have h1:u.tmod (8 * 4294967296) < 8 * 4294967296:=Int.tmod_lt_of_pos u (by omega)
  have h2:-(8 * 4294967296) < u.tmod (8 * 4294967296):=Int.lt_tmod_of_pos u (by omega)
  omega
 unfold foRot
 dsimp only
 generalize u.tmod (8 * 4294967296) = v at *
 have hp:=@wpV_le v
 obtain ⟨q,q1,q2,q3,q4,q5⟩:=qt_pair hp
 have hc:=sq_circle q2 q1 q3 q5
 obtain ⟨s1,s2⟩:=snV_q hv
 obtain ⟨c1,c2⟩:=csV_q hv
 rw [s1,s2,c1,c2]
 generalize sq (qtV (wpV v)) 8 = S at *
 generalize sq (qtV (if 13493037704 < wpV v + 6746518852 then wpV v + 6746518852 - 26986075409 else wpV v + 6746518852)) 8 = C at *
 have hk:=cl_circle hc
 exact ⟨rfl,rfl,cl1_bd,cl1_bd,by omega,by omega⟩
theorem nRat_loc {x:Int} (h:lo x):nRat x 256 = (x * 16777216,false):=by
 unfold lo at h
 have e:(x * 4294967296).tdiv 256 = x * 16777216:=by
  rw [show x * 4294967296 = x * 16777216 * 256 by omega]
  exact Int.mul_tdiv_cancel _ (by decide)
 unfold nRat raV raF
 rw [if_neg (by decide),if_neg (by decide),e,ftV_of (by unfold rg; omega),ftF_of (by unfold rg; omega)]
 rfl
theorem nAdd_in {a b:Int} (ha:-4611686018427387903 ≤ a ∧ a ≤ 4611686018427387903) (hb:-4611686018427387903 ≤ b ∧ b ≤ 4611686018427387903):nAdd (a,false) (b,false) = (a + b,false):=by
 unfold nAdd
 dsimp only
 rw [whV_of (by unfold rg; omega),whV_of (by unfold rg; omega),whF_of (by unfold rg; omega),whF_of (by unfold rg; omega),ftV_of (by unfold rg; omega),ftF_of (by unfold rg; omega)]
 rfl
theorem nNeg_in {a:Int} (ha:-4611686018427387903 ≤ a ∧ a ≤ 4611686018427387903):nNeg (a,false) = (-a,false):=by
 unfold nNeg
 dsimp only
 rw [whV_of (by unfold rg; omega),whF_of (by unfold rg; omega)]
theorem nDot_loc {c s x y:Int} (hc:-4294967296 ≤ c ∧ c ≤ 4294967296) (hs:-4294967296 ≤ s ∧ s ≤ 4294967296) (hx:lo x) (hy:lo y) :
  ∃ t,nDot (c,false) (x * 16777216,false) (s,false) (y * 16777216,false) = (t,false) ∧ -256 ≤ 256 * t - (c * x + s * y) ∧ 256 * t - (c * x + s * y) ≤ 256 ∧ -35184372088832 ≤ c * x + s * y ∧ c * x + s * y ≤ 35184372088832:=by
 have m1:=mul_bd (A:=4294967296) (B:=4096) (by omega) hc hx
 have m2:=mul_bd (A:=4294967296) (B:=4096) (by omega) hs hy
 have e:c * (x * 16777216) + s * (y * 16777216) = (c * x + s * y) * 16777216:=by rw [← Int.mul_assoc,← Int.mul_assoc,← Int.add_mul]
 have d:=td_err (x:=(c * x + s * y) * 16777216) (k:=4294967296) (by decide)
 refine ⟨((c * x + s * y) * 16777216).tdiv 4294967296,?_,by omega,by omega,by omega,by omega⟩
 unfold nDot
 dsimp only
 unfold lo at hx hy
 rw [whV_of (by unfold rg; omega),whV_of (by unfold rg; omega),whV_of (by unfold rg; omega),whV_of (by unfold rg; omega),whF_of (by unfold rg; omega),whF_of (by unfold rg; omega),whF_of (by unfold rg; omega),whF_of (by unfold rg; omega),e,
  ftV_of (by unfold rg; omega),ftF_of (by unfold rg; omega)]
 rfl
theorem spV_in {a:Int} (h:-18014398509481984 ≤ a ∧ a ≤ 18014398509481984):spV (a,false) = (a * 256 + 2147483648) / 4294967296:=by
 have e:nInt 256 = (1099511627776,false):=by decide
 have e2:(a * 1099511627776).tdiv 4294967296 = a * 256:=by
  rw [show a * 1099511627776 = a * 256 * 4294967296 by omega]
  exact Int.mul_tdiv_cancel _ (by decide)
 unfold spV nMul
 rw [e]
 dsimp only
 rw [whV_of (v:=a) (by unfold rg; omega),whV_of (v:=1099511627776) (by unfold rg; omega),e2,ftV_of (by unfold rg; omega),whV_of (by unfold rg; omega)]
theorem pl_err {ax ay c s x y:Int} (ha:-17592186044416 ≤ ax ∧ ax ≤ 17592186044416) (ha2:-17592186044416 ≤ ay ∧ ay ≤ 17592186044416) (hc:-4294967296 ≤ c ∧ c ≤ 4294967296) (hs:-4294967296 ≤ s ∧ s ≤ 4294967296) (hx:lo x) (hy:lo y) :
  (∃ d,4294967296 * spV (plPt ((ax,false),(ay,false)) ((c,false),(s,false)) x y).1 = 256 * ax + (c * x - s * y) + d ∧ ab d ≤ 2147483904) ∧
  (∃ d,4294967296 * spV (plPt ((ax,false),(ay,false)) ((c,false),(s,false)) x y).2 = 256 * ay + (s * x + c * y) + d ∧ ab d ≤ 2147483904):=by
 obtain ⟨t,h1,h2,h3,h4,h5⟩:=nDot_loc hc (s:=-s) (by omega) hx hy
 obtain ⟨t',k1,k2,k3,k4,k5⟩:=nDot_loc hs (s:=c) hc hx hy
 rw [Int.neg_mul] at h2 h3 h4 h5
 have e:plPt ((ax,false),(ay,false)) ((c,false),(s,false)) x y = ((ax + t,false),(ay + t',false)):=by
  unfold plPt vAdd vApply vLoc
  dsimp only
  rw [nRat_loc hx,nRat_loc hy,nNeg_in (by omega),h1,k1,nAdd_in (by omega) (by omega),nAdd_in (by omega) (by omega)]
 rw [e]
 dsimp only
 rw [spV_in (by omega),spV_in (by omega)]
 refine ⟨⟨4294967296 * (((ax + t) * 256 + 2147483648) / 4294967296) - (256 * ax + (c * x - s * y)),by omega,?_⟩,⟨4294967296 * (((ay + t') * 256 + 2147483648) / 4294967296) - (256 * ay + (s * x + c * y)),by omega,?_⟩⟩
 ·have:=Int.emod_nonneg ((ax + t) * 256 + 2147483648) (show (4294967296:Int) ≠ 0 by decide)
  have:=Int.emod_lt_of_pos ((ax + t) * 256 + 2147483648) (show (0:Int) < 4294967296 by decide)
  have:=Int.emod_add_mul_ediv ((ax + t) * 256 + 2147483648) 4294967296
  unfold ab
  split <;> omega
 ·have:=Int.emod_nonneg ((ay + t') * 256 + 2147483648) (show (4294967296:Int) ≠ 0 by decide)
  have:=Int.emod_lt_of_pos ((ay + t') * 256 + 2147483648) (show (0:Int) < 4294967296 by decide)
  have:=Int.emod_add_mul_ediv ((ay + t') * 256 + 2147483648) 4294967296
  unfold ab
  split <;> omega
theorem turn_of {ax ay bx byy cx cy D1 D2 F1 F2:Int} (h1:4294967296 * (bx - ax) = D1) (h2:4294967296 * (byy - ay) = D2) (h3:4294967296 * (cx - ax) = F1) (h4:4294967296 * (cy - ay) = F2) (h:0 < D1 * F2 - D2 * F1):0 < turnS ax ay bx byy cx cy:=by
 unfold turnS
 have e:D1 * F2 - D2 * F1 = 18446744073709551616 * ((bx - ax) * (cy - ay) - (byy - ay) * (cx - ax)):=by
  rw [← h1,← h2,← h3,← h4]; grind
 omega
theorem pl_cvx {n:Nat} {X Y:Nat → Int} {ax ay c s:Int} (hn:3 ≤ n) (hl:∀ i,i < n → lo (X i) ∧ lo (Y i)) (hm:mrg n X Y) (ha:-17179869184000 ≤ ax ∧ ax ≤ 17179869184000) (ha2:-17179869184000 ≤ ay ∧ ay ≤ 17179869184000)
  (hc:-4294967296 ≤ c ∧ c ≤ 4294967296) (hs:-4294967296 ≤ s ∧ s ≤ 4294967296) (h1:18446462598732840960 ≤ c * c + s * s) (h2:c * c + s * s ≤ 18447025548686262272) {Z T:Nat → Int}
  (hZ:∀ i,i < n → Z i = spV (plPt ((ax,false),(ay,false)) ((c,false),(s,false)) (X i) (Y i)).1) (hT:∀ i,i < n → T i = spV (plPt ((ax,false),(ay,false)) ((c,false),(s,false)) (X i) (Y i)).2):convexS n Z T = true:=by
 have hE:∀ i,i < n → (∃ d,4294967296 * Z i = 256 * ax + (c * X i - s * Y i) + d ∧ ab d ≤ 2147483904) ∧ (∃ d,4294967296 * T i = 256 * ay + (s * X i + c * Y i) + d ∧ ab d ≤ 2147483904):=fun i hi => by
  rw [hZ i hi,hT i hi]
  exact pl_err (by omega) (by omega) hc hs (hl i hi).1 (hl i hi).2
 refine convexS_iff.2 ⟨hn,fun i hi => ?_,fun i hi j hj k1 k2 => ?_⟩
 ·obtain ⟨⟨d,q1,q2⟩,⟨g,q3,q4⟩⟩:=hE i hi
  have m1:=mul_bd (A:=4294967296) (B:=4096) (by omega) hc (hl i hi).1
  have m2:=mul_bd (A:=4294967296) (B:=4096) (by omega) hs (hl i hi).2
  have m3:=mul_bd (A:=4294967296) (B:=4096) (by omega) hs (hl i hi).1
  have m4:=mul_bd (A:=4294967296) (B:=4096) (by omega) hc (hl i hi).2
  have a1:=abs_le d
  have a2:=abs_le g
  rw [validS_iff]
  omega
 ·have hx:=nxt_lt hi
  obtain ⟨⟨d,q1,q2⟩,⟨g,q3,q4⟩⟩:=hE i hi
  obtain ⟨⟨d',q5,q6⟩,⟨g',q7,q8⟩⟩:=hE _ hx
  obtain ⟨⟨d'',q9,q10⟩,⟨g'',q11,q12⟩⟩:=hE j hj
  have hmm:=hm i hi j hj k1 k2
  have b1:=abs_sub d' d
  have b2:=abs_sub g' g
  have b3:=abs_sub d'' d
  have b4:=abs_sub g'' g
  have r:=rot_cross (ex:=X (nxt n i) - X i) (ey:=Y (nxt n i) - Y i) (fx:=X j - X i) (fy:=Y j - Y i) (d1:=d' - d) (d2:=g' - g) (g1:=d'' - d) (g2:=g'' - g) h1 (rot_sum h2) (by omega) (by omega) (by omega) (by omega) hmm
  have e:∀ x y z w:Int,c * (x - y) - s * (z - w) = c * x - s * z - (c * y - s * w):=fun x y z w => by grind
  have e':∀ x y z w:Int,s * (x - y) + c * (z - w) = s * x + c * z - (s * y + c * w):=fun x y z w => by grind
  refine turn_of (D1:=c * (X (nxt n i) - X i) - s * (Y (nxt n i) - Y i) + (d' - d)) (D2:=s * (X (nxt n i) - X i) + c * (Y (nxt n i) - Y i) + (g' - g)) (F1:=c * (X j - X i) - s * (Y j - Y i) + (d'' - d)) (F2:=s * (X j - X i) + c * (Y j - Y i) + (g'' - g)) ?_ ?_ ?_ ?_ r
  ·rw [e]; omega
  ·rw [e']; omega
  ·rw [e]; omega
  ·rw [e']; omega
end Go.Ax
end
section
/-
  Made polygons have a margin.
-/
set_option maxHeartbeats 4000000
set_option maxRecDepth 100000
namespace Go.Ax
open Go.Proofs
theorem ab_bd {x D:Int} (h1:-D ≤ x) (h2:x ≤ D):ab x ≤ D:=by unfold ab; split <;> omega
theorem mg_of {ax ay bx byy cx cy D E:Int} (h1:-D ≤ ax ∧ ax ≤ D) (h2:-E ≤ ay ∧ ay ≤ E) (h3:-D ≤ bx ∧ bx ≤ D) (h4:-E ≤ byy ∧ byy ≤ E) (h5:-D ≤ cx ∧ cx ≤ D) (h6:-E ≤ cy ∧ cy ≤ E)
  (h:8 * D + 8 * E + 8 ≤ (bx - ax) * (cy - ay) - (byy - ay) * (cx - ax)):mg ax ay bx byy cx cy:=by
 have k1:=@ab_bd (bx - ax) (2 * D) (by omega) (by omega)
 have k2:=@ab_bd (byy - ay) (2 * E) (by omega) (by omega)
 have k3:=@ab_bd (cx - ax) (2 * D) (by omega) (by omega)
 have k4:=@ab_bd (cy - ay) (2 * E) (by omega) (by omega)
 unfold mg
 generalize (bx - ax) * (cy - ay) - (byy - ay) * (cx - ax) = Q at *
 omega
theorem box_mrgB {w t:Int} (hw:16 ≤ w) (ht:16 ≤ t) {X Y:Nat → Int} (x0:X 0 = -w) (y0:Y 0 = -t) (x1:X 1 = w) (y1:Y 1 = -t) (x2:X 2 = w) (y2:Y 2 = t) (x3:X 3 = -w) (y3:Y 3 = t):∀ i,i < 4 → (-w ≤ X i ∧ X i ≤ w) ∧ (-t ≤ Y i ∧ Y i ≤ t):=by
 intro i hi
 match i,hi with
 | 0,_ => rw [x0,y0]; omega
 | 1,_ => rw [x1,y1]; omega
 | 2,_ => rw [x2,y2]; omega
 | 3,_ => rw [x3,y3]; omega
 | i + 4,h => omega
theorem box_mrg_0 {w t:Int} (hw:16 ≤ w) (ht:16 ≤ t) {X Y:Nat → Int} (x0:X 0 = -w) (y0:Y 0 = -t) (x1:X 1 = w) (y1:Y 1 = -t) (x2:X 2 = w) (y2:Y 2 = t) (x3:X 3 = -w) (y3:Y 3 = t):∀ j,j < 4 → j ≠ 0 → j ≠ 1 → 8 * w + 8 * t + 8 ≤ (X 1 - X 0) * (Y j - Y 0) - (Y 1 - Y 0) * (X j - X 0):=by
 have p1:16 * t ≤ w * t:=Int.mul_le_mul_of_nonneg_right hw (by omega)
 have p2:w * 16 ≤ w * t:=Int.mul_le_mul_of_nonneg_left ht (by omega)
 intro j hj k1 k2
 match j,hj,k1,k2 with
 | 0,_,k1,_ => exact absurd rfl k1
 | 1,_,_,k2 => exact absurd rfl k2
 | 2,_,_,_ =>
  rw [x0,y0,x1,y1,x2,y2]
  simp only [Int.sub_mul,Int.mul_sub,Int.add_mul,Int.mul_add,Int.neg_mul,Int.mul_neg,Int.zero_mul,Int.mul_zero,Int.neg_neg,Int.mul_comm t w]
  omega
 | 3,_,_,_ =>
  rw [x0,y0,x1,y1,x3,y3]
  simp only [Int.sub_mul,Int.mul_sub,Int.add_mul,Int.mul_add,Int.neg_mul,Int.mul_neg,Int.zero_mul,Int.mul_zero,Int.neg_neg,Int.mul_comm t w]
  omega
 | j + 4,h,_,_ => omega
theorem box_mrg_1 {w t:Int} (hw:16 ≤ w) (ht:16 ≤ t) {X Y:Nat → Int} (x0:X 0 = -w) (y0:Y 0 = -t) (x1:X 1 = w) (y1:Y 1 = -t) (x2:X 2 = w) (y2:Y 2 = t) (x3:X 3 = -w) (y3:Y 3 = t):∀ j,j < 4 → j ≠ 1 → j ≠ 2 → 8 * w + 8 * t + 8 ≤ (X 2 - X 1) * (Y j - Y 1) - (Y 2 - Y 1) * (X j - X 1):=by
 have p1:16 * t ≤ w * t:=Int.mul_le_mul_of_nonneg_right hw (by omega)
 have p2:w * 16 ≤ w * t:=Int.mul_le_mul_of_nonneg_left ht (by omega)
 intro j hj k1 k2
 match j,hj,k1,k2 with
 | 0,_,_,_ =>
  rw [x1,y1,x2,y2,x0,y0]
  simp only [Int.sub_mul,Int.mul_sub,Int.add_mul,Int.mul_add,Int.neg_mul,Int.mul_neg,Int.zero_mul,Int.mul_zero,Int.neg_neg,Int.mul_comm t w]
  omega
 | 1,_,k1,_ => exact absurd rfl k1
 | 2,_,_,k2 => exact absurd rfl k2
 | 3,_,_,_ =>
  rw [x1,y1,x2,y2,x3,y3]
  simp only [Int.sub_mul,Int.mul_sub,Int.add_mul,Int.mul_add,Int.neg_mul,Int.mul_neg,Int.zero_mul,Int.mul_zero,Int.neg_neg,Int.mul_comm t w]
  omega
 | j + 4,h,_,_ => omega
theorem box_mrg_2 {w t:Int} (hw:16 ≤ w) (ht:16 ≤ t) {X Y:Nat → Int} (x0:X 0 = -w) (y0:Y 0 = -t) (x1:X 1 = w) (y1:Y 1 = -t) (x2:X 2 = w) (y2:Y 2 = t) (x3:X 3 = -w) (y3:Y 3 = t):∀ j,j < 4 → j ≠ 2 → j ≠ 3 → 8 * w + 8 * t + 8 ≤ (X 3 - X 2) * (Y j - Y 2) - (Y 3 - Y 2) * (X j - X 2):=by
 have p1:16 * t ≤ w * t:=Int.mul_le_mul_of_nonneg_right hw (by omega)
 have p2:w * 16 ≤ w * t:=Int.mul_le_mul_of_nonneg_left ht (by omega)
 intro j hj k1 k2
 match j,hj,k1,k2 with
 | 0,_,_,_ =>
  rw [x2,y2,x3,y3,x0,y0]
  simp only [Int.sub_mul,Int.mul_sub,Int.add_mul,Int.mul_add,Int.neg_mul,Int.mul_neg,Int.zero_mul,Int.mul_zero,Int.neg_neg,Int.mul_comm t w]
  omega
 | 1,_,_,_ =>
  rw [x2,y2,x3,y3,x1,y1]
  simp only [Int.sub_mul,Int.mul_sub,Int.add_mul,Int.mul_add,Int.neg_mul,Int.mul_neg,Int.zero_mul,Int.mul_zero,Int.neg_neg,Int.mul_comm t w]
  omega
 | 2,_,k1,_ => exact absurd rfl k1
 | 3,_,_,k2 => exact absurd rfl k2
 | j + 4,h,_,_ => omega
theorem box_mrg_3 {w t:Int} (hw:16 ≤ w) (ht:16 ≤ t) {X Y:Nat → Int} (x0:X 0 = -w) (y0:Y 0 = -t) (x1:X 1 = w) (y1:Y 1 = -t) (x2:X 2 = w) (y2:Y 2 = t) (x3:X 3 = -w) (y3:Y 3 = t):∀ j,j < 4 → j ≠ 3 → j ≠ 0 → 8 * w + 8 * t + 8 ≤ (X 0 - X 3) * (Y j - Y 3) - (Y 0 - Y 3) * (X j - X 3):=by
 have p1:16 * t ≤ w * t:=Int.mul_le_mul_of_nonneg_right hw (by omega)
 have p2:w * 16 ≤ w * t:=Int.mul_le_mul_of_nonneg_left ht (by omega)
 intro j hj k1 k2
 match j,hj,k1,k2 with
 | 0,_,_,k2 => exact absurd rfl k2
 | 1,_,_,_ =>
  rw [x3,y3,x0,y0,x1,y1]
  simp only [Int.sub_mul,Int.mul_sub,Int.add_mul,Int.mul_add,Int.neg_mul,Int.mul_neg,Int.zero_mul,Int.mul_zero,Int.neg_neg,Int.mul_comm t w]
  omega
 | 2,_,_,_ =>
  rw [x3,y3,x0,y0,x2,y2]
  simp only [Int.sub_mul,Int.mul_sub,Int.add_mul,Int.mul_add,Int.neg_mul,Int.mul_neg,Int.zero_mul,Int.mul_zero,Int.neg_neg,Int.mul_comm t w]
  omega
 | 3,_,k1,_ => exact absurd rfl k1
 | j + 4,h,_,_ => omega
theorem box_mrg {w t:Int} (hw:16 ≤ w) (ht:16 ≤ t) {X Y:Nat → Int} (x0:X 0 = -w) (y0:Y 0 = -t) (x1:X 1 = w) (y1:Y 1 = -t) (x2:X 2 = w) (y2:Y 2 = t) (x3:X 3 = -w) (y3:Y 3 = t):mrg 4 X Y:=by
 have B:=box_mrgB (X:=X) (Y:=Y) hw ht x0 y0 x1 y1 x2 y2 x3 y3
 intro i hi j hj k1 k2
 refine mg_of (D:=w) (E:=t) (B i hi).1 (B i hi).2 (B _ (nxt_lt hi)).1 (B _ (nxt_lt hi)).2 (B j hj).1 (B j hj).2 ?_
 match i,hi,k1,k2 with
 | 0,_,k1,k2 => exact box_mrg_0 hw ht x0 y0 x1 y1 x2 y2 x3 y3 j hj k1 k2
 | 1,_,k1,k2 => exact box_mrg_1 hw ht x0 y0 x1 y1 x2 y2 x3 y3 j hj k1 k2
 | 2,_,k1,k2 => exact box_mrg_2 hw ht x0 y0 x1 y1 x2 y2 x3 y3 j hj k1 k2
 | 3,_,k1,k2 => exact box_mrg_3 hw ht x0 y0 x1 y1 x2 y2 x3 y3 j hj k1 k2
 | i + 4,h,_,_ => omega
theorem tri_mrgB {M T:Int} (hM:64 ≤ M) (hT:64 ≤ T) {X Y:Nat → Int} (x0:X 0 = -M) (y0:Y 0 = -T) (x1:X 1 = M) (y1:Y 1 = -T) (x2:X 2 = 0) (y2:Y 2 = T):∀ i,i < 3 → (-M ≤ X i ∧ X i ≤ M) ∧ (-T ≤ Y i ∧ Y i ≤ T):=by
 intro i hi
 match i,hi with
 | 0,_ => rw [x0,y0]; omega
 | 1,_ => rw [x1,y1]; omega
 | 2,_ => rw [x2,y2]; omega
 | i + 3,h => omega
theorem tri_mrg_0 {M T:Int} (hM:64 ≤ M) (hT:64 ≤ T) {X Y:Nat → Int} (x0:X 0 = -M) (y0:Y 0 = -T) (x1:X 1 = M) (y1:Y 1 = -T) (x2:X 2 = 0) (y2:Y 2 = T):∀ j,j < 3 → j ≠ 0 → j ≠ 1 → 8 * M + 8 * T + 8 ≤ (X 1 - X 0) * (Y j - Y 0) - (Y 1 - Y 0) * (X j - X 0):=by
 obtain ⟨p1,p2⟩:=mul_ge hM hT
 intro j hj k1 k2
 match j,hj,k1,k2 with
 | 0,_,k1,_ => exact absurd rfl k1
 | 1,_,_,k2 => exact absurd rfl k2
 | 2,_,_,_ =>
  rw [x0,y0,x1,y1,x2,y2]
  simp only [Int.sub_mul,Int.mul_sub,Int.add_mul,Int.mul_add,Int.neg_mul,Int.mul_neg,Int.zero_mul,Int.mul_zero,Int.neg_neg,Int.mul_comm T M]
  omega
 | j + 3,h,_,_ => omega
theorem tri_mrg_1 {M T:Int} (hM:64 ≤ M) (hT:64 ≤ T) {X Y:Nat → Int} (x0:X 0 = -M) (y0:Y 0 = -T) (x1:X 1 = M) (y1:Y 1 = -T) (x2:X 2 = 0) (y2:Y 2 = T):∀ j,j < 3 → j ≠ 1 → j ≠ 2 → 8 * M + 8 * T + 8 ≤ (X 2 - X 1) * (Y j - Y 1) - (Y 2 - Y 1) * (X j - X 1):=by
 obtain ⟨p1,p2⟩:=mul_ge hM hT
 intro j hj k1 k2
 match j,hj,k1,k2 with
 | 0,_,_,_ =>
  rw [x1,y1,x2,y2,x0,y0]
  simp only [Int.sub_mul,Int.mul_sub,Int.add_mul,Int.mul_add,Int.neg_mul,Int.mul_neg,Int.zero_mul,Int.mul_zero,Int.neg_neg,Int.mul_comm T M]
  omega
 | 1,_,k1,_ => exact absurd rfl k1
 | 2,_,_,k2 => exact absurd rfl k2
 | j + 3,h,_,_ => omega
theorem tri_mrg_2 {M T:Int} (hM:64 ≤ M) (hT:64 ≤ T) {X Y:Nat → Int} (x0:X 0 = -M) (y0:Y 0 = -T) (x1:X 1 = M) (y1:Y 1 = -T) (x2:X 2 = 0) (y2:Y 2 = T):∀ j,j < 3 → j ≠ 2 → j ≠ 0 → 8 * M + 8 * T + 8 ≤ (X 0 - X 2) * (Y j - Y 2) - (Y 0 - Y 2) * (X j - X 2):=by
 obtain ⟨p1,p2⟩:=mul_ge hM hT
 intro j hj k1 k2
 match j,hj,k1,k2 with
 | 0,_,_,k2 => exact absurd rfl k2
 | 1,_,_,_ =>
  rw [x2,y2,x0,y0,x1,y1]
  simp only [Int.sub_mul,Int.mul_sub,Int.add_mul,Int.mul_add,Int.neg_mul,Int.mul_neg,Int.zero_mul,Int.mul_zero,Int.neg_neg,Int.mul_comm T M]
  omega
 | 2,_,k1,_ => exact absurd rfl k1
 | j + 3,h,_,_ => omega
theorem tri_mrg {M T:Int} (hM:64 ≤ M) (hT:64 ≤ T) {X Y:Nat → Int} (x0:X 0 = -M) (y0:Y 0 = -T) (x1:X 1 = M) (y1:Y 1 = -T) (x2:X 2 = 0) (y2:Y 2 = T):mrg 3 X Y:=by
 have B:=tri_mrgB (X:=X) (Y:=Y) hM hT x0 y0 x1 y1 x2 y2
 intro i hi j hj k1 k2
 refine mg_of (D:=M) (E:=T) (B i hi).1 (B i hi).2 (B _ (nxt_lt hi)).1 (B _ (nxt_lt hi)).2 (B j hj).1 (B j hj).2 ?_
 match i,hi,k1,k2 with
 | 0,_,k1,k2 => exact tri_mrg_0 hM hT x0 y0 x1 y1 x2 y2 j hj k1 k2
 | 1,_,k1,k2 => exact tri_mrg_1 hM hT x0 y0 x1 y1 x2 y2 j hj k1 k2
 | 2,_,k1,k2 => exact tri_mrg_2 hM hT x0 y0 x1 y1 x2 y2 j hj k1 k2
 | i + 3,h,_,_ => omega
theorem pen_mrgB {M T h:Int} (hM:64 ≤ M) (hT:64 ≤ T) (h1:2 * h ≤ M) (h2:M ≤ 2 * h + 1) {X Y:Nat → Int} (x0:X 0 = -h) (y0:Y 0 = -T) (x1:X 1 = h) (y1:Y 1 = -T) (x2:X 2 = M) (y2:Y 2 = 0) (x3:X 3 = 0) (y3:Y 3 = T) (x4:X 4 = -M) (y4:Y 4 = 0):∀ i,i < 5 → (-M ≤ X i ∧ X i ≤ M) ∧ (-T ≤ Y i ∧ Y i ≤ T):=by
 intro i hi
 match i,hi with
 | 0,_ => rw [x0,y0]; omega
 | 1,_ => rw [x1,y1]; omega
 | 2,_ => rw [x2,y2]; omega
 | 3,_ => rw [x3,y3]; omega
 | 4,_ => rw [x4,y4]; omega
 | i + 5,h => omega
theorem pen_mrg_0 {M T h:Int} (hM:64 ≤ M) (hT:64 ≤ T) (h1:2 * h ≤ M) (h2:M ≤ 2 * h + 1) {X Y:Nat → Int} (x0:X 0 = -h) (y0:Y 0 = -T) (x1:X 1 = h) (y1:Y 1 = -T) (x2:X 2 = M) (y2:Y 2 = 0) (x3:X 3 = 0) (y3:Y 3 = T) (x4:X 4 = -M) (y4:Y 4 = 0):∀ j,j < 5 → j ≠ 0 → j ≠ 1 → 8 * M + 8 * T + 8 ≤ (X 1 - X 0) * (Y j - Y 0) - (Y 1 - Y 0) * (X j - X 0):=by
 obtain ⟨p1,p2⟩:=mul_ge hM hT
 have q1:(2 * h) * T ≤ M * T:=Int.mul_le_mul_of_nonneg_right h1 (by omega)
 have q2:M * T ≤ (2 * h + 1) * T:=Int.mul_le_mul_of_nonneg_right h2 (by omega)
 rw [Int.mul_assoc] at q1
 rw [Int.add_mul,Int.mul_assoc,Int.one_mul] at q2
 intro j hj k1 k2
 match j,hj,k1,k2 with
 | 0,_,k1,_ => exact absurd rfl k1
 | 1,_,_,k2 => exact absurd rfl k2
 | 2,_,_,_ =>
  rw [x0,y0,x1,y1,x2,y2]
  simp only [Int.sub_mul,Int.mul_sub,Int.add_mul,Int.mul_add,Int.neg_mul,Int.mul_neg,Int.zero_mul,Int.mul_zero,Int.neg_neg,Int.mul_comm T M,Int.mul_comm T h]
  omega
 | 3,_,_,_ =>
  rw [x0,y0,x1,y1,x3,y3]
  simp only [Int.sub_mul,Int.mul_sub,Int.add_mul,Int.mul_add,Int.neg_mul,Int.mul_neg,Int.zero_mul,Int.mul_zero,Int.neg_neg,Int.mul_comm T M,Int.mul_comm T h]
  omega
 | 4,_,_,_ =>
  rw [x0,y0,x1,y1,x4,y4]
  simp only [Int.sub_mul,Int.mul_sub,Int.add_mul,Int.mul_add,Int.neg_mul,Int.mul_neg,Int.zero_mul,Int.mul_zero,Int.neg_neg,Int.mul_comm T M,Int.mul_comm T h]
  omega
 | j + 5,h,_,_ => omega
theorem pen_mrg_1 {M T h:Int} (hM:64 ≤ M) (hT:64 ≤ T) (h1:2 * h ≤ M) (h2:M ≤ 2 * h + 1) {X Y:Nat → Int} (x0:X 0 = -h) (y0:Y 0 = -T) (x1:X 1 = h) (y1:Y 1 = -T) (x2:X 2 = M) (y2:Y 2 = 0) (x3:X 3 = 0) (y3:Y 3 = T) (x4:X 4 = -M) (y4:Y 4 = 0):∀ j,j < 5 → j ≠ 1 → j ≠ 2 → 8 * M + 8 * T + 8 ≤ (X 2 - X 1) * (Y j - Y 1) - (Y 2 - Y 1) * (X j - X 1):=by
 obtain ⟨p1,p2⟩:=mul_ge hM hT
 have q1:(2 * h) * T ≤ M * T:=Int.mul_le_mul_of_nonneg_right h1 (by omega)
 have q2:M * T ≤ (2 * h + 1) * T:=Int.mul_le_mul_of_nonneg_right h2 (by omega)
 rw [Int.mul_assoc] at q1
 rw [Int.add_mul,Int.mul_assoc,Int.one_mul] at q2
 intro j hj k1 k2
 match j,hj,k1,k2 with
 | 0,_,_,_ =>
  rw [x1,y1,x2,y2,x0,y0]
  simp only [Int.sub_mul,Int.mul_sub,Int.add_mul,Int.mul_add,Int.neg_mul,Int.mul_neg,Int.zero_mul,Int.mul_zero,Int.neg_neg,Int.mul_comm T M,Int.mul_comm T h]
  omega
 | 1,_,k1,_ => exact absurd rfl k1
 | 2,_,_,k2 => exact absurd rfl k2
 | 3,_,_,_ =>
  rw [x1,y1,x2,y2,x3,y3]
  simp only [Int.sub_mul,Int.mul_sub,Int.add_mul,Int.mul_add,Int.neg_mul,Int.mul_neg,Int.zero_mul,Int.mul_zero,Int.neg_neg,Int.mul_comm T M,Int.mul_comm T h]
  omega
 | 4,_,_,_ =>
  rw [x1,y1,x2,y2,x4,y4]
  simp only [Int.sub_mul,Int.mul_sub,Int.add_mul,Int.mul_add,Int.neg_mul,Int.mul_neg,Int.zero_mul,Int.mul_zero,Int.neg_neg,Int.mul_comm T M,Int.mul_comm T h]
  omega
 | j + 5,h,_,_ => omega
theorem pen_mrg_2 {M T h:Int} (hM:64 ≤ M) (hT:64 ≤ T) (h1:2 * h ≤ M) (h2:M ≤ 2 * h + 1) {X Y:Nat → Int} (x0:X 0 = -h) (y0:Y 0 = -T) (x1:X 1 = h) (y1:Y 1 = -T) (x2:X 2 = M) (y2:Y 2 = 0) (x3:X 3 = 0) (y3:Y 3 = T) (x4:X 4 = -M) (y4:Y 4 = 0):∀ j,j < 5 → j ≠ 2 → j ≠ 3 → 8 * M + 8 * T + 8 ≤ (X 3 - X 2) * (Y j - Y 2) - (Y 3 - Y 2) * (X j - X 2):=by
 obtain ⟨p1,p2⟩:=mul_ge hM hT
 have q1:(2 * h) * T ≤ M * T:=Int.mul_le_mul_of_nonneg_right h1 (by omega)
 have q2:M * T ≤ (2 * h + 1) * T:=Int.mul_le_mul_of_nonneg_right h2 (by omega)
 rw [Int.mul_assoc] at q1
 rw [Int.add_mul,Int.mul_assoc,Int.one_mul] at q2
 intro j hj k1 k2
 match j,hj,k1,k2 with
 | 0,_,_,_ =>
  rw [x2,y2,x3,y3,x0,y0]
  simp only [Int.sub_mul,Int.mul_sub,Int.add_mul,Int.mul_add,Int.neg_mul,Int.mul_neg,Int.zero_mul,Int.mul_zero,Int.neg_neg,Int.mul_comm T M,Int.mul_comm T h]
  omega
 | 1,_,_,_ =>
  rw [x2,y2,x3,y3,x1,y1]
  simp only [Int.sub_mul,Int.mul_sub,Int.add_mul,Int.mul_add,Int.neg_mul,Int.mul_neg,Int.zero_mul,Int.mul_zero,Int.neg_neg,Int.mul_comm T M,Int.mul_comm T h]
  omega
 | 2,_,k1,_ => exact absurd rfl k1
 | 3,_,_,k2 => exact absurd rfl k2
 | 4,_,_,_ =>
  rw [x2,y2,x3,y3,x4,y4]
  simp only [Int.sub_mul,Int.mul_sub,Int.add_mul,Int.mul_add,Int.neg_mul,Int.mul_neg,Int.zero_mul,Int.mul_zero,Int.neg_neg,Int.mul_comm T M,Int.mul_comm T h]
  omega
 | j + 5,h,_,_ => omega
theorem pen_mrg_3 {M T h:Int} (hM:64 ≤ M) (hT:64 ≤ T) (h1:2 * h ≤ M) (h2:M ≤ 2 * h + 1) {X Y:Nat → Int} (x0:X 0 = -h) (y0:Y 0 = -T) (x1:X 1 = h) (y1:Y 1 = -T) (x2:X 2 = M) (y2:Y 2 = 0) (x3:X 3 = 0) (y3:Y 3 = T) (x4:X 4 = -M) (y4:Y 4 = 0):∀ j,j < 5 → j ≠ 3 → j ≠ 4 → 8 * M + 8 * T + 8 ≤ (X 4 - X 3) * (Y j - Y 3) - (Y 4 - Y 3) * (X j - X 3):=by
 obtain ⟨p1,p2⟩:=mul_ge hM hT
 have q1:(2 * h) * T ≤ M * T:=Int.mul_le_mul_of_nonneg_right h1 (by omega)
 have q2:M * T ≤ (2 * h + 1) * T:=Int.mul_le_mul_of_nonneg_right h2 (by omega)
 rw [Int.mul_assoc] at q1
 rw [Int.add_mul,Int.mul_assoc,Int.one_mul] at q2
 intro j hj k1 k2
 match j,hj,k1,k2 with
 | 0,_,_,_ =>
  rw [x3,y3,x4,y4,x0,y0]
  simp only [Int.sub_mul,Int.mul_sub,Int.add_mul,Int.mul_add,Int.neg_mul,Int.mul_neg,Int.zero_mul,Int.mul_zero,Int.neg_neg,Int.mul_comm T M,Int.mul_comm T h]
  omega
 | 1,_,_,_ =>
  rw [x3,y3,x4,y4,x1,y1]
  simp only [Int.sub_mul,Int.mul_sub,Int.add_mul,Int.mul_add,Int.neg_mul,Int.mul_neg,Int.zero_mul,Int.mul_zero,Int.neg_neg,Int.mul_comm T M,Int.mul_comm T h]
  omega
 | 2,_,_,_ =>
  rw [x3,y3,x4,y4,x2,y2]
  simp only [Int.sub_mul,Int.mul_sub,Int.add_mul,Int.mul_add,Int.neg_mul,Int.mul_neg,Int.zero_mul,Int.mul_zero,Int.neg_neg,Int.mul_comm T M,Int.mul_comm T h]
  omega
 | 3,_,k1,_ => exact absurd rfl k1
 | 4,_,_,k2 => exact absurd rfl k2
 | j + 5,h,_,_ => omega
theorem pen_mrg_4 {M T h:Int} (hM:64 ≤ M) (hT:64 ≤ T) (h1:2 * h ≤ M) (h2:M ≤ 2 * h + 1) {X Y:Nat → Int} (x0:X 0 = -h) (y0:Y 0 = -T) (x1:X 1 = h) (y1:Y 1 = -T) (x2:X 2 = M) (y2:Y 2 = 0) (x3:X 3 = 0) (y3:Y 3 = T) (x4:X 4 = -M) (y4:Y 4 = 0):∀ j,j < 5 → j ≠ 4 → j ≠ 0 → 8 * M + 8 * T + 8 ≤ (X 0 - X 4) * (Y j - Y 4) - (Y 0 - Y 4) * (X j - X 4):=by
 obtain ⟨p1,p2⟩:=mul_ge hM hT
 have q1:(2 * h) * T ≤ M * T:=Int.mul_le_mul_of_nonneg_right h1 (by omega)
 have q2:M * T ≤ (2 * h + 1) * T:=Int.mul_le_mul_of_nonneg_right h2 (by omega)
 rw [Int.mul_assoc] at q1
 rw [Int.add_mul,Int.mul_assoc,Int.one_mul] at q2
 intro j hj k1 k2
 match j,hj,k1,k2 with
 | 0,_,_,k2 => exact absurd rfl k2
 | 1,_,_,_ =>
  rw [x4,y4,x0,y0,x1,y1]
  simp only [Int.sub_mul,Int.mul_sub,Int.add_mul,Int.mul_add,Int.neg_mul,Int.mul_neg,Int.zero_mul,Int.mul_zero,Int.neg_neg,Int.mul_comm T M,Int.mul_comm T h]
  omega
 | 2,_,_,_ =>
  rw [x4,y4,x0,y0,x2,y2]
  simp only [Int.sub_mul,Int.mul_sub,Int.add_mul,Int.mul_add,Int.neg_mul,Int.mul_neg,Int.zero_mul,Int.mul_zero,Int.neg_neg,Int.mul_comm T M,Int.mul_comm T h]
  omega
 | 3,_,_,_ =>
  rw [x4,y4,x0,y0,x3,y3]
  simp only [Int.sub_mul,Int.mul_sub,Int.add_mul,Int.mul_add,Int.neg_mul,Int.mul_neg,Int.zero_mul,Int.mul_zero,Int.neg_neg,Int.mul_comm T M,Int.mul_comm T h]
  omega
 | 4,_,k1,_ => exact absurd rfl k1
 | j + 5,h,_,_ => omega
theorem pen_mrg {M T h:Int} (hM:64 ≤ M) (hT:64 ≤ T) (h1:2 * h ≤ M) (h2:M ≤ 2 * h + 1) {X Y:Nat → Int} (x0:X 0 = -h) (y0:Y 0 = -T) (x1:X 1 = h) (y1:Y 1 = -T) (x2:X 2 = M) (y2:Y 2 = 0) (x3:X 3 = 0) (y3:Y 3 = T) (x4:X 4 = -M) (y4:Y 4 = 0):mrg 5 X Y:=by
 have B:=pen_mrgB (X:=X) (Y:=Y) hM hT h1 h2 x0 y0 x1 y1 x2 y2 x3 y3 x4 y4
 intro i hi j hj k1 k2
 refine mg_of (D:=M) (E:=T) (B i hi).1 (B i hi).2 (B _ (nxt_lt hi)).1 (B _ (nxt_lt hi)).2 (B j hj).1 (B j hj).2 ?_
 match i,hi,k1,k2 with
 | 0,_,k1,k2 => exact pen_mrg_0 hM hT h1 h2 x0 y0 x1 y1 x2 y2 x3 y3 x4 y4 j hj k1 k2
 | 1,_,k1,k2 => exact pen_mrg_1 hM hT h1 h2 x0 y0 x1 y1 x2 y2 x3 y3 x4 y4 j hj k1 k2
 | 2,_,k1,k2 => exact pen_mrg_2 hM hT h1 h2 x0 y0 x1 y1 x2 y2 x3 y3 x4 y4 j hj k1 k2
 | 3,_,k1,k2 => exact pen_mrg_3 hM hT h1 h2 x0 y0 x1 y1 x2 y2 x3 y3 x4 y4 j hj k1 k2
 | 4,_,k1,k2 => exact pen_mrg_4 hM hT h1 h2 x0 y0 x1 y1 x2 y2 x3 y3 x4 y4 j hj k1 k2
 | i + 5,h,_,_ => omega
theorem oct_mrgB {M h:Int} (hM:64 ≤ M) (h1:2 * h ≤ M) (h2:M ≤ 2 * h + 1) {X Y:Nat → Int} (x0:X 0 = M) (y0:Y 0 = -h) (x1:X 1 = M) (y1:Y 1 = h) (x2:X 2 = h) (y2:Y 2 = M) (x3:X 3 = -h) (y3:Y 3 = M) (x4:X 4 = -M) (y4:Y 4 = h) (x5:X 5 = -M) (y5:Y 5 = -h) (x6:X 6 = -h) (y6:Y 6 = -M) (x7:X 7 = h) (y7:Y 7 = -M):∀ i,i < 8 → (-M ≤ X i ∧ X i ≤ M) ∧ (-M ≤ Y i ∧ Y i ≤ M):=by
 intro i hi
 match i,hi with
 | 0,_ => rw [x0,y0]; omega
 | 1,_ => rw [x1,y1]; omega
 | 2,_ => rw [x2,y2]; omega
 | 3,_ => rw [x3,y3]; omega
 | 4,_ => rw [x4,y4]; omega
 | 5,_ => rw [x5,y5]; omega
 | 6,_ => rw [x6,y6]; omega
 | 7,_ => rw [x7,y7]; omega
 | i + 8,h => omega
theorem oct_mrg_0 {M h:Int} (hM:64 ≤ M) (h1:2 * h ≤ M) (h2:M ≤ 2 * h + 1) {X Y:Nat → Int} (x0:X 0 = M) (y0:Y 0 = -h) (x1:X 1 = M) (y1:Y 1 = h) (x2:X 2 = h) (y2:Y 2 = M) (x3:X 3 = -h) (y3:Y 3 = M) (x4:X 4 = -M) (y4:Y 4 = h) (x5:X 5 = -M) (y5:Y 5 = -h) (x6:X 6 = -h) (y6:Y 6 = -M) (x7:X 7 = h) (y7:Y 7 = -M):∀ j,j < 8 → j ≠ 0 → j ≠ 1 → 8 * M + 8 * M + 8 ≤ (X 1 - X 0) * (Y j - Y 0) - (Y 1 - Y 0) * (X j - X 0):=by
 have p1:64 * M ≤ M * M:=Int.mul_le_mul_of_nonneg_right hM (by omega)
 have q1:(2 * h) * M ≤ M * M:=Int.mul_le_mul_of_nonneg_right h1 (by omega)
 have q2:M * M ≤ (2 * h + 1) * M:=Int.mul_le_mul_of_nonneg_right h2 (by omega)
 have q3:h * (2 * h) ≤ h * M:=Int.mul_le_mul_of_nonneg_left h1 (by omega)
 have q4:h * M ≤ h * (2 * h + 1):=Int.mul_le_mul_of_nonneg_left h2 (by omega)
 have q5:32 * h ≤ h * h:=Int.mul_le_mul_of_nonneg_right (by omega) (by omega)
 rw [Int.mul_assoc] at q1
 rw [Int.add_mul,Int.mul_assoc,Int.one_mul] at q2
 rw [Int.mul_left_comm] at q3
 rw [Int.mul_add,Int.mul_left_comm,Int.mul_one] at q4
 intro j hj k1 k2
 match j,hj,k1,k2 with
 | 0,_,k1,_ => exact absurd rfl k1
 | 1,_,_,k2 => exact absurd rfl k2
 | 2,_,_,_ =>
  rw [x0,y0,x1,y1,x2,y2]
  simp only [Int.sub_mul,Int.mul_sub,Int.add_mul,Int.mul_add,Int.neg_mul,Int.mul_neg,Int.zero_mul,Int.mul_zero,Int.neg_neg,Int.mul_comm M h]
  omega
 | 3,_,_,_ =>
  rw [x0,y0,x1,y1,x3,y3]
  simp only [Int.sub_mul,Int.mul_sub,Int.add_mul,Int.mul_add,Int.neg_mul,Int.mul_neg,Int.zero_mul,Int.mul_zero,Int.neg_neg,Int.mul_comm M h]
  omega
 | 4,_,_,_ =>
  rw [x0,y0,x1,y1,x4,y4]
  simp only [Int.sub_mul,Int.mul_sub,Int.add_mul,Int.mul_add,Int.neg_mul,Int.mul_neg,Int.zero_mul,Int.mul_zero,Int.neg_neg,Int.mul_comm M h]
  omega
 | 5,_,_,_ =>
  rw [x0,y0,x1,y1,x5,y5]
  simp only [Int.sub_mul,Int.mul_sub,Int.add_mul,Int.mul_add,Int.neg_mul,Int.mul_neg,Int.zero_mul,Int.mul_zero,Int.neg_neg,Int.mul_comm M h]
  omega
 | 6,_,_,_ =>
  rw [x0,y0,x1,y1,x6,y6]
  simp only [Int.sub_mul,Int.mul_sub,Int.add_mul,Int.mul_add,Int.neg_mul,Int.mul_neg,Int.zero_mul,Int.mul_zero,Int.neg_neg,Int.mul_comm M h]
  omega
 | 7,_,_,_ =>
  rw [x0,y0,x1,y1,x7,y7]
  simp only [Int.sub_mul,Int.mul_sub,Int.add_mul,Int.mul_add,Int.neg_mul,Int.mul_neg,Int.zero_mul,Int.mul_zero,Int.neg_neg,Int.mul_comm M h]
  omega
 | j + 8,h,_,_ => omega
theorem oct_mrg_1 {M h:Int} (hM:64 ≤ M) (h1:2 * h ≤ M) (h2:M ≤ 2 * h + 1) {X Y:Nat → Int} (x0:X 0 = M) (y0:Y 0 = -h) (x1:X 1 = M) (y1:Y 1 = h) (x2:X 2 = h) (y2:Y 2 = M) (x3:X 3 = -h) (y3:Y 3 = M) (x4:X 4 = -M) (y4:Y 4 = h) (x5:X 5 = -M) (y5:Y 5 = -h) (x6:X 6 = -h) (y6:Y 6 = -M) (x7:X 7 = h) (y7:Y 7 = -M):∀ j,j < 8 → j ≠ 1 → j ≠ 2 → 8 * M + 8 * M + 8 ≤ (X 2 - X 1) * (Y j - Y 1) - (Y 2 - Y 1) * (X j - X 1):=by
 have p1:64 * M ≤ M * M:=Int.mul_le_mul_of_nonneg_right hM (by omega)
 have q1:(2 * h) * M ≤ M * M:=Int.mul_le_mul_of_nonneg_right h1 (by omega)
 have q2:M * M ≤ (2 * h + 1) * M:=Int.mul_le_mul_of_nonneg_right h2 (by omega)
 have q3:h * (2 * h) ≤ h * M:=Int.mul_le_mul_of_nonneg_left h1 (by omega)
 have q4:h * M ≤ h * (2 * h + 1):=Int.mul_le_mul_of_nonneg_left h2 (by omega)
 have q5:32 * h ≤ h * h:=Int.mul_le_mul_of_nonneg_right (by omega) (by omega)
 rw [Int.mul_assoc] at q1
 rw [Int.add_mul,Int.mul_assoc,Int.one_mul] at q2
 rw [Int.mul_left_comm] at q3
 rw [Int.mul_add,Int.mul_left_comm,Int.mul_one] at q4
 intro j hj k1 k2
 match j,hj,k1,k2 with
 | 0,_,_,_ =>
  rw [x1,y1,x2,y2,x0,y0]
  simp only [Int.sub_mul,Int.mul_sub,Int.add_mul,Int.mul_add,Int.neg_mul,Int.mul_neg,Int.zero_mul,Int.mul_zero,Int.neg_neg,Int.mul_comm M h]
  omega
 | 1,_,k1,_ => exact absurd rfl k1
 | 2,_,_,k2 => exact absurd rfl k2
 | 3,_,_,_ =>
  rw [x1,y1,x2,y2,x3,y3]
  simp only [Int.sub_mul,Int.mul_sub,Int.add_mul,Int.mul_add,Int.neg_mul,Int.mul_neg,Int.zero_mul,Int.mul_zero,Int.neg_neg,Int.mul_comm M h]
  omega
 | 4,_,_,_ =>
  rw [x1,y1,x2,y2,x4,y4]
  simp only [Int.sub_mul,Int.mul_sub,Int.add_mul,Int.mul_add,Int.neg_mul,Int.mul_neg,Int.zero_mul,Int.mul_zero,Int.neg_neg,Int.mul_comm M h]
  omega
 | 5,_,_,_ =>
  rw [x1,y1,x2,y2,x5,y5]
  simp only [Int.sub_mul,Int.mul_sub,Int.add_mul,Int.mul_add,Int.neg_mul,Int.mul_neg,Int.zero_mul,Int.mul_zero,Int.neg_neg,Int.mul_comm M h]
  omega
 | 6,_,_,_ =>
  rw [x1,y1,x2,y2,x6,y6]
  simp only [Int.sub_mul,Int.mul_sub,Int.add_mul,Int.mul_add,Int.neg_mul,Int.mul_neg,Int.zero_mul,Int.mul_zero,Int.neg_neg,Int.mul_comm M h]
  omega
 | 7,_,_,_ =>
  rw [x1,y1,x2,y2,x7,y7]
  simp only [Int.sub_mul,Int.mul_sub,Int.add_mul,Int.mul_add,Int.neg_mul,Int.mul_neg,Int.zero_mul,Int.mul_zero,Int.neg_neg,Int.mul_comm M h]
  omega
 | j + 8,h,_,_ => omega
theorem oct_mrg_2 {M h:Int} (hM:64 ≤ M) (h1:2 * h ≤ M) (h2:M ≤ 2 * h + 1) {X Y:Nat → Int} (x0:X 0 = M) (y0:Y 0 = -h) (x1:X 1 = M) (y1:Y 1 = h) (x2:X 2 = h) (y2:Y 2 = M) (x3:X 3 = -h) (y3:Y 3 = M) (x4:X 4 = -M) (y4:Y 4 = h) (x5:X 5 = -M) (y5:Y 5 = -h) (x6:X 6 = -h) (y6:Y 6 = -M) (x7:X 7 = h) (y7:Y 7 = -M):∀ j,j < 8 → j ≠ 2 → j ≠ 3 → 8 * M + 8 * M + 8 ≤ (X 3 - X 2) * (Y j - Y 2) - (Y 3 - Y 2) * (X j - X 2):=by
 have p1:64 * M ≤ M * M:=Int.mul_le_mul_of_nonneg_right hM (by omega)
 have q1:(2 * h) * M ≤ M * M:=Int.mul_le_mul_of_nonneg_right h1 (by omega)
 have q2:M * M ≤ (2 * h + 1) * M:=Int.mul_le_mul_of_nonneg_right h2 (by omega)
 have q3:h * (2 * h) ≤ h * M:=Int.mul_le_mul_of_nonneg_left h1 (by omega)
 have q4:h * M ≤ h * (2 * h + 1):=Int.mul_le_mul_of_nonneg_left h2 (by omega)
 have q5:32 * h ≤ h * h:=Int.mul_le_mul_of_nonneg_right (by omega) (by omega)
 rw [Int.mul_assoc] at q1
 rw [Int.add_mul,Int.mul_assoc,Int.one_mul] at q2
 rw [Int.mul_left_comm] at q3
 rw [Int.mul_add,Int.mul_left_comm,Int.mul_one] at q4
 intro j hj k1 k2
 match j,hj,k1,k2 with
 | 0,_,_,_ =>
  rw [x2,y2,x3,y3,x0,y0]
  simp only [Int.sub_mul,Int.mul_sub,Int.add_mul,Int.mul_add,Int.neg_mul,Int.mul_neg,Int.zero_mul,Int.mul_zero,Int.neg_neg,Int.mul_comm M h]
  omega
 | 1,_,_,_ =>
  rw [x2,y2,x3,y3,x1,y1]
  simp only [Int.sub_mul,Int.mul_sub,Int.add_mul,Int.mul_add,Int.neg_mul,Int.mul_neg,Int.zero_mul,Int.mul_zero,Int.neg_neg,Int.mul_comm M h]
  omega
 | 2,_,k1,_ => exact absurd rfl k1
 | 3,_,_,k2 => exact absurd rfl k2
 | 4,_,_,_ =>
  rw [x2,y2,x3,y3,x4,y4]
  simp only [Int.sub_mul,Int.mul_sub,Int.add_mul,Int.mul_add,Int.neg_mul,Int.mul_neg,Int.zero_mul,Int.mul_zero,Int.neg_neg,Int.mul_comm M h]
  omega
 | 5,_,_,_ =>
  rw [x2,y2,x3,y3,x5,y5]
  simp only [Int.sub_mul,Int.mul_sub,Int.add_mul,Int.mul_add,Int.neg_mul,Int.mul_neg,Int.zero_mul,Int.mul_zero,Int.neg_neg,Int.mul_comm M h]
  omega
 | 6,_,_,_ =>
  rw [x2,y2,x3,y3,x6,y6]
  simp only [Int.sub_mul,Int.mul_sub,Int.add_mul,Int.mul_add,Int.neg_mul,Int.mul_neg,Int.zero_mul,Int.mul_zero,Int.neg_neg,Int.mul_comm M h]
  omega
 | 7,_,_,_ =>
  rw [x2,y2,x3,y3,x7,y7]
  simp only [Int.sub_mul,Int.mul_sub,Int.add_mul,Int.mul_add,Int.neg_mul,Int.mul_neg,Int.zero_mul,Int.mul_zero,Int.neg_neg,Int.mul_comm M h]
  omega
 | j + 8,h,_,_ => omega
theorem oct_mrg_3 {M h:Int} (hM:64 ≤ M) (h1:2 * h ≤ M) (h2:M ≤ 2 * h + 1) {X Y:Nat → Int} (x0:X 0 = M) (y0:Y 0 = -h) (x1:X 1 = M) (y1:Y 1 = h) (x2:X 2 = h) (y2:Y 2 = M) (x3:X 3 = -h) (y3:Y 3 = M) (x4:X 4 = -M) (y4:Y 4 = h) (x5:X 5 = -M) (y5:Y 5 = -h) (x6:X 6 = -h) (y6:Y 6 = -M) (x7:X 7 = h) (y7:Y 7 = -M):∀ j,j < 8 → j ≠ 3 → j ≠ 4 → 8 * M + 8 * M + 8 ≤ (X 4 - X 3) * (Y j - Y 3) - (Y 4 - Y 3) * (X j - X 3):=by
 have p1:64 * M ≤ M * M:=Int.mul_le_mul_of_nonneg_right hM (by omega)
 have q1:(2 * h) * M ≤ M * M:=Int.mul_le_mul_of_nonneg_right h1 (by omega)
 have q2:M * M ≤ (2 * h + 1) * M:=Int.mul_le_mul_of_nonneg_right h2 (by omega)
 have q3:h * (2 * h) ≤ h * M:=Int.mul_le_mul_of_nonneg_left h1 (by omega)
 have q4:h * M ≤ h * (2 * h + 1):=Int.mul_le_mul_of_nonneg_left h2 (by omega)
 have q5:32 * h ≤ h * h:=Int.mul_le_mul_of_nonneg_right (by omega) (by omega)
 rw [Int.mul_assoc] at q1
 rw [Int.add_mul,Int.mul_assoc,Int.one_mul] at q2
 rw [Int.mul_left_comm] at q3
 rw [Int.mul_add,Int.mul_left_comm,Int.mul_one] at q4
 intro j hj k1 k2
 match j,hj,k1,k2 with
 | 0,_,_,_ =>
  rw [x3,y3,x4,y4,x0,y0]
  simp only [Int.sub_mul,Int.mul_sub,Int.add_mul,Int.mul_add,Int.neg_mul,Int.mul_neg,Int.zero_mul,Int.mul_zero,Int.neg_neg,Int.mul_comm M h]
  omega
 | 1,_,_,_ =>
  rw [x3,y3,x4,y4,x1,y1]
  simp only [Int.sub_mul,Int.mul_sub,Int.add_mul,Int.mul_add,Int.neg_mul,Int.mul_neg,Int.zero_mul,Int.mul_zero,Int.neg_neg,Int.mul_comm M h]
  omega
 | 2,_,_,_ =>
  rw [x3,y3,x4,y4,x2,y2]
  simp only [Int.sub_mul,Int.mul_sub,Int.add_mul,Int.mul_add,Int.neg_mul,Int.mul_neg,Int.zero_mul,Int.mul_zero,Int.neg_neg,Int.mul_comm M h]
  omega
 | 3,_,k1,_ => exact absurd rfl k1
 | 4,_,_,k2 => exact absurd rfl k2
 | 5,_,_,_ =>
  rw [x3,y3,x4,y4,x5,y5]
  simp only [Int.sub_mul,Int.mul_sub,Int.add_mul,Int.mul_add,Int.neg_mul,Int.mul_neg,Int.zero_mul,Int.mul_zero,Int.neg_neg,Int.mul_comm M h]
  omega
 | 6,_,_,_ =>
  rw [x3,y3,x4,y4,x6,y6]
  simp only [Int.sub_mul,Int.mul_sub,Int.add_mul,Int.mul_add,Int.neg_mul,Int.mul_neg,Int.zero_mul,Int.mul_zero,Int.neg_neg,Int.mul_comm M h]
  omega
 | 7,_,_,_ =>
  rw [x3,y3,x4,y4,x7,y7]
  simp only [Int.sub_mul,Int.mul_sub,Int.add_mul,Int.mul_add,Int.neg_mul,Int.mul_neg,Int.zero_mul,Int.mul_zero,Int.neg_neg,Int.mul_comm M h]
  omega
 | j + 8,h,_,_ => omega
theorem oct_mrg_4 {M h:Int} (hM:64 ≤ M) (h1:2 * h ≤ M) (h2:M ≤ 2 * h + 1) {X Y:Nat → Int} (x0:X 0 = M) (y0:Y 0 = -h) (x1:X 1 = M) (y1:Y 1 = h) (x2:X 2 = h) (y2:Y 2 = M) (x3:X 3 = -h) (y3:Y 3 = M) (x4:X 4 = -M) (y4:Y 4 = h) (x5:X 5 = -M) (y5:Y 5 = -h) (x6:X 6 = -h) (y6:Y 6 = -M) (x7:X 7 = h) (y7:Y 7 = -M):∀ j,j < 8 → j ≠ 4 → j ≠ 5 → 8 * M + 8 * M + 8 ≤ (X 5 - X 4) * (Y j - Y 4) - (Y 5 - Y 4) * (X j - X 4):=by
 have p1:64 * M ≤ M * M:=Int.mul_le_mul_of_nonneg_right hM (by omega)
 have q1:(2 * h) * M ≤ M * M:=Int.mul_le_mul_of_nonneg_right h1 (by omega)
 have q2:M * M ≤ (2 * h + 1) * M:=Int.mul_le_mul_of_nonneg_right h2 (by omega)
 have q3:h * (2 * h) ≤ h * M:=Int.mul_le_mul_of_nonneg_left h1 (by omega)
 have q4:h * M ≤ h * (2 * h + 1):=Int.mul_le_mul_of_nonneg_left h2 (by omega)
 have q5:32 * h ≤ h * h:=Int.mul_le_mul_of_nonneg_right (by omega) (by omega)
 rw [Int.mul_assoc] at q1
 rw [Int.add_mul,Int.mul_assoc,Int.one_mul] at q2
 rw [Int.mul_left_comm] at q3
 rw [Int.mul_add,Int.mul_left_comm,Int.mul_one] at q4
 intro j hj k1 k2
 match j,hj,k1,k2 with
 | 0,_,_,_ =>
  rw [x4,y4,x5,y5,x0,y0]
  simp only [Int.sub_mul,Int.mul_sub,Int.add_mul,Int.mul_add,Int.neg_mul,Int.mul_neg,Int.zero_mul,Int.mul_zero,Int.neg_neg,Int.mul_comm M h]
  omega
 | 1,_,_,_ =>
  rw [x4,y4,x5,y5,x1,y1]
  simp only [Int.sub_mul,Int.mul_sub,Int.add_mul,Int.mul_add,Int.neg_mul,Int.mul_neg,Int.zero_mul,Int.mul_zero,Int.neg_neg,Int.mul_comm M h]
  omega
 | 2,_,_,_ =>
  rw [x4,y4,x5,y5,x2,y2]
  simp only [Int.sub_mul,Int.mul_sub,Int.add_mul,Int.mul_add,Int.neg_mul,Int.mul_neg,Int.zero_mul,Int.mul_zero,Int.neg_neg,Int.mul_comm M h]
  omega
 | 3,_,_,_ =>
  rw [x4,y4,x5,y5,x3,y3]
  simp only [Int.sub_mul,Int.mul_sub,Int.add_mul,Int.mul_add,Int.neg_mul,Int.mul_neg,Int.zero_mul,Int.mul_zero,Int.neg_neg,Int.mul_comm M h]
  omega
 | 4,_,k1,_ => exact absurd rfl k1
 | 5,_,_,k2 => exact absurd rfl k2
 | 6,_,_,_ =>
  rw [x4,y4,x5,y5,x6,y6]
  simp only [Int.sub_mul,Int.mul_sub,Int.add_mul,Int.mul_add,Int.neg_mul,Int.mul_neg,Int.zero_mul,Int.mul_zero,Int.neg_neg,Int.mul_comm M h]
  omega
 | 7,_,_,_ =>
  rw [x4,y4,x5,y5,x7,y7]
  simp only [Int.sub_mul,Int.mul_sub,Int.add_mul,Int.mul_add,Int.neg_mul,Int.mul_neg,Int.zero_mul,Int.mul_zero,Int.neg_neg,Int.mul_comm M h]
  omega
 | j + 8,h,_,_ => omega
theorem oct_mrg_5 {M h:Int} (hM:64 ≤ M) (h1:2 * h ≤ M) (h2:M ≤ 2 * h + 1) {X Y:Nat → Int} (x0:X 0 = M) (y0:Y 0 = -h) (x1:X 1 = M) (y1:Y 1 = h) (x2:X 2 = h) (y2:Y 2 = M) (x3:X 3 = -h) (y3:Y 3 = M) (x4:X 4 = -M) (y4:Y 4 = h) (x5:X 5 = -M) (y5:Y 5 = -h) (x6:X 6 = -h) (y6:Y 6 = -M) (x7:X 7 = h) (y7:Y 7 = -M):∀ j,j < 8 → j ≠ 5 → j ≠ 6 → 8 * M + 8 * M + 8 ≤ (X 6 - X 5) * (Y j - Y 5) - (Y 6 - Y 5) * (X j - X 5):=by
 have p1:64 * M ≤ M * M:=Int.mul_le_mul_of_nonneg_right hM (by omega)
 have q1:(2 * h) * M ≤ M * M:=Int.mul_le_mul_of_nonneg_right h1 (by omega)
 have q2:M * M ≤ (2 * h + 1) * M:=Int.mul_le_mul_of_nonneg_right h2 (by omega)
 have q3:h * (2 * h) ≤ h * M:=Int.mul_le_mul_of_nonneg_left h1 (by omega)
 have q4:h * M ≤ h * (2 * h + 1):=Int.mul_le_mul_of_nonneg_left h2 (by omega)
 have q5:32 * h ≤ h * h:=Int.mul_le_mul_of_nonneg_right (by omega) (by omega)
 rw [Int.mul_assoc] at q1
 rw [Int.add_mul,Int.mul_assoc,Int.one_mul] at q2
 rw [Int.mul_left_comm] at q3
 rw [Int.mul_add,Int.mul_left_comm,Int.mul_one] at q4
 intro j hj k1 k2
 match j,hj,k1,k2 with
 | 0,_,_,_ =>
  rw [x5,y5,x6,y6,x0,y0]
  simp only [Int.sub_mul,Int.mul_sub,Int.add_mul,Int.mul_add,Int.neg_mul,Int.mul_neg,Int.zero_mul,Int.mul_zero,Int.neg_neg,Int.mul_comm M h]
  omega
 | 1,_,_,_ =>
  rw [x5,y5,x6,y6,x1,y1]
  simp only [Int.sub_mul,Int.mul_sub,Int.add_mul,Int.mul_add,Int.neg_mul,Int.mul_neg,Int.zero_mul,Int.mul_zero,Int.neg_neg,Int.mul_comm M h]
  omega
 | 2,_,_,_ =>
  rw [x5,y5,x6,y6,x2,y2]
  simp only [Int.sub_mul,Int.mul_sub,Int.add_mul,Int.mul_add,Int.neg_mul,Int.mul_neg,Int.zero_mul,Int.mul_zero,Int.neg_neg,Int.mul_comm M h]
  omega
 | 3,_,_,_ =>
  rw [x5,y5,x6,y6,x3,y3]
  simp only [Int.sub_mul,Int.mul_sub,Int.add_mul,Int.mul_add,Int.neg_mul,Int.mul_neg,Int.zero_mul,Int.mul_zero,Int.neg_neg,Int.mul_comm M h]
  omega
 | 4,_,_,_ =>
  rw [x5,y5,x6,y6,x4,y4]
  simp only [Int.sub_mul,Int.mul_sub,Int.add_mul,Int.mul_add,Int.neg_mul,Int.mul_neg,Int.zero_mul,Int.mul_zero,Int.neg_neg,Int.mul_comm M h]
  omega
 | 5,_,k1,_ => exact absurd rfl k1
 | 6,_,_,k2 => exact absurd rfl k2
 | 7,_,_,_ =>
  rw [x5,y5,x6,y6,x7,y7]
  simp only [Int.sub_mul,Int.mul_sub,Int.add_mul,Int.mul_add,Int.neg_mul,Int.mul_neg,Int.zero_mul,Int.mul_zero,Int.neg_neg,Int.mul_comm M h]
  omega
 | j + 8,h,_,_ => omega
theorem oct_mrg_6 {M h:Int} (hM:64 ≤ M) (h1:2 * h ≤ M) (h2:M ≤ 2 * h + 1) {X Y:Nat → Int} (x0:X 0 = M) (y0:Y 0 = -h) (x1:X 1 = M) (y1:Y 1 = h) (x2:X 2 = h) (y2:Y 2 = M) (x3:X 3 = -h) (y3:Y 3 = M) (x4:X 4 = -M) (y4:Y 4 = h) (x5:X 5 = -M) (y5:Y 5 = -h) (x6:X 6 = -h) (y6:Y 6 = -M) (x7:X 7 = h) (y7:Y 7 = -M):∀ j,j < 8 → j ≠ 6 → j ≠ 7 → 8 * M + 8 * M + 8 ≤ (X 7 - X 6) * (Y j - Y 6) - (Y 7 - Y 6) * (X j - X 6):=by
 have p1:64 * M ≤ M * M:=Int.mul_le_mul_of_nonneg_right hM (by omega)
 have q1:(2 * h) * M ≤ M * M:=Int.mul_le_mul_of_nonneg_right h1 (by omega)
 have q2:M * M ≤ (2 * h + 1) * M:=Int.mul_le_mul_of_nonneg_right h2 (by omega)
 have q3:h * (2 * h) ≤ h * M:=Int.mul_le_mul_of_nonneg_left h1 (by omega)
 have q4:h * M ≤ h * (2 * h + 1):=Int.mul_le_mul_of_nonneg_left h2 (by omega)
 have q5:32 * h ≤ h * h:=Int.mul_le_mul_of_nonneg_right (by omega) (by omega)
 rw [Int.mul_assoc] at q1
 rw [Int.add_mul,Int.mul_assoc,Int.one_mul] at q2
 rw [Int.mul_left_comm] at q3
 rw [Int.mul_add,Int.mul_left_comm,Int.mul_one] at q4
 intro j hj k1 k2
 match j,hj,k1,k2 with
 | 0,_,_,_ =>
  rw [x6,y6,x7,y7,x0,y0]
  simp only [Int.sub_mul,Int.mul_sub,Int.add_mul,Int.mul_add,Int.neg_mul,Int.mul_neg,Int.zero_mul,Int.mul_zero,Int.neg_neg,Int.mul_comm M h]
  omega
 | 1,_,_,_ =>
  rw [x6,y6,x7,y7,x1,y1]
  simp only [Int.sub_mul,Int.mul_sub,Int.add_mul,Int.mul_add,Int.neg_mul,Int.mul_neg,Int.zero_mul,Int.mul_zero,Int.neg_neg,Int.mul_comm M h]
  omega
 | 2,_,_,_ =>
  rw [x6,y6,x7,y7,x2,y2]
  simp only [Int.sub_mul,Int.mul_sub,Int.add_mul,Int.mul_add,Int.neg_mul,Int.mul_neg,Int.zero_mul,Int.mul_zero,Int.neg_neg,Int.mul_comm M h]
  omega
 | 3,_,_,_ =>
  rw [x6,y6,x7,y7,x3,y3]
  simp only [Int.sub_mul,Int.mul_sub,Int.add_mul,Int.mul_add,Int.neg_mul,Int.mul_neg,Int.zero_mul,Int.mul_zero,Int.neg_neg,Int.mul_comm M h]
  omega
 | 4,_,_,_ =>
  rw [x6,y6,x7,y7,x4,y4]
  simp only [Int.sub_mul,Int.mul_sub,Int.add_mul,Int.mul_add,Int.neg_mul,Int.mul_neg,Int.zero_mul,Int.mul_zero,Int.neg_neg,Int.mul_comm M h]
  omega
 | 5,_,_,_ =>
  rw [x6,y6,x7,y7,x5,y5]
  simp only [Int.sub_mul,Int.mul_sub,Int.add_mul,Int.mul_add,Int.neg_mul,Int.mul_neg,Int.zero_mul,Int.mul_zero,Int.neg_neg,Int.mul_comm M h]
  omega
 | 6,_,k1,_ => exact absurd rfl k1
 | 7,_,_,k2 => exact absurd rfl k2
 | j + 8,h,_,_ => omega
theorem oct_mrg_7 {M h:Int} (hM:64 ≤ M) (h1:2 * h ≤ M) (h2:M ≤ 2 * h + 1) {X Y:Nat → Int} (x0:X 0 = M) (y0:Y 0 = -h) (x1:X 1 = M) (y1:Y 1 = h) (x2:X 2 = h) (y2:Y 2 = M) (x3:X 3 = -h) (y3:Y 3 = M) (x4:X 4 = -M) (y4:Y 4 = h) (x5:X 5 = -M) (y5:Y 5 = -h) (x6:X 6 = -h) (y6:Y 6 = -M) (x7:X 7 = h) (y7:Y 7 = -M):∀ j,j < 8 → j ≠ 7 → j ≠ 0 → 8 * M + 8 * M + 8 ≤ (X 0 - X 7) * (Y j - Y 7) - (Y 0 - Y 7) * (X j - X 7):=by
 have p1:64 * M ≤ M * M:=Int.mul_le_mul_of_nonneg_right hM (by omega)
 have q1:(2 * h) * M ≤ M * M:=Int.mul_le_mul_of_nonneg_right h1 (by omega)
 have q2:M * M ≤ (2 * h + 1) * M:=Int.mul_le_mul_of_nonneg_right h2 (by omega)
 have q3:h * (2 * h) ≤ h * M:=Int.mul_le_mul_of_nonneg_left h1 (by omega)
 have q4:h * M ≤ h * (2 * h + 1):=Int.mul_le_mul_of_nonneg_left h2 (by omega)
 have q5:32 * h ≤ h * h:=Int.mul_le_mul_of_nonneg_right (by omega) (by omega)
 rw [Int.mul_assoc] at q1
 rw [Int.add_mul,Int.mul_assoc,Int.one_mul] at q2
 rw [Int.mul_left_comm] at q3
 rw [Int.mul_add,Int.mul_left_comm,Int.mul_one] at q4
 intro j hj k1 k2
 match j,hj,k1,k2 with
 | 0,_,_,k2 => exact absurd rfl k2
 | 1,_,_,_ =>
  rw [x7,y7,x0,y0,x1,y1]
  simp only [Int.sub_mul,Int.mul_sub,Int.add_mul,Int.mul_add,Int.neg_mul,Int.mul_neg,Int.zero_mul,Int.mul_zero,Int.neg_neg,Int.mul_comm M h]
  omega
 | 2,_,_,_ =>
  rw [x7,y7,x0,y0,x2,y2]
  simp only [Int.sub_mul,Int.mul_sub,Int.add_mul,Int.mul_add,Int.neg_mul,Int.mul_neg,Int.zero_mul,Int.mul_zero,Int.neg_neg,Int.mul_comm M h]
  omega
 | 3,_,_,_ =>
  rw [x7,y7,x0,y0,x3,y3]
  simp only [Int.sub_mul,Int.mul_sub,Int.add_mul,Int.mul_add,Int.neg_mul,Int.mul_neg,Int.zero_mul,Int.mul_zero,Int.neg_neg,Int.mul_comm M h]
  omega
 | 4,_,_,_ =>
  rw [x7,y7,x0,y0,x4,y4]
  simp only [Int.sub_mul,Int.mul_sub,Int.add_mul,Int.mul_add,Int.neg_mul,Int.mul_neg,Int.zero_mul,Int.mul_zero,Int.neg_neg,Int.mul_comm M h]
  omega
 | 5,_,_,_ =>
  rw [x7,y7,x0,y0,x5,y5]
  simp only [Int.sub_mul,Int.mul_sub,Int.add_mul,Int.mul_add,Int.neg_mul,Int.mul_neg,Int.zero_mul,Int.mul_zero,Int.neg_neg,Int.mul_comm M h]
  omega
 | 6,_,_,_ =>
  rw [x7,y7,x0,y0,x6,y6]
  simp only [Int.sub_mul,Int.mul_sub,Int.add_mul,Int.mul_add,Int.neg_mul,Int.mul_neg,Int.zero_mul,Int.mul_zero,Int.neg_neg,Int.mul_comm M h]
  omega
 | 7,_,k1,_ => exact absurd rfl k1
 | j + 8,h,_,_ => omega
theorem oct_mrg {M h:Int} (hM:64 ≤ M) (h1:2 * h ≤ M) (h2:M ≤ 2 * h + 1) {X Y:Nat → Int} (x0:X 0 = M) (y0:Y 0 = -h) (x1:X 1 = M) (y1:Y 1 = h) (x2:X 2 = h) (y2:Y 2 = M) (x3:X 3 = -h) (y3:Y 3 = M) (x4:X 4 = -M) (y4:Y 4 = h) (x5:X 5 = -M) (y5:Y 5 = -h) (x6:X 6 = -h) (y6:Y 6 = -M) (x7:X 7 = h) (y7:Y 7 = -M):mrg 8 X Y:=by
 have B:=oct_mrgB (X:=X) (Y:=Y) hM h1 h2 x0 y0 x1 y1 x2 y2 x3 y3 x4 y4 x5 y5 x6 y6 x7 y7
 intro i hi j hj k1 k2
 refine mg_of (D:=M) (E:=M) (B i hi).1 (B i hi).2 (B _ (nxt_lt hi)).1 (B _ (nxt_lt hi)).2 (B j hj).1 (B j hj).2 ?_
 match i,hi,k1,k2 with
 | 0,_,k1,k2 => exact oct_mrg_0 hM h1 h2 x0 y0 x1 y1 x2 y2 x3 y3 x4 y4 x5 y5 x6 y6 x7 y7 j hj k1 k2
 | 1,_,k1,k2 => exact oct_mrg_1 hM h1 h2 x0 y0 x1 y1 x2 y2 x3 y3 x4 y4 x5 y5 x6 y6 x7 y7 j hj k1 k2
 | 2,_,k1,k2 => exact oct_mrg_2 hM h1 h2 x0 y0 x1 y1 x2 y2 x3 y3 x4 y4 x5 y5 x6 y6 x7 y7 j hj k1 k2
 | 3,_,k1,k2 => exact oct_mrg_3 hM h1 h2 x0 y0 x1 y1 x2 y2 x3 y3 x4 y4 x5 y5 x6 y6 x7 y7 j hj k1 k2
 | 4,_,k1,k2 => exact oct_mrg_4 hM h1 h2 x0 y0 x1 y1 x2 y2 x3 y3 x4 y4 x5 y5 x6 y6 x7 y7 j hj k1 k2
 | 5,_,k1,k2 => exact oct_mrg_5 hM h1 h2 x0 y0 x1 y1 x2 y2 x3 y3 x4 y4 x5 y5 x6 y6 x7 y7 j hj k1 k2
 | 6,_,k1,k2 => exact oct_mrg_6 hM h1 h2 x0 y0 x1 y1 x2 y2 x3 y3 x4 y4 x5 y5 x6 y6 x7 y7 j hj k1 k2
 | 7,_,k1,k2 => exact oct_mrg_7 hM h1 h2 x0 y0 x1 y1 x2 y2 x3 y3 x4 y4 x5 y5 x6 y6 x7 y7 j hj k1 k2
 | i + 8,h,_,_ => omega
end Go.Ax
end
section
/-
  Forms made of numbers are sound.
-/
set_option maxHeartbeats 4000000
set_option maxRecDepth 100000
namespace Go.Ax
open Go.Proofs
theorem mk_mrg {a b c:Int} (hk:¬ mkK a = 1):mrg (corN (mkK a) (mkR a b) (mkH a b b) (mkH a b c) (mkN a) (mkX a b c) (mkY a b c)) (corX (mkK a) (mkH a b b) (mkH a b c) (mkX a b c)) (corY (mkK a) (mkH a b b) (mkH a b c) (mkY a b c)):=by
 have b1:=@mkM_bd b b
 have b2:=@mkM_bd b c
 have t1:(mkM b b).tdiv 2 = mkM b b / 2:=Int.tdiv_eq_ediv_of_nonneg (by omega)
 have t2:(-mkM b b).tdiv 2 = -(mkM b b / 2):=by rw [Int.neg_tdiv,t1]
 have k0:¬ modS a 5 = 0:=fun h => hk (if_pos h)
 unfold corN
 rw [if_pos mk_chk]
 by_cases k1:modS a 5 = 1
 ·have e1:mkK a = 2:=(if_neg k0).trans (if_pos k1)
  have e2:∀ v,mkH a b v = mkW b v:=fun v => (if_neg k0).trans (if_pos k1)
  have w1:=@mkW_bd b b
  have w2:=@mkW_bd b c
  rw [e1,e2,e2,if_pos rfl]
  exact box_mrg (w:=mkW b b) (t:=mkW b c) w1.1 w2.1 rfl rfl rfl rfl rfl rfl rfl rfl
 have h1:mkK a = 3:=(if_neg k0).trans (if_neg k1)
 rw [h1,if_neg (by decide)]
 have eX:corX 3 (mkH a b b) (mkH a b c) (mkX a b c) = mkX a b c:=funext fun i => if_neg (by decide)
 have eY:corY 3 (mkH a b b) (mkH a b c) (mkY a b c) = mkY a b c:=funext fun i => if_neg (by decide)
 rw [eX,eY]
 by_cases k2:modS a 5 = 2
 ·rw [show mkN a = 3 from by unfold mkN; rw [if_neg k0,if_neg k1,if_pos k2]]
  refine tri_mrg (M:=mkM b b) (T:=mkM b c) (by omega) (by omega) ?_ ?_ ?_ ?_ ?_ ?_ <;> (first | unfold mkX | unfold mkY) <;> unfold mkP <;> rw [if_pos k2] <;> rfl
 by_cases k3:modS a 5 = 3
 ·rw [show mkN a = 5 from by unfold mkN; rw [if_neg k0,if_neg k1,if_neg k2,if_pos k3]]
  refine pen_mrg (M:=mkM b b) (T:=mkM b c) (h:=mkM b b / 2) (by omega) (by omega) (by omega) (by omega) ?_ ?_ ?_ ?_ ?_ ?_ ?_ ?_ ?_ ?_ <;> (first | unfold mkX | unfold mkY) <;> unfold mkP <;> rw [if_neg k2,if_pos k3,t1,t2] <;> rfl
 ·rw [show mkN a = 8 from by unfold mkN; rw [if_neg k0,if_neg k1,if_neg k2,if_neg k3]]
  refine oct_mrg (M:=mkM b b) (h:=mkM b b / 2) (by omega) (by omega) (by omega) ?_ ?_ ?_ ?_ ?_ ?_ ?_ ?_ ?_ ?_ ?_ ?_ ?_ ?_ ?_ ?_ <;> (first | unfold mkX | unfold mkY) <;> unfold mkP <;> rw [if_neg k2,if_neg k3,t1,t2] <;> rfl
theorem mk_corN {a b c:Int} (hk:¬ mkK a = 1):3 ≤ corN (mkK a) (mkR a b) (mkH a b b) (mkH a b c) (mkN a) (mkX a b c) (mkY a b c) ∧ corN (mkK a) (mkR a b) (mkH a b b) (mkH a b c) (mkN a) (mkX a b c) (mkY a b c) ≤ 8:=by
 have k0:¬ modS a 5 = 0:=fun h => hk (if_pos h)
 unfold corN
 rw [if_pos mk_chk]
 by_cases k1:modS a 5 = 1
 ·have e1:mkK a = 2:=(if_neg k0).trans (if_pos k1)
  rw [if_pos e1]; omega
 have h1:mkK a = 3:=(if_neg k0).trans (if_neg k1)
 rw [if_neg (by omega)]
 unfold mkN
 rw [if_neg k0,if_neg k1]
 (repeat' split) <;> omega
theorem spV_bd {a:Int} (h:-17179869184000 ≤ a ∧ a ≤ 17179869184000):-1024001 ≤ spV (a,false) ∧ spV (a,false) ≤ 1024001:=by
 rw [spV_in (by omega)]
 omega
theorem mk_form {a b c x y u s:Int} (hs:1 ≤ s ∧ s ≤ 4000) :
  checkS (plK (mkK a) (mkR a b) (mkH a b b) (mkH a b c) (mkN a) (mkX a b c) (mkY a b c) (foAt x y s) (foRot u)) (plC (mkK a) (mkR a b) (mkH a b b) (mkH a b c) (mkN a) (mkX a b c) (mkY a b c) (foAt x y s) (foRot u) (foAt x y s).1) (plC (mkK a) (mkR a b) (mkH a b b) (mkH a b c) (mkN a) (mkX a b c) (mkY a b c) (foAt x y s) (foRot u) (foAt x y s).2)
   (plR (mkK a) (mkR a b) (mkH a b b) (mkH a b c) (mkN a) (mkX a b c) (mkY a b c) (foAt x y s) (foRot u)) (plN (mkK a) (mkR a b) (mkH a b b) (mkH a b c) (mkN a) (mkX a b c) (mkY a b c) (foAt x y s) (foRot u))
   (plX (mkK a) (mkH a b b) (mkH a b c) (mkX a b c) (mkY a b c) (foAt x y s) (foRot u)) (plY (mkK a) (mkH a b b) (mkH a b c) (mkX a b c) (mkY a b c) (foAt x y s) (foRot u)) = 0:=by
 have hp:=@mk_place a b c x y u s hs
 have h1:=@foAt_bd x s hs
 have h2:=@foAt_bd y s hs
 have w1:=@mkW_bd b b
 have s1:=spV_bd h1
 have s2:=spV_bd h2
 unfold plK plC plR plN
 rw [if_pos hp,if_pos hp,if_pos hp,if_pos hp,if_pos hp]
 have v0:validS (spV (foAt x y s).1) (spV (foAt x y s).2) = true:=by
  rw [validS_iff]
  show -2097152 ≤ spV (x.tmod (s * 4294967296),false) ∧ _ ∧ -2097152 ≤ spV (y.tmod (s * 4294967296),false) ∧ spV (y.tmod (s * 4294967296),false) ≤ 2097152
  exact ⟨by omega,by show spV (x.tmod (s * 4294967296),false) ≤ _; omega,by omega,by omega⟩
 by_cases hk:mkK a = 1
 ·have k0:modS a 5 = 0:=by
   unfold mkK at hk
   split at hk
   ·assumption
   ·split at hk <;> omega
  have r1:mkR a b = mkW b b:=if_pos k0
  rw [if_pos hk,if_pos hk,r1]
  unfold checkS
  rw [if_neg (by omega),if_neg (fun q => q ⟨v0,fun i hi => absurd hi (by omega)⟩),if_pos rfl]
  have hb:checkBoxS (spV (foAt x y s).1 - mkW b b) (spV (foAt x y s).2 - mkW b b) (spV (foAt x y s).1 + mkW b b) (spV (foAt x y s).2 + mkW b b) = 0:=by
   have g1:-1024001 ≤ spV (foAt x y s).1 ∧ spV (foAt x y s).1 ≤ 1024001:=s1
   have g2:-1024001 ≤ spV (foAt x y s).2 ∧ spV (foAt x y s).2 ≤ 1024001:=s2
   unfold checkBoxS
   rw [if_pos ⟨validS_iff.2 (by omega),validS_iff.2 (by omega)⟩,if_neg (by omega)]
  rw [if_neg (fun q => by rw [hb] at q; omega),if_neg (by omega)]
 ·have hN:=@mk_corN a b c hk
  have r1:mkR a b = 0:=if_neg fun h => hk (if_pos h)
  have hcv:convexS (corN (mkK a) (mkR a b) (mkH a b b) (mkH a b c) (mkN a) (mkX a b c) (mkY a b c)) (plX (mkK a) (mkH a b b) (mkH a b c) (mkX a b c) (mkY a b c) (foAt x y s) (foRot u)) (plY (mkK a) (mkH a b b) (mkH a b c) (mkX a b c) (mkY a b c) (foAt x y s) (foRot u)) = true:=by
   obtain ⟨f1,f2,f3,f4,f5,f6⟩:=foRot_bd u
   have e:foRot u = (((foRot u).1.1,false),((foRot u).2.1,false)):=Prod.ext (Prod.ext rfl f1) (Prod.ext rfl f2)
   refine pl_cvx (ax:=x.tmod (s * 4294967296)) (ay:=y.tmod (s * 4294967296)) (c:=(foRot u).1.1) (s:=(foRot u).2.1) hN.1 (fun i hi => cor_lo i hi) (mk_mrg hk) h1 h2 f3 f4 (by omega) (by omega) (fun i hi => ?_) (fun i hi => ?_)
   ·show spV (plPt (foAt x y s) (foRot u) _ _).1 = _
    rw [← e]; rfl
   ·show spV (plPt (foAt x y s) (foRot u) _ _).2 = _
    rw [← e]; rfl
  rw [if_neg hk,if_neg hk,r1]
  rw [r1] at hcv hN
  have hvs:=(convexS_iff.1 hcv).2.1
  unfold checkS
  rw [if_neg (by omega),if_neg (fun q => q ⟨v0,hvs⟩),if_neg (by decide),if_neg (fun q => by rw [hcv] at q; rcases q with q | q | q <;> first | omega | exact absurd q (by decide))]
end Go.Ax
end
section
/-
  Made forms within 12 units are near, and not great.
-/
set_option maxHeartbeats 4000000
set_option maxRecDepth 100000
namespace Go.Ax
open Go.Proofs
theorem rot_bd {c s x y B:Int} (h2:c * c + s * s ≤ 18447025548686262272) (hB:0 ≤ B) (hx:-B ≤ x ∧ x ≤ B) (hy:-B ≤ y ∧ y ≤ B):-(6442450944 * B) ≤ c * x - s * y ∧ c * x - s * y ≤ 6442450944 * B:=by
 have hr:=rot_sum h2
 have a1:=ab_nonneg c
 have a2:=ab_nonneg s
 have l1:-ab c ≤ c ∧ c ≤ ab c:=by unfold ab; split <;> omega
 have l2:-ab s ≤ s ∧ s ≤ ab s:=by unfold ab; split <;> omega
 have m1:=mul_bd a1 l1 hx
 have m2:=mul_bd a2 l2 hy
 have e:(ab c + ab s) * B ≤ 6442450944 * B:=Int.mul_le_mul_of_nonneg_right hr hB
 rw [Int.add_mul] at e
 omega
theorem rot_bd' {c s x y B:Int} (h2:c * c + s * s ≤ 18447025548686262272) (hB:0 ≤ B) (hx:-B ≤ x ∧ x ≤ B) (hy:-B ≤ y ∧ y ≤ B):-(6442450944 * B) ≤ s * x + c * y ∧ s * x + c * y ≤ 6442450944 * B:=by
 have h:=@rot_bd s (-c) x y B (by rw [Int.neg_mul_neg]; omega) hB hx hy
 rw [Int.neg_mul] at h
 omega
theorem pl_near {n:Nat} {X Y:Nat → Int} {ax ay c s:Int} (hl:∀ i,i < n → lo (X i) ∧ lo (Y i)) (ha:-51539607552 ≤ ax ∧ ax ≤ 51539607552) (ha2:-51539607552 ≤ ay ∧ ay ≤ 51539607552)
  (hc:-4294967296 ≤ c ∧ c ≤ 4294967296) (hs:-4294967296 ≤ s ∧ s ≤ 4294967296) (h2:c * c + s * s ≤ 18447025548686262272) {Z T:Nat → Int}
  (hZ:∀ i,i < n → Z i = spV (plPt ((ax,false),(ay,false)) ((c,false),(s,false)) (X i) (Y i)).1) (hT:∀ i,i < n → T i = spV (plPt ((ax,false),(ay,false)) ((c,false),(s,false)) (X i) (Y i)).2):sml n Z T ∧ wid n Z T:=by
 have hE:∀ i,i < n → (∃ d,4294967296 * Z i = 256 * ax + (c * X i - s * Y i) + d ∧ ab d ≤ 2147483904) ∧ (∃ d,4294967296 * T i = 256 * ay + (s * X i + c * Y i) + d ∧ ab d ≤ 2147483904):=fun i hi => by
  rw [hZ i hi,hT i hi]
  exact pl_err (by omega) (by omega) hc hs (hl i hi).1 (hl i hi).2
 have al:∀ d:Int,-ab d ≤ d ∧ d ≤ ab d:=fun d => by unfold ab; split <;> omega
 refine ⟨fun i hi => ?_,fun i hi j hj => ?_⟩
 ·obtain ⟨⟨d,q1,q2⟩,⟨g,q3,q4⟩⟩:=hE i hi
  obtain ⟨hx,hy⟩:=hl i hi
  unfold lo at hx hy
  have r1:=rot_bd (B:=4096) (x:=X i) (y:=Y i) h2 (by omega) (by omega) (by omega)
  have r2:=rot_bd' (B:=4096) (x:=X i) (y:=Y i) h2 (by omega) (by omega) (by omega)
  have a1:=al d
  have a2:=al g
  omega
 ·obtain ⟨⟨d,q1,q2⟩,⟨g,q3,q4⟩⟩:=hE i hi
  obtain ⟨⟨d',q5,q6⟩,⟨g',q7,q8⟩⟩:=hE j hj
  obtain ⟨hx,hy⟩:=hl i hi
  obtain ⟨hx',hy'⟩:=hl j hj
  unfold lo at hx hy hx' hy'
  have r1:=rot_bd (B:=8192) (x:=X j - X i) (y:=Y j - Y i) h2 (by omega) (by omega) (by omega)
  have r2:=rot_bd' (B:=8192) (x:=X j - X i) (y:=Y j - Y i) h2 (by omega) (by omega) (by omega)
  have e1:c * (X j - X i) - s * (Y j - Y i) = (c * X j - s * Y j) - (c * X i - s * Y i):=by grind
  have e2:s * (X j - X i) + c * (Y j - Y i) = (s * X j + c * Y j) - (s * X i + c * Y i):=by grind
  rw [e1] at r1
  rw [e2] at r2
  have a1:=al d
  have a2:=al g
  have a3:=al d'
  have a4:=al g'
  omega
theorem foAt_bd12 {x:Int}:-51539607552 ≤ x.tmod (12 * 4294967296) ∧ x.tmod (12 * 4294967296) ≤ 51539607552:=by
 have h1:x.tmod (12 * 4294967296) < 12 * 4294967296:=Int.tmod_lt_of_pos x (by omega)
 have h2:-(12 * 4294967296) < x.tmod (12 * 4294967296):=Int.lt_tmod_of_pos x (by omega)
 omega
theorem spV_bd12 {a:Int} (h:-51539607552 ≤ a ∧ a ≤ 51539607552):-12000 ≤ spV (a,false) ∧ spV (a,false) ≤ 12000:=by
 rw [spV_in (by omega)]
 omega
theorem mk_near {a b c x y u:Int}:nearF (plK (mkK a) (mkR a b) (mkH a b b) (mkH a b c) (mkN a) (mkX a b c) (mkY a b c) (foAt x y 12) (foRot u)) (plC (mkK a) (mkR a b) (mkH a b b) (mkH a b c) (mkN a) (mkX a b c) (mkY a b c) (foAt x y 12) (foRot u) (foAt x y 12).1) (plC (mkK a) (mkR a b) (mkH a b b) (mkH a b c) (mkN a) (mkX a b c) (mkY a b c) (foAt x y 12) (foRot u) (foAt x y 12).2)
   (plR (mkK a) (mkR a b) (mkH a b b) (mkH a b c) (mkN a) (mkX a b c) (mkY a b c) (foAt x y 12) (foRot u)) (plN (mkK a) (mkR a b) (mkH a b b) (mkH a b c) (mkN a) (mkX a b c) (mkY a b c) (foAt x y 12) (foRot u))
   (plX (mkK a) (mkH a b b) (mkH a b c) (mkX a b c) (mkY a b c) (foAt x y 12) (foRot u)) (plY (mkK a) (mkH a b b) (mkH a b c) (mkX a b c) (mkY a b c) (foAt x y 12) (foRot u)):=by
 have hp:=@mk_place a b c x y u 12 (by omega)
 have h1:=@foAt_bd12 x
 have h2:=@foAt_bd12 y
 have w1:=@mkW_bd b b
 unfold nearF plC plR plN
 rw [if_pos hp,if_pos hp,if_pos hp,if_pos hp]
 refine ⟨spV_bd12 h1,spV_bd12 h2,?_,?_⟩
 ·unfold mkR
  split <;> omega
 ·by_cases hk:mkK a = 1
  ·rw [if_pos hk]
   exact ⟨fun i hi => absurd hi (by omega),fun i hi => absurd hi (by omega)⟩
  ·rw [if_neg hk]
   obtain ⟨f1,f2,f3,f4,f5,f6⟩:=foRot_bd u
   have e:foRot u = (((foRot u).1.1,false),((foRot u).2.1,false)):=Prod.ext (Prod.ext rfl f1) (Prod.ext rfl f2)
   refine pl_near (ax:=x.tmod (12 * 4294967296)) (ay:=y.tmod (12 * 4294967296)) (c:=(foRot u).1.1) (s:=(foRot u).2.1) (fun i hi => cor_lo i hi) h1 h2 f3 f4 (by omega) (fun i hi => ?_) (fun i hi => ?_)
   ·show spV (plPt (foAt x y 12) (foRot u) _ _).1 = _
    rw [← e]; rfl
   ·show spV (plPt (foAt x y 12) (foRot u) _ _).2 = _
    rw [← e]; rfl
end Go.Ax
end
section
/-
  The order of two forms does not matter; no form is apart from itself.
-/
set_option maxHeartbeats 4000000
namespace Go.Ax
end Go.Ax
end
section
/-
  Two convex polygons that a line keeps apart are kept apart by the line of an edge.
-/
set_option maxHeartbeats 4000000
namespace Go.Ax
end Go.Ax
end
section
/-
  Forms whose boxes do not meet are apart.
-/
set_option maxHeartbeats 4000000
namespace Go.Ax
theorem box_ok {k x y r:Int} {n:Nat} {X Y:Nat → Int} (hA:checkS k x y r n X Y = 0):checkBoxS (boxS k x y r n X Y 0) (boxS k x y r n X Y 1) (boxS k x y r n X Y 2) (boxS k x y r n X Y 3) = 0:=by
 have cA:=check_1 hA
 by_cases hk:k = 1
 ·rw [boxS_disc hA hk,boxS_disc hA hk,boxS_disc hA hk,boxS_disc hA hk]
  exact (cA.2.2.2.1 hk).2.2.1
 ·rw [boxS_poly hA hk,boxS_poly hA hk,boxS_poly hA hk,boxS_poly hA hk]
  have hc:=convexS_iff.1 (cA.2.2.2.2 hk).2.2
  exact bx_valid (by omega) hc.2.1
end Go.Ax
end
section
/-
  SolidTouches: its body.
-/
set_option maxHeartbeats 4000000
set_option maxRecDepth 100000
namespace Go.Ax
open Go.Proofs
theorem fo_ok {a b c x y u s:Int} (hs:1 ≤ s ∧ s ≤ 4000):checkS (foK a b c x y u s) (foX a b c x y u s) (foY a b c x y u s) (foR a b c x y u s) (foN a b c x y u s) (foP a b c x y u s) (foQ a b c x y u s) = 0:=mk_form hs
section
variable {a b c x y u s:Int}
theorem spots_fo:(spots (foN a b c x y u s) fun i => [i64 (foP a b c x y u s i),i64 (foQ a b c x y u s i)]) = True:=eq_true fun l hl => ⟨rfl,spV_inR,spV_inR⟩
theorem foN_max:(foN a b c x y u s ≤ 9223372036854775806) = True:=eq_true (Nat.le_trans plN_le (by omega))
end
theorem bx_r {k x y r:Int} {n:Nat} {X Y:Nat → Int} (hA:checkS k x y r n X Y = 0):inR (boxS k x y r n X Y 0) ∧ inR (boxS k x y r n X Y 1) ∧ inR (boxS k x y r n X Y 2) ∧ inR (boxS k x y r n X Y 3):=by
 have:=checkBoxS_iff.1 (box_ok hA)
 unfold inR
 omega
theorem abs_one {L:Int} (h:4294967040 ≤ L ∧ L ≤ 4294967552):nAbs (nSub (L,false) (4294967296,false)) = (ab (L - 4294967296),false):=by
 unfold nSub
 dsimp only
 rw [whV_of (by unfold rg; omega),whV_of (by unfold rg; omega),whF_of (by unfold rg; omega),whF_of (by unfold rg; omega),ftV_of (by unfold rg; omega),ftF_of (by unfold rg; omega)]
 unfold nAbs
 dsimp only
 rw [whV_of (by unfold rg; omega),whF_of (by unfold rg; omega)]
 rfl
theorem vc5g (k x y r:Int) (n:Nat) (P Q:Nat → Int) (k' x' y' r':Int) (m:Nat) (Z T:Nat → Int) (A B C X Y U A' B' C' X' Y' U':Int) (h:inR A ∧ inR B ∧ inR C ∧ inR X ∧ inR Y ∧ inR U) (h':inR A' ∧ inR B' ∧ inR C' ∧ inR X' ∧ inR Y' ∧ inR U')
  (e1:c23 [.agg [i64 A,i64 B,i64 C,i64 X,i64 Y,i64 U],i64 12] = some ([inR A,inR B,inR C,inR X,inR Y,inR U,(1:Int) ≤ 12 ∧ (12:Int) ≤ 1000000],formA k x y r n fun i => [i64 (P i),i64 (Q i)]))
  (e2:c23 [.agg [i64 A',i64 B',i64 C',i64 X',i64 Y',i64 U'],i64 12] = some ([inR A',inR B',inR C',inR X',inR Y',inR U',(1:Int) ≤ 12 ∧ (12:Int) ≤ 1000000],formA k' x' y' r' m fun i => [i64 (Z i),i64 (T i)]))
  (hA:checkS k x y r n P Q = 0) (hB:checkS k' x' y' r' m Z T = 0) (nA:nearF k x y r n P Q) (nB:nearF k' x' y' r' m Z T) (hP:spots n fun i => [i64 (P i),i64 (Q i)]) (hZ:spots m fun i => [i64 (Z i),i64 (T i)]) (n1:n ≤ 9223372036854775806) (m1:m ≤ 9223372036854775806) (rx:inR x) (ry:inR y) (rr:inR r) (rx':inR x') (ry':inR y') (rr':inR r') :
  fnVC Tryz.prog [(23,c23),(19,c20),(24,c24),(16,c16),(27,k47),(26,k46),(25,k45),(12,c12),(29,c29),(28,c28),(30,k50),(32,k52),(31,c31),(13,c13)] [(1,⟨[(6,.made 4),(7,.made 5)],[]⟩),(10,⟨[(8,.made 7)],[]⟩),(16,⟨[(14,.made 13)],[]⟩)] Tryz.f5 [.agg [i64 A,i64 B,i64 C,i64 X,i64 Y,i64 U],.agg [i64 A',i64 B',i64 C',i64 X',i64 Y',i64 U']] (· = bo true):=by
 refine fnVC_go (rs:=[.tmp 4]) rfl rfl ?_
 obtain ⟨h0,h1,h2,h3,h4,h5⟩:=h
 obtain ⟨g0,g1,g2,g3,g4,g5⟩:=h'
 obtain ⟨a0,a1,a2,a3⟩:=bx_r hA
 obtain ⟨b0,b1,b2,b3⟩:=bx_r hB
 have htok:=fun q => clip_tok hA hB q nA nB
 have hcl:clipS k x y r n P Q k' x' y' r' m Z T = if apS k x y r n P Q k' x' y' r' m Z T = false then clipS k x y r n P Q k' x' y' r' m Z T else mf0:=by
  split
  ·rfl
  ·next q => exact if_neg (fun w => q w.2.2)
 have hcb:clipB k x y r n P Q k' x' y' r' m Z T = !apS k x y r n P Q k' x' y' r' m Z T:=by
  unfold clipB
  rw [Bool.eq_iff_iff,decide_eq_true_eq,Bool.not_eq_true']
  exact ⟨fun w => w.2.2,fun w => ⟨hA,hB,w⟩⟩
 have hin:=(clipS_in (k:=k) (x:=x) (y:=y) (r:=r) (n:=n) (X:=P) (Y:=Q) (k':=k') (x':=x') (y':=y') (r':=r') (m:=m) (Z:=Z) (T:=T))
 have hC:clipA k x y r n P Q k' x' y' r' m Z T = .tup [mfA (clipS k x y r n P Q k' x' y' r' m Z T),bo (clipB k x y r n P Q k' x' y' r' m Z T)]:=rfl
 rw [hcb] at hC
 obtain ⟨p,hp⟩:∃ p,apS k x y r n P Q k' x' y' r' m Z T = p:=⟨_,rfl⟩
 rw [hp] at htok hcl hC
 obtain ⟨M,hM⟩:∃ M,clipS k x y r n P Q k' x' y' r' m Z T = M:=⟨_,rfl⟩
 rw [hM] at htok hcl hC hin
 obtain ⟨⟨⟨v1,f1⟩,⟨v2,f2⟩⟩,q,MP,MD⟩:=M
 simp only [manC] at hC
 have c12A:c12 [formA k x y r n fun i => [i64 (P i),i64 (Q i)]] = some ([spots n fun i => [i64 (P i),i64 (Q i)],n ≤ 9223372036854775806,inR x,inR y,inR r],.agg [i64 (boxS k x y r n P Q 0),i64 (boxS k x y r n P Q 1),i64 (boxS k x y r n P Q 2),i64 (boxS k x y r n P Q 3)]):=rfl
 have c12B:c12 [formA k' x' y' r' m fun i => [i64 (Z i),i64 (T i)]] = some ([spots m fun i => [i64 (Z i),i64 (T i)],m ≤ 9223372036854775806,inR x',inR y',inR r'],.agg [i64 (boxS k' x' y' r' m Z T 0),i64 (boxS k' x' y' r' m Z T 1),i64 (boxS k' x' y' r' m Z T 2),i64 (boxS k' x' y' r' m Z T 3)]):=rfl
 have c24A:c24 [formA k x y r n fun i => [i64 (P i),i64 (Q i)],formA k' x' y' r' m fun i => [i64 (Z i),i64 (T i)]] = some ([spots n fun i => [i64 (P i),i64 (Q i)],spots m fun i => [i64 (Z i),i64 (T i)],n ≤ 9223372036854775806,m ≤ 9223372036854775806,inR x,inR y,inR r,inR x',inR y',inR r'],bo p):=by rw [← hp]; rfl
 have c20A:c20 [formA k x y r n fun i => [i64 (P i),i64 (Q i)],formA k' x' y' r' m fun i => [i64 (Z i),i64 (T i)]] = some ([spots n fun i => [i64 (P i),i64 (Q i)],spots m fun i => [i64 (Z i),i64 (T i)],n ≤ 9223372036854775806,m ≤ 9223372036854775806,inR x,inR y,inR r,inR x',inR y',inR r'],.tup [.agg [i64 v1,bo f1,i64 v2,bo f2,.ro q 6 (tchs MP MD)],bo (!p)]):=by rw [← hC]; rfl
 obtain ⟨d0,hd0⟩:∃ d,boxS k x y r n P Q = d:=⟨_,rfl⟩
 obtain ⟨d1,hd1⟩:∃ d,boxS k' x' y' r' m Z T = d:=⟨_,rfl⟩
 rw [hd0] at c12A htok a0 a1 a2 a3
 rw [hd1] at c12B htok b0 b1 b2 b3
 simp only [go_sem,forall_eq,forall_eq_apply_imp_iff,e1,e2,c20A,c24A,c12A,c12B,h0,h1,h2,h3,h4,h5,g0,g1,g2,g3,g4,g5,hP,hZ,n1,m1,rx,ry,rr,rx',ry',rr',c29,c28,k45,k46,k47,k52,k50,c31,c13,c16,gi,gib,manC]
 refine ⟨fun h => by cases p <;> simp at h,fun _ => ⟨fun hp1 => ?_,fun hp1 => ?_⟩⟩
 ·rw [hp1,if_neg (by decide)] at hcl
  obtain ⟨e,rfl,-,-⟩:=Mf.mk.inj hcl
  cases e
  decide
 ·obtain ⟨⟨q1,q2⟩,hu,ht⟩:=htok hp1
  have bA:=box_ok hA
  have bB:=box_ok hB
  rw [hd0] at bA
  rw [hd1] at bB
  have bA':=checkBoxS_iff.1 bA
  have bB':=checkBoxS_iff.1 bB
  obtain ⟨L,l1,l2,l3⟩:=uv_len hu
  have l1:vLen ((v1,f1),(v2,f2)) = (L,false):=l1
  rw [l1,abs_one ⟨l2,l3⟩,joinT_0 bA bB,joinT_1 bA bB,joinT_2 bA bB,joinT_3 bA bB]
  obtain ⟨G0,hG0⟩:∃ G,min (d0 0) (d1 0) = G:=⟨_,rfl⟩
  obtain ⟨G1,hG1⟩:∃ G,min (d0 1) (d1 1) = G:=⟨_,rfl⟩
  obtain ⟨G2,hG2⟩:∃ G,max (d0 2) (d1 2) = G:=⟨_,rfl⟩
  obtain ⟨G3,hG3⟩:∃ G,max (d0 3) (d1 3) = G:=⟨_,rfl⟩
  rw [hG0,hG1,hG2,hG3] at ht
  rw [hG0,hG1,hG2,hG3]
  have bG:checkBoxS G0 G1 G2 G3 = 0:=checkBoxS_iff.2 (by omega)
  have bG':=checkBoxS_iff.1 bG
  have hu':=uv_gd hu
  have hL:0 ≤ ab (L - 4294967296) ∧ ab (L - 4294967296) ≤ 256:=by unfold ab; split <;> omega
  refine ⟨by have:=hu'.1.2; unfold inR; dsimp only at this ⊢; omega,by have:=hu'.2.2; unfold inR; dsimp only at this ⊢; omega,fun h => ?_,fun _ => ⟨⟨⟨a0,a1,a2,a3⟩,b0,b1,b2,b3⟩,by unfold inR; omega,by unfold inR; omega,by unfold inR; omega,by unfold inR; omega,?_⟩⟩
  ·rcases h with (h | h) | h
   ·dsimp only at q1 q2; omega
   ·dsimp only at h; omega
   ·cases h
  obtain ⟨H0,hH0⟩:∃ G,growS G0 G1 G2 G3 2 0 = G:=⟨_,rfl⟩
  obtain ⟨H1,hH1⟩:∃ G,growS G0 G1 G2 G3 2 1 = G:=⟨_,rfl⟩
  obtain ⟨H2,hH2⟩:∃ G,growS G0 G1 G2 G3 2 2 = G:=⟨_,rfl⟩
  obtain ⟨H3,hH3⟩:∃ G,growS G0 G1 G2 G3 2 3 = G:=⟨_,rfl⟩
  rw [hH0,hH1,hH2,hH3]
  have en:growN 2 = 2:=by decide
  simp only [growS,if_pos bG,en] at hH0 hH1 hH2 hH3
  refine loopC_go (fun (i:Nat) => i ≤ q) (fun i => q - i) (fun i => [(12,i64 (i:Int))]) (fun _ => []) [64,61,17] [78,79,80,81,82,85,86,87,88,89,13,90,91,92,93,94,95,96,97,98,99,100,101,102,14,103,104,105,106,107,108,109,110,111,112,113,114,115,116,117,4,83,84,12] 0 (by kernel_rfl) ?_ (Nat.zero_le _) ?_ ?_
  ·intro x _; simp [goodNames,asg]
  ·simp only [go_sem]
  intro i hi
  simp only [go_sem,c23,c20,c24,c16,k47,k46,k45,c12,c29,c28,k50,k52,c31,c13,tchs_at,tchC,forall_eq]
  refine ⟨fun hin => ?_,fun _ _ => trivial⟩
  have hlt:i < q:=by omega
  obtain ⟨⟨t1,t2,t3⟩,⟨u1,u2,u3⟩,⟨w1,w2,w3⟩⟩:=ht i hlt
  dsimp only at t1 t2 t3 u1 u2 u3 w1 w2 w3
  have sx:(whV (nMul (MP i).1 (nInt 256)).1 + 2147483648) / 4294967296 = ((MP i).1.1 * 256 + 2147483648) / 4294967296:=by
   rw [← spV_in (a:=(MP i).1.1) (by omega)]
   show spV _ = _
   rw [show (MP i).1 = ((MP i).1.1,false) from Prod.ext rfl u1]
  have sy:(whV (nMul (MP i).2 (nInt 256)).1 + 2147483648) / 4294967296 = ((MP i).2.1 * 256 + 2147483648) / 4294967296:=by
   rw [← spV_in (a:=(MP i).2.1) (by omega)]
   show spV _ = _
   rw [show (MP i).2 = ((MP i).2.1,false) from Prod.ext rfl w1]
  rw [sx,sy]
  have bw:withinS H0 H1 H2 H3 (((MP i).1.1 * 256 + 2147483648) / 4294967296) (((MP i).2.1 * 256 + 2147483648) / 4294967296) = true:=by
   unfold withinS
   rw [decide_eq_true_eq,checkBoxS_iff]
   omega
  rw [bw]
  refine ⟨by omega,hin,by unfold inR; omega,by unfold inR; omega,fun _ => by unfold inR; omega,fun _ => by unfold inR; omega,fun _ => by unfold inR; omega,fun _ => by unfold inR; omega,fun _ => by unfold inR; omega,fun _ => by unfold inR; omega,fun h => ?_,fun _ => ⟨i + 1,by omega,by omega,by rw [wrap_in (by unfold inR; omega)]; rfl⟩⟩
  rcases h with (h | h) | h
  ·omega
  ·rw [t1] at h; cases h
  ·cases h
theorem vc5 (A B C X Y U A' B' C' X' Y' U':Int) (h:inR A ∧ inR B ∧ inR C ∧ inR X ∧ inR Y ∧ inR U) (h':inR A' ∧ inR B' ∧ inR C' ∧ inR X' ∧ inR Y' ∧ inR U') :
  fnVC Tryz.prog [(23,c23),(19,c20),(24,c24),(16,c16),(27,k47),(26,k46),(25,k45),(12,c12),(29,c29),(28,c28),(30,k50),(32,k52),(31,c31),(13,c13)] [(1,⟨[(6,.made 4),(7,.made 5)],[]⟩),(10,⟨[(8,.made 7)],[]⟩),(16,⟨[(14,.made 13)],[]⟩)] Tryz.f5 [.agg [i64 A,i64 B,i64 C,i64 X,i64 Y,i64 U],.agg [i64 A',i64 B',i64 C',i64 X',i64 Y',i64 U']] (· = bo true):=by
 have h12:(1:Int) ≤ 12 ∧ (12:Int) ≤ 4000:=by omega
 exact vc5g (foK A B C X Y U 12) (foX A B C X Y U 12) (foY A B C X Y U 12) (foR A B C X Y U 12) (foN A B C X Y U 12) (foP A B C X Y U 12) (foQ A B C X Y U 12) (foK A' B' C' X' Y' U' 12) (foX A' B' C' X' Y' U' 12) (foY A' B' C' X' Y' U' 12) (foR A' B' C' X' Y' U' 12) (foN A' B' C' X' Y' U' 12) (foP A' B' C' X' Y' U' 12) (foQ A' B' C' X' Y' U' 12) A B C X Y U A' B' C' X' Y' U' h h' rfl rfl (fo_ok h12) (fo_ok h12) mk_near mk_near
  (of_eq_true spots_fo) (of_eq_true spots_fo) (of_eq_true foN_max) (of_eq_true foN_max) foX_inR foY_inR foR_inR foX_inR foY_inR foR_inR
end Go.Ax
end
section
/-
  The frame of a law: its arguments ars abstract values, and what they read ars behind the call.
-/
namespace Go.Ax
open Go.ChangeShapes Go.WideShapes Go.ChangeAt Go.RowKit
inductive ShV where
 | int (k:IntKind)
 | bool
 | agg (es:List Sh)
 | slice (sz:Nat) (es:List Sh)
def shV (P:Program) (t:TypeId):Option ShV:=
 match P.underlying t with
 | some .bool => some .bool
 | some (.int k) => some (.int k)
 | some (.slice _) => match shT P 6 t with
  | some [.slice sz es] => some (.slice sz es)
  | _ => none
 | some (.struct _) => (shT P 6 t).map .agg
 | some (.array _ _) => (shT P 6 t).map .agg
 | _ => none
def fitV:ShV → AV → Prop
 | .int k,a => ∃ n,a = .v (.int k n) ∧ (Lit.int k n).wf = true
 | .bool,a => ∃ b,a = .v (.bool b)
 | .agg es,a => ∃ l,a = .agg l ∧ fitS es l
 | .slice sz es,a => ∃ (n:Nat) (get:Nat → List AV),a = .ro n sz get ∧ n ≤ maxLen ∧ ∀ i,fitS es (get i)
def shVs (P:Program):List TypeId → Option (List ShV)
 | [] => some []
 | t :: ts => match shV P t,shVs P ts with
  | some s,some r => some (s :: r)
  | _,_ => none
def fitVs:List ShV → List AV → Prop
 | [],l => l = []
 | s :: ss,l => ∃ a r,l = a :: r ∧ fitV s a ∧ fitVs ss r
section
variable {H:Type} {enc:TypeId × Value → H} {P:Program} {w:World} {spare:Nat → Bool} {held:Bool} {base:Nat}
theorem okWide_agg_struct {t:TypeId} {fs:Array Field} {v:Value} (ht:P.underlying t = some (.struct fs)) (h:Value.okWide P w .any base t v):∃ cs,v = .agg cs:=by
 obtain ⟨cs,h,_⟩:=okWide_struct ht h
 exact ⟨cs,h⟩
theorem trod_agg_array {t e:TypeId} {n:Nat} {v:Value} {x:DataW H} {ps:List MemPlace} (ht:P.underlying t = some (.array n e)) (h:Value.okWide P w .any base t v):∃ cs,v = .agg cs:=by
 cases v <;> simp [Value.okWide,Value.ok,ht] at h <;> exact ⟨_,rfl⟩
theorem arg_read {t:TypeId} {s:ShV} {v:Value} {x:DataW H} {ps:List MemPlace} (hs:shV P t = some s) (ho:Value.okWide P w .any base t v) (h:DataW.Trod enc P w 0 spare held t v x ps):∃ a,fitV s a ∧ R w (.ext (All w)) a v:=by
 unfold shV at hs
 split at hs
 ·rename_i hu
  cases hs
  obtain ⟨b,rfl⟩:=okWide_bool hu ho
  exact ⟨_,⟨b,rfl⟩,.v⟩
 ·rename_i k hu
  cases hs
  obtain ⟨n,rfl,_,_,hw⟩:=open_int hu ho h
  exact ⟨_,⟨n,rfl,hw⟩,.v⟩
 ·rename_i e hu
  split at hs
  ·rename_i sz es he
   cases hs
   obtain ⟨a,len,cap,rfl⟩:=okWide_slice hu ho
   obtain ⟨n,get,h1,h2,h3⟩:=slice_read he h
   exact ⟨_,⟨n,get,rfl,h1,h2⟩,h3⟩
  ·cases hs
 ·rename_i fs hu
  obtain ⟨es,he,rfl⟩:=Option.map_eq_some_iff.1 hs
  obtain ⟨cs,rfl⟩:=okWide_agg_struct hu ho
  obtain ⟨l,h1,h2⟩:=agg_read he h
  exact ⟨_,⟨l,rfl,h1⟩,h2⟩
 ·rename_i n e hu
  obtain ⟨es,he,rfl⟩:=Option.map_eq_some_iff.1 hs
  obtain ⟨cs,rfl⟩:=trod_agg_array (x:=x) (ps:=ps) hu ho
  obtain ⟨l,h1,h2⟩:=agg_read he h
  exact ⟨_,⟨l,rfl,h1⟩,h2⟩
 ·cases hs
theorem args_read:∀ {ts:List TypeId} {ss:List ShV} {vs:List Value} {ds:List (DataW H)} {ps:List MemPlace},shVs P ts = some ss → (∀ (j:Nat) t v,ts[j]? = some t → vs[j]? = some v → Value.okWide P w .any base t v) →
  DataW.TrodAll enc P w 0 spare held ts vs ds ps → ∃ l,fitVs ss l ∧ Rs w (.ext (All w)) l vs
 | [],ss,vs,ds,ps,hs,ho,h => by
  simp only [shVs,Option.some.injEq] at hs
  subst hs
  obtain ⟨rfl,rfl,rfl⟩:=trodAll_nil h
  exact ⟨[],rfl,.nil⟩
 | t :: ts,ss,vs,ds,ps,hs,ho,h => by
  simp only [shVs] at hs
  split at hs
  ·rename_i s r h1 h2
   cases hs
   obtain ⟨v,vs',d,ds',p,q,rfl,rfl,rfl,h3,h4⟩:=trodAll_cons h
   obtain ⟨a,a1,a2⟩:=arg_read h1 (ho 0 t v rfl rfl) h3
   obtain ⟨l,b1,b2⟩:=args_read h2 (fun j t v hj hv => ho (j + 1) t v (by simpa using hj) (by simpa using hv)) h4
   exact ⟨a :: l,⟨a,l,rfl,a1,b1⟩,Rs.cons a2 b2⟩
  ·cases hs
def readOK (P:Program) (ts:List TypeId):Bool:=ts.all fun t => P.readableRec t && decide (t < P.types.size)
theorem args_stay {W W':World} (hl:laidOutB P = true) (hb:Below W.heap.size W W'):∀ {ts:List TypeId} {vs:List Value} {ds:List (DataW H)} {ps:List MemPlace},readOK P ts = true →
  DataW.TrodAll enc P W 0 (fun _ => true) true ts vs ds ps → ∃ ps,DataW.TrodAll enc P W' 0 (fun b => decide (b < W.heap.size)) true ts vs ds ps
 | [],vs,ds,ps,_,h => by
  obtain ⟨rfl,rfl,rfl⟩:=trodAll_nil h
  exact ⟨[],rfl⟩
 | t :: ts,vs,ds,ps,hr,h => by
  obtain ⟨v,vs',d,ds',p,q,rfl,rfl,rfl,h3,h4⟩:=trodAll_cons h
  simp only [readOK,List.all_cons,Bool.and_eq_true,decide_eq_true_eq] at hr
  obtain ⟨q',h5⟩:=args_stay hl hb (by simpa [readOK] using hr.2) h4
  refine ⟨_,trodAll_cons_mk (Below.trod hl hr.1.1 hr.1.2 h3 hb ?_) h5⟩
  obtain ⟨m,hm⟩:=h3
  exact DataW.trod_lt m _ _ _ hm
end
end Go.Ax
end