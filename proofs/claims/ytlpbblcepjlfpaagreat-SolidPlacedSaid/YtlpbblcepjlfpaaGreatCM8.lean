/-
  Made polygons have a margin.
-/
import Derived.Test.YtlpbblcepjlfpaaGreatCM7
import Derived.ShutString
import Derived.ChangeOld
import Derived.Below
set_option linter.unusedVariables false
set_option linter.unusedSimpArgs false
section
set_option maxHeartbeats 4000000
set_option maxRecDepth 100000
namespace Go.Ax
open Go.Proofs
theorem ab_bd {x D:Int} (h1:-D ≤ x) (h2:x ≤ D):ab x ≤ D:=by unfold ab; split <;> omega
theorem mg_of {ax ay bx byy cx cy D E:Int} (h1:-D ≤ ax ∧ ax ≤ D) (h2:-E ≤ ay ∧ ay ≤ E) (h3:-D ≤ bx ∧ bx ≤ D) (h4:-E ≤ byy ∧ byy ≤ E) (h5:-D ≤ cx ∧ cx ≤ D) (h6:-E ≤ cy ∧ cy ≤ E)
  (h:8 * D + 8 * E + 8 ≤ (bx - ax) * (cy - ay) - (byy - ay) * (cx - ax)):mg ax ay bx byy cx cy:=by
 have k1:=@ab_bd (bx - ax) (2 * D) (by omega) (by omega)
 have k2:=@ab_bd (byy - ay) (2 * E) (by omega) (by omega)
 have k3:=@ab_bd (cx - ax) (2 * D) (by omega) (by omega)
 have k4:=@ab_bd (cy - ay) (2 * E) (by omega) (by omega)
 unfold mg
 generalize (bx - ax) * (cy - ay) - (byy - ay) * (cx - ax) = Q at *
 omega
theorem box_mrgB {w t:Int} (hw:16 ≤ w) (ht:16 ≤ t) {X Y:Nat → Int} (x0:X 0 = -w) (y0:Y 0 = -t) (x1:X 1 = w) (y1:Y 1 = -t) (x2:X 2 = w) (y2:Y 2 = t) (x3:X 3 = -w) (y3:Y 3 = t):∀ i,i < 4 → (-w ≤ X i ∧ X i ≤ w) ∧ (-t ≤ Y i ∧ Y i ≤ t):=by
 intro i hi
 match i,hi with
 | 0,_ => rw [x0,y0]; omega
 | 1,_ => rw [x1,y1]; omega
 | 2,_ => rw [x2,y2]; omega
 | 3,_ => rw [x3,y3]; omega
 | i + 4,h => omega
theorem box_mrg_0 {w t:Int} (hw:16 ≤ w) (ht:16 ≤ t) {X Y:Nat → Int} (x0:X 0 = -w) (y0:Y 0 = -t) (x1:X 1 = w) (y1:Y 1 = -t) (x2:X 2 = w) (y2:Y 2 = t) (x3:X 3 = -w) (y3:Y 3 = t):∀ j,j < 4 → j ≠ 0 → j ≠ 1 → 8 * w + 8 * t + 8 ≤ (X 1 - X 0) * (Y j - Y 0) - (Y 1 - Y 0) * (X j - X 0):=by
 have p1:16 * t ≤ w * t:=Int.mul_le_mul_of_nonneg_right hw (by omega)
 have p2:w * 16 ≤ w * t:=Int.mul_le_mul_of_nonneg_left ht (by omega)
 intro j hj k1 k2
 match j,hj,k1,k2 with
 | 0,_,k1,_ => exact absurd rfl k1
 | 1,_,_,k2 => exact absurd rfl k2
 | 2,_,_,_ =>
  rw [x0,y0,x1,y1,x2,y2]
  simp only [Int.sub_mul,Int.mul_sub,Int.add_mul,Int.mul_add,Int.neg_mul,Int.mul_neg,Int.zero_mul,Int.mul_zero,Int.neg_neg,Int.mul_comm t w]
  omega
 | 3,_,_,_ =>
  rw [x0,y0,x1,y1,x3,y3]
  simp only [Int.sub_mul,Int.mul_sub,Int.add_mul,Int.mul_add,Int.neg_mul,Int.mul_neg,Int.zero_mul,Int.mul_zero,Int.neg_neg,Int.mul_comm t w]
  omega
 | j + 4,h,_,_ => omega
theorem box_mrg_1 {w t:Int} (hw:16 ≤ w) (ht:16 ≤ t) {X Y:Nat → Int} (x0:X 0 = -w) (y0:Y 0 = -t) (x1:X 1 = w) (y1:Y 1 = -t) (x2:X 2 = w) (y2:Y 2 = t) (x3:X 3 = -w) (y3:Y 3 = t):∀ j,j < 4 → j ≠ 1 → j ≠ 2 → 8 * w + 8 * t + 8 ≤ (X 2 - X 1) * (Y j - Y 1) - (Y 2 - Y 1) * (X j - X 1):=by
 have p1:16 * t ≤ w * t:=Int.mul_le_mul_of_nonneg_right hw (by omega)
 have p2:w * 16 ≤ w * t:=Int.mul_le_mul_of_nonneg_left ht (by omega)
 intro j hj k1 k2
 match j,hj,k1,k2 with
 | 0,_,_,_ =>
  rw [x1,y1,x2,y2,x0,y0]
  simp only [Int.sub_mul,Int.mul_sub,Int.add_mul,Int.mul_add,Int.neg_mul,Int.mul_neg,Int.zero_mul,Int.mul_zero,Int.neg_neg,Int.mul_comm t w]
  omega
 | 1,_,k1,_ => exact absurd rfl k1
 | 2,_,_,k2 => exact absurd rfl k2
 | 3,_,_,_ =>
  rw [x1,y1,x2,y2,x3,y3]
  simp only [Int.sub_mul,Int.mul_sub,Int.add_mul,Int.mul_add,Int.neg_mul,Int.mul_neg,Int.zero_mul,Int.mul_zero,Int.neg_neg,Int.mul_comm t w]
  omega
 | j + 4,h,_,_ => omega
theorem box_mrg_2 {w t:Int} (hw:16 ≤ w) (ht:16 ≤ t) {X Y:Nat → Int} (x0:X 0 = -w) (y0:Y 0 = -t) (x1:X 1 = w) (y1:Y 1 = -t) (x2:X 2 = w) (y2:Y 2 = t) (x3:X 3 = -w) (y3:Y 3 = t):∀ j,j < 4 → j ≠ 2 → j ≠ 3 → 8 * w + 8 * t + 8 ≤ (X 3 - X 2) * (Y j - Y 2) - (Y 3 - Y 2) * (X j - X 2):=by
 have p1:16 * t ≤ w * t:=Int.mul_le_mul_of_nonneg_right hw (by omega)
 have p2:w * 16 ≤ w * t:=Int.mul_le_mul_of_nonneg_left ht (by omega)
 intro j hj k1 k2
 match j,hj,k1,k2 with
 | 0,_,_,_ =>
  rw [x2,y2,x3,y3,x0,y0]
  simp only [Int.sub_mul,Int.mul_sub,Int.add_mul,Int.mul_add,Int.neg_mul,Int.mul_neg,Int.zero_mul,Int.mul_zero,Int.neg_neg,Int.mul_comm t w]
  omega
 | 1,_,_,_ =>
  rw [x2,y2,x3,y3,x1,y1]
  simp only [Int.sub_mul,Int.mul_sub,Int.add_mul,Int.mul_add,Int.neg_mul,Int.mul_neg,Int.zero_mul,Int.mul_zero,Int.neg_neg,Int.mul_comm t w]
  omega
 | 2,_,k1,_ => exact absurd rfl k1
 | 3,_,_,k2 => exact absurd rfl k2
 | j + 4,h,_,_ => omega
theorem box_mrg_3 {w t:Int} (hw:16 ≤ w) (ht:16 ≤ t) {X Y:Nat → Int} (x0:X 0 = -w) (y0:Y 0 = -t) (x1:X 1 = w) (y1:Y 1 = -t) (x2:X 2 = w) (y2:Y 2 = t) (x3:X 3 = -w) (y3:Y 3 = t):∀ j,j < 4 → j ≠ 3 → j ≠ 0 → 8 * w + 8 * t + 8 ≤ (X 0 - X 3) * (Y j - Y 3) - (Y 0 - Y 3) * (X j - X 3):=by
 have p1:16 * t ≤ w * t:=Int.mul_le_mul_of_nonneg_right hw (by omega)
 have p2:w * 16 ≤ w * t:=Int.mul_le_mul_of_nonneg_left ht (by omega)
 intro j hj k1 k2
 match j,hj,k1,k2 with
 | 0,_,_,k2 => exact absurd rfl k2
 | 1,_,_,_ =>
  rw [x3,y3,x0,y0,x1,y1]
  simp only [Int.sub_mul,Int.mul_sub,Int.add_mul,Int.mul_add,Int.neg_mul,Int.mul_neg,Int.zero_mul,Int.mul_zero,Int.neg_neg,Int.mul_comm t w]
  omega
 | 2,_,_,_ =>
  rw [x3,y3,x0,y0,x2,y2]
  simp only [Int.sub_mul,Int.mul_sub,Int.add_mul,Int.mul_add,Int.neg_mul,Int.mul_neg,Int.zero_mul,Int.mul_zero,Int.neg_neg,Int.mul_comm t w]
  omega
 | 3,_,k1,_ => exact absurd rfl k1
 | j + 4,h,_,_ => omega
theorem box_mrg {w t:Int} (hw:16 ≤ w) (ht:16 ≤ t) {X Y:Nat → Int} (x0:X 0 = -w) (y0:Y 0 = -t) (x1:X 1 = w) (y1:Y 1 = -t) (x2:X 2 = w) (y2:Y 2 = t) (x3:X 3 = -w) (y3:Y 3 = t):mrg 4 X Y:=by
 have B:=box_mrgB (X:=X) (Y:=Y) hw ht x0 y0 x1 y1 x2 y2 x3 y3
 intro i hi j hj k1 k2
 refine mg_of (D:=w) (E:=t) (B i hi).1 (B i hi).2 (B _ (nxt_lt hi)).1 (B _ (nxt_lt hi)).2 (B j hj).1 (B j hj).2 ?_
 match i,hi,k1,k2 with
 | 0,_,k1,k2 => exact box_mrg_0 hw ht x0 y0 x1 y1 x2 y2 x3 y3 j hj k1 k2
 | 1,_,k1,k2 => exact box_mrg_1 hw ht x0 y0 x1 y1 x2 y2 x3 y3 j hj k1 k2
 | 2,_,k1,k2 => exact box_mrg_2 hw ht x0 y0 x1 y1 x2 y2 x3 y3 j hj k1 k2
 | 3,_,k1,k2 => exact box_mrg_3 hw ht x0 y0 x1 y1 x2 y2 x3 y3 j hj k1 k2
 | i + 4,h,_,_ => omega
theorem box_mrg0 {w t:Int} (hw:16 ≤ w) (ht:16 ≤ t) {X Y:Nat → Int} (x0:X 0 = -w) (y0:Y 0 = -t) (x1:X 1 = w) (y1:Y 1 = -t) (x2:X 2 = w) (y2:Y 2 = t) (x3:X 3 = -w) (y3:Y 3 = t):∀ i,i < 4 → mg (X i) (Y i) (X (nxt 4 i)) (Y (nxt 4 i)) 0 0:=by
 have B:=box_mrgB (X:=X) (Y:=Y) hw ht x0 y0 x1 y1 x2 y2 x3 y3
 have p1:16 * t ≤ w * t:=Int.mul_le_mul_of_nonneg_right hw (by omega)
 have p2:w * 16 ≤ w * t:=Int.mul_le_mul_of_nonneg_left ht (by omega)
 intro i hi
 refine mg_of (D:=w) (E:=t) (B i hi).1 (B i hi).2 (B _ (nxt_lt hi)).1 (B _ (nxt_lt hi)).2 (by omega) (by omega) ?_
 match i,hi with
 | 0,_ =>
  rw [show nxt 4 0 = 1 from rfl,x0,y0,x1,y1]
  simp only [Int.sub_mul,Int.mul_sub,Int.add_mul,Int.mul_add,Int.neg_mul,Int.mul_neg,Int.zero_mul,Int.mul_zero,Int.neg_neg,Int.mul_comm t w]
  omega
 | 1,_ =>
  rw [show nxt 4 1 = 2 from rfl,x1,y1,x2,y2]
  simp only [Int.sub_mul,Int.mul_sub,Int.add_mul,Int.mul_add,Int.neg_mul,Int.mul_neg,Int.zero_mul,Int.mul_zero,Int.neg_neg,Int.mul_comm t w]
  omega
 | 2,_ =>
  rw [show nxt 4 2 = 3 from rfl,x2,y2,x3,y3]
  simp only [Int.sub_mul,Int.mul_sub,Int.add_mul,Int.mul_add,Int.neg_mul,Int.mul_neg,Int.zero_mul,Int.mul_zero,Int.neg_neg,Int.mul_comm t w]
  omega
 | 3,_ =>
  rw [show nxt 4 3 = 0 from rfl,x3,y3,x0,y0]
  simp only [Int.sub_mul,Int.mul_sub,Int.add_mul,Int.mul_add,Int.neg_mul,Int.mul_neg,Int.zero_mul,Int.mul_zero,Int.neg_neg,Int.mul_comm t w]
  omega
 | i + 4,h => omega
theorem tri_mrgB {M T:Int} (hM:64 ≤ M) (hT:64 ≤ T) {X Y:Nat → Int} (x0:X 0 = -M) (y0:Y 0 = -T) (x1:X 1 = M) (y1:Y 1 = -T) (x2:X 2 = 0) (y2:Y 2 = T):∀ i,i < 3 → (-M ≤ X i ∧ X i ≤ M) ∧ (-T ≤ Y i ∧ Y i ≤ T):=by
 intro i hi
 match i,hi with
 | 0,_ => rw [x0,y0]; omega
 | 1,_ => rw [x1,y1]; omega
 | 2,_ => rw [x2,y2]; omega
 | i + 3,h => omega
theorem tri_mrg_0 {M T:Int} (hM:64 ≤ M) (hT:64 ≤ T) {X Y:Nat → Int} (x0:X 0 = -M) (y0:Y 0 = -T) (x1:X 1 = M) (y1:Y 1 = -T) (x2:X 2 = 0) (y2:Y 2 = T):∀ j,j < 3 → j ≠ 0 → j ≠ 1 → 8 * M + 8 * T + 8 ≤ (X 1 - X 0) * (Y j - Y 0) - (Y 1 - Y 0) * (X j - X 0):=by
 obtain ⟨p1,p2⟩:=mul_ge hM hT
 intro j hj k1 k2
 match j,hj,k1,k2 with
 | 0,_,k1,_ => exact absurd rfl k1
 | 1,_,_,k2 => exact absurd rfl k2
 | 2,_,_,_ =>
  rw [x0,y0,x1,y1,x2,y2]
  simp only [Int.sub_mul,Int.mul_sub,Int.add_mul,Int.mul_add,Int.neg_mul,Int.mul_neg,Int.zero_mul,Int.mul_zero,Int.neg_neg,Int.mul_comm T M]
  omega
 | j + 3,h,_,_ => omega
theorem tri_mrg_1 {M T:Int} (hM:64 ≤ M) (hT:64 ≤ T) {X Y:Nat → Int} (x0:X 0 = -M) (y0:Y 0 = -T) (x1:X 1 = M) (y1:Y 1 = -T) (x2:X 2 = 0) (y2:Y 2 = T):∀ j,j < 3 → j ≠ 1 → j ≠ 2 → 8 * M + 8 * T + 8 ≤ (X 2 - X 1) * (Y j - Y 1) - (Y 2 - Y 1) * (X j - X 1):=by
 obtain ⟨p1,p2⟩:=mul_ge hM hT
 intro j hj k1 k2
 match j,hj,k1,k2 with
 | 0,_,_,_ =>
  rw [x1,y1,x2,y2,x0,y0]
  simp only [Int.sub_mul,Int.mul_sub,Int.add_mul,Int.mul_add,Int.neg_mul,Int.mul_neg,Int.zero_mul,Int.mul_zero,Int.neg_neg,Int.mul_comm T M]
  omega
 | 1,_,k1,_ => exact absurd rfl k1
 | 2,_,_,k2 => exact absurd rfl k2
 | j + 3,h,_,_ => omega
theorem tri_mrg_2 {M T:Int} (hM:64 ≤ M) (hT:64 ≤ T) {X Y:Nat → Int} (x0:X 0 = -M) (y0:Y 0 = -T) (x1:X 1 = M) (y1:Y 1 = -T) (x2:X 2 = 0) (y2:Y 2 = T):∀ j,j < 3 → j ≠ 2 → j ≠ 0 → 8 * M + 8 * T + 8 ≤ (X 0 - X 2) * (Y j - Y 2) - (Y 0 - Y 2) * (X j - X 2):=by
 obtain ⟨p1,p2⟩:=mul_ge hM hT
 intro j hj k1 k2
 match j,hj,k1,k2 with
 | 0,_,_,k2 => exact absurd rfl k2
 | 1,_,_,_ =>
  rw [x2,y2,x0,y0,x1,y1]
  simp only [Int.sub_mul,Int.mul_sub,Int.add_mul,Int.mul_add,Int.neg_mul,Int.mul_neg,Int.zero_mul,Int.mul_zero,Int.neg_neg,Int.mul_comm T M]
  omega
 | 2,_,k1,_ => exact absurd rfl k1
 | j + 3,h,_,_ => omega
theorem tri_mrg {M T:Int} (hM:64 ≤ M) (hT:64 ≤ T) {X Y:Nat → Int} (x0:X 0 = -M) (y0:Y 0 = -T) (x1:X 1 = M) (y1:Y 1 = -T) (x2:X 2 = 0) (y2:Y 2 = T):mrg 3 X Y:=by
 have B:=tri_mrgB (X:=X) (Y:=Y) hM hT x0 y0 x1 y1 x2 y2
 intro i hi j hj k1 k2
 refine mg_of (D:=M) (E:=T) (B i hi).1 (B i hi).2 (B _ (nxt_lt hi)).1 (B _ (nxt_lt hi)).2 (B j hj).1 (B j hj).2 ?_
 match i,hi,k1,k2 with
 | 0,_,k1,k2 => exact tri_mrg_0 hM hT x0 y0 x1 y1 x2 y2 j hj k1 k2
 | 1,_,k1,k2 => exact tri_mrg_1 hM hT x0 y0 x1 y1 x2 y2 j hj k1 k2
 | 2,_,k1,k2 => exact tri_mrg_2 hM hT x0 y0 x1 y1 x2 y2 j hj k1 k2
 | i + 3,h,_,_ => omega
theorem tri_mrg0 {M T:Int} (hM:64 ≤ M) (hT:64 ≤ T) {X Y:Nat → Int} (x0:X 0 = -M) (y0:Y 0 = -T) (x1:X 1 = M) (y1:Y 1 = -T) (x2:X 2 = 0) (y2:Y 2 = T):∀ i,i < 3 → mg (X i) (Y i) (X (nxt 3 i)) (Y (nxt 3 i)) 0 0:=by
 have B:=tri_mrgB (X:=X) (Y:=Y) hM hT x0 y0 x1 y1 x2 y2
 obtain ⟨p1,p2⟩:=mul_ge hM hT
 intro i hi
 refine mg_of (D:=M) (E:=T) (B i hi).1 (B i hi).2 (B _ (nxt_lt hi)).1 (B _ (nxt_lt hi)).2 (by omega) (by omega) ?_
 match i,hi with
 | 0,_ =>
  rw [show nxt 3 0 = 1 from rfl,x0,y0,x1,y1]
  simp only [Int.sub_mul,Int.mul_sub,Int.add_mul,Int.mul_add,Int.neg_mul,Int.mul_neg,Int.zero_mul,Int.mul_zero,Int.neg_neg,Int.mul_comm T M]
  omega
 | 1,_ =>
  rw [show nxt 3 1 = 2 from rfl,x1,y1,x2,y2]
  simp only [Int.sub_mul,Int.mul_sub,Int.add_mul,Int.mul_add,Int.neg_mul,Int.mul_neg,Int.zero_mul,Int.mul_zero,Int.neg_neg,Int.mul_comm T M]
  omega
 | 2,_ =>
  rw [show nxt 3 2 = 0 from rfl,x2,y2,x0,y0]
  simp only [Int.sub_mul,Int.mul_sub,Int.add_mul,Int.mul_add,Int.neg_mul,Int.mul_neg,Int.zero_mul,Int.mul_zero,Int.neg_neg,Int.mul_comm T M]
  omega
 | i + 3,h => omega
theorem pen_mrgB {M T h:Int} (hM:64 ≤ M) (hT:64 ≤ T) (h1:2 * h ≤ M) (h2:M ≤ 2 * h + 1) {X Y:Nat → Int} (x0:X 0 = -h) (y0:Y 0 = -T) (x1:X 1 = h) (y1:Y 1 = -T) (x2:X 2 = M) (y2:Y 2 = 0) (x3:X 3 = 0) (y3:Y 3 = T) (x4:X 4 = -M) (y4:Y 4 = 0):∀ i,i < 5 → (-M ≤ X i ∧ X i ≤ M) ∧ (-T ≤ Y i ∧ Y i ≤ T):=by
 intro i hi
 match i,hi with
 | 0,_ => rw [x0,y0]; omega
 | 1,_ => rw [x1,y1]; omega
 | 2,_ => rw [x2,y2]; omega
 | 3,_ => rw [x3,y3]; omega
 | 4,_ => rw [x4,y4]; omega
 | i + 5,h => omega
theorem pen_mrg_0 {M T h:Int} (hM:64 ≤ M) (hT:64 ≤ T) (h1:2 * h ≤ M) (h2:M ≤ 2 * h + 1) {X Y:Nat → Int} (x0:X 0 = -h) (y0:Y 0 = -T) (x1:X 1 = h) (y1:Y 1 = -T) (x2:X 2 = M) (y2:Y 2 = 0) (x3:X 3 = 0) (y3:Y 3 = T) (x4:X 4 = -M) (y4:Y 4 = 0):∀ j,j < 5 → j ≠ 0 → j ≠ 1 → 8 * M + 8 * T + 8 ≤ (X 1 - X 0) * (Y j - Y 0) - (Y 1 - Y 0) * (X j - X 0):=by
 obtain ⟨p1,p2⟩:=mul_ge hM hT
 have q1:(2 * h) * T ≤ M * T:=Int.mul_le_mul_of_nonneg_right h1 (by omega)
 have q2:M * T ≤ (2 * h + 1) * T:=Int.mul_le_mul_of_nonneg_right h2 (by omega)
 rw [Int.mul_assoc] at q1
 rw [Int.add_mul,Int.mul_assoc,Int.one_mul] at q2
 intro j hj k1 k2
 match j,hj,k1,k2 with
 | 0,_,k1,_ => exact absurd rfl k1
 | 1,_,_,k2 => exact absurd rfl k2
 | 2,_,_,_ =>
  rw [x0,y0,x1,y1,x2,y2]
  simp only [Int.sub_mul,Int.mul_sub,Int.add_mul,Int.mul_add,Int.neg_mul,Int.mul_neg,Int.zero_mul,Int.mul_zero,Int.neg_neg,Int.mul_comm T M,Int.mul_comm T h]
  omega
 | 3,_,_,_ =>
  rw [x0,y0,x1,y1,x3,y3]
  simp only [Int.sub_mul,Int.mul_sub,Int.add_mul,Int.mul_add,Int.neg_mul,Int.mul_neg,Int.zero_mul,Int.mul_zero,Int.neg_neg,Int.mul_comm T M,Int.mul_comm T h]
  omega
 | 4,_,_,_ =>
  rw [x0,y0,x1,y1,x4,y4]
  simp only [Int.sub_mul,Int.mul_sub,Int.add_mul,Int.mul_add,Int.neg_mul,Int.mul_neg,Int.zero_mul,Int.mul_zero,Int.neg_neg,Int.mul_comm T M,Int.mul_comm T h]
  omega
 | j + 5,h,_,_ => omega
theorem pen_mrg_1 {M T h:Int} (hM:64 ≤ M) (hT:64 ≤ T) (h1:2 * h ≤ M) (h2:M ≤ 2 * h + 1) {X Y:Nat → Int} (x0:X 0 = -h) (y0:Y 0 = -T) (x1:X 1 = h) (y1:Y 1 = -T) (x2:X 2 = M) (y2:Y 2 = 0) (x3:X 3 = 0) (y3:Y 3 = T) (x4:X 4 = -M) (y4:Y 4 = 0):∀ j,j < 5 → j ≠ 1 → j ≠ 2 → 8 * M + 8 * T + 8 ≤ (X 2 - X 1) * (Y j - Y 1) - (Y 2 - Y 1) * (X j - X 1):=by
 obtain ⟨p1,p2⟩:=mul_ge hM hT
 have q1:(2 * h) * T ≤ M * T:=Int.mul_le_mul_of_nonneg_right h1 (by omega)
 have q2:M * T ≤ (2 * h + 1) * T:=Int.mul_le_mul_of_nonneg_right h2 (by omega)
 rw [Int.mul_assoc] at q1
 rw [Int.add_mul,Int.mul_assoc,Int.one_mul] at q2
 intro j hj k1 k2
 match j,hj,k1,k2 with
 | 0,_,_,_ =>
  rw [x1,y1,x2,y2,x0,y0]
  simp only [Int.sub_mul,Int.mul_sub,Int.add_mul,Int.mul_add,Int.neg_mul,Int.mul_neg,Int.zero_mul,Int.mul_zero,Int.neg_neg,Int.mul_comm T M,Int.mul_comm T h]
  omega
 | 1,_,k1,_ => exact absurd rfl k1
 | 2,_,_,k2 => exact absurd rfl k2
 | 3,_,_,_ =>
  rw [x1,y1,x2,y2,x3,y3]
  simp only [Int.sub_mul,Int.mul_sub,Int.add_mul,Int.mul_add,Int.neg_mul,Int.mul_neg,Int.zero_mul,Int.mul_zero,Int.neg_neg,Int.mul_comm T M,Int.mul_comm T h]
  omega
 | 4,_,_,_ =>
  rw [x1,y1,x2,y2,x4,y4]
  simp only [Int.sub_mul,Int.mul_sub,Int.add_mul,Int.mul_add,Int.neg_mul,Int.mul_neg,Int.zero_mul,Int.mul_zero,Int.neg_neg,Int.mul_comm T M,Int.mul_comm T h]
  omega
 | j + 5,h,_,_ => omega
theorem pen_mrg_2 {M T h:Int} (hM:64 ≤ M) (hT:64 ≤ T) (h1:2 * h ≤ M) (h2:M ≤ 2 * h + 1) {X Y:Nat → Int} (x0:X 0 = -h) (y0:Y 0 = -T) (x1:X 1 = h) (y1:Y 1 = -T) (x2:X 2 = M) (y2:Y 2 = 0) (x3:X 3 = 0) (y3:Y 3 = T) (x4:X 4 = -M) (y4:Y 4 = 0):∀ j,j < 5 → j ≠ 2 → j ≠ 3 → 8 * M + 8 * T + 8 ≤ (X 3 - X 2) * (Y j - Y 2) - (Y 3 - Y 2) * (X j - X 2):=by
 obtain ⟨p1,p2⟩:=mul_ge hM hT
 have q1:(2 * h) * T ≤ M * T:=Int.mul_le_mul_of_nonneg_right h1 (by omega)
 have q2:M * T ≤ (2 * h + 1) * T:=Int.mul_le_mul_of_nonneg_right h2 (by omega)
 rw [Int.mul_assoc] at q1
 rw [Int.add_mul,Int.mul_assoc,Int.one_mul] at q2
 intro j hj k1 k2
 match j,hj,k1,k2 with
 | 0,_,_,_ =>
  rw [x2,y2,x3,y3,x0,y0]
  simp only [Int.sub_mul,Int.mul_sub,Int.add_mul,Int.mul_add,Int.neg_mul,Int.mul_neg,Int.zero_mul,Int.mul_zero,Int.neg_neg,Int.mul_comm T M,Int.mul_comm T h]
  omega
 | 1,_,_,_ =>
  rw [x2,y2,x3,y3,x1,y1]
  simp only [Int.sub_mul,Int.mul_sub,Int.add_mul,Int.mul_add,Int.neg_mul,Int.mul_neg,Int.zero_mul,Int.mul_zero,Int.neg_neg,Int.mul_comm T M,Int.mul_comm T h]
  omega
 | 2,_,k1,_ => exact absurd rfl k1
 | 3,_,_,k2 => exact absurd rfl k2
 | 4,_,_,_ =>
  rw [x2,y2,x3,y3,x4,y4]
  simp only [Int.sub_mul,Int.mul_sub,Int.add_mul,Int.mul_add,Int.neg_mul,Int.mul_neg,Int.zero_mul,Int.mul_zero,Int.neg_neg,Int.mul_comm T M,Int.mul_comm T h]
  omega
 | j + 5,h,_,_ => omega
theorem pen_mrg_3 {M T h:Int} (hM:64 ≤ M) (hT:64 ≤ T) (h1:2 * h ≤ M) (h2:M ≤ 2 * h + 1) {X Y:Nat → Int} (x0:X 0 = -h) (y0:Y 0 = -T) (x1:X 1 = h) (y1:Y 1 = -T) (x2:X 2 = M) (y2:Y 2 = 0) (x3:X 3 = 0) (y3:Y 3 = T) (x4:X 4 = -M) (y4:Y 4 = 0):∀ j,j < 5 → j ≠ 3 → j ≠ 4 → 8 * M + 8 * T + 8 ≤ (X 4 - X 3) * (Y j - Y 3) - (Y 4 - Y 3) * (X j - X 3):=by
 obtain ⟨p1,p2⟩:=mul_ge hM hT
 have q1:(2 * h) * T ≤ M * T:=Int.mul_le_mul_of_nonneg_right h1 (by omega)
 have q2:M * T ≤ (2 * h + 1) * T:=Int.mul_le_mul_of_nonneg_right h2 (by omega)
 rw [Int.mul_assoc] at q1
 rw [Int.add_mul,Int.mul_assoc,Int.one_mul] at q2
 intro j hj k1 k2
 match j,hj,k1,k2 with
 | 0,_,_,_ =>
  rw [x3,y3,x4,y4,x0,y0]
  simp only [Int.sub_mul,Int.mul_sub,Int.add_mul,Int.mul_add,Int.neg_mul,Int.mul_neg,Int.zero_mul,Int.mul_zero,Int.neg_neg,Int.mul_comm T M,Int.mul_comm T h]
  omega
 | 1,_,_,_ =>
  rw [x3,y3,x4,y4,x1,y1]
  simp only [Int.sub_mul,Int.mul_sub,Int.add_mul,Int.mul_add,Int.neg_mul,Int.mul_neg,Int.zero_mul,Int.mul_zero,Int.neg_neg,Int.mul_comm T M,Int.mul_comm T h]
  omega
 | 2,_,_,_ =>
  rw [x3,y3,x4,y4,x2,y2]
  simp only [Int.sub_mul,Int.mul_sub,Int.add_mul,Int.mul_add,Int.neg_mul,Int.mul_neg,Int.zero_mul,Int.mul_zero,Int.neg_neg,Int.mul_comm T M,Int.mul_comm T h]
  omega
 | 3,_,k1,_ => exact absurd rfl k1
 | 4,_,_,k2 => exact absurd rfl k2
 | j + 5,h,_,_ => omega
theorem pen_mrg_4 {M T h:Int} (hM:64 ≤ M) (hT:64 ≤ T) (h1:2 * h ≤ M) (h2:M ≤ 2 * h + 1) {X Y:Nat → Int} (x0:X 0 = -h) (y0:Y 0 = -T) (x1:X 1 = h) (y1:Y 1 = -T) (x2:X 2 = M) (y2:Y 2 = 0) (x3:X 3 = 0) (y3:Y 3 = T) (x4:X 4 = -M) (y4:Y 4 = 0):∀ j,j < 5 → j ≠ 4 → j ≠ 0 → 8 * M + 8 * T + 8 ≤ (X 0 - X 4) * (Y j - Y 4) - (Y 0 - Y 4) * (X j - X 4):=by
 obtain ⟨p1,p2⟩:=mul_ge hM hT
 have q1:(2 * h) * T ≤ M * T:=Int.mul_le_mul_of_nonneg_right h1 (by omega)
 have q2:M * T ≤ (2 * h + 1) * T:=Int.mul_le_mul_of_nonneg_right h2 (by omega)
 rw [Int.mul_assoc] at q1
 rw [Int.add_mul,Int.mul_assoc,Int.one_mul] at q2
 intro j hj k1 k2
 match j,hj,k1,k2 with
 | 0,_,_,k2 => exact absurd rfl k2
 | 1,_,_,_ =>
  rw [x4,y4,x0,y0,x1,y1]
  simp only [Int.sub_mul,Int.mul_sub,Int.add_mul,Int.mul_add,Int.neg_mul,Int.mul_neg,Int.zero_mul,Int.mul_zero,Int.neg_neg,Int.mul_comm T M,Int.mul_comm T h]
  omega
 | 2,_,_,_ =>
  rw [x4,y4,x0,y0,x2,y2]
  simp only [Int.sub_mul,Int.mul_sub,Int.add_mul,Int.mul_add,Int.neg_mul,Int.mul_neg,Int.zero_mul,Int.mul_zero,Int.neg_neg,Int.mul_comm T M,Int.mul_comm T h]
  omega
 | 3,_,_,_ =>
  rw [x4,y4,x0,y0,x3,y3]
  simp only [Int.sub_mul,Int.mul_sub,Int.add_mul,Int.mul_add,Int.neg_mul,Int.mul_neg,Int.zero_mul,Int.mul_zero,Int.neg_neg,Int.mul_comm T M,Int.mul_comm T h]
  omega
 | 4,_,k1,_ => exact absurd rfl k1
 | j + 5,h,_,_ => omega
theorem pen_mrg {M T h:Int} (hM:64 ≤ M) (hT:64 ≤ T) (h1:2 * h ≤ M) (h2:M ≤ 2 * h + 1) {X Y:Nat → Int} (x0:X 0 = -h) (y0:Y 0 = -T) (x1:X 1 = h) (y1:Y 1 = -T) (x2:X 2 = M) (y2:Y 2 = 0) (x3:X 3 = 0) (y3:Y 3 = T) (x4:X 4 = -M) (y4:Y 4 = 0):mrg 5 X Y:=by
 have B:=pen_mrgB (X:=X) (Y:=Y) hM hT h1 h2 x0 y0 x1 y1 x2 y2 x3 y3 x4 y4
 intro i hi j hj k1 k2
 refine mg_of (D:=M) (E:=T) (B i hi).1 (B i hi).2 (B _ (nxt_lt hi)).1 (B _ (nxt_lt hi)).2 (B j hj).1 (B j hj).2 ?_
 match i,hi,k1,k2 with
 | 0,_,k1,k2 => exact pen_mrg_0 hM hT h1 h2 x0 y0 x1 y1 x2 y2 x3 y3 x4 y4 j hj k1 k2
 | 1,_,k1,k2 => exact pen_mrg_1 hM hT h1 h2 x0 y0 x1 y1 x2 y2 x3 y3 x4 y4 j hj k1 k2
 | 2,_,k1,k2 => exact pen_mrg_2 hM hT h1 h2 x0 y0 x1 y1 x2 y2 x3 y3 x4 y4 j hj k1 k2
 | 3,_,k1,k2 => exact pen_mrg_3 hM hT h1 h2 x0 y0 x1 y1 x2 y2 x3 y3 x4 y4 j hj k1 k2
 | 4,_,k1,k2 => exact pen_mrg_4 hM hT h1 h2 x0 y0 x1 y1 x2 y2 x3 y3 x4 y4 j hj k1 k2
 | i + 5,h,_,_ => omega
theorem pen_mrg0 {M T h:Int} (hM:64 ≤ M) (hT:64 ≤ T) (h1:2 * h ≤ M) (h2:M ≤ 2 * h + 1) {X Y:Nat → Int} (x0:X 0 = -h) (y0:Y 0 = -T) (x1:X 1 = h) (y1:Y 1 = -T) (x2:X 2 = M) (y2:Y 2 = 0) (x3:X 3 = 0) (y3:Y 3 = T) (x4:X 4 = -M) (y4:Y 4 = 0):∀ i,i < 5 → mg (X i) (Y i) (X (nxt 5 i)) (Y (nxt 5 i)) 0 0:=by
 have B:=pen_mrgB (X:=X) (Y:=Y) hM hT h1 h2 x0 y0 x1 y1 x2 y2 x3 y3 x4 y4
 obtain ⟨p1,p2⟩:=mul_ge hM hT
 have q1:(2 * h) * T ≤ M * T:=Int.mul_le_mul_of_nonneg_right h1 (by omega)
 have q2:M * T ≤ (2 * h + 1) * T:=Int.mul_le_mul_of_nonneg_right h2 (by omega)
 rw [Int.mul_assoc] at q1
 rw [Int.add_mul,Int.mul_assoc,Int.one_mul] at q2
 intro i hi
 refine mg_of (D:=M) (E:=T) (B i hi).1 (B i hi).2 (B _ (nxt_lt hi)).1 (B _ (nxt_lt hi)).2 (by omega) (by omega) ?_
 match i,hi with
 | 0,_ =>
  rw [show nxt 5 0 = 1 from rfl,x0,y0,x1,y1]
  simp only [Int.sub_mul,Int.mul_sub,Int.add_mul,Int.mul_add,Int.neg_mul,Int.mul_neg,Int.zero_mul,Int.mul_zero,Int.neg_neg,Int.mul_comm T M,Int.mul_comm T h]
  omega
 | 1,_ =>
  rw [show nxt 5 1 = 2 from rfl,x1,y1,x2,y2]
  simp only [Int.sub_mul,Int.mul_sub,Int.add_mul,Int.mul_add,Int.neg_mul,Int.mul_neg,Int.zero_mul,Int.mul_zero,Int.neg_neg,Int.mul_comm T M,Int.mul_comm T h]
  omega
 | 2,_ =>
  rw [show nxt 5 2 = 3 from rfl,x2,y2,x3,y3]
  simp only [Int.sub_mul,Int.mul_sub,Int.add_mul,Int.mul_add,Int.neg_mul,Int.mul_neg,Int.zero_mul,Int.mul_zero,Int.neg_neg,Int.mul_comm T M,Int.mul_comm T h]
  omega
 | 3,_ =>
  rw [show nxt 5 3 = 4 from rfl,x3,y3,x4,y4]
  simp only [Int.sub_mul,Int.mul_sub,Int.add_mul,Int.mul_add,Int.neg_mul,Int.mul_neg,Int.zero_mul,Int.mul_zero,Int.neg_neg,Int.mul_comm T M,Int.mul_comm T h]
  omega
 | 4,_ =>
  rw [show nxt 5 4 = 0 from rfl,x4,y4,x0,y0]
  simp only [Int.sub_mul,Int.mul_sub,Int.add_mul,Int.mul_add,Int.neg_mul,Int.mul_neg,Int.zero_mul,Int.mul_zero,Int.neg_neg,Int.mul_comm T M,Int.mul_comm T h]
  omega
 | i + 5,h => omega
theorem oct_mrgB {M h:Int} (hM:64 ≤ M) (h1:2 * h ≤ M) (h2:M ≤ 2 * h + 1) {X Y:Nat → Int} (x0:X 0 = M) (y0:Y 0 = -h) (x1:X 1 = M) (y1:Y 1 = h) (x2:X 2 = h) (y2:Y 2 = M) (x3:X 3 = -h) (y3:Y 3 = M) (x4:X 4 = -M) (y4:Y 4 = h) (x5:X 5 = -M) (y5:Y 5 = -h) (x6:X 6 = -h) (y6:Y 6 = -M) (x7:X 7 = h) (y7:Y 7 = -M):∀ i,i < 8 → (-M ≤ X i ∧ X i ≤ M) ∧ (-M ≤ Y i ∧ Y i ≤ M):=by
 intro i hi
 match i,hi with
 | 0,_ => rw [x0,y0]; omega
 | 1,_ => rw [x1,y1]; omega
 | 2,_ => rw [x2,y2]; omega
 | 3,_ => rw [x3,y3]; omega
 | 4,_ => rw [x4,y4]; omega
 | 5,_ => rw [x5,y5]; omega
 | 6,_ => rw [x6,y6]; omega
 | 7,_ => rw [x7,y7]; omega
 | i + 8,h => omega
theorem oct_mrg_0 {M h:Int} (hM:64 ≤ M) (h1:2 * h ≤ M) (h2:M ≤ 2 * h + 1) {X Y:Nat → Int} (x0:X 0 = M) (y0:Y 0 = -h) (x1:X 1 = M) (y1:Y 1 = h) (x2:X 2 = h) (y2:Y 2 = M) (x3:X 3 = -h) (y3:Y 3 = M) (x4:X 4 = -M) (y4:Y 4 = h) (x5:X 5 = -M) (y5:Y 5 = -h) (x6:X 6 = -h) (y6:Y 6 = -M) (x7:X 7 = h) (y7:Y 7 = -M):∀ j,j < 8 → j ≠ 0 → j ≠ 1 → 8 * M + 8 * M + 8 ≤ (X 1 - X 0) * (Y j - Y 0) - (Y 1 - Y 0) * (X j - X 0):=by
 have p1:64 * M ≤ M * M:=Int.mul_le_mul_of_nonneg_right hM (by omega)
 have q1:(2 * h) * M ≤ M * M:=Int.mul_le_mul_of_nonneg_right h1 (by omega)
 have q2:M * M ≤ (2 * h + 1) * M:=Int.mul_le_mul_of_nonneg_right h2 (by omega)
 have q3:h * (2 * h) ≤ h * M:=Int.mul_le_mul_of_nonneg_left h1 (by omega)
 have q4:h * M ≤ h * (2 * h + 1):=Int.mul_le_mul_of_nonneg_left h2 (by omega)
 have q5:32 * h ≤ h * h:=Int.mul_le_mul_of_nonneg_right (by omega) (by omega)
 rw [Int.mul_assoc] at q1
 rw [Int.add_mul,Int.mul_assoc,Int.one_mul] at q2
 rw [Int.mul_left_comm] at q3
 rw [Int.mul_add,Int.mul_left_comm,Int.mul_one] at q4
 intro j hj k1 k2
 match j,hj,k1,k2 with
 | 0,_,k1,_ => exact absurd rfl k1
 | 1,_,_,k2 => exact absurd rfl k2
 | 2,_,_,_ =>
  rw [x0,y0,x1,y1,x2,y2]
  simp only [Int.sub_mul,Int.mul_sub,Int.add_mul,Int.mul_add,Int.neg_mul,Int.mul_neg,Int.zero_mul,Int.mul_zero,Int.neg_neg,Int.mul_comm M h]
  omega
 | 3,_,_,_ =>
  rw [x0,y0,x1,y1,x3,y3]
  simp only [Int.sub_mul,Int.mul_sub,Int.add_mul,Int.mul_add,Int.neg_mul,Int.mul_neg,Int.zero_mul,Int.mul_zero,Int.neg_neg,Int.mul_comm M h]
  omega
 | 4,_,_,_ =>
  rw [x0,y0,x1,y1,x4,y4]
  simp only [Int.sub_mul,Int.mul_sub,Int.add_mul,Int.mul_add,Int.neg_mul,Int.mul_neg,Int.zero_mul,Int.mul_zero,Int.neg_neg,Int.mul_comm M h]
  omega
 | 5,_,_,_ =>
  rw [x0,y0,x1,y1,x5,y5]
  simp only [Int.sub_mul,Int.mul_sub,Int.add_mul,Int.mul_add,Int.neg_mul,Int.mul_neg,Int.zero_mul,Int.mul_zero,Int.neg_neg,Int.mul_comm M h]
  omega
 | 6,_,_,_ =>
  rw [x0,y0,x1,y1,x6,y6]
  simp only [Int.sub_mul,Int.mul_sub,Int.add_mul,Int.mul_add,Int.neg_mul,Int.mul_neg,Int.zero_mul,Int.mul_zero,Int.neg_neg,Int.mul_comm M h]
  omega
 | 7,_,_,_ =>
  rw [x0,y0,x1,y1,x7,y7]
  simp only [Int.sub_mul,Int.mul_sub,Int.add_mul,Int.mul_add,Int.neg_mul,Int.mul_neg,Int.zero_mul,Int.mul_zero,Int.neg_neg,Int.mul_comm M h]
  omega
 | j + 8,h,_,_ => omega
theorem oct_mrg_1 {M h:Int} (hM:64 ≤ M) (h1:2 * h ≤ M) (h2:M ≤ 2 * h + 1) {X Y:Nat → Int} (x0:X 0 = M) (y0:Y 0 = -h) (x1:X 1 = M) (y1:Y 1 = h) (x2:X 2 = h) (y2:Y 2 = M) (x3:X 3 = -h) (y3:Y 3 = M) (x4:X 4 = -M) (y4:Y 4 = h) (x5:X 5 = -M) (y5:Y 5 = -h) (x6:X 6 = -h) (y6:Y 6 = -M) (x7:X 7 = h) (y7:Y 7 = -M):∀ j,j < 8 → j ≠ 1 → j ≠ 2 → 8 * M + 8 * M + 8 ≤ (X 2 - X 1) * (Y j - Y 1) - (Y 2 - Y 1) * (X j - X 1):=by
 have p1:64 * M ≤ M * M:=Int.mul_le_mul_of_nonneg_right hM (by omega)
 have q1:(2 * h) * M ≤ M * M:=Int.mul_le_mul_of_nonneg_right h1 (by omega)
 have q2:M * M ≤ (2 * h + 1) * M:=Int.mul_le_mul_of_nonneg_right h2 (by omega)
 have q3:h * (2 * h) ≤ h * M:=Int.mul_le_mul_of_nonneg_left h1 (by omega)
 have q4:h * M ≤ h * (2 * h + 1):=Int.mul_le_mul_of_nonneg_left h2 (by omega)
 have q5:32 * h ≤ h * h:=Int.mul_le_mul_of_nonneg_right (by omega) (by omega)
 rw [Int.mul_assoc] at q1
 rw [Int.add_mul,Int.mul_assoc,Int.one_mul] at q2
 rw [Int.mul_left_comm] at q3
 rw [Int.mul_add,Int.mul_left_comm,Int.mul_one] at q4
 intro j hj k1 k2
 match j,hj,k1,k2 with
 | 0,_,_,_ =>
  rw [x1,y1,x2,y2,x0,y0]
  simp only [Int.sub_mul,Int.mul_sub,Int.add_mul,Int.mul_add,Int.neg_mul,Int.mul_neg,Int.zero_mul,Int.mul_zero,Int.neg_neg,Int.mul_comm M h]
  omega
 | 1,_,k1,_ => exact absurd rfl k1
 | 2,_,_,k2 => exact absurd rfl k2
 | 3,_,_,_ =>
  rw [x1,y1,x2,y2,x3,y3]
  simp only [Int.sub_mul,Int.mul_sub,Int.add_mul,Int.mul_add,Int.neg_mul,Int.mul_neg,Int.zero_mul,Int.mul_zero,Int.neg_neg,Int.mul_comm M h]
  omega
 | 4,_,_,_ =>
  rw [x1,y1,x2,y2,x4,y4]
  simp only [Int.sub_mul,Int.mul_sub,Int.add_mul,Int.mul_add,Int.neg_mul,Int.mul_neg,Int.zero_mul,Int.mul_zero,Int.neg_neg,Int.mul_comm M h]
  omega
 | 5,_,_,_ =>
  rw [x1,y1,x2,y2,x5,y5]
  simp only [Int.sub_mul,Int.mul_sub,Int.add_mul,Int.mul_add,Int.neg_mul,Int.mul_neg,Int.zero_mul,Int.mul_zero,Int.neg_neg,Int.mul_comm M h]
  omega
 | 6,_,_,_ =>
  rw [x1,y1,x2,y2,x6,y6]
  simp only [Int.sub_mul,Int.mul_sub,Int.add_mul,Int.mul_add,Int.neg_mul,Int.mul_neg,Int.zero_mul,Int.mul_zero,Int.neg_neg,Int.mul_comm M h]
  omega
 | 7,_,_,_ =>
  rw [x1,y1,x2,y2,x7,y7]
  simp only [Int.sub_mul,Int.mul_sub,Int.add_mul,Int.mul_add,Int.neg_mul,Int.mul_neg,Int.zero_mul,Int.mul_zero,Int.neg_neg,Int.mul_comm M h]
  omega
 | j + 8,h,_,_ => omega
theorem oct_mrg_2 {M h:Int} (hM:64 ≤ M) (h1:2 * h ≤ M) (h2:M ≤ 2 * h + 1) {X Y:Nat → Int} (x0:X 0 = M) (y0:Y 0 = -h) (x1:X 1 = M) (y1:Y 1 = h) (x2:X 2 = h) (y2:Y 2 = M) (x3:X 3 = -h) (y3:Y 3 = M) (x4:X 4 = -M) (y4:Y 4 = h) (x5:X 5 = -M) (y5:Y 5 = -h) (x6:X 6 = -h) (y6:Y 6 = -M) (x7:X 7 = h) (y7:Y 7 = -M):∀ j,j < 8 → j ≠ 2 → j ≠ 3 → 8 * M + 8 * M + 8 ≤ (X 3 - X 2) * (Y j - Y 2) - (Y 3 - Y 2) * (X j - X 2):=by
 have p1:64 * M ≤ M * M:=Int.mul_le_mul_of_nonneg_right hM (by omega)
 have q1:(2 * h) * M ≤ M * M:=Int.mul_le_mul_of_nonneg_right h1 (by omega)
 have q2:M * M ≤ (2 * h + 1) * M:=Int.mul_le_mul_of_nonneg_right h2 (by omega)
 have q3:h * (2 * h) ≤ h * M:=Int.mul_le_mul_of_nonneg_left h1 (by omega)
 have q4:h * M ≤ h * (2 * h + 1):=Int.mul_le_mul_of_nonneg_left h2 (by omega)
 have q5:32 * h ≤ h * h:=Int.mul_le_mul_of_nonneg_right (by omega) (by omega)
 rw [Int.mul_assoc] at q1
 rw [Int.add_mul,Int.mul_assoc,Int.one_mul] at q2
 rw [Int.mul_left_comm] at q3
 rw [Int.mul_add,Int.mul_left_comm,Int.mul_one] at q4
 intro j hj k1 k2
 match j,hj,k1,k2 with
 | 0,_,_,_ =>
  rw [x2,y2,x3,y3,x0,y0]
  simp only [Int.sub_mul,Int.mul_sub,Int.add_mul,Int.mul_add,Int.neg_mul,Int.mul_neg,Int.zero_mul,Int.mul_zero,Int.neg_neg,Int.mul_comm M h]
  omega
 | 1,_,_,_ =>
  rw [x2,y2,x3,y3,x1,y1]
  simp only [Int.sub_mul,Int.mul_sub,Int.add_mul,Int.mul_add,Int.neg_mul,Int.mul_neg,Int.zero_mul,Int.mul_zero,Int.neg_neg,Int.mul_comm M h]
  omega
 | 2,_,k1,_ => exact absurd rfl k1
 | 3,_,_,k2 => exact absurd rfl k2
 | 4,_,_,_ =>
  rw [x2,y2,x3,y3,x4,y4]
  simp only [Int.sub_mul,Int.mul_sub,Int.add_mul,Int.mul_add,Int.neg_mul,Int.mul_neg,Int.zero_mul,Int.mul_zero,Int.neg_neg,Int.mul_comm M h]
  omega
 | 5,_,_,_ =>
  rw [x2,y2,x3,y3,x5,y5]
  simp only [Int.sub_mul,Int.mul_sub,Int.add_mul,Int.mul_add,Int.neg_mul,Int.mul_neg,Int.zero_mul,Int.mul_zero,Int.neg_neg,Int.mul_comm M h]
  omega
 | 6,_,_,_ =>
  rw [x2,y2,x3,y3,x6,y6]
  simp only [Int.sub_mul,Int.mul_sub,Int.add_mul,Int.mul_add,Int.neg_mul,Int.mul_neg,Int.zero_mul,Int.mul_zero,Int.neg_neg,Int.mul_comm M h]
  omega
 | 7,_,_,_ =>
  rw [x2,y2,x3,y3,x7,y7]
  simp only [Int.sub_mul,Int.mul_sub,Int.add_mul,Int.mul_add,Int.neg_mul,Int.mul_neg,Int.zero_mul,Int.mul_zero,Int.neg_neg,Int.mul_comm M h]
  omega
 | j + 8,h,_,_ => omega
theorem oct_mrg_3 {M h:Int} (hM:64 ≤ M) (h1:2 * h ≤ M) (h2:M ≤ 2 * h + 1) {X Y:Nat → Int} (x0:X 0 = M) (y0:Y 0 = -h) (x1:X 1 = M) (y1:Y 1 = h) (x2:X 2 = h) (y2:Y 2 = M) (x3:X 3 = -h) (y3:Y 3 = M) (x4:X 4 = -M) (y4:Y 4 = h) (x5:X 5 = -M) (y5:Y 5 = -h) (x6:X 6 = -h) (y6:Y 6 = -M) (x7:X 7 = h) (y7:Y 7 = -M):∀ j,j < 8 → j ≠ 3 → j ≠ 4 → 8 * M + 8 * M + 8 ≤ (X 4 - X 3) * (Y j - Y 3) - (Y 4 - Y 3) * (X j - X 3):=by
 have p1:64 * M ≤ M * M:=Int.mul_le_mul_of_nonneg_right hM (by omega)
 have q1:(2 * h) * M ≤ M * M:=Int.mul_le_mul_of_nonneg_right h1 (by omega)
 have q2:M * M ≤ (2 * h + 1) * M:=Int.mul_le_mul_of_nonneg_right h2 (by omega)
 have q3:h * (2 * h) ≤ h * M:=Int.mul_le_mul_of_nonneg_left h1 (by omega)
 have q4:h * M ≤ h * (2 * h + 1):=Int.mul_le_mul_of_nonneg_left h2 (by omega)
 have q5:32 * h ≤ h * h:=Int.mul_le_mul_of_nonneg_right (by omega) (by omega)
 rw [Int.mul_assoc] at q1
 rw [Int.add_mul,Int.mul_assoc,Int.one_mul] at q2
 rw [Int.mul_left_comm] at q3
 rw [Int.mul_add,Int.mul_left_comm,Int.mul_one] at q4
 intro j hj k1 k2
 match j,hj,k1,k2 with
 | 0,_,_,_ =>
  rw [x3,y3,x4,y4,x0,y0]
  simp only [Int.sub_mul,Int.mul_sub,Int.add_mul,Int.mul_add,Int.neg_mul,Int.mul_neg,Int.zero_mul,Int.mul_zero,Int.neg_neg,Int.mul_comm M h]
  omega
 | 1,_,_,_ =>
  rw [x3,y3,x4,y4,x1,y1]
  simp only [Int.sub_mul,Int.mul_sub,Int.add_mul,Int.mul_add,Int.neg_mul,Int.mul_neg,Int.zero_mul,Int.mul_zero,Int.neg_neg,Int.mul_comm M h]
  omega
 | 2,_,_,_ =>
  rw [x3,y3,x4,y4,x2,y2]
  simp only [Int.sub_mul,Int.mul_sub,Int.add_mul,Int.mul_add,Int.neg_mul,Int.mul_neg,Int.zero_mul,Int.mul_zero,Int.neg_neg,Int.mul_comm M h]
  omega
 | 3,_,k1,_ => exact absurd rfl k1
 | 4,_,_,k2 => exact absurd rfl k2
 | 5,_,_,_ =>
  rw [x3,y3,x4,y4,x5,y5]
  simp only [Int.sub_mul,Int.mul_sub,Int.add_mul,Int.mul_add,Int.neg_mul,Int.mul_neg,Int.zero_mul,Int.mul_zero,Int.neg_neg,Int.mul_comm M h]
  omega
 | 6,_,_,_ =>
  rw [x3,y3,x4,y4,x6,y6]
  simp only [Int.sub_mul,Int.mul_sub,Int.add_mul,Int.mul_add,Int.neg_mul,Int.mul_neg,Int.zero_mul,Int.mul_zero,Int.neg_neg,Int.mul_comm M h]
  omega
 | 7,_,_,_ =>
  rw [x3,y3,x4,y4,x7,y7]
  simp only [Int.sub_mul,Int.mul_sub,Int.add_mul,Int.mul_add,Int.neg_mul,Int.mul_neg,Int.zero_mul,Int.mul_zero,Int.neg_neg,Int.mul_comm M h]
  omega
 | j + 8,h,_,_ => omega
theorem oct_mrg_4 {M h:Int} (hM:64 ≤ M) (h1:2 * h ≤ M) (h2:M ≤ 2 * h + 1) {X Y:Nat → Int} (x0:X 0 = M) (y0:Y 0 = -h) (x1:X 1 = M) (y1:Y 1 = h) (x2:X 2 = h) (y2:Y 2 = M) (x3:X 3 = -h) (y3:Y 3 = M) (x4:X 4 = -M) (y4:Y 4 = h) (x5:X 5 = -M) (y5:Y 5 = -h) (x6:X 6 = -h) (y6:Y 6 = -M) (x7:X 7 = h) (y7:Y 7 = -M):∀ j,j < 8 → j ≠ 4 → j ≠ 5 → 8 * M + 8 * M + 8 ≤ (X 5 - X 4) * (Y j - Y 4) - (Y 5 - Y 4) * (X j - X 4):=by
 have p1:64 * M ≤ M * M:=Int.mul_le_mul_of_nonneg_right hM (by omega)
 have q1:(2 * h) * M ≤ M * M:=Int.mul_le_mul_of_nonneg_right h1 (by omega)
 have q2:M * M ≤ (2 * h + 1) * M:=Int.mul_le_mul_of_nonneg_right h2 (by omega)
 have q3:h * (2 * h) ≤ h * M:=Int.mul_le_mul_of_nonneg_left h1 (by omega)
 have q4:h * M ≤ h * (2 * h + 1):=Int.mul_le_mul_of_nonneg_left h2 (by omega)
 have q5:32 * h ≤ h * h:=Int.mul_le_mul_of_nonneg_right (by omega) (by omega)
 rw [Int.mul_assoc] at q1
 rw [Int.add_mul,Int.mul_assoc,Int.one_mul] at q2
 rw [Int.mul_left_comm] at q3
 rw [Int.mul_add,Int.mul_left_comm,Int.mul_one] at q4
 intro j hj k1 k2
 match j,hj,k1,k2 with
 | 0,_,_,_ =>
  rw [x4,y4,x5,y5,x0,y0]
  simp only [Int.sub_mul,Int.mul_sub,Int.add_mul,Int.mul_add,Int.neg_mul,Int.mul_neg,Int.zero_mul,Int.mul_zero,Int.neg_neg,Int.mul_comm M h]
  omega
 | 1,_,_,_ =>
  rw [x4,y4,x5,y5,x1,y1]
  simp only [Int.sub_mul,Int.mul_sub,Int.add_mul,Int.mul_add,Int.neg_mul,Int.mul_neg,Int.zero_mul,Int.mul_zero,Int.neg_neg,Int.mul_comm M h]
  omega
 | 2,_,_,_ =>
  rw [x4,y4,x5,y5,x2,y2]
  simp only [Int.sub_mul,Int.mul_sub,Int.add_mul,Int.mul_add,Int.neg_mul,Int.mul_neg,Int.zero_mul,Int.mul_zero,Int.neg_neg,Int.mul_comm M h]
  omega
 | 3,_,_,_ =>
  rw [x4,y4,x5,y5,x3,y3]
  simp only [Int.sub_mul,Int.mul_sub,Int.add_mul,Int.mul_add,Int.neg_mul,Int.mul_neg,Int.zero_mul,Int.mul_zero,Int.neg_neg,Int.mul_comm M h]
  omega
 | 4,_,k1,_ => exact absurd rfl k1
 | 5,_,_,k2 => exact absurd rfl k2
 | 6,_,_,_ =>
  rw [x4,y4,x5,y5,x6,y6]
  simp only [Int.sub_mul,Int.mul_sub,Int.add_mul,Int.mul_add,Int.neg_mul,Int.mul_neg,Int.zero_mul,Int.mul_zero,Int.neg_neg,Int.mul_comm M h]
  omega
 | 7,_,_,_ =>
  rw [x4,y4,x5,y5,x7,y7]
  simp only [Int.sub_mul,Int.mul_sub,Int.add_mul,Int.mul_add,Int.neg_mul,Int.mul_neg,Int.zero_mul,Int.mul_zero,Int.neg_neg,Int.mul_comm M h]
  omega
 | j + 8,h,_,_ => omega
theorem oct_mrg_5 {M h:Int} (hM:64 ≤ M) (h1:2 * h ≤ M) (h2:M ≤ 2 * h + 1) {X Y:Nat → Int} (x0:X 0 = M) (y0:Y 0 = -h) (x1:X 1 = M) (y1:Y 1 = h) (x2:X 2 = h) (y2:Y 2 = M) (x3:X 3 = -h) (y3:Y 3 = M) (x4:X 4 = -M) (y4:Y 4 = h) (x5:X 5 = -M) (y5:Y 5 = -h) (x6:X 6 = -h) (y6:Y 6 = -M) (x7:X 7 = h) (y7:Y 7 = -M):∀ j,j < 8 → j ≠ 5 → j ≠ 6 → 8 * M + 8 * M + 8 ≤ (X 6 - X 5) * (Y j - Y 5) - (Y 6 - Y 5) * (X j - X 5):=by
 have p1:64 * M ≤ M * M:=Int.mul_le_mul_of_nonneg_right hM (by omega)
 have q1:(2 * h) * M ≤ M * M:=Int.mul_le_mul_of_nonneg_right h1 (by omega)
 have q2:M * M ≤ (2 * h + 1) * M:=Int.mul_le_mul_of_nonneg_right h2 (by omega)
 have q3:h * (2 * h) ≤ h * M:=Int.mul_le_mul_of_nonneg_left h1 (by omega)
 have q4:h * M ≤ h * (2 * h + 1):=Int.mul_le_mul_of_nonneg_left h2 (by omega)
 have q5:32 * h ≤ h * h:=Int.mul_le_mul_of_nonneg_right (by omega) (by omega)
 rw [Int.mul_assoc] at q1
 rw [Int.add_mul,Int.mul_assoc,Int.one_mul] at q2
 rw [Int.mul_left_comm] at q3
 rw [Int.mul_add,Int.mul_left_comm,Int.mul_one] at q4
 intro j hj k1 k2
 match j,hj,k1,k2 with
 | 0,_,_,_ =>
  rw [x5,y5,x6,y6,x0,y0]
  simp only [Int.sub_mul,Int.mul_sub,Int.add_mul,Int.mul_add,Int.neg_mul,Int.mul_neg,Int.zero_mul,Int.mul_zero,Int.neg_neg,Int.mul_comm M h]
  omega
 | 1,_,_,_ =>
  rw [x5,y5,x6,y6,x1,y1]
  simp only [Int.sub_mul,Int.mul_sub,Int.add_mul,Int.mul_add,Int.neg_mul,Int.mul_neg,Int.zero_mul,Int.mul_zero,Int.neg_neg,Int.mul_comm M h]
  omega
 | 2,_,_,_ =>
  rw [x5,y5,x6,y6,x2,y2]
  simp only [Int.sub_mul,Int.mul_sub,Int.add_mul,Int.mul_add,Int.neg_mul,Int.mul_neg,Int.zero_mul,Int.mul_zero,Int.neg_neg,Int.mul_comm M h]
  omega
 | 3,_,_,_ =>
  rw [x5,y5,x6,y6,x3,y3]
  simp only [Int.sub_mul,Int.mul_sub,Int.add_mul,Int.mul_add,Int.neg_mul,Int.mul_neg,Int.zero_mul,Int.mul_zero,Int.neg_neg,Int.mul_comm M h]
  omega
 | 4,_,_,_ =>
  rw [x5,y5,x6,y6,x4,y4]
  simp only [Int.sub_mul,Int.mul_sub,Int.add_mul,Int.mul_add,Int.neg_mul,Int.mul_neg,Int.zero_mul,Int.mul_zero,Int.neg_neg,Int.mul_comm M h]
  omega
 | 5,_,k1,_ => exact absurd rfl k1
 | 6,_,_,k2 => exact absurd rfl k2
 | 7,_,_,_ =>
  rw [x5,y5,x6,y6,x7,y7]
  simp only [Int.sub_mul,Int.mul_sub,Int.add_mul,Int.mul_add,Int.neg_mul,Int.mul_neg,Int.zero_mul,Int.mul_zero,Int.neg_neg,Int.mul_comm M h]
  omega
 | j + 8,h,_,_ => omega
theorem oct_mrg_6 {M h:Int} (hM:64 ≤ M) (h1:2 * h ≤ M) (h2:M ≤ 2 * h + 1) {X Y:Nat → Int} (x0:X 0 = M) (y0:Y 0 = -h) (x1:X 1 = M) (y1:Y 1 = h) (x2:X 2 = h) (y2:Y 2 = M) (x3:X 3 = -h) (y3:Y 3 = M) (x4:X 4 = -M) (y4:Y 4 = h) (x5:X 5 = -M) (y5:Y 5 = -h) (x6:X 6 = -h) (y6:Y 6 = -M) (x7:X 7 = h) (y7:Y 7 = -M):∀ j,j < 8 → j ≠ 6 → j ≠ 7 → 8 * M + 8 * M + 8 ≤ (X 7 - X 6) * (Y j - Y 6) - (Y 7 - Y 6) * (X j - X 6):=by
 have p1:64 * M ≤ M * M:=Int.mul_le_mul_of_nonneg_right hM (by omega)
 have q1:(2 * h) * M ≤ M * M:=Int.mul_le_mul_of_nonneg_right h1 (by omega)
 have q2:M * M ≤ (2 * h + 1) * M:=Int.mul_le_mul_of_nonneg_right h2 (by omega)
 have q3:h * (2 * h) ≤ h * M:=Int.mul_le_mul_of_nonneg_left h1 (by omega)
 have q4:h * M ≤ h * (2 * h + 1):=Int.mul_le_mul_of_nonneg_left h2 (by omega)
 have q5:32 * h ≤ h * h:=Int.mul_le_mul_of_nonneg_right (by omega) (by omega)
 rw [Int.mul_assoc] at q1
 rw [Int.add_mul,Int.mul_assoc,Int.one_mul] at q2
 rw [Int.mul_left_comm] at q3
 rw [Int.mul_add,Int.mul_left_comm,Int.mul_one] at q4
 intro j hj k1 k2
 match j,hj,k1,k2 with
 | 0,_,_,_ =>
  rw [x6,y6,x7,y7,x0,y0]
  simp only [Int.sub_mul,Int.mul_sub,Int.add_mul,Int.mul_add,Int.neg_mul,Int.mul_neg,Int.zero_mul,Int.mul_zero,Int.neg_neg,Int.mul_comm M h]
  omega
 | 1,_,_,_ =>
  rw [x6,y6,x7,y7,x1,y1]
  simp only [Int.sub_mul,Int.mul_sub,Int.add_mul,Int.mul_add,Int.neg_mul,Int.mul_neg,Int.zero_mul,Int.mul_zero,Int.neg_neg,Int.mul_comm M h]
  omega
 | 2,_,_,_ =>
  rw [x6,y6,x7,y7,x2,y2]
  simp only [Int.sub_mul,Int.mul_sub,Int.add_mul,Int.mul_add,Int.neg_mul,Int.mul_neg,Int.zero_mul,Int.mul_zero,Int.neg_neg,Int.mul_comm M h]
  omega
 | 3,_,_,_ =>
  rw [x6,y6,x7,y7,x3,y3]
  simp only [Int.sub_mul,Int.mul_sub,Int.add_mul,Int.mul_add,Int.neg_mul,Int.mul_neg,Int.zero_mul,Int.mul_zero,Int.neg_neg,Int.mul_comm M h]
  omega
 | 4,_,_,_ =>
  rw [x6,y6,x7,y7,x4,y4]
  simp only [Int.sub_mul,Int.mul_sub,Int.add_mul,Int.mul_add,Int.neg_mul,Int.mul_neg,Int.zero_mul,Int.mul_zero,Int.neg_neg,Int.mul_comm M h]
  omega
 | 5,_,_,_ =>
  rw [x6,y6,x7,y7,x5,y5]
  simp only [Int.sub_mul,Int.mul_sub,Int.add_mul,Int.mul_add,Int.neg_mul,Int.mul_neg,Int.zero_mul,Int.mul_zero,Int.neg_neg,Int.mul_comm M h]
  omega
 | 6,_,k1,_ => exact absurd rfl k1
 | 7,_,_,k2 => exact absurd rfl k2
 | j + 8,h,_,_ => omega
theorem oct_mrg_7 {M h:Int} (hM:64 ≤ M) (h1:2 * h ≤ M) (h2:M ≤ 2 * h + 1) {X Y:Nat → Int} (x0:X 0 = M) (y0:Y 0 = -h) (x1:X 1 = M) (y1:Y 1 = h) (x2:X 2 = h) (y2:Y 2 = M) (x3:X 3 = -h) (y3:Y 3 = M) (x4:X 4 = -M) (y4:Y 4 = h) (x5:X 5 = -M) (y5:Y 5 = -h) (x6:X 6 = -h) (y6:Y 6 = -M) (x7:X 7 = h) (y7:Y 7 = -M):∀ j,j < 8 → j ≠ 7 → j ≠ 0 → 8 * M + 8 * M + 8 ≤ (X 0 - X 7) * (Y j - Y 7) - (Y 0 - Y 7) * (X j - X 7):=by
 have p1:64 * M ≤ M * M:=Int.mul_le_mul_of_nonneg_right hM (by omega)
 have q1:(2 * h) * M ≤ M * M:=Int.mul_le_mul_of_nonneg_right h1 (by omega)
 have q2:M * M ≤ (2 * h + 1) * M:=Int.mul_le_mul_of_nonneg_right h2 (by omega)
 have q3:h * (2 * h) ≤ h * M:=Int.mul_le_mul_of_nonneg_left h1 (by omega)
 have q4:h * M ≤ h * (2 * h + 1):=Int.mul_le_mul_of_nonneg_left h2 (by omega)
 have q5:32 * h ≤ h * h:=Int.mul_le_mul_of_nonneg_right (by omega) (by omega)
 rw [Int.mul_assoc] at q1
 rw [Int.add_mul,Int.mul_assoc,Int.one_mul] at q2
 rw [Int.mul_left_comm] at q3
 rw [Int.mul_add,Int.mul_left_comm,Int.mul_one] at q4
 intro j hj k1 k2
 match j,hj,k1,k2 with
 | 0,_,_,k2 => exact absurd rfl k2
 | 1,_,_,_ =>
  rw [x7,y7,x0,y0,x1,y1]
  simp only [Int.sub_mul,Int.mul_sub,Int.add_mul,Int.mul_add,Int.neg_mul,Int.mul_neg,Int.zero_mul,Int.mul_zero,Int.neg_neg,Int.mul_comm M h]
  omega
 | 2,_,_,_ =>
  rw [x7,y7,x0,y0,x2,y2]
  simp only [Int.sub_mul,Int.mul_sub,Int.add_mul,Int.mul_add,Int.neg_mul,Int.mul_neg,Int.zero_mul,Int.mul_zero,Int.neg_neg,Int.mul_comm M h]
  omega
 | 3,_,_,_ =>
  rw [x7,y7,x0,y0,x3,y3]
  simp only [Int.sub_mul,Int.mul_sub,Int.add_mul,Int.mul_add,Int.neg_mul,Int.mul_neg,Int.zero_mul,Int.mul_zero,Int.neg_neg,Int.mul_comm M h]
  omega
 | 4,_,_,_ =>
  rw [x7,y7,x0,y0,x4,y4]
  simp only [Int.sub_mul,Int.mul_sub,Int.add_mul,Int.mul_add,Int.neg_mul,Int.mul_neg,Int.zero_mul,Int.mul_zero,Int.neg_neg,Int.mul_comm M h]
  omega
 | 5,_,_,_ =>
  rw [x7,y7,x0,y0,x5,y5]
  simp only [Int.sub_mul,Int.mul_sub,Int.add_mul,Int.mul_add,Int.neg_mul,Int.mul_neg,Int.zero_mul,Int.mul_zero,Int.neg_neg,Int.mul_comm M h]
  omega
 | 6,_,_,_ =>
  rw [x7,y7,x0,y0,x6,y6]
  simp only [Int.sub_mul,Int.mul_sub,Int.add_mul,Int.mul_add,Int.neg_mul,Int.mul_neg,Int.zero_mul,Int.mul_zero,Int.neg_neg,Int.mul_comm M h]
  omega
 | 7,_,k1,_ => exact absurd rfl k1
 | j + 8,h,_,_ => omega
theorem oct_mrg {M h:Int} (hM:64 ≤ M) (h1:2 * h ≤ M) (h2:M ≤ 2 * h + 1) {X Y:Nat → Int} (x0:X 0 = M) (y0:Y 0 = -h) (x1:X 1 = M) (y1:Y 1 = h) (x2:X 2 = h) (y2:Y 2 = M) (x3:X 3 = -h) (y3:Y 3 = M) (x4:X 4 = -M) (y4:Y 4 = h) (x5:X 5 = -M) (y5:Y 5 = -h) (x6:X 6 = -h) (y6:Y 6 = -M) (x7:X 7 = h) (y7:Y 7 = -M):mrg 8 X Y:=by
 have B:=oct_mrgB (X:=X) (Y:=Y) hM h1 h2 x0 y0 x1 y1 x2 y2 x3 y3 x4 y4 x5 y5 x6 y6 x7 y7
 intro i hi j hj k1 k2
 refine mg_of (D:=M) (E:=M) (B i hi).1 (B i hi).2 (B _ (nxt_lt hi)).1 (B _ (nxt_lt hi)).2 (B j hj).1 (B j hj).2 ?_
 match i,hi,k1,k2 with
 | 0,_,k1,k2 => exact oct_mrg_0 hM h1 h2 x0 y0 x1 y1 x2 y2 x3 y3 x4 y4 x5 y5 x6 y6 x7 y7 j hj k1 k2
 | 1,_,k1,k2 => exact oct_mrg_1 hM h1 h2 x0 y0 x1 y1 x2 y2 x3 y3 x4 y4 x5 y5 x6 y6 x7 y7 j hj k1 k2
 | 2,_,k1,k2 => exact oct_mrg_2 hM h1 h2 x0 y0 x1 y1 x2 y2 x3 y3 x4 y4 x5 y5 x6 y6 x7 y7 j hj k1 k2
 | 3,_,k1,k2 => exact oct_mrg_3 hM h1 h2 x0 y0 x1 y1 x2 y2 x3 y3 x4 y4 x5 y5 x6 y6 x7 y7 j hj k1 k2
 | 4,_,k1,k2 => exact oct_mrg_4 hM h1 h2 x0 y0 x1 y1 x2 y2 x3 y3 x4 y4 x5 y5 x6 y6 x7 y7 j hj k1 k2
 | 5,_,k1,k2 => exact oct_mrg_5 hM h1 h2 x0 y0 x1 y1 x2 y2 x3 y3 x4 y4 x5 y5 x6 y6 x7 y7 j hj k1 k2
 | 6,_,k1,k2 => exact oct_mrg_6 hM h1 h2 x0 y0 x1 y1 x2 y2 x3 y3 x4 y4 x5 y5 x6 y6 x7 y7 j hj k1 k2
 | 7,_,k1,k2 => exact oct_mrg_7 hM h1 h2 x0 y0 x1 y1 x2 y2 x3 y3 x4 y4 x5 y5 x6 y6 x7 y7 j hj k1 k2
 | i + 8,h,_,_ => omega
theorem oct_mrg0 {M h:Int} (hM:64 ≤ M) (h1:2 * h ≤ M) (h2:M ≤ 2 * h + 1) {X Y:Nat → Int} (x0:X 0 = M) (y0:Y 0 = -h) (x1:X 1 = M) (y1:Y 1 = h) (x2:X 2 = h) (y2:Y 2 = M) (x3:X 3 = -h) (y3:Y 3 = M) (x4:X 4 = -M) (y4:Y 4 = h) (x5:X 5 = -M) (y5:Y 5 = -h) (x6:X 6 = -h) (y6:Y 6 = -M) (x7:X 7 = h) (y7:Y 7 = -M):∀ i,i < 8 → mg (X i) (Y i) (X (nxt 8 i)) (Y (nxt 8 i)) 0 0:=by
 have B:=oct_mrgB (X:=X) (Y:=Y) hM h1 h2 x0 y0 x1 y1 x2 y2 x3 y3 x4 y4 x5 y5 x6 y6 x7 y7
 have p1:64 * M ≤ M * M:=Int.mul_le_mul_of_nonneg_right hM (by omega)
 have q1:(2 * h) * M ≤ M * M:=Int.mul_le_mul_of_nonneg_right h1 (by omega)
 have q2:M * M ≤ (2 * h + 1) * M:=Int.mul_le_mul_of_nonneg_right h2 (by omega)
 have q3:h * (2 * h) ≤ h * M:=Int.mul_le_mul_of_nonneg_left h1 (by omega)
 have q4:h * M ≤ h * (2 * h + 1):=Int.mul_le_mul_of_nonneg_left h2 (by omega)
 have q5:32 * h ≤ h * h:=Int.mul_le_mul_of_nonneg_right (by omega) (by omega)
 rw [Int.mul_assoc] at q1
 rw [Int.add_mul,Int.mul_assoc,Int.one_mul] at q2
 rw [Int.mul_left_comm] at q3
 rw [Int.mul_add,Int.mul_left_comm,Int.mul_one] at q4
 intro i hi
 refine mg_of (D:=M) (E:=M) (B i hi).1 (B i hi).2 (B _ (nxt_lt hi)).1 (B _ (nxt_lt hi)).2 (by omega) (by omega) ?_
 match i,hi with
 | 0,_ =>
  rw [show nxt 8 0 = 1 from rfl,x0,y0,x1,y1]
  simp only [Int.sub_mul,Int.mul_sub,Int.add_mul,Int.mul_add,Int.neg_mul,Int.mul_neg,Int.zero_mul,Int.mul_zero,Int.neg_neg,Int.mul_comm M h]
  omega
 | 1,_ =>
  rw [show nxt 8 1 = 2 from rfl,x1,y1,x2,y2]
  simp only [Int.sub_mul,Int.mul_sub,Int.add_mul,Int.mul_add,Int.neg_mul,Int.mul_neg,Int.zero_mul,Int.mul_zero,Int.neg_neg,Int.mul_comm M h]
  omega
 | 2,_ =>
  rw [show nxt 8 2 = 3 from rfl,x2,y2,x3,y3]
  simp only [Int.sub_mul,Int.mul_sub,Int.add_mul,Int.mul_add,Int.neg_mul,Int.mul_neg,Int.zero_mul,Int.mul_zero,Int.neg_neg,Int.mul_comm M h]
  omega
 | 3,_ =>
  rw [show nxt 8 3 = 4 from rfl,x3,y3,x4,y4]
  simp only [Int.sub_mul,Int.mul_sub,Int.add_mul,Int.mul_add,Int.neg_mul,Int.mul_neg,Int.zero_mul,Int.mul_zero,Int.neg_neg,Int.mul_comm M h]
  omega
 | 4,_ =>
  rw [show nxt 8 4 = 5 from rfl,x4,y4,x5,y5]
  simp only [Int.sub_mul,Int.mul_sub,Int.add_mul,Int.mul_add,Int.neg_mul,Int.mul_neg,Int.zero_mul,Int.mul_zero,Int.neg_neg,Int.mul_comm M h]
  omega
 | 5,_ =>
  rw [show nxt 8 5 = 6 from rfl,x5,y5,x6,y6]
  simp only [Int.sub_mul,Int.mul_sub,Int.add_mul,Int.mul_add,Int.neg_mul,Int.mul_neg,Int.zero_mul,Int.mul_zero,Int.neg_neg,Int.mul_comm M h]
  omega
 | 6,_ =>
  rw [show nxt 8 6 = 7 from rfl,x6,y6,x7,y7]
  simp only [Int.sub_mul,Int.mul_sub,Int.add_mul,Int.mul_add,Int.neg_mul,Int.mul_neg,Int.zero_mul,Int.mul_zero,Int.neg_neg,Int.mul_comm M h]
  omega
 | 7,_ =>
  rw [show nxt 8 7 = 0 from rfl,x7,y7,x0,y0]
  simp only [Int.sub_mul,Int.mul_sub,Int.add_mul,Int.mul_add,Int.neg_mul,Int.mul_neg,Int.zero_mul,Int.mul_zero,Int.neg_neg,Int.mul_comm M h]
  omega
 | i + 8,h => omega
end Go.Ax
end
section
/-
  Forms made of numbers are sound.
-/
set_option maxHeartbeats 4000000
set_option maxRecDepth 100000
namespace Go.Ax
open Go.Proofs
theorem mk_mrg {a b c:Int} (hk:¬ mkK a = 1):mrg (corN (mkK a) (mkR a b) (mkH a b b) (mkH a b c) (mkN a) (mkX a b c) (mkY a b c)) (corX (mkK a) (mkH a b b) (mkH a b c) (mkX a b c)) (corY (mkK a) (mkH a b b) (mkH a b c) (mkY a b c)):=by
 have b1:=@mkM_bd b b
 have b2:=@mkM_bd b c
 have t1:(mkM b b).tdiv 2 = mkM b b / 2:=Int.tdiv_eq_ediv_of_nonneg (by omega)
 have t2:(-mkM b b).tdiv 2 = -(mkM b b / 2):=by rw [Int.neg_tdiv,t1]
 have k0:¬ modS a 5 = 0:=fun h => hk (if_pos h)
 unfold corN
 rw [if_pos mk_chk]
 by_cases k1:modS a 5 = 1
 ·have e1:mkK a = 2:=(if_neg k0).trans (if_pos k1)
  have e2:∀ v,mkH a b v = mkW b v:=fun v => (if_neg k0).trans (if_pos k1)
  have w1:=@mkW_bd b b
  have w2:=@mkW_bd b c
  rw [e1,e2,e2,if_pos rfl]
  exact box_mrg (w:=mkW b b) (t:=mkW b c) w1.1 w2.1 rfl rfl rfl rfl rfl rfl rfl rfl
 have h1:mkK a = 3:=(if_neg k0).trans (if_neg k1)
 rw [h1,if_neg (by decide)]
 have eX:corX 3 (mkH a b b) (mkH a b c) (mkX a b c) = mkX a b c:=funext fun i => if_neg (by decide)
 have eY:corY 3 (mkH a b b) (mkH a b c) (mkY a b c) = mkY a b c:=funext fun i => if_neg (by decide)
 rw [eX,eY]
 by_cases k2:modS a 5 = 2
 ·rw [show mkN a = 3 from by unfold mkN; rw [if_neg k0,if_neg k1,if_pos k2]]
  refine tri_mrg (M:=mkM b b) (T:=mkM b c) (by omega) (by omega) ?_ ?_ ?_ ?_ ?_ ?_ <;> (first | unfold mkX | unfold mkY) <;> unfold mkP <;> rw [if_pos k2] <;> rfl
 by_cases k3:modS a 5 = 3
 ·rw [show mkN a = 5 from by unfold mkN; rw [if_neg k0,if_neg k1,if_neg k2,if_pos k3]]
  refine pen_mrg (M:=mkM b b) (T:=mkM b c) (h:=mkM b b / 2) (by omega) (by omega) (by omega) (by omega) ?_ ?_ ?_ ?_ ?_ ?_ ?_ ?_ ?_ ?_ <;> (first | unfold mkX | unfold mkY) <;> unfold mkP <;> rw [if_neg k2,if_pos k3,t1,t2] <;> rfl
 ·rw [show mkN a = 8 from by unfold mkN; rw [if_neg k0,if_neg k1,if_neg k2,if_neg k3]]
  refine oct_mrg (M:=mkM b b) (h:=mkM b b / 2) (by omega) (by omega) (by omega) ?_ ?_ ?_ ?_ ?_ ?_ ?_ ?_ ?_ ?_ ?_ ?_ ?_ ?_ ?_ ?_ <;> (first | unfold mkX | unfold mkY) <;> unfold mkP <;> rw [if_neg k2,if_neg k3,t1,t2] <;> rfl
theorem mk_mrg0 {a b c:Int} (hk:¬ mkK a = 1):∀ i,i < (corN (mkK a) (mkR a b) (mkH a b b) (mkH a b c) (mkN a) (mkX a b c) (mkY a b c)) → mg (corX (mkK a) (mkH a b b) (mkH a b c) (mkX a b c) i) (corY (mkK a) (mkH a b b) (mkH a b c) (mkY a b c) i) (corX (mkK a) (mkH a b b) (mkH a b c) (mkX a b c) (nxt (corN (mkK a) (mkR a b) (mkH a b b) (mkH a b c) (mkN a) (mkX a b c) (mkY a b c)) i)) (corY (mkK a) (mkH a b b) (mkH a b c) (mkY a b c) (nxt (corN (mkK a) (mkR a b) (mkH a b b) (mkH a b c) (mkN a) (mkX a b c) (mkY a b c)) i)) 0 0:=by
 have b1:=@mkM_bd b b
 have b2:=@mkM_bd b c
 have t1:(mkM b b).tdiv 2 = mkM b b / 2:=Int.tdiv_eq_ediv_of_nonneg (by omega)
 have t2:(-mkM b b).tdiv 2 = -(mkM b b / 2):=by rw [Int.neg_tdiv,t1]
 have k0:¬ modS a 5 = 0:=fun h => hk (if_pos h)
 unfold corN
 rw [if_pos mk_chk]
 by_cases k1:modS a 5 = 1
 ·have e1:mkK a = 2:=(if_neg k0).trans (if_pos k1)
  have e2:∀ v,mkH a b v = mkW b v:=fun v => (if_neg k0).trans (if_pos k1)
  have w1:=@mkW_bd b b
  have w2:=@mkW_bd b c
  rw [e1,e2,e2,if_pos rfl]
  exact box_mrg0 (w:=mkW b b) (t:=mkW b c) w1.1 w2.1 rfl rfl rfl rfl rfl rfl rfl rfl
 have h1:mkK a = 3:=(if_neg k0).trans (if_neg k1)
 rw [h1,if_neg (by decide)]
 have eX:corX 3 (mkH a b b) (mkH a b c) (mkX a b c) = mkX a b c:=funext fun i => if_neg (by decide)
 have eY:corY 3 (mkH a b b) (mkH a b c) (mkY a b c) = mkY a b c:=funext fun i => if_neg (by decide)
 rw [eX,eY]
 by_cases k2:modS a 5 = 2
 ·rw [show mkN a = 3 from by unfold mkN; rw [if_neg k0,if_neg k1,if_pos k2]]
  refine tri_mrg0 (M:=mkM b b) (T:=mkM b c) (by omega) (by omega) ?_ ?_ ?_ ?_ ?_ ?_ <;> (first | unfold mkX | unfold mkY) <;> unfold mkP <;> rw [if_pos k2] <;> rfl
 by_cases k3:modS a 5 = 3
 ·rw [show mkN a = 5 from by unfold mkN; rw [if_neg k0,if_neg k1,if_neg k2,if_pos k3]]
  refine pen_mrg0 (M:=mkM b b) (T:=mkM b c) (h:=mkM b b / 2) (by omega) (by omega) (by omega) (by omega) ?_ ?_ ?_ ?_ ?_ ?_ ?_ ?_ ?_ ?_ <;> (first | unfold mkX | unfold mkY) <;> unfold mkP <;> rw [if_neg k2,if_pos k3,t1,t2] <;> rfl
 ·rw [show mkN a = 8 from by unfold mkN; rw [if_neg k0,if_neg k1,if_neg k2,if_neg k3]]
  refine oct_mrg0 (M:=mkM b b) (h:=mkM b b / 2) (by omega) (by omega) (by omega) ?_ ?_ ?_ ?_ ?_ ?_ ?_ ?_ ?_ ?_ ?_ ?_ ?_ ?_ ?_ ?_ <;> (first | unfold mkX | unfold mkY) <;> unfold mkP <;> rw [if_neg k2,if_neg k3,t1,t2] <;> rfl
theorem mk_corN {a b c:Int} (hk:¬ mkK a = 1):3 ≤ corN (mkK a) (mkR a b) (mkH a b b) (mkH a b c) (mkN a) (mkX a b c) (mkY a b c) ∧ corN (mkK a) (mkR a b) (mkH a b b) (mkH a b c) (mkN a) (mkX a b c) (mkY a b c) ≤ 8:=by
 have k0:¬ modS a 5 = 0:=fun h => hk (if_pos h)
 unfold corN
 rw [if_pos mk_chk]
 by_cases k1:modS a 5 = 1
 ·have e1:mkK a = 2:=(if_neg k0).trans (if_pos k1)
  rw [if_pos e1]; omega
 have h1:mkK a = 3:=(if_neg k0).trans (if_neg k1)
 rw [if_neg (by omega)]
 unfold mkN
 rw [if_neg k0,if_neg k1]
 (repeat' split) <;> omega
theorem spV_bd {a:Int} (h:-17179869184000 ≤ a ∧ a ≤ 17179869184000):-1024001 ≤ spV (a,false) ∧ spV (a,false) ≤ 1024001:=by
 rw [spV_in (by omega)]
 omega
theorem mk_form {a b c x y u s:Int} (hs:1 ≤ s ∧ s ≤ 4000) :
  checkS (plK (mkK a) (mkR a b) (mkH a b b) (mkH a b c) (mkN a) (mkX a b c) (mkY a b c) (foAt x y s) (foRot u)) (plC (mkK a) (mkR a b) (mkH a b b) (mkH a b c) (mkN a) (mkX a b c) (mkY a b c) (foAt x y s) (foRot u) (foAt x y s).1) (plC (mkK a) (mkR a b) (mkH a b b) (mkH a b c) (mkN a) (mkX a b c) (mkY a b c) (foAt x y s) (foRot u) (foAt x y s).2)
   (plR (mkK a) (mkR a b) (mkH a b b) (mkH a b c) (mkN a) (mkX a b c) (mkY a b c) (foAt x y s) (foRot u)) (plN (mkK a) (mkR a b) (mkH a b b) (mkH a b c) (mkN a) (mkX a b c) (mkY a b c) (foAt x y s) (foRot u))
   (plX (mkK a) (mkH a b b) (mkH a b c) (mkX a b c) (mkY a b c) (foAt x y s) (foRot u)) (plY (mkK a) (mkH a b b) (mkH a b c) (mkX a b c) (mkY a b c) (foAt x y s) (foRot u)) = 0:=by
 have hp:=@mk_place a b c x y u s hs
 have h1:=@foAt_bd x s hs
 have h2:=@foAt_bd y s hs
 have w1:=@mkW_bd b b
 have s1:=spV_bd h1
 have s2:=spV_bd h2
 unfold plK plC plR plN
 rw [if_pos hp,if_pos hp,if_pos hp,if_pos hp,if_pos hp]
 have v0:validS (spV (foAt x y s).1) (spV (foAt x y s).2) = true:=by
  rw [validS_iff]
  show -2097152 ≤ spV (x.tmod (s * 4294967296),false) ∧ _ ∧ -2097152 ≤ spV (y.tmod (s * 4294967296),false) ∧ spV (y.tmod (s * 4294967296),false) ≤ 2097152
  exact ⟨by omega,by show spV (x.tmod (s * 4294967296),false) ≤ _; omega,by omega,by omega⟩
 by_cases hk:mkK a = 1
 ·have k0:modS a 5 = 0:=by
   unfold mkK at hk
   split at hk
   ·assumption
   ·split at hk <;> omega
  have r1:mkR a b = mkW b b:=if_pos k0
  rw [if_pos hk,if_pos hk,r1]
  unfold checkS
  rw [if_neg (by omega),if_neg (fun q => q ⟨v0,fun i hi => absurd hi (by omega)⟩),if_pos rfl]
  have hb:checkBoxS (spV (foAt x y s).1 - mkW b b) (spV (foAt x y s).2 - mkW b b) (spV (foAt x y s).1 + mkW b b) (spV (foAt x y s).2 + mkW b b) = 0:=by
   have g1:-1024001 ≤ spV (foAt x y s).1 ∧ spV (foAt x y s).1 ≤ 1024001:=s1
   have g2:-1024001 ≤ spV (foAt x y s).2 ∧ spV (foAt x y s).2 ≤ 1024001:=s2
   unfold checkBoxS
   rw [if_pos ⟨validS_iff.2 (by omega),validS_iff.2 (by omega)⟩,if_neg (by omega)]
  rw [if_neg (fun q => by rw [hb] at q; omega),if_neg (by omega)]
 ·have hN:=@mk_corN a b c hk
  have r1:mkR a b = 0:=if_neg fun h => hk (if_pos h)
  have hcv:convexS (corN (mkK a) (mkR a b) (mkH a b b) (mkH a b c) (mkN a) (mkX a b c) (mkY a b c)) (plX (mkK a) (mkH a b b) (mkH a b c) (mkX a b c) (mkY a b c) (foAt x y s) (foRot u)) (plY (mkK a) (mkH a b b) (mkH a b c) (mkX a b c) (mkY a b c) (foAt x y s) (foRot u)) = true:=by
   obtain ⟨f1,f2,f3,f4,f5,f6⟩:=foRot_bd u
   have e:foRot u = (((foRot u).1.1,false),((foRot u).2.1,false)):=Prod.ext (Prod.ext rfl f1) (Prod.ext rfl f2)
   refine pl_cvx (ax:=x.tmod (s * 4294967296)) (ay:=y.tmod (s * 4294967296)) (c:=(foRot u).1.1) (s:=(foRot u).2.1) hN.1 (fun i hi => cor_lo i hi) (mk_mrg hk) h1 h2 f3 f4 (by omega) (by omega) (fun i hi => ?_) (fun i hi => ?_)
   ·show spV (plPt (foAt x y s) (foRot u) _ _).1 = _
    rw [← e]; rfl
   ·show spV (plPt (foAt x y s) (foRot u) _ _).2 = _
    rw [← e]; rfl
  rw [if_neg hk,if_neg hk,r1]
  rw [r1] at hcv hN
  have hvs:=(convexS_iff.1 hcv).2.1
  unfold checkS
  rw [if_neg (by omega),if_neg (fun q => q ⟨v0,hvs⟩),if_neg (by decide),if_neg (fun q => by rw [hcv] at q; rcases q with q | q | q <;> first | omega | exact absurd q (by decide))]
end Go.Ax
end
section
/-
  Made forms within 12 units are near, and not great.
-/
set_option maxHeartbeats 4000000
set_option maxRecDepth 100000
namespace Go.Ax
open Go.Proofs
end Go.Ax
end
section
/-
  The order of two forms does not matter; no form is apart from itself.
-/
set_option maxHeartbeats 4000000
namespace Go.Ax
end Go.Ax
end
section
/-
  Two convex polygons that a line keeps apart are kept apart by the line of an edge.
-/
set_option maxHeartbeats 4000000
namespace Go.Ax
end Go.Ax
end
section
/-
  Forms whose boxes do not meet are apart.
-/
set_option maxHeartbeats 4000000
namespace Go.Ax
theorem box_ok {k x y r:Int} {n:Nat} {X Y:Nat → Int} (hA:checkS k x y r n X Y = 0):checkBoxS (boxS k x y r n X Y 0) (boxS k x y r n X Y 1) (boxS k x y r n X Y 2) (boxS k x y r n X Y 3) = 0:=by
 have cA:=check_1 hA
 by_cases hk:k = 1
 ·rw [boxS_disc hA hk,boxS_disc hA hk,boxS_disc hA hk,boxS_disc hA hk]
  exact (cA.2.2.2.1 hk).2.2.1
 ·rw [boxS_poly hA hk,boxS_poly hA hk,boxS_poly hA hk,boxS_poly hA hk]
  have hc:=convexS_iff.1 (cA.2.2.2.2 hk).2.2
  exact bx_valid (by omega) hc.2.1
end Go.Ax
end
section
/-
  SolidTouches: its body.
-/
set_option maxHeartbeats 4000000
set_option maxRecDepth 100000
namespace Go.Ax
open Go.Proofs
theorem fo_ok {a b c x y u s:Int} (hs:1 ≤ s ∧ s ≤ 4000):checkS (foK a b c x y u s) (foX a b c x y u s) (foY a b c x y u s) (foR a b c x y u s) (foN a b c x y u s) (foP a b c x y u s) (foQ a b c x y u s) = 0:=mk_form hs
section
variable {a b c x y u s:Int}
theorem spots_fo:(spots (foN a b c x y u s) fun i => [i64 (foP a b c x y u s i),i64 (foQ a b c x y u s i)]) = True:=eq_true fun l hl => ⟨rfl,spV_inR,spV_inR⟩
theorem foN_max:(foN a b c x y u s ≤ 9223372036854775806) = True:=eq_true (Nat.le_trans plN_le (by omega))
end
theorem bx_r {k x y r:Int} {n:Nat} {X Y:Nat → Int} (hA:checkS k x y r n X Y = 0):inR (boxS k x y r n X Y 0) ∧ inR (boxS k x y r n X Y 1) ∧ inR (boxS k x y r n X Y 2) ∧ inR (boxS k x y r n X Y 3):=by
 have:=checkBoxS_iff.1 (box_ok hA)
 unfold inR
 omega
end Go.Ax
end
section
/-
  SolidPlaced: its body.
-/
set_option maxHeartbeats 4000000
set_option maxRecDepth 100000
namespace Go.Ax
open Go.Proofs
theorem slope {n:Nat} {x y:Nat → Int} (hn:0 < n) (h:∀ i,i < n → 0 < x i * y (nxt n i) - y i * x (nxt n i)):∃ i,i < n ∧ 0 ≤ x i:=by
 refine Classical.byContradiction fun hc => ?_
 have hx:∀ i,i < n → x i < 0:=fun i hi => Int.not_le.1 fun q => hc ⟨i,hi,q⟩
 have tr:∀ i j k,i < n → j < n → k < n → 0 < x i * y j - y i * x j → 0 < x j * y k - y j * x k → 0 < x i * y k - y i * x k:=fun i j k hi hj hk h1 h2 => by
  have a1:=Int.mul_pos h1 (show 0 < -x k by have:=hx k hk; omega)
  have a2:=Int.mul_pos h2 (show 0 < -x i by have:=hx i hi; omega)
  have e:(x i * y j - y i * x j) * -x k + (x j * y k - y j * x k) * -x i = (x i * y k - y i * x k) * -x j:=by grind
  have a3:0 < (x i * y k - y i * x k) * -x j:=by omega
  have hj:=hx j hj
  have hj':0 < -x j:=by omega
  refine Int.not_le.1 fun q => ?_
  have:=Int.mul_nonneg (show 0 ≤ -(x i * y k - y i * x k) by omega) (Int.le_of_lt hj')
  rw [Int.neg_mul] at this
  omega
 have all:∀ j,j < n → 0 < j → 0 < x 0 * y j - y 0 * x j:=fun j => by
  induction j with
  | zero => intro _ q; omega
  | succ j ih =>
   intro hj _
   have hs:=h j (by omega)
   rw [show nxt n j = j + 1 from if_pos hj] at hs
   by_cases h0:j = 0
   ·subst h0; exact hs
   ·exact tr 0 j (j + 1) hn (by omega) hj (ih (by omega) (by omega)) hs
 have hl:=h (n - 1) (by omega)
 rw [show nxt n (n - 1) = 0 from if_neg (by omega)] at hl
 by_cases h1:n = 1
 ·subst h1
  rw [show 1 - 1 = 0 from rfl,Int.mul_comm (y 0)] at hl
  omega
 ·have:=all (n - 1) (by omega) (by omega)
  rw [Int.mul_comm (x (n - 1)),Int.mul_comm (y (n - 1))] at hl
  omega
theorem mid_box {n:Nat} {X Y:Nat → Int} {cx cy:Int} (hn:0 < n) (h:∀ i,i < n → 0 < turnS (X i) (Y i) (X (nxt n i)) (Y (nxt n i)) cx cy):mnS X n ≤ cx ∧ cx ≤ mxS X n ∧ mnS Y n ≤ cy ∧ cy ≤ mxS Y n:=by
 have e:∀ i,turnS (X i) (Y i) (X (nxt n i)) (Y (nxt n i)) cx cy = (X i - cx) * (Y (nxt n i) - cy) - (Y i - cy) * (X (nxt n i) - cx):=fun i => by unfold turnS; grind
 obtain ⟨i1,l1,k1⟩:=slope (x:=fun i => X i - cx) (y:=fun i => Y i - cy) hn fun i hi => by have:=h i hi; rw [e] at this; exact this
 obtain ⟨i2,l2,k2⟩:=slope (x:=fun i => cx - X i) (y:=fun i => cy - Y i) hn fun i hi => by have:=h i hi; rw [e] at this; show 0 < (cx - X i) * (cy - Y (nxt n i)) - (cy - Y i) * (cx - X (nxt n i)); grind
 obtain ⟨i3,l3,k3⟩:=slope (x:=fun i => Y i - cy) (y:=fun i => cx - X i) hn fun i hi => by have:=h i hi; rw [e] at this; show 0 < (Y i - cy) * (cx - X (nxt n i)) - (cx - X i) * (Y (nxt n i) - cy); grind
 obtain ⟨i4,l4,k4⟩:=slope (x:=fun i => cy - Y i) (y:=fun i => X i - cx) hn fun i hi => by have:=h i hi; rw [e] at this; show 0 < (cy - Y i) * (X (nxt n i) - cx) - (X i - cx) * (cy - Y (nxt n i)); grind
 have m1:=mxS_ge' (Z:=X) l1
 have m2:=mnS_le' (Z:=X) l2
 have m3:=mxS_ge' (Z:=Y) l3
 have m4:=mnS_le' (Z:=Y) l4
 have k1:0 ≤ X i1 - cx:=k1
 have k2:0 ≤ cx - X i2:=k2
 have k3:0 ≤ Y i3 - cy:=k3
 have k4:0 ≤ cy - Y i4:=k4
 omega
theorem cor_in {n:Nat} {X Y:Nat → Int} (hc:convexS n X Y = true) {i:Nat} (hi:i < n):inS n X Y (X i) (Y i) = true:=by
 rw [inS_iff]
 intro j hj
 by_cases h1:i = j
 ·subst h1; unfold turnS; grind
 ·by_cases h2:i = nxt n j
  ·subst h2; unfold turnS; grind
  ·exact Int.le_of_lt ((convexS_iff.1 hc).2.2 j hj i hi h1 h2)
theorem mk_mid {a b c x y u s:Int} (hs:1 ≤ s ∧ s ≤ 4000) (hk:¬ mkK a = 1) (i:Nat) (hi:i < foN a b c x y u s) :
  0 < turnS (foP a b c x y u s i) (foQ a b c x y u s i) (foP a b c x y u s (nxt (foN a b c x y u s) i)) (foQ a b c x y u s (nxt (foN a b c x y u s) i)) (foX a b c x y u s) (foY a b c x y u s):=by
 have hp:=@mk_place a b c x y u s hs
 have h1:=@foAt_bd x s hs
 have h2:=@foAt_bd y s hs
 have eN:foN a b c x y u s = corN (mkK a) (mkR a b) (mkH a b b) (mkH a b c) (mkN a) (mkX a b c) (mkY a b c):=by
  unfold foN plN
  rw [if_pos hp,if_neg hk]
 have eX:foX a b c x y u s = spV (foAt x y s).1:=if_pos hp
 have eY:foY a b c x y u s = spV (foAt x y s).2:=if_pos hp
 rw [eX,eY,eN]
 rw [eN] at hi
 obtain ⟨f1,f2,f3,f4,f5,f6⟩:=foRot_bd u
 have e:foRot u = (((foRot u).1.1,false),((foRot u).2.1,false)):=Prod.ext (Prod.ext rfl f1) (Prod.ext rfl f2)
 refine pl_mid (ax:=x.tmod (s * 4294967296)) (ay:=y.tmod (s * 4294967296)) (c:=(foRot u).1.1) (s:=(foRot u).2.1) (fun i hi => cor_lo i hi) (mk_mrg0 hk) h1 h2 f3 f4 (by omega) (by omega) (fun i hi => ?_) (fun i hi => ?_) i hi
 ·show spV (plPt (foAt x y s) (foRot u) _ _).1 = _
  rw [← e]; rfl
 ·show spV (plPt (foAt x y s) (foRot u) _ _).2 = _
  rw [← e]; rfl
theorem pl_says {a b c x y u s:Int} (hs:1 ≤ s ∧ s ≤ 4000) {k X Y r:Int} {n:Nat} {P Q:Nat → Int} (ek:foK a b c x y u s = k) (eX:foX a b c x y u s = X) (eY:foY a b c x y u s = Y) (er:foR a b c x y u s = r) (en:foN a b c x y u s = n) (eP:foP a b c x y u s = P) (eQ:foQ a b c x y u s = Q) :
  checkS k X Y r n P Q = 0 ∧ checkBoxS (boxS k X Y r n P Q 0) (boxS k X Y r n P Q 1) (boxS k X Y r n P Q 2) (boxS k X Y r n P Q 3) = 0 ∧ (∀ i,i < n → withinS (boxS k X Y r n P Q 0) (boxS k X Y r n P Q 1) (boxS k X Y r n P Q 2) (boxS k X Y r n P Q 3) (P i) (Q i) = true ∧ validS (P i) (Q i) = true ∧ holdsS k X Y r n P Q (P i) (Q i) = true) ∧
   withinS (boxS k X Y r n P Q 0) (boxS k X Y r n P Q 1) (boxS k X Y r n P Q 2) (boxS k X Y r n P Q 3) X Y = true ∧ validS X Y = true ∧ holdsS k X Y r n P Q X Y = true:=by
 have hA:=@fo_ok a b c x y u s hs
 have hm:=fun hk => @mk_mid a b c x y u s hs hk
 have hkk:foK a b c x y u s = 1 ↔ mkK a = 1:=by
  unfold foK plK
  rw [if_pos (mk_place hs)]
  by_cases hq:mkK a = 1
  ·rw [if_pos hq]; exact ⟨fun _ => hq,fun _ => rfl⟩
  ·rw [if_neg hq]; exact ⟨fun q => absurd q (by decide),fun q => absurd q hq⟩
 rw [ek,eX,eY,er,en,eP,eQ] at hA
 rw [eX,eY,en,eP,eQ] at hm
 rw [ek] at hkk
 have hb:=box_ok hA
 have cA:=check_1 hA
 refine ⟨hA,hb,?_⟩
 by_cases h1:k = 1
 ·obtain ⟨r1,r2,r3,r4⟩:=cA.2.2.2.1 h1
  obtain ⟨b0,b1,b2,b3⟩:=boxD hA h1
  refine ⟨fun i hi => absurd hi (by omega),?_,cA.2.1,?_⟩
  ·unfold withinS
   rw [decide_eq_true_eq]
   exact ⟨hb,by omega⟩
  ·unfold holdsS
   rw [if_pos h1,decide_eq_true_eq]
   unfold dist2
   have:=Int.mul_nonneg (show 0 ≤ r by omega) (show 0 ≤ r by omega)
   rw [Int.sub_self,Int.sub_self]
   omega
 ·obtain ⟨r1,r2,hc⟩:=cA.2.2.2.2 h1
  have hn:=(convexS_iff.1 hc).1
  obtain ⟨b0,b1,b2,b3⟩:=boxP hA h1
  have hm:=hm fun q => h1 (hkk.2 q)
  refine ⟨fun i hi => ⟨?_,cA.2.2.1 i hi,?_⟩,?_,cA.2.1,?_⟩
  ·unfold withinS
   rw [decide_eq_true_eq]
   refine ⟨hb,?_⟩
   rw [b0,b1,b2,b3]
   exact ⟨mnS_le' hi,mxS_ge' hi,mnS_le' hi,mxS_ge' hi⟩
  ·unfold holdsS
   rw [if_neg h1]
   exact cor_in hc hi
  ·unfold withinS
   rw [decide_eq_true_eq]
   refine ⟨hb,?_⟩
   rw [b0,b1,b2,b3]
   exact mid_box (by omega) hm
  ·unfold holdsS
   rw [if_neg h1,inS_iff]
   exact fun i hi => Int.le_of_lt (hm i hi)
theorem bnd_ro2 {n sz:Nat} {f:Nat → List AV}:bnd (.ro n sz f) = .ro n sz f:=(rfl)
theorem c8_made {a b c x y u s:Int} (hs:1 ≤ s ∧ s ≤ 4000):c8 [mkA a b c,poseA (foAt x y s) (foRot u)] = some ([spots (mkN a) fun i => [i64 (mkX a b c i),i64 (mkY a b c i)],mkN a ≤ 9223372036854775806,inR (foAt x y s).1.1,inR (foAt x y s).2.1,inR (foRot u).1.1,inR (foRot u).2.1],
  .tup [formA (foK a b c x y u s) (foX a b c x y u s) (foY a b c x y u s) (foR a b c x y u s) (foN a b c x y u s) fun i => [i64 (foP a b c x y u s i),i64 (foQ a b c x y u s i)],i64 0]):=by
 have e:=@mk_place a b c x y u s hs
 refine Eq.trans (b:=some ([spots (mkN a) fun i => [i64 (mkX a b c i),i64 (mkY a b c i)],mkN a ≤ 9223372036854775806,inR (foAt x y s).1.1,inR (foAt x y s).2.1,inR (foRot u).1.1,inR (foRot u).2.1],
  .tup [formA (foK a b c x y u s) (foX a b c x y u s) (foY a b c x y u s) (foR a b c x y u s) (foN a b c x y u s) fun i => [i64 (foP a b c x y u s i),i64 (foQ a b c x y u s i)],i64 (plErr (mkK a) (mkR a b) (mkH a b b) (mkH a b c) (mkN a) (mkX a b c) (mkY a b c) (foAt x y s) (foRot u))])) rfl (by rw [e])
theorem c45_made {a b c x y u s:Int} (hs:1 ≤ s ∧ s ≤ 4000):c45 [mkA a b c] = some ([spots (mkN a) fun i => [i64 (mkX a b c i),i64 (mkY a b c i)],mkN a ≤ 9223372036854775806],.ro (foN a b c x y u s) 2 fun i => [i64 (corX (mkK a) (mkH a b b) (mkH a b c) (mkX a b c) i),i64 (corY (mkK a) (mkH a b b) (mkH a b c) (mkY a b c) i)]):=by
 have e:foN a b c x y u s = corN (mkK a) (mkR a b) (mkH a b b) (mkH a b c) (mkN a) (mkX a b c) (mkY a b c):=by
  have hp:=@mk_place a b c x y u s hs
  unfold foN plN
  rw [if_pos hp]
  split
  ·next h1 =>
   have hc:chkS (mkK a) (mkR a b) (mkH a b b) (mkH a b c) (mkN a) (mkX a b c) (mkY a b c) = 0:=by
    refine Classical.byContradiction fun q => ?_
    unfold plErr at hp
    rw [if_pos q] at hp
    exact q hp
   rcases chk_cases hc with h | h | h
   ·unfold corN
    rw [if_pos hc,if_neg (by omega),h.2.1]
   ·omega
   ·omega
  ·rfl
 rw [e]
 rfl
theorem vc3 (A B C X Y U:Int) (h:inR A ∧ inR B ∧ inR C ∧ inR X ∧ inR Y ∧ inR U) :
  fnVC Tryz.prog [(7,c7),(9,c9),(8,c8),(10,c10),(11,c45),(12,c12),(13,c13),(14,c14),(15,c15),(16,c16)] [(2,⟨[(8,.made 7)],[]⟩)] Tryz.f3 [.agg [i64 A,i64 B,i64 C,i64 X,i64 Y,i64 U]] (· = bo true):=by
 refine fnVC_go (rs:=[.tmp 2]) rfl rfl ?_
 obtain ⟨h0,h1,h2,h3,h4,h5⟩:=h
 have h40:(1:Int) ≤ 4000 ∧ (4000:Int) ≤ 4000:=by omega
 have h41:(1:Int) ≤ 4000 ∧ (4000:Int) ≤ 1000000:=by omega
 have c8A:=@c8_made A B C X Y U 4000 h40
 have c45A:=@c45_made A B C X Y U 4000 h40
 have m1:spots (mkN A) fun i => [i64 (mkX A B C i),i64 (mkY A B C i)]:=fun i hi => ⟨rfl,mk_inR i hi⟩
 have m2:mkN A ≤ 9223372036854775806:=mkN_le
 have m3:inR (foAt X Y 4000).1.1:=tmod_inR h41
 have m4:inR (foAt X Y 4000).2.1:=tmod_inR h41
 have m5:inR (foRot U).1.1:=rg_inR (show rg (csV _ _) from snV_rg)
 have m6:inR (foRot U).2.1:=rg_inR snV_rg
 have hr:foR A B C X Y U 4000 = mkR A B:=if_pos (mk_place h40)
 have hsp:spots (foN A B C X Y U 4000) fun i => [i64 (foP A B C X Y U 4000 i),i64 (foQ A B C X Y U 4000 i)]:=of_eq_true spots_fo
 have hn:foN A B C X Y U 4000 ≤ 9223372036854775806:=of_eq_true foN_max
 have hn8:foN A B C X Y U 4000 ≤ 8:=plN_le
 have rx:inR (foX A B C X Y U 4000):=foX_inR
 have ry:inR (foY A B C X Y U 4000):=foY_inR
 have rr:inR (foR A B C X Y U 4000):=foR_inR
 obtain ⟨k,ek⟩:∃ k,foK A B C X Y U 4000 = k:=⟨_,rfl⟩
 obtain ⟨x,ex⟩:∃ k,foX A B C X Y U 4000 = k:=⟨_,rfl⟩
 obtain ⟨y,ey⟩:∃ k,foY A B C X Y U 4000 = k:=⟨_,rfl⟩
 obtain ⟨r,er⟩:∃ k,foR A B C X Y U 4000 = k:=⟨_,rfl⟩
 obtain ⟨n,en⟩:∃ k,foN A B C X Y U 4000 = k:=⟨_,rfl⟩
 obtain ⟨P,eP⟩:∃ k,foP A B C X Y U 4000 = k:=⟨_,rfl⟩
 obtain ⟨Q,eQ⟩:∃ k,foQ A B C X Y U 4000 = k:=⟨_,rfl⟩
 obtain ⟨hA,hb,hc,hm1,hm2,hm3⟩:=pl_says h40 ek ex ey er en eP eQ
 rw [er] at hr
 rw [ek,ex,ey,er,en,eP,eQ] at c8A
 rw [en] at c45A hsp hn hn8
 rw [eP,eQ] at hsp
 rw [ex] at rx
 rw [ey] at ry
 rw [er] at rr
 obtain ⟨a0,a1,a2,a3⟩:=bx_r hA
 have c10A:c10 [formA k x y r n fun i => [i64 (P i),i64 (Q i)]] = some ([spots n fun i => [i64 (P i),i64 (Q i)],n ≤ 9223372036854775806,inR x,inR y,inR r],i64 0):=by rw [← hA]; rfl
 have c12A:c12 [formA k x y r n fun i => [i64 (P i),i64 (Q i)]] = some ([spots n fun i => [i64 (P i),i64 (Q i)],n ≤ 9223372036854775806,inR x,inR y,inR r],.agg [i64 (boxS k x y r n P Q 0),i64 (boxS k x y r n P Q 1),i64 (boxS k x y r n P Q 2),i64 (boxS k x y r n P Q 3)]):=rfl
 simp only [go_sem,forall_eq,c7,c9,bnd_ro2,bne_self_eq_false,Bool.or_self,Bool.not_false,Bool.or_false,c8A,c45A,c10A,c12A,h0,h1,h2,h3,h4,h5,h41,m1,m2,m3,m4,m5,m6,hsp,hn,rx,ry,rr,hm1,hb]
 have er2:(r != mkR A B) = false:=by rw [hr]; exact bne_self_eq_false _
 refine ⟨fun h => ?_,fun _ => ?_⟩
 ·rw [er2] at h
  rcases h with (h | h) | h
  ·exact h
  ·exact h
  ·cases h
 refine loopC_go (fun (i:Nat) => i ≤ n) (fun i => n - i) (fun i => [(7,i64 (i:Int))]) (fun _ => []) [41,13] [42,43,44,45,46,49,50,51,52,53,54,55,56,57,58,59,60,61,62,63,64,65,66,2,47,48,7] 0 (by kernel_rfl) ?_ (Nat.zero_le _) ?_ ?_
 ·intro x _; simp [goodNames,asg]
 ·simp only [go_sem]
 intro i hi
 simp only [go_sem,c7,c9,c8,c10,c45,c12,c13,c14,c15,c16,forall_eq,gx_pts0,gx_pts1,hsp,hn,rx,ry,rr,a0,a1,a2,a3,hA,hb,hm1,hm2,hm3]
 refine ⟨fun hin => ?_,fun _ => ⟨fun _ => trivial,fun _ => trivial,fun _ => trivial,fun _ => trivial,fun _ => trivial,fun _ => trivial,fun _ => trivial,fun _ => trivial,fun _ => trivial,fun _ => trivial,fun _ => trivial,fun _ => trivial,fun _ => trivial,rfl⟩⟩
 have hlt:i < n:=by omega
 obtain ⟨w1,w2,w3⟩:=hc i hlt
 obtain ⟨-,r1,r2⟩:=hsp i hlt
 have r1:inR (P i):=r1
 have r2:inR (Q i):=r2
 rw [w1,w2,w3]
 refine ⟨by omega,hin,r1,r2,fun _ => by omega,fun _ => hin,fun _ => trivial,fun _ => trivial,fun _ => trivial,fun _ => trivial,fun _ => trivial,fun _ => r1,fun _ => r2,fun h => ?_,fun _ => ⟨i + 1,by omega,by omega,by rw [wrap_in (by unfold inR; omega)]; rfl⟩⟩
 rcases h with h | h
 ·cases h
 ·cases h
end Go.Ax
end
section
/-
  The frame of a law: its arguments ars abstract values, and what they read ars behind the call.
-/
namespace Go.Ax
open Go.ChangeShapes Go.WideShapes Go.ChangeAt Go.RowKit
inductive ShV where
 | int (k:IntKind)
 | bool
 | agg (es:List Sh)
 | slice (sz:Nat) (es:List Sh)
def shV (P:Program) (t:TypeId):Option ShV:=
 match P.underlying t with
 | some .bool => some .bool
 | some (.int k) => some (.int k)
 | some (.slice _) => match shT P 6 t with
  | some [.slice sz es] => some (.slice sz es)
  | _ => none
 | some (.struct _) => (shT P 6 t).map .agg
 | some (.array _ _) => (shT P 6 t).map .agg
 | _ => none
def fitV:ShV → AV → Prop
 | .int k,a => ∃ n,a = .v (.int k n) ∧ (Lit.int k n).wf = true
 | .bool,a => ∃ b,a = .v (.bool b)
 | .agg es,a => ∃ l,a = .agg l ∧ fitS es l
 | .slice sz es,a => ∃ (n:Nat) (get:Nat → List AV),a = .ro n sz get ∧ n ≤ maxLen ∧ ∀ i,fitS es (get i)
def shVs (P:Program):List TypeId → Option (List ShV)
 | [] => some []
 | t :: ts => match shV P t,shVs P ts with
  | some s,some r => some (s :: r)
  | _,_ => none
def fitVs:List ShV → List AV → Prop
 | [],l => l = []
 | s :: ss,l => ∃ a r,l = a :: r ∧ fitV s a ∧ fitVs ss r
section
variable {H:Type} {enc:TypeId × Value → H} {P:Program} {w:World} {spare:Nat → Bool} {held:Bool} {base:Nat}
theorem okWide_agg_struct {t:TypeId} {fs:Array Field} {v:Value} (ht:P.underlying t = some (.struct fs)) (h:Value.okWide P w .any base t v):∃ cs,v = .agg cs:=by
 obtain ⟨cs,h,_⟩:=okWide_struct ht h
 exact ⟨cs,h⟩
theorem trod_agg_array {t e:TypeId} {n:Nat} {v:Value} {x:DataW H} {ps:List MemPlace} (ht:P.underlying t = some (.array n e)) (h:Value.okWide P w .any base t v):∃ cs,v = .agg cs:=by
 cases v <;> simp [Value.okWide,Value.ok,ht] at h <;> exact ⟨_,rfl⟩
theorem arg_read {t:TypeId} {s:ShV} {v:Value} {x:DataW H} {ps:List MemPlace} (hs:shV P t = some s) (ho:Value.okWide P w .any base t v) (h:DataW.Trod enc P w 0 spare held t v x ps):∃ a,fitV s a ∧ R w (.ext (All w)) a v:=by
 unfold shV at hs
 split at hs
 ·rename_i hu
  cases hs
  obtain ⟨b,rfl⟩:=okWide_bool hu ho
  exact ⟨_,⟨b,rfl⟩,.v⟩
 ·rename_i k hu
  cases hs
  obtain ⟨n,rfl,_,_,hw⟩:=open_int hu ho h
  exact ⟨_,⟨n,rfl,hw⟩,.v⟩
 ·rename_i e hu
  split at hs
  ·rename_i sz es he
   cases hs
   obtain ⟨a,len,cap,rfl⟩:=okWide_slice hu ho
   obtain ⟨n,get,h1,h2,h3⟩:=slice_read he h
   exact ⟨_,⟨n,get,rfl,h1,h2⟩,h3⟩
  ·cases hs
 ·rename_i fs hu
  obtain ⟨es,he,rfl⟩:=Option.map_eq_some_iff.1 hs
  obtain ⟨cs,rfl⟩:=okWide_agg_struct hu ho
  obtain ⟨l,h1,h2⟩:=agg_read he h
  exact ⟨_,⟨l,rfl,h1⟩,h2⟩
 ·rename_i n e hu
  obtain ⟨es,he,rfl⟩:=Option.map_eq_some_iff.1 hs
  obtain ⟨cs,rfl⟩:=trod_agg_array (x:=x) (ps:=ps) hu ho
  obtain ⟨l,h1,h2⟩:=agg_read he h
  exact ⟨_,⟨l,rfl,h1⟩,h2⟩
 ·cases hs
theorem args_read:∀ {ts:List TypeId} {ss:List ShV} {vs:List Value} {ds:List (DataW H)} {ps:List MemPlace},shVs P ts = some ss → (∀ (j:Nat) t v,ts[j]? = some t → vs[j]? = some v → Value.okWide P w .any base t v) →
  DataW.TrodAll enc P w 0 spare held ts vs ds ps → ∃ l,fitVs ss l ∧ Rs w (.ext (All w)) l vs
 | [],ss,vs,ds,ps,hs,ho,h => by
  simp only [shVs,Option.some.injEq] at hs
  subst hs
  obtain ⟨rfl,rfl,rfl⟩:=trodAll_nil h
  exact ⟨[],rfl,.nil⟩
 | t :: ts,ss,vs,ds,ps,hs,ho,h => by
  simp only [shVs] at hs
  split at hs
  ·rename_i s r h1 h2
   cases hs
   obtain ⟨v,vs',d,ds',p,q,rfl,rfl,rfl,h3,h4⟩:=trodAll_cons h
   obtain ⟨a,a1,a2⟩:=arg_read h1 (ho 0 t v rfl rfl) h3
   obtain ⟨l,b1,b2⟩:=args_read h2 (fun j t v hj hv => ho (j + 1) t v (by simpa using hj) (by simpa using hv)) h4
   exact ⟨a :: l,⟨a,l,rfl,a1,b1⟩,Rs.cons a2 b2⟩
  ·cases hs
def readOK (P:Program) (ts:List TypeId):Bool:=ts.all fun t => P.readableRec t && decide (t < P.types.size)
theorem args_stay {W W':World} (hl:laidOutB P = true) (hb:Below W.heap.size W W'):∀ {ts:List TypeId} {vs:List Value} {ds:List (DataW H)} {ps:List MemPlace},readOK P ts = true →
  DataW.TrodAll enc P W 0 (fun _ => true) true ts vs ds ps → ∃ ps,DataW.TrodAll enc P W' 0 (fun b => decide (b < W.heap.size)) true ts vs ds ps
 | [],vs,ds,ps,_,h => by
  obtain ⟨rfl,rfl,rfl⟩:=trodAll_nil h
  exact ⟨[],rfl⟩
 | t :: ts,vs,ds,ps,hr,h => by
  obtain ⟨v,vs',d,ds',p,q,rfl,rfl,rfl,h3,h4⟩:=trodAll_cons h
  simp only [readOK,List.all_cons,Bool.and_eq_true,decide_eq_true_eq] at hr
  obtain ⟨q',h5⟩:=args_stay hl hb (by simpa [readOK] using hr.2) h4
  refine ⟨_,trodAll_cons_mk (Below.trod hl hr.1.1 hr.1.2 h3 hb ?_) h5⟩
  obtain ⟨m,hm⟩:=h3
  exact DataW.trod_lt m _ _ _ hm
end
end Go.Ax
end