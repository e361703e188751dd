/-
  Made polygons have a margin.
-/
import Derived.Test.YtlpbblcepjlfpaaCM5
import Derived.ShutString
import Derived.ChangeOld
import Derived.Below
section
set_option linter.unusedVariables false
set_option linter.unusedSimpArgs false
set_option maxHeartbeats 4000000
set_option maxRecDepth 100000
namespace Go.Ax
open Go.Proofs
theorem ab_bd {x D : Int} (h1 : -D ≤ x) (h2 : x ≤ D) : ab x ≤ D := by unfold ab; split <;> omega
theorem mg_of {ax ay bx byy cx cy D E : Int} (h1 : -D ≤ ax ∧ ax ≤ D) (h2 : -E ≤ ay ∧ ay ≤ E) (h3 : -D ≤ bx ∧ bx ≤ D) (h4 : -E ≤ byy ∧ byy ≤ E) (h5 : -D ≤ cx ∧ cx ≤ D) (h6 : -E ≤ cy ∧ cy ≤ E)
    (h : 8 * D + 8 * E + 8 ≤ (bx - ax) * (cy - ay) - (byy - ay) * (cx - ax)) : mg ax ay bx byy cx cy := by
  have k1 := @ab_bd (bx - ax) (2 * D) (by omega) (by omega)
  have k2 := @ab_bd (byy - ay) (2 * E) (by omega) (by omega)
  have k3 := @ab_bd (cx - ax) (2 * D) (by omega) (by omega)
  have k4 := @ab_bd (cy - ay) (2 * E) (by omega) (by omega)
  unfold mg
  generalize (bx - ax) * (cy - ay) - (byy - ay) * (cx - ax) = Q at *
  omega
theorem box_mrgB {w t : Int} (hw : 16 ≤ w) (ht : 16 ≤ t) {X Y : Nat → Int} (x0 : X 0 = -w) (y0 : Y 0 = -t) (x1 : X 1 = w) (y1 : Y 1 = -t) (x2 : X 2 = w) (y2 : Y 2 = t) (x3 : X 3 = -w) (y3 : Y 3 = t) : ∀ i, i < 4 → (-w ≤ X i ∧ X i ≤ w) ∧ (-t ≤ Y i ∧ Y i ≤ t) := by
  intro i hi
  match i, hi with
  | 0, _ => rw [x0, y0]; omega
  | 1, _ => rw [x1, y1]; omega
  | 2, _ => rw [x2, y2]; omega
  | 3, _ => rw [x3, y3]; omega
  | i + 4, h => omega
theorem box_mrg_0 {w t : Int} (hw : 16 ≤ w) (ht : 16 ≤ t) {X Y : Nat → Int} (x0 : X 0 = -w) (y0 : Y 0 = -t) (x1 : X 1 = w) (y1 : Y 1 = -t) (x2 : X 2 = w) (y2 : Y 2 = t) (x3 : X 3 = -w) (y3 : Y 3 = t) : ∀ j, j < 4 → j ≠ 0 → j ≠ 1 → 8 * w + 8 * t + 8 ≤ (X 1 - X 0) * (Y j - Y 0) - (Y 1 - Y 0) * (X j - X 0) := by
  have p1 : 16 * t ≤ w * t := Int.mul_le_mul_of_nonneg_right hw (by omega)
  have p2 : w * 16 ≤ w * t := Int.mul_le_mul_of_nonneg_left ht (by omega)
  intro j hj k1 k2
  match j, hj, k1, k2 with
  | 0, _, k1, _ => exact absurd rfl k1
  | 1, _, _, k2 => exact absurd rfl k2
  | 2, _, _, _ =>
    rw [x0, y0, x1, y1, x2, y2]
    simp only [Int.sub_mul, Int.mul_sub, Int.add_mul, Int.mul_add, Int.neg_mul, Int.mul_neg, Int.zero_mul, Int.mul_zero, Int.neg_neg, Int.mul_comm t w]
    omega
  | 3, _, _, _ =>
    rw [x0, y0, x1, y1, x3, y3]
    simp only [Int.sub_mul, Int.mul_sub, Int.add_mul, Int.mul_add, Int.neg_mul, Int.mul_neg, Int.zero_mul, Int.mul_zero, Int.neg_neg, Int.mul_comm t w]
    omega
  | j + 4, h, _, _ => omega
theorem box_mrg_1 {w t : Int} (hw : 16 ≤ w) (ht : 16 ≤ t) {X Y : Nat → Int} (x0 : X 0 = -w) (y0 : Y 0 = -t) (x1 : X 1 = w) (y1 : Y 1 = -t) (x2 : X 2 = w) (y2 : Y 2 = t) (x3 : X 3 = -w) (y3 : Y 3 = t) : ∀ j, j < 4 → j ≠ 1 → j ≠ 2 → 8 * w + 8 * t + 8 ≤ (X 2 - X 1) * (Y j - Y 1) - (Y 2 - Y 1) * (X j - X 1) := by
  have p1 : 16 * t ≤ w * t := Int.mul_le_mul_of_nonneg_right hw (by omega)
  have p2 : w * 16 ≤ w * t := Int.mul_le_mul_of_nonneg_left ht (by omega)
  intro j hj k1 k2
  match j, hj, k1, k2 with
  | 0, _, _, _ =>
    rw [x1, y1, x2, y2, x0, y0]
    simp only [Int.sub_mul, Int.mul_sub, Int.add_mul, Int.mul_add, Int.neg_mul, Int.mul_neg, Int.zero_mul, Int.mul_zero, Int.neg_neg, Int.mul_comm t w]
    omega
  | 1, _, k1, _ => exact absurd rfl k1
  | 2, _, _, k2 => exact absurd rfl k2
  | 3, _, _, _ =>
    rw [x1, y1, x2, y2, x3, y3]
    simp only [Int.sub_mul, Int.mul_sub, Int.add_mul, Int.mul_add, Int.neg_mul, Int.mul_neg, Int.zero_mul, Int.mul_zero, Int.neg_neg, Int.mul_comm t w]
    omega
  | j + 4, h, _, _ => omega
theorem box_mrg_2 {w t : Int} (hw : 16 ≤ w) (ht : 16 ≤ t) {X Y : Nat → Int} (x0 : X 0 = -w) (y0 : Y 0 = -t) (x1 : X 1 = w) (y1 : Y 1 = -t) (x2 : X 2 = w) (y2 : Y 2 = t) (x3 : X 3 = -w) (y3 : Y 3 = t) : ∀ j, j < 4 → j ≠ 2 → j ≠ 3 → 8 * w + 8 * t + 8 ≤ (X 3 - X 2) * (Y j - Y 2) - (Y 3 - Y 2) * (X j - X 2) := by
  have p1 : 16 * t ≤ w * t := Int.mul_le_mul_of_nonneg_right hw (by omega)
  have p2 : w * 16 ≤ w * t := Int.mul_le_mul_of_nonneg_left ht (by omega)
  intro j hj k1 k2
  match j, hj, k1, k2 with
  | 0, _, _, _ =>
    rw [x2, y2, x3, y3, x0, y0]
    simp only [Int.sub_mul, Int.mul_sub, Int.add_mul, Int.mul_add, Int.neg_mul, Int.mul_neg, Int.zero_mul, Int.mul_zero, Int.neg_neg, Int.mul_comm t w]
    omega
  | 1, _, _, _ =>
    rw [x2, y2, x3, y3, x1, y1]
    simp only [Int.sub_mul, Int.mul_sub, Int.add_mul, Int.mul_add, Int.neg_mul, Int.mul_neg, Int.zero_mul, Int.mul_zero, Int.neg_neg, Int.mul_comm t w]
    omega
  | 2, _, k1, _ => exact absurd rfl k1
  | 3, _, _, k2 => exact absurd rfl k2
  | j + 4, h, _, _ => omega
theorem box_mrg_3 {w t : Int} (hw : 16 ≤ w) (ht : 16 ≤ t) {X Y : Nat → Int} (x0 : X 0 = -w) (y0 : Y 0 = -t) (x1 : X 1 = w) (y1 : Y 1 = -t) (x2 : X 2 = w) (y2 : Y 2 = t) (x3 : X 3 = -w) (y3 : Y 3 = t) : ∀ j, j < 4 → j ≠ 3 → j ≠ 0 → 8 * w + 8 * t + 8 ≤ (X 0 - X 3) * (Y j - Y 3) - (Y 0 - Y 3) * (X j - X 3) := by
  have p1 : 16 * t ≤ w * t := Int.mul_le_mul_of_nonneg_right hw (by omega)
  have p2 : w * 16 ≤ w * t := Int.mul_le_mul_of_nonneg_left ht (by omega)
  intro j hj k1 k2
  match j, hj, k1, k2 with
  | 0, _, _, k2 => exact absurd rfl k2
  | 1, _, _, _ =>
    rw [x3, y3, x0, y0, x1, y1]
    simp only [Int.sub_mul, Int.mul_sub, Int.add_mul, Int.mul_add, Int.neg_mul, Int.mul_neg, Int.zero_mul, Int.mul_zero, Int.neg_neg, Int.mul_comm t w]
    omega
  | 2, _, _, _ =>
    rw [x3, y3, x0, y0, x2, y2]
    simp only [Int.sub_mul, Int.mul_sub, Int.add_mul, Int.mul_add, Int.neg_mul, Int.mul_neg, Int.zero_mul, Int.mul_zero, Int.neg_neg, Int.mul_comm t w]
    omega
  | 3, _, k1, _ => exact absurd rfl k1
  | j + 4, h, _, _ => omega
theorem box_mrg {w t : Int} (hw : 16 ≤ w) (ht : 16 ≤ t) {X Y : Nat → Int} (x0 : X 0 = -w) (y0 : Y 0 = -t) (x1 : X 1 = w) (y1 : Y 1 = -t) (x2 : X 2 = w) (y2 : Y 2 = t) (x3 : X 3 = -w) (y3 : Y 3 = t) : mrg 4 X Y := by
  have B := box_mrgB (X := X) (Y := Y) hw ht x0 y0 x1 y1 x2 y2 x3 y3
  intro i hi j hj k1 k2
  refine mg_of (D := w) (E := t) (B i hi).1 (B i hi).2 (B _ (nxt_lt hi)).1 (B _ (nxt_lt hi)).2 (B j hj).1 (B j hj).2 ?_
  match i, hi, k1, k2 with
  | 0, _, k1, k2 => exact box_mrg_0 hw ht x0 y0 x1 y1 x2 y2 x3 y3 j hj k1 k2
  | 1, _, k1, k2 => exact box_mrg_1 hw ht x0 y0 x1 y1 x2 y2 x3 y3 j hj k1 k2
  | 2, _, k1, k2 => exact box_mrg_2 hw ht x0 y0 x1 y1 x2 y2 x3 y3 j hj k1 k2
  | 3, _, k1, k2 => exact box_mrg_3 hw ht x0 y0 x1 y1 x2 y2 x3 y3 j hj k1 k2
  | i + 4, h, _, _ => omega
theorem tri_mrgB {M T : Int} (hM : 64 ≤ M) (hT : 64 ≤ T) {X Y : Nat → Int} (x0 : X 0 = -M) (y0 : Y 0 = -T) (x1 : X 1 = M) (y1 : Y 1 = -T) (x2 : X 2 = 0) (y2 : Y 2 = T) : ∀ i, i < 3 → (-M ≤ X i ∧ X i ≤ M) ∧ (-T ≤ Y i ∧ Y i ≤ T) := by
  intro i hi
  match i, hi with
  | 0, _ => rw [x0, y0]; omega
  | 1, _ => rw [x1, y1]; omega
  | 2, _ => rw [x2, y2]; omega
  | i + 3, h => omega
theorem tri_mrg_0 {M T : Int} (hM : 64 ≤ M) (hT : 64 ≤ T) {X Y : Nat → Int} (x0 : X 0 = -M) (y0 : Y 0 = -T) (x1 : X 1 = M) (y1 : Y 1 = -T) (x2 : X 2 = 0) (y2 : Y 2 = T) : ∀ j, j < 3 → j ≠ 0 → j ≠ 1 → 8 * M + 8 * T + 8 ≤ (X 1 - X 0) * (Y j - Y 0) - (Y 1 - Y 0) * (X j - X 0) := by
  obtain ⟨p1, p2⟩ := mul_ge hM hT
  intro j hj k1 k2
  match j, hj, k1, k2 with
  | 0, _, k1, _ => exact absurd rfl k1
  | 1, _, _, k2 => exact absurd rfl k2
  | 2, _, _, _ =>
    rw [x0, y0, x1, y1, x2, y2]
    simp only [Int.sub_mul, Int.mul_sub, Int.add_mul, Int.mul_add, Int.neg_mul, Int.mul_neg, Int.zero_mul, Int.mul_zero, Int.neg_neg, Int.mul_comm T M]
    omega
  | j + 3, h, _, _ => omega
theorem tri_mrg_1 {M T : Int} (hM : 64 ≤ M) (hT : 64 ≤ T) {X Y : Nat → Int} (x0 : X 0 = -M) (y0 : Y 0 = -T) (x1 : X 1 = M) (y1 : Y 1 = -T) (x2 : X 2 = 0) (y2 : Y 2 = T) : ∀ j, j < 3 → j ≠ 1 → j ≠ 2 → 8 * M + 8 * T + 8 ≤ (X 2 - X 1) * (Y j - Y 1) - (Y 2 - Y 1) * (X j - X 1) := by
  obtain ⟨p1, p2⟩ := mul_ge hM hT
  intro j hj k1 k2
  match j, hj, k1, k2 with
  | 0, _, _, _ =>
    rw [x1, y1, x2, y2, x0, y0]
    simp only [Int.sub_mul, Int.mul_sub, Int.add_mul, Int.mul_add, Int.neg_mul, Int.mul_neg, Int.zero_mul, Int.mul_zero, Int.neg_neg, Int.mul_comm T M]
    omega
  | 1, _, k1, _ => exact absurd rfl k1
  | 2, _, _, k2 => exact absurd rfl k2
  | j + 3, h, _, _ => omega
theorem tri_mrg_2 {M T : Int} (hM : 64 ≤ M) (hT : 64 ≤ T) {X Y : Nat → Int} (x0 : X 0 = -M) (y0 : Y 0 = -T) (x1 : X 1 = M) (y1 : Y 1 = -T) (x2 : X 2 = 0) (y2 : Y 2 = T) : ∀ j, j < 3 → j ≠ 2 → j ≠ 0 → 8 * M + 8 * T + 8 ≤ (X 0 - X 2) * (Y j - Y 2) - (Y 0 - Y 2) * (X j - X 2) := by
  obtain ⟨p1, p2⟩ := mul_ge hM hT
  intro j hj k1 k2
  match j, hj, k1, k2 with
  | 0, _, _, k2 => exact absurd rfl k2
  | 1, _, _, _ =>
    rw [x2, y2, x0, y0, x1, y1]
    simp only [Int.sub_mul, Int.mul_sub, Int.add_mul, Int.mul_add, Int.neg_mul, Int.mul_neg, Int.zero_mul, Int.mul_zero, Int.neg_neg, Int.mul_comm T M]
    omega
  | 2, _, k1, _ => exact absurd rfl k1
  | j + 3, h, _, _ => omega
theorem tri_mrg {M T : Int} (hM : 64 ≤ M) (hT : 64 ≤ T) {X Y : Nat → Int} (x0 : X 0 = -M) (y0 : Y 0 = -T) (x1 : X 1 = M) (y1 : Y 1 = -T) (x2 : X 2 = 0) (y2 : Y 2 = T) : mrg 3 X Y := by
  have B := tri_mrgB (X := X) (Y := Y) hM hT x0 y0 x1 y1 x2 y2
  intro i hi j hj k1 k2
  refine mg_of (D := M) (E := T) (B i hi).1 (B i hi).2 (B _ (nxt_lt hi)).1 (B _ (nxt_lt hi)).2 (B j hj).1 (B j hj).2 ?_
  match i, hi, k1, k2 with
  | 0, _, k1, k2 => exact tri_mrg_0 hM hT x0 y0 x1 y1 x2 y2 j hj k1 k2
  | 1, _, k1, k2 => exact tri_mrg_1 hM hT x0 y0 x1 y1 x2 y2 j hj k1 k2
  | 2, _, k1, k2 => exact tri_mrg_2 hM hT x0 y0 x1 y1 x2 y2 j hj k1 k2
  | i + 3, h, _, _ => omega
theorem pen_mrgB {M T h : Int} (hM : 64 ≤ M) (hT : 64 ≤ T) (h1 : 2 * h ≤ M) (h2 : M ≤ 2 * h + 1) {X Y : Nat → Int} (x0 : X 0 = -h) (y0 : Y 0 = -T) (x1 : X 1 = h) (y1 : Y 1 = -T) (x2 : X 2 = M) (y2 : Y 2 = 0) (x3 : X 3 = 0) (y3 : Y 3 = T) (x4 : X 4 = -M) (y4 : Y 4 = 0) : ∀ i, i < 5 → (-M ≤ X i ∧ X i ≤ M) ∧ (-T ≤ Y i ∧ Y i ≤ T) := by
  intro i hi
  match i, hi with
  | 0, _ => rw [x0, y0]; omega
  | 1, _ => rw [x1, y1]; omega
  | 2, _ => rw [x2, y2]; omega
  | 3, _ => rw [x3, y3]; omega
  | 4, _ => rw [x4, y4]; omega
  | i + 5, h => omega
theorem pen_mrg_0 {M T h : Int} (hM : 64 ≤ M) (hT : 64 ≤ T) (h1 : 2 * h ≤ M) (h2 : M ≤ 2 * h + 1) {X Y : Nat → Int} (x0 : X 0 = -h) (y0 : Y 0 = -T) (x1 : X 1 = h) (y1 : Y 1 = -T) (x2 : X 2 = M) (y2 : Y 2 = 0) (x3 : X 3 = 0) (y3 : Y 3 = T) (x4 : X 4 = -M) (y4 : Y 4 = 0) : ∀ j, j < 5 → j ≠ 0 → j ≠ 1 → 8 * M + 8 * T + 8 ≤ (X 1 - X 0) * (Y j - Y 0) - (Y 1 - Y 0) * (X j - X 0) := by
  obtain ⟨p1, p2⟩ := mul_ge hM hT
  have q1 : (2 * h) * T ≤ M * T := Int.mul_le_mul_of_nonneg_right h1 (by omega)
  have q2 : M * T ≤ (2 * h + 1) * T := Int.mul_le_mul_of_nonneg_right h2 (by omega)
  rw [Int.mul_assoc] at q1
  rw [Int.add_mul, Int.mul_assoc, Int.one_mul] at q2
  intro j hj k1 k2
  match j, hj, k1, k2 with
  | 0, _, k1, _ => exact absurd rfl k1
  | 1, _, _, k2 => exact absurd rfl k2
  | 2, _, _, _ =>
    rw [x0, y0, x1, y1, x2, y2]
    simp only [Int.sub_mul, Int.mul_sub, Int.add_mul, Int.mul_add, Int.neg_mul, Int.mul_neg, Int.zero_mul, Int.mul_zero, Int.neg_neg, Int.mul_comm T M, Int.mul_comm T h]
    omega
  | 3, _, _, _ =>
    rw [x0, y0, x1, y1, x3, y3]
    simp only [Int.sub_mul, Int.mul_sub, Int.add_mul, Int.mul_add, Int.neg_mul, Int.mul_neg, Int.zero_mul, Int.mul_zero, Int.neg_neg, Int.mul_comm T M, Int.mul_comm T h]
    omega
  | 4, _, _, _ =>
    rw [x0, y0, x1, y1, x4, y4]
    simp only [Int.sub_mul, Int.mul_sub, Int.add_mul, Int.mul_add, Int.neg_mul, Int.mul_neg, Int.zero_mul, Int.mul_zero, Int.neg_neg, Int.mul_comm T M, Int.mul_comm T h]
    omega
  | j + 5, h, _, _ => omega
theorem pen_mrg_1 {M T h : Int} (hM : 64 ≤ M) (hT : 64 ≤ T) (h1 : 2 * h ≤ M) (h2 : M ≤ 2 * h + 1) {X Y : Nat → Int} (x0 : X 0 = -h) (y0 : Y 0 = -T) (x1 : X 1 = h) (y1 : Y 1 = -T) (x2 : X 2 = M) (y2 : Y 2 = 0) (x3 : X 3 = 0) (y3 : Y 3 = T) (x4 : X 4 = -M) (y4 : Y 4 = 0) : ∀ j, j < 5 → j ≠ 1 → j ≠ 2 → 8 * M + 8 * T + 8 ≤ (X 2 - X 1) * (Y j - Y 1) - (Y 2 - Y 1) * (X j - X 1) := by
  obtain ⟨p1, p2⟩ := mul_ge hM hT
  have q1 : (2 * h) * T ≤ M * T := Int.mul_le_mul_of_nonneg_right h1 (by omega)
  have q2 : M * T ≤ (2 * h + 1) * T := Int.mul_le_mul_of_nonneg_right h2 (by omega)
  rw [Int.mul_assoc] at q1
  rw [Int.add_mul, Int.mul_assoc, Int.one_mul] at q2
  intro j hj k1 k2
  match j, hj, k1, k2 with
  | 0, _, _, _ =>
    rw [x1, y1, x2, y2, x0, y0]
    simp only [Int.sub_mul, Int.mul_sub, Int.add_mul, Int.mul_add, Int.neg_mul, Int.mul_neg, Int.zero_mul, Int.mul_zero, Int.neg_neg, Int.mul_comm T M, Int.mul_comm T h]
    omega
  | 1, _, k1, _ => exact absurd rfl k1
  | 2, _, _, k2 => exact absurd rfl k2
  | 3, _, _, _ =>
    rw [x1, y1, x2, y2, x3, y3]
    simp only [Int.sub_mul, Int.mul_sub, Int.add_mul, Int.mul_add, Int.neg_mul, Int.mul_neg, Int.zero_mul, Int.mul_zero, Int.neg_neg, Int.mul_comm T M, Int.mul_comm T h]
    omega
  | 4, _, _, _ =>
    rw [x1, y1, x2, y2, x4, y4]
    simp only [Int.sub_mul, Int.mul_sub, Int.add_mul, Int.mul_add, Int.neg_mul, Int.mul_neg, Int.zero_mul, Int.mul_zero, Int.neg_neg, Int.mul_comm T M, Int.mul_comm T h]
    omega
  | j + 5, h, _, _ => omega
theorem pen_mrg_2 {M T h : Int} (hM : 64 ≤ M) (hT : 64 ≤ T) (h1 : 2 * h ≤ M) (h2 : M ≤ 2 * h + 1) {X Y : Nat → Int} (x0 : X 0 = -h) (y0 : Y 0 = -T) (x1 : X 1 = h) (y1 : Y 1 = -T) (x2 : X 2 = M) (y2 : Y 2 = 0) (x3 : X 3 = 0) (y3 : Y 3 = T) (x4 : X 4 = -M) (y4 : Y 4 = 0) : ∀ j, j < 5 → j ≠ 2 → j ≠ 3 → 8 * M + 8 * T + 8 ≤ (X 3 - X 2) * (Y j - Y 2) - (Y 3 - Y 2) * (X j - X 2) := by
  obtain ⟨p1, p2⟩ := mul_ge hM hT
  have q1 : (2 * h) * T ≤ M * T := Int.mul_le_mul_of_nonneg_right h1 (by omega)
  have q2 : M * T ≤ (2 * h + 1) * T := Int.mul_le_mul_of_nonneg_right h2 (by omega)
  rw [Int.mul_assoc] at q1
  rw [Int.add_mul, Int.mul_assoc, Int.one_mul] at q2
  intro j hj k1 k2
  match j, hj, k1, k2 with
  | 0, _, _, _ =>
    rw [x2, y2, x3, y3, x0, y0]
    simp only [Int.sub_mul, Int.mul_sub, Int.add_mul, Int.mul_add, Int.neg_mul, Int.mul_neg, Int.zero_mul, Int.mul_zero, Int.neg_neg, Int.mul_comm T M, Int.mul_comm T h]
    omega
  | 1, _, _, _ =>
    rw [x2, y2, x3, y3, x1, y1]
    simp only [Int.sub_mul, Int.mul_sub, Int.add_mul, Int.mul_add, Int.neg_mul, Int.mul_neg, Int.zero_mul, Int.mul_zero, Int.neg_neg, Int.mul_comm T M, Int.mul_comm T h]
    omega
  | 2, _, k1, _ => exact absurd rfl k1
  | 3, _, _, k2 => exact absurd rfl k2
  | 4, _, _, _ =>
    rw [x2, y2, x3, y3, x4, y4]
    simp only [Int.sub_mul, Int.mul_sub, Int.add_mul, Int.mul_add, Int.neg_mul, Int.mul_neg, Int.zero_mul, Int.mul_zero, Int.neg_neg, Int.mul_comm T M, Int.mul_comm T h]
    omega
  | j + 5, h, _, _ => omega
theorem pen_mrg_3 {M T h : Int} (hM : 64 ≤ M) (hT : 64 ≤ T) (h1 : 2 * h ≤ M) (h2 : M ≤ 2 * h + 1) {X Y : Nat → Int} (x0 : X 0 = -h) (y0 : Y 0 = -T) (x1 : X 1 = h) (y1 : Y 1 = -T) (x2 : X 2 = M) (y2 : Y 2 = 0) (x3 : X 3 = 0) (y3 : Y 3 = T) (x4 : X 4 = -M) (y4 : Y 4 = 0) : ∀ j, j < 5 → j ≠ 3 → j ≠ 4 → 8 * M + 8 * T + 8 ≤ (X 4 - X 3) * (Y j - Y 3) - (Y 4 - Y 3) * (X j - X 3) := by
  obtain ⟨p1, p2⟩ := mul_ge hM hT
  have q1 : (2 * h) * T ≤ M * T := Int.mul_le_mul_of_nonneg_right h1 (by omega)
  have q2 : M * T ≤ (2 * h + 1) * T := Int.mul_le_mul_of_nonneg_right h2 (by omega)
  rw [Int.mul_assoc] at q1
  rw [Int.add_mul, Int.mul_assoc, Int.one_mul] at q2
  intro j hj k1 k2
  match j, hj, k1, k2 with
  | 0, _, _, _ =>
    rw [x3, y3, x4, y4, x0, y0]
    simp only [Int.sub_mul, Int.mul_sub, Int.add_mul, Int.mul_add, Int.neg_mul, Int.mul_neg, Int.zero_mul, Int.mul_zero, Int.neg_neg, Int.mul_comm T M, Int.mul_comm T h]
    omega
  | 1, _, _, _ =>
    rw [x3, y3, x4, y4, x1, y1]
    simp only [Int.sub_mul, Int.mul_sub, Int.add_mul, Int.mul_add, Int.neg_mul, Int.mul_neg, Int.zero_mul, Int.mul_zero, Int.neg_neg, Int.mul_comm T M, Int.mul_comm T h]
    omega
  | 2, _, _, _ =>
    rw [x3, y3, x4, y4, x2, y2]
    simp only [Int.sub_mul, Int.mul_sub, Int.add_mul, Int.mul_add, Int.neg_mul, Int.mul_neg, Int.zero_mul, Int.mul_zero, Int.neg_neg, Int.mul_comm T M, Int.mul_comm T h]
    omega
  | 3, _, k1, _ => exact absurd rfl k1
  | 4, _, _, k2 => exact absurd rfl k2
  | j + 5, h, _, _ => omega
theorem pen_mrg_4 {M T h : Int} (hM : 64 ≤ M) (hT : 64 ≤ T) (h1 : 2 * h ≤ M) (h2 : M ≤ 2 * h + 1) {X Y : Nat → Int} (x0 : X 0 = -h) (y0 : Y 0 = -T) (x1 : X 1 = h) (y1 : Y 1 = -T) (x2 : X 2 = M) (y2 : Y 2 = 0) (x3 : X 3 = 0) (y3 : Y 3 = T) (x4 : X 4 = -M) (y4 : Y 4 = 0) : ∀ j, j < 5 → j ≠ 4 → j ≠ 0 → 8 * M + 8 * T + 8 ≤ (X 0 - X 4) * (Y j - Y 4) - (Y 0 - Y 4) * (X j - X 4) := by
  obtain ⟨p1, p2⟩ := mul_ge hM hT
  have q1 : (2 * h) * T ≤ M * T := Int.mul_le_mul_of_nonneg_right h1 (by omega)
  have q2 : M * T ≤ (2 * h + 1) * T := Int.mul_le_mul_of_nonneg_right h2 (by omega)
  rw [Int.mul_assoc] at q1
  rw [Int.add_mul, Int.mul_assoc, Int.one_mul] at q2
  intro j hj k1 k2
  match j, hj, k1, k2 with
  | 0, _, _, k2 => exact absurd rfl k2
  | 1, _, _, _ =>
    rw [x4, y4, x0, y0, x1, y1]
    simp only [Int.sub_mul, Int.mul_sub, Int.add_mul, Int.mul_add, Int.neg_mul, Int.mul_neg, Int.zero_mul, Int.mul_zero, Int.neg_neg, Int.mul_comm T M, Int.mul_comm T h]
    omega
  | 2, _, _, _ =>
    rw [x4, y4, x0, y0, x2, y2]
    simp only [Int.sub_mul, Int.mul_sub, Int.add_mul, Int.mul_add, Int.neg_mul, Int.mul_neg, Int.zero_mul, Int.mul_zero, Int.neg_neg, Int.mul_comm T M, Int.mul_comm T h]
    omega
  | 3, _, _, _ =>
    rw [x4, y4, x0, y0, x3, y3]
    simp only [Int.sub_mul, Int.mul_sub, Int.add_mul, Int.mul_add, Int.neg_mul, Int.mul_neg, Int.zero_mul, Int.mul_zero, Int.neg_neg, Int.mul_comm T M, Int.mul_comm T h]
    omega
  | 4, _, k1, _ => exact absurd rfl k1
  | j + 5, h, _, _ => omega
theorem pen_mrg {M T h : Int} (hM : 64 ≤ M) (hT : 64 ≤ T) (h1 : 2 * h ≤ M) (h2 : M ≤ 2 * h + 1) {X Y : Nat → Int} (x0 : X 0 = -h) (y0 : Y 0 = -T) (x1 : X 1 = h) (y1 : Y 1 = -T) (x2 : X 2 = M) (y2 : Y 2 = 0) (x3 : X 3 = 0) (y3 : Y 3 = T) (x4 : X 4 = -M) (y4 : Y 4 = 0) : mrg 5 X Y := by
  have B := pen_mrgB (X := X) (Y := Y) hM hT h1 h2 x0 y0 x1 y1 x2 y2 x3 y3 x4 y4
  intro i hi j hj k1 k2
  refine mg_of (D := M) (E := T) (B i hi).1 (B i hi).2 (B _ (nxt_lt hi)).1 (B _ (nxt_lt hi)).2 (B j hj).1 (B j hj).2 ?_
  match i, hi, k1, k2 with
  | 0, _, k1, k2 => exact pen_mrg_0 hM hT h1 h2 x0 y0 x1 y1 x2 y2 x3 y3 x4 y4 j hj k1 k2
  | 1, _, k1, k2 => exact pen_mrg_1 hM hT h1 h2 x0 y0 x1 y1 x2 y2 x3 y3 x4 y4 j hj k1 k2
  | 2, _, k1, k2 => exact pen_mrg_2 hM hT h1 h2 x0 y0 x1 y1 x2 y2 x3 y3 x4 y4 j hj k1 k2
  | 3, _, k1, k2 => exact pen_mrg_3 hM hT h1 h2 x0 y0 x1 y1 x2 y2 x3 y3 x4 y4 j hj k1 k2
  | 4, _, k1, k2 => exact pen_mrg_4 hM hT h1 h2 x0 y0 x1 y1 x2 y2 x3 y3 x4 y4 j hj k1 k2
  | i + 5, h, _, _ => omega
theorem oct_mrgB {M h : Int} (hM : 64 ≤ M) (h1 : 2 * h ≤ M) (h2 : M ≤ 2 * h + 1) {X Y : Nat → Int} (x0 : X 0 = M) (y0 : Y 0 = -h) (x1 : X 1 = M) (y1 : Y 1 = h) (x2 : X 2 = h) (y2 : Y 2 = M) (x3 : X 3 = -h) (y3 : Y 3 = M) (x4 : X 4 = -M) (y4 : Y 4 = h) (x5 : X 5 = -M) (y5 : Y 5 = -h) (x6 : X 6 = -h) (y6 : Y 6 = -M) (x7 : X 7 = h) (y7 : Y 7 = -M) : ∀ i, i < 8 → (-M ≤ X i ∧ X i ≤ M) ∧ (-M ≤ Y i ∧ Y i ≤ M) := by
  intro i hi
  match i, hi with
  | 0, _ => rw [x0, y0]; omega
  | 1, _ => rw [x1, y1]; omega
  | 2, _ => rw [x2, y2]; omega
  | 3, _ => rw [x3, y3]; omega
  | 4, _ => rw [x4, y4]; omega
  | 5, _ => rw [x5, y5]; omega
  | 6, _ => rw [x6, y6]; omega
  | 7, _ => rw [x7, y7]; omega
  | i + 8, h => omega
theorem oct_mrg_0 {M h : Int} (hM : 64 ≤ M) (h1 : 2 * h ≤ M) (h2 : M ≤ 2 * h + 1) {X Y : Nat → Int} (x0 : X 0 = M) (y0 : Y 0 = -h) (x1 : X 1 = M) (y1 : Y 1 = h) (x2 : X 2 = h) (y2 : Y 2 = M) (x3 : X 3 = -h) (y3 : Y 3 = M) (x4 : X 4 = -M) (y4 : Y 4 = h) (x5 : X 5 = -M) (y5 : Y 5 = -h) (x6 : X 6 = -h) (y6 : Y 6 = -M) (x7 : X 7 = h) (y7 : Y 7 = -M) : ∀ j, j < 8 → j ≠ 0 → j ≠ 1 → 8 * M + 8 * M + 8 ≤ (X 1 - X 0) * (Y j - Y 0) - (Y 1 - Y 0) * (X j - X 0) := by
  have p1 : 64 * M ≤ M * M := Int.mul_le_mul_of_nonneg_right hM (by omega)
  have q1 : (2 * h) * M ≤ M * M := Int.mul_le_mul_of_nonneg_right h1 (by omega)
  have q2 : M * M ≤ (2 * h + 1) * M := Int.mul_le_mul_of_nonneg_right h2 (by omega)
  have q3 : h * (2 * h) ≤ h * M := Int.mul_le_mul_of_nonneg_left h1 (by omega)
  have q4 : h * M ≤ h * (2 * h + 1) := Int.mul_le_mul_of_nonneg_left h2 (by omega)
  have q5 : 32 * h ≤ h * h := Int.mul_le_mul_of_nonneg_right (by omega) (by omega)
  rw [Int.mul_assoc] at q1
  rw [Int.add_mul, Int.mul_assoc, Int.one_mul] at q2
  rw [Int.mul_left_comm] at q3
  rw [Int.mul_add, Int.mul_left_comm, Int.mul_one] at q4
  intro j hj k1 k2
  match j, hj, k1, k2 with
  | 0, _, k1, _ => exact absurd rfl k1
  | 1, _, _, k2 => exact absurd rfl k2
  | 2, _, _, _ =>
    rw [x0, y0, x1, y1, x2, y2]
    simp only [Int.sub_mul, Int.mul_sub, Int.add_mul, Int.mul_add, Int.neg_mul, Int.mul_neg, Int.zero_mul, Int.mul_zero, Int.neg_neg, Int.mul_comm M h]
    omega
  | 3, _, _, _ =>
    rw [x0, y0, x1, y1, x3, y3]
    simp only [Int.sub_mul, Int.mul_sub, Int.add_mul, Int.mul_add, Int.neg_mul, Int.mul_neg, Int.zero_mul, Int.mul_zero, Int.neg_neg, Int.mul_comm M h]
    omega
  | 4, _, _, _ =>
    rw [x0, y0, x1, y1, x4, y4]
    simp only [Int.sub_mul, Int.mul_sub, Int.add_mul, Int.mul_add, Int.neg_mul, Int.mul_neg, Int.zero_mul, Int.mul_zero, Int.neg_neg, Int.mul_comm M h]
    omega
  | 5, _, _, _ =>
    rw [x0, y0, x1, y1, x5, y5]
    simp only [Int.sub_mul, Int.mul_sub, Int.add_mul, Int.mul_add, Int.neg_mul, Int.mul_neg, Int.zero_mul, Int.mul_zero, Int.neg_neg, Int.mul_comm M h]
    omega
  | 6, _, _, _ =>
    rw [x0, y0, x1, y1, x6, y6]
    simp only [Int.sub_mul, Int.mul_sub, Int.add_mul, Int.mul_add, Int.neg_mul, Int.mul_neg, Int.zero_mul, Int.mul_zero, Int.neg_neg, Int.mul_comm M h]
    omega
  | 7, _, _, _ =>
    rw [x0, y0, x1, y1, x7, y7]
    simp only [Int.sub_mul, Int.mul_sub, Int.add_mul, Int.mul_add, Int.neg_mul, Int.mul_neg, Int.zero_mul, Int.mul_zero, Int.neg_neg, Int.mul_comm M h]
    omega
  | j + 8, h, _, _ => omega
theorem oct_mrg_1 {M h : Int} (hM : 64 ≤ M) (h1 : 2 * h ≤ M) (h2 : M ≤ 2 * h + 1) {X Y : Nat → Int} (x0 : X 0 = M) (y0 : Y 0 = -h) (x1 : X 1 = M) (y1 : Y 1 = h) (x2 : X 2 = h) (y2 : Y 2 = M) (x3 : X 3 = -h) (y3 : Y 3 = M) (x4 : X 4 = -M) (y4 : Y 4 = h) (x5 : X 5 = -M) (y5 : Y 5 = -h) (x6 : X 6 = -h) (y6 : Y 6 = -M) (x7 : X 7 = h) (y7 : Y 7 = -M) : ∀ j, j < 8 → j ≠ 1 → j ≠ 2 → 8 * M + 8 * M + 8 ≤ (X 2 - X 1) * (Y j - Y 1) - (Y 2 - Y 1) * (X j - X 1) := by
  have p1 : 64 * M ≤ M * M := Int.mul_le_mul_of_nonneg_right hM (by omega)
  have q1 : (2 * h) * M ≤ M * M := Int.mul_le_mul_of_nonneg_right h1 (by omega)
  have q2 : M * M ≤ (2 * h + 1) * M := Int.mul_le_mul_of_nonneg_right h2 (by omega)
  have q3 : h * (2 * h) ≤ h * M := Int.mul_le_mul_of_nonneg_left h1 (by omega)
  have q4 : h * M ≤ h * (2 * h + 1) := Int.mul_le_mul_of_nonneg_left h2 (by omega)
  have q5 : 32 * h ≤ h * h := Int.mul_le_mul_of_nonneg_right (by omega) (by omega)
  rw [Int.mul_assoc] at q1
  rw [Int.add_mul, Int.mul_assoc, Int.one_mul] at q2
  rw [Int.mul_left_comm] at q3
  rw [Int.mul_add, Int.mul_left_comm, Int.mul_one] at q4
  intro j hj k1 k2
  match j, hj, k1, k2 with
  | 0, _, _, _ =>
    rw [x1, y1, x2, y2, x0, y0]
    simp only [Int.sub_mul, Int.mul_sub, Int.add_mul, Int.mul_add, Int.neg_mul, Int.mul_neg, Int.zero_mul, Int.mul_zero, Int.neg_neg, Int.mul_comm M h]
    omega
  | 1, _, k1, _ => exact absurd rfl k1
  | 2, _, _, k2 => exact absurd rfl k2
  | 3, _, _, _ =>
    rw [x1, y1, x2, y2, x3, y3]
    simp only [Int.sub_mul, Int.mul_sub, Int.add_mul, Int.mul_add, Int.neg_mul, Int.mul_neg, Int.zero_mul, Int.mul_zero, Int.neg_neg, Int.mul_comm M h]
    omega
  | 4, _, _, _ =>
    rw [x1, y1, x2, y2, x4, y4]
    simp only [Int.sub_mul, Int.mul_sub, Int.add_mul, Int.mul_add, Int.neg_mul, Int.mul_neg, Int.zero_mul, Int.mul_zero, Int.neg_neg, Int.mul_comm M h]
    omega
  | 5, _, _, _ =>
    rw [x1, y1, x2, y2, x5, y5]
    simp only [Int.sub_mul, Int.mul_sub, Int.add_mul, Int.mul_add, Int.neg_mul, Int.mul_neg, Int.zero_mul, Int.mul_zero, Int.neg_neg, Int.mul_comm M h]
    omega
  | 6, _, _, _ =>
    rw [x1, y1, x2, y2, x6, y6]
    simp only [Int.sub_mul, Int.mul_sub, Int.add_mul, Int.mul_add, Int.neg_mul, Int.mul_neg, Int.zero_mul, Int.mul_zero, Int.neg_neg, Int.mul_comm M h]
    omega
  | 7, _, _, _ =>
    rw [x1, y1, x2, y2, x7, y7]
    simp only [Int.sub_mul, Int.mul_sub, Int.add_mul, Int.mul_add, Int.neg_mul, Int.mul_neg, Int.zero_mul, Int.mul_zero, Int.neg_neg, Int.mul_comm M h]
    omega
  | j + 8, h, _, _ => omega
theorem oct_mrg_2 {M h : Int} (hM : 64 ≤ M) (h1 : 2 * h ≤ M) (h2 : M ≤ 2 * h + 1) {X Y : Nat → Int} (x0 : X 0 = M) (y0 : Y 0 = -h) (x1 : X 1 = M) (y1 : Y 1 = h) (x2 : X 2 = h) (y2 : Y 2 = M) (x3 : X 3 = -h) (y3 : Y 3 = M) (x4 : X 4 = -M) (y4 : Y 4 = h) (x5 : X 5 = -M) (y5 : Y 5 = -h) (x6 : X 6 = -h) (y6 : Y 6 = -M) (x7 : X 7 = h) (y7 : Y 7 = -M) : ∀ j, j < 8 → j ≠ 2 → j ≠ 3 → 8 * M + 8 * M + 8 ≤ (X 3 - X 2) * (Y j - Y 2) - (Y 3 - Y 2) * (X j - X 2) := by
  have p1 : 64 * M ≤ M * M := Int.mul_le_mul_of_nonneg_right hM (by omega)
  have q1 : (2 * h) * M ≤ M * M := Int.mul_le_mul_of_nonneg_right h1 (by omega)
  have q2 : M * M ≤ (2 * h + 1) * M := Int.mul_le_mul_of_nonneg_right h2 (by omega)
  have q3 : h * (2 * h) ≤ h * M := Int.mul_le_mul_of_nonneg_left h1 (by omega)
  have q4 : h * M ≤ h * (2 * h + 1) := Int.mul_le_mul_of_nonneg_left h2 (by omega)
  have q5 : 32 * h ≤ h * h := Int.mul_le_mul_of_nonneg_right (by omega) (by omega)
  rw [Int.mul_assoc] at q1
  rw [Int.add_mul, Int.mul_assoc, Int.one_mul] at q2
  rw [Int.mul_left_comm] at q3
  rw [Int.mul_add, Int.mul_left_comm, Int.mul_one] at q4
  intro j hj k1 k2
  match j, hj, k1, k2 with
  | 0, _, _, _ =>
    rw [x2, y2, x3, y3, x0, y0]
    simp only [Int.sub_mul, Int.mul_sub, Int.add_mul, Int.mul_add, Int.neg_mul, Int.mul_neg, Int.zero_mul, Int.mul_zero, Int.neg_neg, Int.mul_comm M h]
    omega
  | 1, _, _, _ =>
    rw [x2, y2, x3, y3, x1, y1]
    simp only [Int.sub_mul, Int.mul_sub, Int.add_mul, Int.mul_add, Int.neg_mul, Int.mul_neg, Int.zero_mul, Int.mul_zero, Int.neg_neg, Int.mul_comm M h]
    omega
  | 2, _, k1, _ => exact absurd rfl k1
  | 3, _, _, k2 => exact absurd rfl k2
  | 4, _, _, _ =>
    rw [x2, y2, x3, y3, x4, y4]
    simp only [Int.sub_mul, Int.mul_sub, Int.add_mul, Int.mul_add, Int.neg_mul, Int.mul_neg, Int.zero_mul, Int.mul_zero, Int.neg_neg, Int.mul_comm M h]
    omega
  | 5, _, _, _ =>
    rw [x2, y2, x3, y3, x5, y5]
    simp only [Int.sub_mul, Int.mul_sub, Int.add_mul, Int.mul_add, Int.neg_mul, Int.mul_neg, Int.zero_mul, Int.mul_zero, Int.neg_neg, Int.mul_comm M h]
    omega
  | 6, _, _, _ =>
    rw [x2, y2, x3, y3, x6, y6]
    simp only [Int.sub_mul, Int.mul_sub, Int.add_mul, Int.mul_add, Int.neg_mul, Int.mul_neg, Int.zero_mul, Int.mul_zero, Int.neg_neg, Int.mul_comm M h]
    omega
  | 7, _, _, _ =>
    rw [x2, y2, x3, y3, x7, y7]
    simp only [Int.sub_mul, Int.mul_sub, Int.add_mul, Int.mul_add, Int.neg_mul, Int.mul_neg, Int.zero_mul, Int.mul_zero, Int.neg_neg, Int.mul_comm M h]
    omega
  | j + 8, h, _, _ => omega
theorem oct_mrg_3 {M h : Int} (hM : 64 ≤ M) (h1 : 2 * h ≤ M) (h2 : M ≤ 2 * h + 1) {X Y : Nat → Int} (x0 : X 0 = M) (y0 : Y 0 = -h) (x1 : X 1 = M) (y1 : Y 1 = h) (x2 : X 2 = h) (y2 : Y 2 = M) (x3 : X 3 = -h) (y3 : Y 3 = M) (x4 : X 4 = -M) (y4 : Y 4 = h) (x5 : X 5 = -M) (y5 : Y 5 = -h) (x6 : X 6 = -h) (y6 : Y 6 = -M) (x7 : X 7 = h) (y7 : Y 7 = -M) : ∀ j, j < 8 → j ≠ 3 → j ≠ 4 → 8 * M + 8 * M + 8 ≤ (X 4 - X 3) * (Y j - Y 3) - (Y 4 - Y 3) * (X j - X 3) := by
  have p1 : 64 * M ≤ M * M := Int.mul_le_mul_of_nonneg_right hM (by omega)
  have q1 : (2 * h) * M ≤ M * M := Int.mul_le_mul_of_nonneg_right h1 (by omega)
  have q2 : M * M ≤ (2 * h + 1) * M := Int.mul_le_mul_of_nonneg_right h2 (by omega)
  have q3 : h * (2 * h) ≤ h * M := Int.mul_le_mul_of_nonneg_left h1 (by omega)
  have q4 : h * M ≤ h * (2 * h + 1) := Int.mul_le_mul_of_nonneg_left h2 (by omega)
  have q5 : 32 * h ≤ h * h := Int.mul_le_mul_of_nonneg_right (by omega) (by omega)
  rw [Int.mul_assoc] at q1
  rw [Int.add_mul, Int.mul_assoc, Int.one_mul] at q2
  rw [Int.mul_left_comm] at q3
  rw [Int.mul_add, Int.mul_left_comm, Int.mul_one] at q4
  intro j hj k1 k2
  match j, hj, k1, k2 with
  | 0, _, _, _ =>
    rw [x3, y3, x4, y4, x0, y0]
    simp only [Int.sub_mul, Int.mul_sub, Int.add_mul, Int.mul_add, Int.neg_mul, Int.mul_neg, Int.zero_mul, Int.mul_zero, Int.neg_neg, Int.mul_comm M h]
    omega
  | 1, _, _, _ =>
    rw [x3, y3, x4, y4, x1, y1]
    simp only [Int.sub_mul, Int.mul_sub, Int.add_mul, Int.mul_add, Int.neg_mul, Int.mul_neg, Int.zero_mul, Int.mul_zero, Int.neg_neg, Int.mul_comm M h]
    omega
  | 2, _, _, _ =>
    rw [x3, y3, x4, y4, x2, y2]
    simp only [Int.sub_mul, Int.mul_sub, Int.add_mul, Int.mul_add, Int.neg_mul, Int.mul_neg, Int.zero_mul, Int.mul_zero, Int.neg_neg, Int.mul_comm M h]
    omega
  | 3, _, k1, _ => exact absurd rfl k1
  | 4, _, _, k2 => exact absurd rfl k2
  | 5, _, _, _ =>
    rw [x3, y3, x4, y4, x5, y5]
    simp only [Int.sub_mul, Int.mul_sub, Int.add_mul, Int.mul_add, Int.neg_mul, Int.mul_neg, Int.zero_mul, Int.mul_zero, Int.neg_neg, Int.mul_comm M h]
    omega
  | 6, _, _, _ =>
    rw [x3, y3, x4, y4, x6, y6]
    simp only [Int.sub_mul, Int.mul_sub, Int.add_mul, Int.mul_add, Int.neg_mul, Int.mul_neg, Int.zero_mul, Int.mul_zero, Int.neg_neg, Int.mul_comm M h]
    omega
  | 7, _, _, _ =>
    rw [x3, y3, x4, y4, x7, y7]
    simp only [Int.sub_mul, Int.mul_sub, Int.add_mul, Int.mul_add, Int.neg_mul, Int.mul_neg, Int.zero_mul, Int.mul_zero, Int.neg_neg, Int.mul_comm M h]
    omega
  | j + 8, h, _, _ => omega
theorem oct_mrg_4 {M h : Int} (hM : 64 ≤ M) (h1 : 2 * h ≤ M) (h2 : M ≤ 2 * h + 1) {X Y : Nat → Int} (x0 : X 0 = M) (y0 : Y 0 = -h) (x1 : X 1 = M) (y1 : Y 1 = h) (x2 : X 2 = h) (y2 : Y 2 = M) (x3 : X 3 = -h) (y3 : Y 3 = M) (x4 : X 4 = -M) (y4 : Y 4 = h) (x5 : X 5 = -M) (y5 : Y 5 = -h) (x6 : X 6 = -h) (y6 : Y 6 = -M) (x7 : X 7 = h) (y7 : Y 7 = -M) : ∀ j, j < 8 → j ≠ 4 → j ≠ 5 → 8 * M + 8 * M + 8 ≤ (X 5 - X 4) * (Y j - Y 4) - (Y 5 - Y 4) * (X j - X 4) := by
  have p1 : 64 * M ≤ M * M := Int.mul_le_mul_of_nonneg_right hM (by omega)
  have q1 : (2 * h) * M ≤ M * M := Int.mul_le_mul_of_nonneg_right h1 (by omega)
  have q2 : M * M ≤ (2 * h + 1) * M := Int.mul_le_mul_of_nonneg_right h2 (by omega)
  have q3 : h * (2 * h) ≤ h * M := Int.mul_le_mul_of_nonneg_left h1 (by omega)
  have q4 : h * M ≤ h * (2 * h + 1) := Int.mul_le_mul_of_nonneg_left h2 (by omega)
  have q5 : 32 * h ≤ h * h := Int.mul_le_mul_of_nonneg_right (by omega) (by omega)
  rw [Int.mul_assoc] at q1
  rw [Int.add_mul, Int.mul_assoc, Int.one_mul] at q2
  rw [Int.mul_left_comm] at q3
  rw [Int.mul_add, Int.mul_left_comm, Int.mul_one] at q4
  intro j hj k1 k2
  match j, hj, k1, k2 with
  | 0, _, _, _ =>
    rw [x4, y4, x5, y5, x0, y0]
    simp only [Int.sub_mul, Int.mul_sub, Int.add_mul, Int.mul_add, Int.neg_mul, Int.mul_neg, Int.zero_mul, Int.mul_zero, Int.neg_neg, Int.mul_comm M h]
    omega
  | 1, _, _, _ =>
    rw [x4, y4, x5, y5, x1, y1]
    simp only [Int.sub_mul, Int.mul_sub, Int.add_mul, Int.mul_add, Int.neg_mul, Int.mul_neg, Int.zero_mul, Int.mul_zero, Int.neg_neg, Int.mul_comm M h]
    omega
  | 2, _, _, _ =>
    rw [x4, y4, x5, y5, x2, y2]
    simp only [Int.sub_mul, Int.mul_sub, Int.add_mul, Int.mul_add, Int.neg_mul, Int.mul_neg, Int.zero_mul, Int.mul_zero, Int.neg_neg, Int.mul_comm M h]
    omega
  | 3, _, _, _ =>
    rw [x4, y4, x5, y5, x3, y3]
    simp only [Int.sub_mul, Int.mul_sub, Int.add_mul, Int.mul_add, Int.neg_mul, Int.mul_neg, Int.zero_mul, Int.mul_zero, Int.neg_neg, Int.mul_comm M h]
    omega
  | 4, _, k1, _ => exact absurd rfl k1
  | 5, _, _, k2 => exact absurd rfl k2
  | 6, _, _, _ =>
    rw [x4, y4, x5, y5, x6, y6]
    simp only [Int.sub_mul, Int.mul_sub, Int.add_mul, Int.mul_add, Int.neg_mul, Int.mul_neg, Int.zero_mul, Int.mul_zero, Int.neg_neg, Int.mul_comm M h]
    omega
  | 7, _, _, _ =>
    rw [x4, y4, x5, y5, x7, y7]
    simp only [Int.sub_mul, Int.mul_sub, Int.add_mul, Int.mul_add, Int.neg_mul, Int.mul_neg, Int.zero_mul, Int.mul_zero, Int.neg_neg, Int.mul_comm M h]
    omega
  | j + 8, h, _, _ => omega
theorem oct_mrg_5 {M h : Int} (hM : 64 ≤ M) (h1 : 2 * h ≤ M) (h2 : M ≤ 2 * h + 1) {X Y : Nat → Int} (x0 : X 0 = M) (y0 : Y 0 = -h) (x1 : X 1 = M) (y1 : Y 1 = h) (x2 : X 2 = h) (y2 : Y 2 = M) (x3 : X 3 = -h) (y3 : Y 3 = M) (x4 : X 4 = -M) (y4 : Y 4 = h) (x5 : X 5 = -M) (y5 : Y 5 = -h) (x6 : X 6 = -h) (y6 : Y 6 = -M) (x7 : X 7 = h) (y7 : Y 7 = -M) : ∀ j, j < 8 → j ≠ 5 → j ≠ 6 → 8 * M + 8 * M + 8 ≤ (X 6 - X 5) * (Y j - Y 5) - (Y 6 - Y 5) * (X j - X 5) := by
  have p1 : 64 * M ≤ M * M := Int.mul_le_mul_of_nonneg_right hM (by omega)
  have q1 : (2 * h) * M ≤ M * M := Int.mul_le_mul_of_nonneg_right h1 (by omega)
  have q2 : M * M ≤ (2 * h + 1) * M := Int.mul_le_mul_of_nonneg_right h2 (by omega)
  have q3 : h * (2 * h) ≤ h * M := Int.mul_le_mul_of_nonneg_left h1 (by omega)
  have q4 : h * M ≤ h * (2 * h + 1) := Int.mul_le_mul_of_nonneg_left h2 (by omega)
  have q5 : 32 * h ≤ h * h := Int.mul_le_mul_of_nonneg_right (by omega) (by omega)
  rw [Int.mul_assoc] at q1
  rw [Int.add_mul, Int.mul_assoc, Int.one_mul] at q2
  rw [Int.mul_left_comm] at q3
  rw [Int.mul_add, Int.mul_left_comm, Int.mul_one] at q4
  intro j hj k1 k2
  match j, hj, k1, k2 with
  | 0, _, _, _ =>
    rw [x5, y5, x6, y6, x0, y0]
    simp only [Int.sub_mul, Int.mul_sub, Int.add_mul, Int.mul_add, Int.neg_mul, Int.mul_neg, Int.zero_mul, Int.mul_zero, Int.neg_neg, Int.mul_comm M h]
    omega
  | 1, _, _, _ =>
    rw [x5, y5, x6, y6, x1, y1]
    simp only [Int.sub_mul, Int.mul_sub, Int.add_mul, Int.mul_add, Int.neg_mul, Int.mul_neg, Int.zero_mul, Int.mul_zero, Int.neg_neg, Int.mul_comm M h]
    omega
  | 2, _, _, _ =>
    rw [x5, y5, x6, y6, x2, y2]
    simp only [Int.sub_mul, Int.mul_sub, Int.add_mul, Int.mul_add, Int.neg_mul, Int.mul_neg, Int.zero_mul, Int.mul_zero, Int.neg_neg, Int.mul_comm M h]
    omega
  | 3, _, _, _ =>
    rw [x5, y5, x6, y6, x3, y3]
    simp only [Int.sub_mul, Int.mul_sub, Int.add_mul, Int.mul_add, Int.neg_mul, Int.mul_neg, Int.zero_mul, Int.mul_zero, Int.neg_neg, Int.mul_comm M h]
    omega
  | 4, _, _, _ =>
    rw [x5, y5, x6, y6, x4, y4]
    simp only [Int.sub_mul, Int.mul_sub, Int.add_mul, Int.mul_add, Int.neg_mul, Int.mul_neg, Int.zero_mul, Int.mul_zero, Int.neg_neg, Int.mul_comm M h]
    omega
  | 5, _, k1, _ => exact absurd rfl k1
  | 6, _, _, k2 => exact absurd rfl k2
  | 7, _, _, _ =>
    rw [x5, y5, x6, y6, x7, y7]
    simp only [Int.sub_mul, Int.mul_sub, Int.add_mul, Int.mul_add, Int.neg_mul, Int.mul_neg, Int.zero_mul, Int.mul_zero, Int.neg_neg, Int.mul_comm M h]
    omega
  | j + 8, h, _, _ => omega
theorem oct_mrg_6 {M h : Int} (hM : 64 ≤ M) (h1 : 2 * h ≤ M) (h2 : M ≤ 2 * h + 1) {X Y : Nat → Int} (x0 : X 0 = M) (y0 : Y 0 = -h) (x1 : X 1 = M) (y1 : Y 1 = h) (x2 : X 2 = h) (y2 : Y 2 = M) (x3 : X 3 = -h) (y3 : Y 3 = M) (x4 : X 4 = -M) (y4 : Y 4 = h) (x5 : X 5 = -M) (y5 : Y 5 = -h) (x6 : X 6 = -h) (y6 : Y 6 = -M) (x7 : X 7 = h) (y7 : Y 7 = -M) : ∀ j, j < 8 → j ≠ 6 → j ≠ 7 → 8 * M + 8 * M + 8 ≤ (X 7 - X 6) * (Y j - Y 6) - (Y 7 - Y 6) * (X j - X 6) := by
  have p1 : 64 * M ≤ M * M := Int.mul_le_mul_of_nonneg_right hM (by omega)
  have q1 : (2 * h) * M ≤ M * M := Int.mul_le_mul_of_nonneg_right h1 (by omega)
  have q2 : M * M ≤ (2 * h + 1) * M := Int.mul_le_mul_of_nonneg_right h2 (by omega)
  have q3 : h * (2 * h) ≤ h * M := Int.mul_le_mul_of_nonneg_left h1 (by omega)
  have q4 : h * M ≤ h * (2 * h + 1) := Int.mul_le_mul_of_nonneg_left h2 (by omega)
  have q5 : 32 * h ≤ h * h := Int.mul_le_mul_of_nonneg_right (by omega) (by omega)
  rw [Int.mul_assoc] at q1
  rw [Int.add_mul, Int.mul_assoc, Int.one_mul] at q2
  rw [Int.mul_left_comm] at q3
  rw [Int.mul_add, Int.mul_left_comm, Int.mul_one] at q4
  intro j hj k1 k2
  match j, hj, k1, k2 with
  | 0, _, _, _ =>
    rw [x6, y6, x7, y7, x0, y0]
    simp only [Int.sub_mul, Int.mul_sub, Int.add_mul, Int.mul_add, Int.neg_mul, Int.mul_neg, Int.zero_mul, Int.mul_zero, Int.neg_neg, Int.mul_comm M h]
    omega
  | 1, _, _, _ =>
    rw [x6, y6, x7, y7, x1, y1]
    simp only [Int.sub_mul, Int.mul_sub, Int.add_mul, Int.mul_add, Int.neg_mul, Int.mul_neg, Int.zero_mul, Int.mul_zero, Int.neg_neg, Int.mul_comm M h]
    omega
  | 2, _, _, _ =>
    rw [x6, y6, x7, y7, x2, y2]
    simp only [Int.sub_mul, Int.mul_sub, Int.add_mul, Int.mul_add, Int.neg_mul, Int.mul_neg, Int.zero_mul, Int.mul_zero, Int.neg_neg, Int.mul_comm M h]
    omega
  | 3, _, _, _ =>
    rw [x6, y6, x7, y7, x3, y3]
    simp only [Int.sub_mul, Int.mul_sub, Int.add_mul, Int.mul_add, Int.neg_mul, Int.mul_neg, Int.zero_mul, Int.mul_zero, Int.neg_neg, Int.mul_comm M h]
    omega
  | 4, _, _, _ =>
    rw [x6, y6, x7, y7, x4, y4]
    simp only [Int.sub_mul, Int.mul_sub, Int.add_mul, Int.mul_add, Int.neg_mul, Int.mul_neg, Int.zero_mul, Int.mul_zero, Int.neg_neg, Int.mul_comm M h]
    omega
  | 5, _, _, _ =>
    rw [x6, y6, x7, y7, x5, y5]
    simp only [Int.sub_mul, Int.mul_sub, Int.add_mul, Int.mul_add, Int.neg_mul, Int.mul_neg, Int.zero_mul, Int.mul_zero, Int.neg_neg, Int.mul_comm M h]
    omega
  | 6, _, k1, _ => exact absurd rfl k1
  | 7, _, _, k2 => exact absurd rfl k2
  | j + 8, h, _, _ => omega
theorem oct_mrg_7 {M h : Int} (hM : 64 ≤ M) (h1 : 2 * h ≤ M) (h2 : M ≤ 2 * h + 1) {X Y : Nat → Int} (x0 : X 0 = M) (y0 : Y 0 = -h) (x1 : X 1 = M) (y1 : Y 1 = h) (x2 : X 2 = h) (y2 : Y 2 = M) (x3 : X 3 = -h) (y3 : Y 3 = M) (x4 : X 4 = -M) (y4 : Y 4 = h) (x5 : X 5 = -M) (y5 : Y 5 = -h) (x6 : X 6 = -h) (y6 : Y 6 = -M) (x7 : X 7 = h) (y7 : Y 7 = -M) : ∀ j, j < 8 → j ≠ 7 → j ≠ 0 → 8 * M + 8 * M + 8 ≤ (X 0 - X 7) * (Y j - Y 7) - (Y 0 - Y 7) * (X j - X 7) := by
  have p1 : 64 * M ≤ M * M := Int.mul_le_mul_of_nonneg_right hM (by omega)
  have q1 : (2 * h) * M ≤ M * M := Int.mul_le_mul_of_nonneg_right h1 (by omega)
  have q2 : M * M ≤ (2 * h + 1) * M := Int.mul_le_mul_of_nonneg_right h2 (by omega)
  have q3 : h * (2 * h) ≤ h * M := Int.mul_le_mul_of_nonneg_left h1 (by omega)
  have q4 : h * M ≤ h * (2 * h + 1) := Int.mul_le_mul_of_nonneg_left h2 (by omega)
  have q5 : 32 * h ≤ h * h := Int.mul_le_mul_of_nonneg_right (by omega) (by omega)
  rw [Int.mul_assoc] at q1
  rw [Int.add_mul, Int.mul_assoc, Int.one_mul] at q2
  rw [Int.mul_left_comm] at q3
  rw [Int.mul_add, Int.mul_left_comm, Int.mul_one] at q4
  intro j hj k1 k2
  match j, hj, k1, k2 with
  | 0, _, _, k2 => exact absurd rfl k2
  | 1, _, _, _ =>
    rw [x7, y7, x0, y0, x1, y1]
    simp only [Int.sub_mul, Int.mul_sub, Int.add_mul, Int.mul_add, Int.neg_mul, Int.mul_neg, Int.zero_mul, Int.mul_zero, Int.neg_neg, Int.mul_comm M h]
    omega
  | 2, _, _, _ =>
    rw [x7, y7, x0, y0, x2, y2]
    simp only [Int.sub_mul, Int.mul_sub, Int.add_mul, Int.mul_add, Int.neg_mul, Int.mul_neg, Int.zero_mul, Int.mul_zero, Int.neg_neg, Int.mul_comm M h]
    omega
  | 3, _, _, _ =>
    rw [x7, y7, x0, y0, x3, y3]
    simp only [Int.sub_mul, Int.mul_sub, Int.add_mul, Int.mul_add, Int.neg_mul, Int.mul_neg, Int.zero_mul, Int.mul_zero, Int.neg_neg, Int.mul_comm M h]
    omega
  | 4, _, _, _ =>
    rw [x7, y7, x0, y0, x4, y4]
    simp only [Int.sub_mul, Int.mul_sub, Int.add_mul, Int.mul_add, Int.neg_mul, Int.mul_neg, Int.zero_mul, Int.mul_zero, Int.neg_neg, Int.mul_comm M h]
    omega
  | 5, _, _, _ =>
    rw [x7, y7, x0, y0, x5, y5]
    simp only [Int.sub_mul, Int.mul_sub, Int.add_mul, Int.mul_add, Int.neg_mul, Int.mul_neg, Int.zero_mul, Int.mul_zero, Int.neg_neg, Int.mul_comm M h]
    omega
  | 6, _, _, _ =>
    rw [x7, y7, x0, y0, x6, y6]
    simp only [Int.sub_mul, Int.mul_sub, Int.add_mul, Int.mul_add, Int.neg_mul, Int.mul_neg, Int.zero_mul, Int.mul_zero, Int.neg_neg, Int.mul_comm M h]
    omega
  | 7, _, k1, _ => exact absurd rfl k1
  | j + 8, h, _, _ => omega
theorem oct_mrg {M h : Int} (hM : 64 ≤ M) (h1 : 2 * h ≤ M) (h2 : M ≤ 2 * h + 1) {X Y : Nat → Int} (x0 : X 0 = M) (y0 : Y 0 = -h) (x1 : X 1 = M) (y1 : Y 1 = h) (x2 : X 2 = h) (y2 : Y 2 = M) (x3 : X 3 = -h) (y3 : Y 3 = M) (x4 : X 4 = -M) (y4 : Y 4 = h) (x5 : X 5 = -M) (y5 : Y 5 = -h) (x6 : X 6 = -h) (y6 : Y 6 = -M) (x7 : X 7 = h) (y7 : Y 7 = -M) : mrg 8 X Y := by
  have B := oct_mrgB (X := X) (Y := Y) hM h1 h2 x0 y0 x1 y1 x2 y2 x3 y3 x4 y4 x5 y5 x6 y6 x7 y7
  intro i hi j hj k1 k2
  refine mg_of (D := M) (E := M) (B i hi).1 (B i hi).2 (B _ (nxt_lt hi)).1 (B _ (nxt_lt hi)).2 (B j hj).1 (B j hj).2 ?_
  match i, hi, k1, k2 with
  | 0, _, k1, k2 => exact oct_mrg_0 hM h1 h2 x0 y0 x1 y1 x2 y2 x3 y3 x4 y4 x5 y5 x6 y6 x7 y7 j hj k1 k2
  | 1, _, k1, k2 => exact oct_mrg_1 hM h1 h2 x0 y0 x1 y1 x2 y2 x3 y3 x4 y4 x5 y5 x6 y6 x7 y7 j hj k1 k2
  | 2, _, k1, k2 => exact oct_mrg_2 hM h1 h2 x0 y0 x1 y1 x2 y2 x3 y3 x4 y4 x5 y5 x6 y6 x7 y7 j hj k1 k2
  | 3, _, k1, k2 => exact oct_mrg_3 hM h1 h2 x0 y0 x1 y1 x2 y2 x3 y3 x4 y4 x5 y5 x6 y6 x7 y7 j hj k1 k2
  | 4, _, k1, k2 => exact oct_mrg_4 hM h1 h2 x0 y0 x1 y1 x2 y2 x3 y3 x4 y4 x5 y5 x6 y6 x7 y7 j hj k1 k2
  | 5, _, k1, k2 => exact oct_mrg_5 hM h1 h2 x0 y0 x1 y1 x2 y2 x3 y3 x4 y4 x5 y5 x6 y6 x7 y7 j hj k1 k2
  | 6, _, k1, k2 => exact oct_mrg_6 hM h1 h2 x0 y0 x1 y1 x2 y2 x3 y3 x4 y4 x5 y5 x6 y6 x7 y7 j hj k1 k2
  | 7, _, k1, k2 => exact oct_mrg_7 hM h1 h2 x0 y0 x1 y1 x2 y2 x3 y3 x4 y4 x5 y5 x6 y6 x7 y7 j hj k1 k2
  | i + 8, h, _, _ => omega
end Go.Ax
end

section
/-
  Forms made of numbers are sound.
-/
set_option linter.unusedVariables false
set_option linter.unusedSimpArgs false
set_option maxHeartbeats 4000000
set_option maxRecDepth 100000
namespace Go.Ax
open Go.Proofs
theorem mk_mrg {a b c : Int} (hk : ¬ mkK a = 1) : mrg (corN (mkK a) (mkR a b) (mkH a b b) (mkH a b c) (mkN a) (mkX a b c) (mkY a b c)) (corX (mkK a) (mkH a b b) (mkH a b c) (mkX a b c)) (corY (mkK a) (mkH a b b) (mkH a b c) (mkY a b c)) := by
  have b1 := @mkM_bd b b
  have b2 := @mkM_bd b c
  have t1 : (mkM b b).tdiv 2 = mkM b b / 2 := Int.tdiv_eq_ediv_of_nonneg (by omega)
  have t2 : (-mkM b b).tdiv 2 = -(mkM b b / 2) := by rw [Int.neg_tdiv, t1]
  have k0 : ¬ modS a 5 = 0 := fun h => hk (if_pos h)
  unfold corN
  rw [if_pos mk_chk]
  by_cases k1 : modS a 5 = 1
  · have e1 : mkK a = 2 := (if_neg k0).trans (if_pos k1)
    have e2 : ∀ v, mkH a b v = mkW b v := fun v => (if_neg k0).trans (if_pos k1)
    have w1 := @mkW_bd b b
    have w2 := @mkW_bd b c
    rw [e1, e2, e2, if_pos rfl]
    exact box_mrg (w := mkW b b) (t := mkW b c) w1.1 w2.1 rfl rfl rfl rfl rfl rfl rfl rfl
  have h1 : mkK a = 3 := (if_neg k0).trans (if_neg k1)
  rw [h1, if_neg (by decide)]
  have eX : corX 3 (mkH a b b) (mkH a b c) (mkX a b c) = mkX a b c := funext fun i => if_neg (by decide)
  have eY : corY 3 (mkH a b b) (mkH a b c) (mkY a b c) = mkY a b c := funext fun i => if_neg (by decide)
  rw [eX, eY]
  by_cases k2 : modS a 5 = 2
  · rw [show mkN a = 3 from by unfold mkN; rw [if_neg k0, if_neg k1, if_pos k2]]
    refine tri_mrg (M := mkM b b) (T := mkM b c) (by omega) (by omega) ?_ ?_ ?_ ?_ ?_ ?_ <;> (first | unfold mkX | unfold mkY) <;> unfold mkP <;> rw [if_pos k2] <;> rfl
  by_cases k3 : modS a 5 = 3
  · rw [show mkN a = 5 from by unfold mkN; rw [if_neg k0, if_neg k1, if_neg k2, if_pos k3]]
    refine pen_mrg (M := mkM b b) (T := mkM b c) (h := mkM b b / 2) (by omega) (by omega) (by omega) (by omega) ?_ ?_ ?_ ?_ ?_ ?_ ?_ ?_ ?_ ?_ <;> (first | unfold mkX | unfold mkY) <;> unfold mkP <;> rw [if_neg k2, if_pos k3, t1, t2] <;> rfl
  · rw [show mkN a = 8 from by unfold mkN; rw [if_neg k0, if_neg k1, if_neg k2, if_neg k3]]
    refine oct_mrg (M := mkM b b) (h := mkM b b / 2) (by omega) (by omega) (by omega) ?_ ?_ ?_ ?_ ?_ ?_ ?_ ?_ ?_ ?_ ?_ ?_ ?_ ?_ ?_ ?_ <;> (first | unfold mkX | unfold mkY) <;> unfold mkP <;> rw [if_neg k2, if_neg k3, t1, t2] <;> rfl
theorem mk_corN {a b c : Int} (hk : ¬ mkK a = 1) : 3 ≤ corN (mkK a) (mkR a b) (mkH a b b) (mkH a b c) (mkN a) (mkX a b c) (mkY a b c) ∧ corN (mkK a) (mkR a b) (mkH a b b) (mkH a b c) (mkN a) (mkX a b c) (mkY a b c) ≤ 8 := by
  have k0 : ¬ modS a 5 = 0 := fun h => hk (if_pos h)
  unfold corN
  rw [if_pos mk_chk]
  by_cases k1 : modS a 5 = 1
  · have e1 : mkK a = 2 := (if_neg k0).trans (if_pos k1)
    rw [if_pos e1]; omega
  have h1 : mkK a = 3 := (if_neg k0).trans (if_neg k1)
  rw [if_neg (by omega)]
  unfold mkN
  rw [if_neg k0, if_neg k1]
  (repeat' split) <;> omega
theorem spV_bd {a : Int} (h : -17179869184000 ≤ a ∧ a ≤ 17179869184000) : -1024001 ≤ spV (a, false) ∧ spV (a, false) ≤ 1024001 := by
  rw [spV_in (by omega)]
  omega
/-- The form of a made shape at a made place. -/
theorem mk_form {a b c x y u s : Int} (hs : 1 ≤ s ∧ s ≤ 4000) :
    checkS (plK (mkK a) (mkR a b) (mkH a b b) (mkH a b c) (mkN a) (mkX a b c) (mkY a b c) (foAt x y s) (foRot u)) (plC (mkK a) (mkR a b) (mkH a b b) (mkH a b c) (mkN a) (mkX a b c) (mkY a b c) (foAt x y s) (foRot u) (foAt x y s).1) (plC (mkK a) (mkR a b) (mkH a b b) (mkH a b c) (mkN a) (mkX a b c) (mkY a b c) (foAt x y s) (foRot u) (foAt x y s).2)
      (plR (mkK a) (mkR a b) (mkH a b b) (mkH a b c) (mkN a) (mkX a b c) (mkY a b c) (foAt x y s) (foRot u)) (plN (mkK a) (mkR a b) (mkH a b b) (mkH a b c) (mkN a) (mkX a b c) (mkY a b c) (foAt x y s) (foRot u))
      (plX (mkK a) (mkH a b b) (mkH a b c) (mkX a b c) (mkY a b c) (foAt x y s) (foRot u)) (plY (mkK a) (mkH a b b) (mkH a b c) (mkX a b c) (mkY a b c) (foAt x y s) (foRot u)) = 0 := by
  have hp := @mk_place a b c x y u s hs
  have h1 := @foAt_bd x s hs
  have h2 := @foAt_bd y s hs
  have w1 := @mkW_bd b b
  have s1 := spV_bd h1
  have s2 := spV_bd h2
  unfold plK plC plR plN
  rw [if_pos hp, if_pos hp, if_pos hp, if_pos hp, if_pos hp]
  have v0 : validS (spV (foAt x y s).1) (spV (foAt x y s).2) = true := by
    rw [validS_iff]
    show -2097152 ≤ spV (x.tmod (s * 4294967296), false) ∧ _ ∧ -2097152 ≤ spV (y.tmod (s * 4294967296), false) ∧ spV (y.tmod (s * 4294967296), false) ≤ 2097152
    exact ⟨by omega, by show spV (x.tmod (s * 4294967296), false) ≤ _; omega, by omega, by omega⟩
  by_cases hk : mkK a = 1
  · have k0 : modS a 5 = 0 := by
      unfold mkK at hk
      split at hk
      · assumption
      · split at hk <;> omega
    have r1 : mkR a b = mkW b b := if_pos k0
    rw [if_pos hk, if_pos hk, r1]
    unfold checkS
    rw [if_neg (by omega), if_neg (fun q => q ⟨v0, fun i hi => absurd hi (by omega)⟩), if_pos rfl]
    have hb : checkBoxS (spV (foAt x y s).1 - mkW b b) (spV (foAt x y s).2 - mkW b b) (spV (foAt x y s).1 + mkW b b) (spV (foAt x y s).2 + mkW b b) = 0 := by
      have g1 : -1024001 ≤ spV (foAt x y s).1 ∧ spV (foAt x y s).1 ≤ 1024001 := s1
      have g2 : -1024001 ≤ spV (foAt x y s).2 ∧ spV (foAt x y s).2 ≤ 1024001 := s2
      unfold checkBoxS
      rw [if_pos ⟨validS_iff.2 (by omega), validS_iff.2 (by omega)⟩, if_neg (by omega)]
    rw [if_neg (fun q => by rw [hb] at q; omega), if_neg (by omega)]
  · have hN := @mk_corN a b c hk
    have r1 : mkR a b = 0 := if_neg fun h => hk (if_pos h)
    have hcv : convexS (corN (mkK a) (mkR a b) (mkH a b b) (mkH a b c) (mkN a) (mkX a b c) (mkY a b c)) (plX (mkK a) (mkH a b b) (mkH a b c) (mkX a b c) (mkY a b c) (foAt x y s) (foRot u)) (plY (mkK a) (mkH a b b) (mkH a b c) (mkX a b c) (mkY a b c) (foAt x y s) (foRot u)) = true := by
      obtain ⟨f1, f2, f3, f4, f5, f6⟩ := foRot_bd u
      have e : foRot u = (((foRot u).1.1, false), ((foRot u).2.1, false)) := Prod.ext (Prod.ext rfl f1) (Prod.ext rfl f2)
      refine pl_cvx (ax := x.tmod (s * 4294967296)) (ay := y.tmod (s * 4294967296)) (c := (foRot u).1.1) (s := (foRot u).2.1) hN.1 (fun i hi => cor_lo i hi) (mk_mrg hk) h1 h2 f3 f4 (by omega) (by omega) (fun i hi => ?_) (fun i hi => ?_)
      · show spV (plPt (foAt x y s) (foRot u) _ _).1 = _
        rw [← e]; rfl
      · show spV (plPt (foAt x y s) (foRot u) _ _).2 = _
        rw [← e]; rfl
    rw [if_neg hk, if_neg hk, r1]
    rw [r1] at hcv hN
    have hvs := (convexS_iff.1 hcv).2.1
    unfold checkS
    rw [if_neg (by omega), if_neg (fun q => q ⟨v0, hvs⟩), if_neg (by decide), if_neg (fun q => by rw [hcv] at q; rcases q with q | q | q <;> first | omega | exact absurd q (by decide))]
end Go.Ax
end

section
/-
  Polygons are apart exactly if an edge separates them: the law's body.
-/
set_option linter.unusedVariables false
set_option linter.unusedSimpArgs false
set_option maxHeartbeats 4000000
set_option maxRecDepth 100000
namespace Go.Ax
open Go.Proofs
theorem fo_ok {a b c x y u s : Int} (hs : 1 ≤ s ∧ s ≤ 4000) : checkS (foK a b c x y u s) (foX a b c x y u s) (foY a b c x y u s) (foR a b c x y u s) (foN a b c x y u s) (foP a b c x y u s) (foQ a b c x y u s) = 0 := mk_form hs
section
variable {a b c x y u s : Int}
theorem spots_fo : (spots (foN a b c x y u s) fun i => [i64 (foP a b c x y u s i), i64 (foQ a b c x y u s i)]) = True := eq_true fun l hl => ⟨rfl, spV_inR, spV_inR⟩
theorem foN_max : (foN a b c x y u s ≤ 9223372036854775806) = True := eq_true (Nat.le_trans plN_le (by omega))
theorem foX_r : inR (foX a b c x y u s) = True := eq_true foX_inR
theorem foY_r : inR (foY a b c x y u s) = True := eq_true foY_inR
theorem foR_r : inR (foR a b c x y u s) = True := eq_true foR_inR
theorem gx_fo0 : gx (fun i => [i64 (foP a b c x y u s i), i64 (foQ a b c x y u s i)]) 0 = foP a b c x y u s := (rfl)
theorem gx_fo1 : gx (fun i => [i64 (foP a b c x y u s i), i64 (foQ a b c x y u s i)]) 1 = foQ a b c x y u s := (rfl)
theorem vS_fo (hs : 1 ≤ s ∧ s ≤ 4000) : (∀ i, i < foN a b c x y u s → validS (foP a b c x y u s i) (foQ a b c x y u s i) = true) = True := eq_true (check_1 (fo_ok hs)).2.2.1
end
end Go.Ax
end

section
/-
  The frame of a law: its arguments ars abstract values, and what they read ars behind the call.
-/
set_option linter.unusedSimpArgs false
set_option linter.unusedVariables false
namespace Go.Ax
open Go.ChangeShapes Go.WideShapes Go.ChangeAt Go.RowKit

/-- What an argument is. -/
inductive ShV where
  | int (k : IntKind)
  | bool
  | agg (es : List Sh)
  | slice (sz : Nat) (es : List Sh)

def shV (P : Program) (t : TypeId) : Option ShV :=
  match P.underlying t with
  | some .bool => some .bool
  | some (.int k) => some (.int k)
  | some (.slice _) => match shT P 6 t with
    | some [.slice sz es] => some (.slice sz es)
    | _ => none
  | some (.struct _) => (shT P 6 t).map .agg
  | some (.array _ _) => (shT P 6 t).map .agg
  | _ => none

def fitV : ShV → AV → Prop
  | .int k, a => ∃ n, a = .v (.int k n) ∧ (Lit.int k n).wf = true
  | .bool, a => ∃ b, a = .v (.bool b)
  | .agg es, a => ∃ l, a = .agg l ∧ fitS es l
  | .slice sz es, a => ∃ (n : Nat) (get : Nat → List AV), a = .ro n sz get ∧ n ≤ maxLen ∧ ∀ i, fitS es (get i)

def shVs (P : Program) : List TypeId → Option (List ShV)
  | [] => some []
  | t :: ts => match shV P t, shVs P ts with
    | some s, some r => some (s :: r)
    | _, _ => none
def fitVs : List ShV → List AV → Prop
  | [], l => l = []
  | s :: ss, l => ∃ a r, l = a :: r ∧ fitV s a ∧ fitVs ss r

section
variable {H : Type} {enc : TypeId × Value → H} {P : Program} {w : World} {spare : Nat → Bool} {held : Bool} {base : Nat}

theorem okWide_agg_struct {t : TypeId} {fs : Array Field} {v : Value} (ht : P.underlying t = some (.struct fs)) (h : Value.okWide P w .any base t v) : ∃ cs, v = .agg cs := by
  obtain ⟨cs, h, _⟩ := okWide_struct ht h
  exact ⟨cs, h⟩
theorem trod_agg_array {t e : TypeId} {n : Nat} {v : Value} {x : DataW H} {ps : List MemPlace} (ht : P.underlying t = some (.array n e)) (h : Value.okWide P w .any base t v) : ∃ cs, v = .agg cs := by
  cases v <;> simp [Value.okWide, Value.ok, ht] at h <;> exact ⟨_, rfl⟩

theorem arg_read {t : TypeId} {s : ShV} {v : Value} {x : DataW H} {ps : List MemPlace} (hs : shV P t = some s) (ho : Value.okWide P w .any base t v) (h : DataW.Trod enc P w 0 spare held t v x ps) : ∃ a, fitV s a ∧ R w (.ext (All w)) a v := by
  unfold shV at hs
  split at hs
  · rename_i hu
    cases hs
    obtain ⟨b, rfl⟩ := okWide_bool hu ho
    exact ⟨_, ⟨b, rfl⟩, .v⟩
  · rename_i k hu
    cases hs
    obtain ⟨n, rfl, _, _, hw⟩ := open_int hu ho h
    exact ⟨_, ⟨n, rfl, hw⟩, .v⟩
  · rename_i e hu
    split at hs
    · rename_i sz es he
      cases hs
      obtain ⟨a, len, cap, rfl⟩ := okWide_slice hu ho
      obtain ⟨n, get, h1, h2, h3⟩ := slice_read he h
      exact ⟨_, ⟨n, get, rfl, h1, h2⟩, h3⟩
    · cases hs
  · rename_i fs hu
    obtain ⟨es, he, rfl⟩ := Option.map_eq_some_iff.1 hs
    obtain ⟨cs, rfl⟩ := okWide_agg_struct hu ho
    obtain ⟨l, h1, h2⟩ := agg_read he h
    exact ⟨_, ⟨l, rfl, h1⟩, h2⟩
  · rename_i n e hu
    obtain ⟨es, he, rfl⟩ := Option.map_eq_some_iff.1 hs
    obtain ⟨cs, rfl⟩ := trod_agg_array (x := x) (ps := ps) hu ho
    obtain ⟨l, h1, h2⟩ := agg_read he h
    exact ⟨_, ⟨l, rfl, h1⟩, h2⟩
  · cases hs

theorem args_read : ∀ {ts : List TypeId} {ss : List ShV} {vs : List Value} {ds : List (DataW H)} {ps : List MemPlace}, shVs P ts = some ss → (∀ (j : Nat) t v, ts[j]? = some t → vs[j]? = some v → Value.okWide P w .any base t v) →
    DataW.TrodAll enc P w 0 spare held ts vs ds ps → ∃ l, fitVs ss l ∧ Rs w (.ext (All w)) l vs
  | [], ss, vs, ds, ps, hs, ho, h => by
    simp only [shVs, Option.some.injEq] at hs
    subst hs
    obtain ⟨rfl, rfl, rfl⟩ := trodAll_nil h
    exact ⟨[], rfl, .nil⟩
  | t :: ts, ss, vs, ds, ps, hs, ho, h => by
    simp only [shVs] at hs
    split at hs
    · rename_i s r h1 h2
      cases hs
      obtain ⟨v, vs', d, ds', p, q, rfl, rfl, rfl, h3, h4⟩ := trodAll_cons h
      obtain ⟨a, a1, a2⟩ := arg_read h1 (ho 0 t v rfl rfl) h3
      obtain ⟨l, b1, b2⟩ := args_read h2 (fun j t v hj hv => ho (j + 1) t v (by simpa using hj) (by simpa using hv)) h4
      exact ⟨a :: l, ⟨a, l, rfl, a1, b1⟩, Rs.cons a2 b2⟩
    · cases hs

/-- Types that may be read whole. -/
def readOK (P : Program) (ts : List TypeId) : Bool := ts.all fun t => P.readableRec t && decide (t < P.types.size)

theorem args_stay {W W' : World} (hl : laidOutB P = true) (hb : Below W.heap.size W W') : ∀ {ts : List TypeId} {vs : List Value} {ds : List (DataW H)} {ps : List MemPlace}, readOK P ts = true →
    DataW.TrodAll enc P W 0 (fun _ => true) true ts vs ds ps → ∃ ps, DataW.TrodAll enc P W' 0 (fun b => decide (b < W.heap.size)) true ts vs ds ps
  | [], vs, ds, ps, _, h => by
    obtain ⟨rfl, rfl, rfl⟩ := trodAll_nil h
    exact ⟨[], rfl⟩
  | t :: ts, vs, ds, ps, hr, h => by
    obtain ⟨v, vs', d, ds', p, q, rfl, rfl, rfl, h3, h4⟩ := trodAll_cons h
    simp only [readOK, List.all_cons, Bool.and_eq_true, decide_eq_true_eq] at hr
    obtain ⟨q', h5⟩ := args_stay hl hb (by simpa [readOK] using hr.2) h4
    refine ⟨_, trodAll_cons_mk (Below.trod hl hr.1.1 hr.1.2 h3 hb ?_) h5⟩
    obtain ⟨m, hm⟩ := h3
    exact DataW.trod_lt m _ _ _ hm
end
end Go.Ax
end

section
/-
  Ways and boxes.
-/
set_option linter.unusedVariables false
set_option linter.unusedSimpArgs false
set_option maxHeartbeats 4000000
set_option maxRecDepth 100000
namespace Go.Ax
open Go.Proofs
/-! ### An element of an array's value -/
section
variable {P : Program} {G : Ctx} {key : Nat} {d : Option Tmp} {q ty : TypeId} {pos : String} {af : Array Edge} {gd : Option (Nat × Bool)} {g : Option Bool} {ρ0 : Operand → AV} {m : Mem}
def idzE (P : Program) (q : TypeId) (a b : AV) : Option Eff := match flat a with
  | some x => match flat b with
    | some y => match pureRun P (Instr.index q x y) with
      | some v => some ⟨[], ofVal v, .none⟩
      | none => none
    | none => none
  | none => none
theorem aStep_idz {x i : Operand} : aStep P G key g ⟨d, .index q x i, ty, pos, af, gd⟩ ρ0 m = idzE P q (strip (ρ0 x)) (strip (ρ0 i)) := by
  show effOf (aPure P (fun x => strip (ρ0 x)) ⟨d, .index q x i, ty, pos, af, gd⟩) = _
  unfold aPure idzE
  dsimp only [Op.operands, List.map, flatAll]
  cases hx : flat (strip (ρ0 x)) with
  | none => rfl
  | some vx =>
    dsimp only
    cases hi : flat (strip (ρ0 i)) with
    | none => rfl
    | some vi =>
      dsimp only
      have : execOp (fun x => (flat (strip (ρ0 x))).getD undef) ⟨d, .index q x i, ty, pos, af, gd⟩ = Sem.bind (Instr.index q vx vi) fun v => Sem.pure (Next.value v) := by
        show Sem.bind (Instr.index q ((flat (strip (ρ0 x))).getD undef) ((flat (strip (ρ0 i))).getD undef)) (fun v => Sem.pure (Next.value v)) = _
        rw [hx, hi]; rfl
      rw [this, pureRun_bind]
      cases pureRun P (Instr.index q vx vi) <;> rfl
end
attribute [go_sem] aStep_idz
end Go.Ax
end

section
/-
  Plane geometry: what is inside a convex polygon is on no line's far side.
-/
set_option linter.unusedVariables false
set_option linter.unusedSimpArgs false
set_option maxHeartbeats 4000000
namespace Go.Ax
def crs (ax ay bx byy : Int) : Int := ax * byy - ay * bx
theorem crs_id {ax ay bx byy cx cy p q : Int} : (p * bx + q * byy) * crs ax ay cx cy = (p * cx + q * cy) * crs ax ay bx byy + (p * ax + q * ay) * crs bx byy cx cy := by
  unfold crs; grind
theorem crs_trans {ax ay bx byy cx cy p q : Int} (ha : p * ax + q * ay < 0) (hb : p * bx + q * byy < 0) (hc : p * cx + q * cy < 0) (h1 : 0 ≤ crs ax ay bx byy) (h2 : 0 ≤ crs bx byy cx cy) : 0 ≤ crs ax ay cx cy := by
  have e := @crs_id ax ay bx byy cx cy p q
  generalize crs ax ay bx byy = u at *
  generalize crs bx byy cx cy = v at *
  generalize crs ax ay cx cy = w at *
  generalize p * ax + q * ay = fa at *
  generalize p * bx + q * byy = fb at *
  generalize p * cx + q * cy = fc at *
  have k1 : fc * u ≤ 0 := Int.mul_nonpos_of_nonpos_of_nonneg (by omega) h1
  have k2 : fa * v ≤ 0 := Int.mul_nonpos_of_nonpos_of_nonneg (by omega) h2
  have k3 : fb * w ≤ 0 := by omega
  refine Int.not_lt.1 fun hw => ?_
  have : 0 < fb * w := Int.mul_pos_of_neg_of_neg hb hw
  omega
/-- Three that follow one another round: they lie on one line through the spot. -/
theorem crs_three {ax ay bx byy cx cy p q : Int} (ha : p * ax + q * ay < 0) (hb : p * bx + q * byy < 0) (hc : p * cx + q * cy < 0) (h1 : 0 ≤ crs ax ay bx byy) (h2 : 0 ≤ crs bx byy cx cy) (h3 : 0 ≤ crs cx cy ax ay) :
    crs ax ay bx byy + crs bx byy cx cy + crs cx cy ax ay = 0 := by
  have e := @crs_id ax ay bx byy cx cy p q
  have e4 : crs ax ay cx cy = -crs cx cy ax ay := by unfold crs; grind
  rw [e4] at e
  generalize crs ax ay bx byy = u at *
  generalize crs bx byy cx cy = v at *
  generalize crs cx cy ax ay = w at *
  generalize p * ax + q * ay = fa at *
  generalize p * bx + q * byy = fb at *
  generalize p * cx + q * cy = fc at *
  have k1 : fc * u ≤ 0 := Int.mul_nonpos_of_nonpos_of_nonneg (by omega) h1
  have k2 : fa * v ≤ 0 := Int.mul_nonpos_of_nonpos_of_nonneg (by omega) h2
  have k3 : fb * w ≤ 0 := Int.mul_nonpos_of_nonpos_of_nonneg (by omega) h3
  have e' : -(fb * w) = fc * u + fa * v := by rw [← e]; grind
  have z1 : fc * u = 0 := by omega
  have z2 : fa * v = 0 := by omega
  have z3 : fb * w = 0 := by omega
  have y1 : u = 0 := by rcases Int.mul_eq_zero.1 z1 with h | h <;> omega
  have y2 : v = 0 := by rcases Int.mul_eq_zero.1 z2 with h | h <;> omega
  have y3 : w = 0 := by rcases Int.mul_eq_zero.1 z3 with h | h <;> omega
  omega
/-- A row of such vectors. -/
theorem crs_chain {V W : Nat → Int} {p q : Int} {n : Nat} (hf : ∀ i, i < n → p * V i + q * W i < 0) (hs : ∀ i, i + 1 < n → 0 ≤ crs (V i) (W i) (V (i + 1)) (W (i + 1))) (i : Nat) : ∀ k, i + k + 1 < n → 0 ≤ crs (V i) (W i) (V (i + k + 1)) (W (i + k + 1))
  | 0, h => hs i h
  | k + 1, h => crs_trans (hf i (by omega)) (hf (i + k + 1) (by omega)) (hf (i + k + 2) (by omega)) (crs_chain hf hs i k (by omega)) (hs (i + k + 1) (by omega))
/-- The spot P/d, Q/d that has no edge of a convex polygon on its wrong side is, in each direction, not beyond all corners. -/
theorem inside_dir {n : Nat} {X Y : Nat → Int} {P Q d p q : Int} (hc : convexS n X Y = true) (hd : 0 < d)
    (hin : ∀ i, i < n → 0 ≤ (X (nxt n i) - X i) * (Q - d * Y i) - (Y (nxt n i) - Y i) * (P - d * X i)) : ∃ j, j < n ∧ p * P + q * Q ≤ p * (d * X j) + q * (d * Y j) := by
  obtain ⟨h3, _, hcv⟩ := convexS_iff.1 hc
  refine Classical.byContradiction fun hno => ?_
  have hf : ∀ i, i < n → p * (d * X i - P) + q * (d * Y i - Q) < 0 := fun i hi => by
    have : ¬ (p * P + q * Q ≤ p * (d * X i) + q * (d * Y i)) := fun h => hno ⟨i, hi, h⟩
    grind
  have hs : ∀ i, i < n → 0 ≤ crs (d * X i - P) (d * Y i - Q) (d * X (nxt n i) - P) (d * Y (nxt n i) - Q) := fun i hi => by
    have e : crs (d * X i - P) (d * Y i - Q) (d * X (nxt n i) - P) (d * Y (nxt n i) - Q) = d * ((X (nxt n i) - X i) * (Q - d * Y i) - (Y (nxt n i) - Y i) * (P - d * X i)) := by unfold crs; grind
    rw [e]
    exact Int.mul_nonneg (by omega) (hin i hi)
  have hs' : ∀ i, i + 1 < n → 0 ≤ crs (d * X i - P) (d * Y i - Q) (d * X (i + 1) - P) (d * Y (i + 1) - Q) := fun i hi => by
    have := hs i (by omega)
    rwa [show nxt n i = i + 1 by unfold nxt; rw [if_pos hi]] at this
  have hl := hs (n - 1) (by omega)
  rw [show nxt n (n - 1) = 0 by unfold nxt; rw [if_neg (by omega)]] at hl
  have h01 := hs' 0 (by omega)
  have h12 := hs' 1 (by omega)
  have h20 : 0 ≤ crs (d * X 2 - P) (d * Y 2 - Q) (d * X 0 - P) (d * Y 0 - Q) := by
    by_cases e : n = 3
    · subst e; exact hl
    · have hch := crs_chain (V := fun i => d * X i - P) (W := fun i => d * Y i - Q) hf hs' 2 (n - 4) (by omega)
      rw [show 2 + (n - 4) + 1 = n - 1 by omega] at hch
      exact crs_trans (hf 2 (by omega)) (hf (n - 1) (by omega)) (hf 0 (by omega)) hch hl
  have hz := crs_three (hf 0 (by omega)) (hf 1 (by omega)) (hf 2 (by omega)) h01 h12 h20
  have ht := hcv 0 (by omega) 2 (by omega) (by omega) (by unfold nxt; rw [if_pos (by omega)]; omega)
  rw [show nxt n 0 = 1 by unfold nxt; rw [if_pos (by omega)]] at ht
  have e : crs (d * X 0 - P) (d * Y 0 - Q) (d * X 1 - P) (d * Y 1 - Q) + crs (d * X 1 - P) (d * Y 1 - Q) (d * X 2 - P) (d * Y 2 - Q) + crs (d * X 2 - P) (d * Y 2 - Q) (d * X 0 - P) (d * Y 0 - Q) = d * d * turnS (X 0) (Y 0) (X 1) (Y 1) (X 2) (Y 2) := by unfold crs turnS; grind
  rw [e] at hz
  have : 0 < d * d * turnS (X 0) (Y 0) (X 1) (Y 1) (X 2) (Y 2) := Int.mul_pos (Int.mul_pos hd hd) ht
  omega
end Go.Ax
end

section
/-
  What a way meets of a polygon: the least and the greatest of the crossings.
-/
set_option linter.unusedVariables false
set_option linter.unusedSimpArgs false
set_option maxHeartbeats 4000000
namespace Go.Ax
/-- The crossings that enter are not beyond the best, those that leave not before. -/
def plBest (G H : Nat → Int) (i : Nat) (s : PS) : Prop :=
  0 < s.2.1.2 ∧ 0 < s.2.2.2 ∧ (∀ j, j < i → G j < 0 → 0 ≤ H j → -G j * s.2.1.2 ≤ s.2.1.1 * (H j - G j)) ∧ (∀ j, j < i → 0 ≤ G j → H j < 0 → s.2.2.1 * (G j - H j) ≤ G j * s.2.2.2)
theorem frac_trans {a b c d e f : Int} (hb : 0 < b) (hd : 0 < d) (hf : 0 < f) (h1 : a * d ≤ c * b) (h2 : c * f ≤ e * d) : a * f ≤ e * b := by
  have k1 : a * d * f ≤ c * b * f := Int.mul_le_mul_of_nonneg_right h1 (by omega)
  have k2 : c * f * b ≤ e * d * b := Int.mul_le_mul_of_nonneg_right h2 (by omega)
  have k3 : a * f * d ≤ e * b * d := by
    have e1 : a * f * d = a * d * f := by grind
    have e2 : c * b * f = c * f * b := by grind
    have e3 : e * b * d = e * d * b := by grind
    omega
  exact Int.le_of_mul_le_mul_right k3 hd
theorem plS_best {G H : Nat → Int} : ∀ i, (∀ j, j < i → ¬ (G j < 0 ∧ H j < 0)) → plBest G H i (plS G H i)
  | 0, _ => ⟨by show (0 : Int) < 1; omega, by show (0 : Int) < 1; omega, fun j hj => absurd hj (Nat.not_lt_zero j), fun j hj => absurd hj (Nat.not_lt_zero j)⟩
  | i + 1, h => by
    have ih := plS_best i fun j hj => h j (by omega)
    have hi := h i (by omega)
    generalize hs : plS G H i = s at ih
    obtain ⟨p1, p2, p3, p4⟩ := ih
    have e : plS G H (i + 1) = if G i < 0 then (if s.2.1.1 * (H i - G i) < -G i * s.2.1.2 then ((i : Int), (-G i, H i - G i), s.2.2) else s)
        else if H i < 0 then (if G i * s.2.2.2 < s.2.2.1 * (G i - H i) then (s.1, s.2.1, (G i, G i - H i)) else s) else s := by rw [← hs]; rfl
    rw [e]
    by_cases g : G i < 0
    · rw [if_pos g]
      have hH : 0 ≤ H i := by omega
      by_cases c : s.2.1.1 * (H i - G i) < -G i * s.2.1.2
      · rw [if_pos c]
        refine ⟨by show 0 < H i - G i; omega, p2, fun j hj g1 g2 => ?_, fun j hj g1 g2 => ?_⟩
        · show -G j * (H i - G i) ≤ -G i * (H j - G j)
          by_cases q : j = i
          · subst q; exact Int.le_refl _
          · exact frac_trans (by omega) p1 (by omega) (p3 j (by omega) g1 g2) (by omega)
        · by_cases q : j = i
          · subst q; omega
          · exact p4 j (by omega) g1 g2
      · rw [if_neg c]
        refine ⟨p1, p2, fun j hj g1 g2 => ?_, fun j hj g1 g2 => ?_⟩
        · by_cases q : j = i
          · subst q; omega
          · exact p3 j (by omega) g1 g2
        · by_cases q : j = i
          · subst q; omega
          · exact p4 j (by omega) g1 g2
    · rw [if_neg g]
      by_cases g' : H i < 0
      · rw [if_pos g']
        by_cases c : G i * s.2.2.2 < s.2.2.1 * (G i - H i)
        · rw [if_pos c]
          refine ⟨p1, by show 0 < G i - H i; omega, fun j hj g1 g2 => ?_, fun j hj g1 g2 => ?_⟩
          · by_cases q : j = i
            · subst q; omega
            · exact p3 j (by omega) g1 g2
          · show G i * (G j - H j) ≤ G j * (G i - H i)
            by_cases q : j = i
            · subst q; exact Int.le_refl _
            · exact frac_trans (by omega) p2 (by omega) (by omega) (p4 j (by omega) g1 g2)
        · rw [if_neg c]
          refine ⟨p1, p2, fun j hj g1 g2 => ?_, fun j hj g1 g2 => ?_⟩
          · by_cases q : j = i
            · subst q; omega
            · exact p3 j (by omega) g1 g2
          · by_cases q : j = i
            · subst q; omega
            · exact p4 j (by omega) g1 g2
      · rw [if_neg g']
        refine ⟨p1, p2, fun j hj g1 g2 => ?_, fun j hj g1 g2 => ?_⟩
        · by_cases q : j = i
          · subst q; omega
          · exact p3 j (by omega) g1 g2
        · by_cases q : j = i
          · subst q; omega
          · exact p4 j (by omega) g1 g2
end Go.Ax
end

section
/-
  A way that passes a spot of a box meets the box; what a way meets of a polygon is in it.
-/
set_option linter.unusedVariables false
set_option linter.unusedSimpArgs false
set_option maxHeartbeats 4000000
namespace Go.Ax
theorem anyB_of {G : Nat → Bool} {n i : Nat} (hi : i < n) (h : G i = true) : anyB G n = true := anyB_iff.2 ⟨i, hi, h⟩
end Go.Ax
end

section
/-
  What a way meets of a polygon.
-/
set_option linter.unusedVariables false
set_option linter.unusedSimpArgs false
set_option maxHeartbeats 4000000
namespace Go.Ax
theorem pgT_step {n : Nat} {X Y : Nat → Int} {a b c d num den : Int} {i : Nat} :
    (X (nxt n i) - X i) * ((den * b + num * (d - b)) - den * Y i) - (Y (nxt n i) - Y i) * ((den * a + num * (c - a)) - den * X i) = den * pgT n X Y a b i + num * (pgT n X Y c d i - pgT n X Y a b i) := by
  unfold pgT turnS; grind
/-- The spot where the way enters has no edge on its wrong side. -/
theorem poly_in {n : Nat} {X Y : Nat → Int} {a b c d : Int} (hF : ∀ i, i < n → ¬ (pgT n X Y a b i < 0 ∧ pgT n X Y c d i < 0)) {s : PS} (hs : plS (pgT n X Y a b) (pgT n X Y c d) n = s) (h1 : ¬ s.1 < 0) (h2 : ¬ s.2.2.1 * s.2.1.2 < s.2.1.1 * s.2.2.2) :
    0 < s.2.1.1 ∧ s.2.1.1 ≤ s.2.1.2 ∧ ∀ i, i < n → 0 ≤ (X (nxt n i) - X i) * ((s.2.1.2 * b + s.2.1.1 * (d - b)) - s.2.1.2 * Y i) - (Y (nxt n i) - Y i) * ((s.2.1.2 * a + s.2.1.1 * (c - a)) - s.2.1.2 * X i) := by
  have ho := plS_ok n hF
  have hb := plS_best n hF
  rw [hs] at ho hb
  obtain ⟨p1, p2, p3, p4⟩ := hb
  have hj : ∃ j, j < n ∧ s.1 = (j : Int) ∧ pgT n X Y a b j < 0 ∧ 0 ≤ pgT n X Y c d j ∧ s.2.1 = (-pgT n X Y a b j, pgT n X Y c d j - pgT n X Y a b j) := by
    rcases ho.1 with h | h
    · omega
    · exact h
  obtain ⟨j, j1, j2, j3, j4, j5⟩ := hj
  have e1 : s.2.1.1 = -pgT n X Y a b j := by rw [j5]
  have e2 : s.2.1.2 = pgT n X Y c d j - pgT n X Y a b j := by rw [j5]
  have hle : s.2.1.1 ≤ s.2.1.2 := by omega
  refine ⟨by omega, hle, fun i hi => ?_⟩
  rw [pgT_step]
  have hi' := hF i hi
  have q3 := p3 i hi
  have q4 := p4 i hi
  generalize pgT n X Y a b i = G at *
  generalize pgT n X Y c d i = H at *
  have num0 : 0 < s.2.1.1 := by omega
  clear e1 e2 j5
  generalize s.2.1.1 = num at *
  generalize s.2.1.2 = den at *
  generalize s.2.2.1 = ln at *
  generalize s.2.2.2 = ld at *
  clear p3 p4 ho hs j2 j3 j4
  by_cases g : G < 0
  · have k := q3 g (by omega)
    have e : -G * den = -(den * G) := by grind
    omega
  · by_cases g' : H < 0
    · have k := q4 (by omega) g'
      have k2 : num * (G - H) ≤ G * den := frac_trans p1 p2 (by omega) (by omega) k
      have e : num * (H - G) = -(num * (G - H)) := by rw [← Int.mul_neg]; congr 1; omega
      have e3 : G * den = den * G := Int.mul_comm _ _
      omega
    · have k1 : 0 ≤ num * H := Int.mul_nonneg (by omega) (by omega)
      have k2 : num * G ≤ den * G := Int.mul_le_mul_of_nonneg_right hle (by omega)
      have e : num * (H - G) = num * H - num * G := Int.mul_sub ..
      omega
theorem mnS_le' {Z : Nat → Int} : ∀ {n j : Nat}, j < n → mnS Z n ≤ Z j
  | 0, j, h => absurd h (Nat.not_lt_zero j)
  | i + 1, j, h => by
    unfold mnS
    split
    · rename_i e; subst e
      rw [show j = 0 by omega]; exact Int.le_refl _
    · by_cases e : j = i
      · subst e; exact Int.min_le_right _ _
      · exact Int.le_trans (Int.min_le_left _ _) (mnS_le' (by omega))
theorem mxS_ge' {Z : Nat → Int} : ∀ {n j : Nat}, j < n → Z j ≤ mxS Z n
  | 0, j, h => absurd h (Nat.not_lt_zero j)
  | i + 1, j, h => by
    unfold mxS
    split
    · rename_i e; subst e
      rw [show j = 0 by omega]; exact Int.le_refl _
    · by_cases e : j = i
      · subst e; exact Int.le_max_right _ _
      · exact Int.le_trans (mxS_ge' (by omega)) (Int.le_max_left _ _)
theorem mnS_at {Z : Nat → Int} : ∀ {n : Nat}, 0 < n → ∃ j, j < n ∧ mnS Z n = Z j
  | i + 1, h => by
    unfold mnS
    split
    · exact ⟨0, by omega, rfl⟩
    · obtain ⟨j, j1, j2⟩ := mnS_at (Z := Z) (n := i) (by omega)
      by_cases e : mnS Z i ≤ Z i
      · exact ⟨j, by omega, by rw [Int.min_eq_left e, j2]⟩
      · exact ⟨i, by omega, by rw [Int.min_eq_right (by omega)]⟩
theorem mxS_at {Z : Nat → Int} : ∀ {n : Nat}, 0 < n → ∃ j, j < n ∧ mxS Z n = Z j
  | i + 1, h => by
    unfold mxS
    split
    · exact ⟨0, by omega, rfl⟩
    · obtain ⟨j, j1, j2⟩ := mxS_at (Z := Z) (n := i) (by omega)
      by_cases e : mxS Z i ≤ Z i
      · exact ⟨i, by omega, by rw [Int.max_eq_right e]⟩
      · exact ⟨j, by omega, by rw [Int.max_eq_left (by omega), j2]⟩
theorem bx_valid {n : Nat} {X Y : Nat → Int} (h0 : 0 < n) (hv : ∀ i, i < n → validS (X i) (Y i) = true) : checkBoxS (mnS X n) (mnS Y n) (mxS X n) (mxS Y n) = 0 := by
  obtain ⟨i, i1, i2⟩ := mnS_at (Z := X) h0
  obtain ⟨j, j1, j2⟩ := mnS_at (Z := Y) h0
  obtain ⟨k, k1, k2⟩ := mxS_at (Z := X) h0
  obtain ⟨l, l1, l2⟩ := mxS_at (Z := Y) h0
  have a1 := validS_iff.1 (hv i i1)
  have a2 := validS_iff.1 (hv j j1)
  have a3 := validS_iff.1 (hv k k1)
  have a4 := validS_iff.1 (hv l l1)
  have b1 := mxS_ge' (Z := X) i1
  have b2 := mxS_ge' (Z := Y) j1
  exact checkBoxS_iff.2 (by omega)
theorem plF_iff {n : Nat} {X Y : Nat → Int} {a b c d : Int} (h : ¬ plF n X Y a b c d = true) : ∀ i, i < n → ¬ (pgT n X Y a b i < 0 ∧ pgT n X Y c d i < 0) := fun i hi q => h (anyB_of hi (decide_eq_true q))
/-- A way that begins off a polygon and ends in it meets it. -/
theorem plS_in {G H : Nat → Int} : ∀ i, (∀ j, j < i → 0 ≤ H j) → (plS G H i).2.2 = (1, 1) ∧ ((plS G H i).1 < 0 → (plS G H i).2.1 = (-1, 1) ∧ ∀ j, j < i → 0 ≤ G j)
  | 0, _ => ⟨rfl, fun _ => ⟨rfl, fun j hj => absurd hj (Nat.not_lt_zero j)⟩⟩
  | i + 1, h => by
    obtain ⟨p1, p2⟩ := plS_in (G := G) i fun j hj => h j (by omega)
    have hi := h i (by omega)
    generalize hs : plS G H i = s at p1 p2
    have e : plS G H (i + 1) = if G i < 0 then (if s.2.1.1 * (H i - G i) < -G i * s.2.1.2 then ((i : Int), (-G i, H i - G i), s.2.2) else s)
        else if H i < 0 then (if G i * s.2.2.2 < s.2.2.1 * (G i - H i) then (s.1, s.2.1, (G i, G i - H i)) else s) else s := by rw [← hs]; rfl
    rw [e]
    by_cases g : G i < 0
    · rw [if_pos g]
      by_cases c : s.2.1.1 * (H i - G i) < -G i * s.2.1.2
      · rw [if_pos c]
        exact ⟨p1, fun q => by dsimp only at q; omega⟩
      · rw [if_neg c]
        refine ⟨p1, fun q => ?_⟩
        obtain ⟨q1, q2⟩ := p2 q
        exfalso
        rw [q1] at c
        dsimp only at c
        omega
    · rw [if_neg g, if_neg (by omega)]
      refine ⟨p1, fun q => ?_⟩
      obtain ⟨q1, q2⟩ := p2 q
      exact ⟨q1, fun j hj => by
        by_cases e : j = i
        · subst e; omega
        · exact q2 j (by omega)⟩
theorem poly_ends {n : Nat} {X Y : Nat → Int} {a b c d : Int} (hf : inS n X Y a b = false) (ht : inS n X Y c d = true) : (plH n X Y a b c d).1 = true := by
  have hH : ∀ i, i < n → 0 ≤ pgT n X Y c d i := of_decide_eq_true ht
  have hG : ¬ ∀ i, i < n → 0 ≤ pgT n X Y a b i := of_decide_eq_false hf
  have hF : ∀ i, i < n → ¬ (pgT n X Y a b i < 0 ∧ pgT n X Y c d i < 0) := fun i hi q => by have := hH i hi; omega
  have nF : ¬ plF n X Y a b c d = true := fun q => by
    obtain ⟨i, i1, i2⟩ := anyB_iff.1 q
    exact hF i i1 (of_decide_eq_true i2)
  obtain ⟨p1, p2⟩ := plS_in (G := pgT n X Y a b) n hH
  have ho := (plS_ok n hF).1
  unfold plH
  rw [if_neg nF]
  generalize plS (pgT n X Y a b) (pgT n X Y c d) n = s at *
  have s0 : ¬ s.1 < 0 := fun q => hG (p2 q).2
  obtain ⟨j, j1, j2, j3, j4, j5⟩ : ∃ j, j < n ∧ s.1 = (j : Int) ∧ pgT n X Y a b j < 0 ∧ 0 ≤ pgT n X Y c d j ∧ s.2.1 = (-pgT n X Y a b j, pgT n X Y c d j - pgT n X Y a b j) := by
    rcases ho with h | h
    · omega
    · exact h
  have nE : ¬ (s.1 < 0 ∨ s.2.2.1 * s.2.1.2 < s.2.1.1 * s.2.2.2) := by
    rintro (q | q)
    · exact s0 q
    · rw [p1, j5] at q
      dsimp only at q
      omega
  unfold plE
  rw [if_neg nE]
  unfold plHit
  rw [if_neg s0]
end Go.Ax
end

section
/-
  A disc that is off all edges of a polygon, its middle not being in it, has no spot in common with it.
-/
set_option linter.unusedVariables false
set_option linter.unusedSimpArgs false
set_option maxHeartbeats 4000000
namespace Go.Ax
/-- An edge from the origin to e; o the middle, g a spot of the edge (den times), ars vectors from the edge's beginning. -/
theorem edge_near {ex ey ox oy gx gy den r2 : Int} (hd : 0 < den) (hpar : ex * gy - ey * gx = 0) (h0 : 0 ≤ ex * gx + ey * gy) (h1 : ex * gx + ey * gy ≤ den * (ex * ex + ey * ey)) (he : 0 < ex * ex + ey * ey)
    (hq : (gx - den * ox) * (gx - den * ox) + (gy - den * oy) * (gy - den * oy) ≤ den * den * r2) :
    (ox * ex + oy * ey ≤ 0 → ox * ox + oy * oy ≤ r2) ∧
    (ex * ex + ey * ey ≤ ox * ex + oy * ey → (ox - ex) * (ox - ex) + (oy - ey) * (oy - ey) ≤ r2) ∧
    (ex * oy - ey * ox) * (ex * oy - ey * ox) ≤ r2 * (ex * ex + ey * ey) := by
  have hdd : 0 < den * den := Int.mul_pos hd hd
  refine ⟨fun hc => ?_, fun hc => ?_, ?_⟩
  · have k : (ex * ex + ey * ey) * (gx * ox + gy * oy) = (ex * gx + ey * gy) * (ox * ex + oy * ey) := by
      have : (ex * ex + ey * ey) * (gx * ox + gy * oy) = (ex * gx + ey * gy) * (ox * ex + oy * ey) + (ex * gy - ey * gx) * (ex * oy - ey * ox) := by grind
      rw [this, hpar, Int.zero_mul, Int.add_zero]
    have k1 : (ex * gx + ey * gy) * (ox * ex + oy * ey) ≤ 0 := Int.mul_nonpos_of_nonneg_of_nonpos h0 hc
    have k2 : gx * ox + gy * oy ≤ 0 := by
      refine Int.not_lt.1 fun q => ?_
      have := Int.mul_pos he q
      omega
    have k3 : den * (gx * ox + gy * oy) ≤ 0 := Int.mul_nonpos_of_nonneg_of_nonpos (by omega) k2
    have e1 : (gx - den * ox) * (gx - den * ox) + (gy - den * oy) * (gy - den * oy) = (gx * gx + gy * gy) - 2 * (den * (gx * ox + gy * oy)) + den * den * (ox * ox + oy * oy) := by grind
    have s1 := sq0 gx
    have s2 := sq0 gy
    exact Int.le_of_mul_le_mul_left (a := den * den) (by omega) hdd
  · have k : (ex * ex + ey * ey) * ((gx - den * ex) * (ox - ex) + (gy - den * ey) * (oy - ey)) = ((ex * gx + ey * gy) - den * (ex * ex + ey * ey)) * ((ox * ex + oy * ey) - (ex * ex + ey * ey)) := by
      have : (ex * ex + ey * ey) * ((gx - den * ex) * (ox - ex) + (gy - den * ey) * (oy - ey)) = ((ex * gx + ey * gy) - den * (ex * ex + ey * ey)) * ((ox * ex + oy * ey) - (ex * ex + ey * ey)) + (ex * gy - ey * gx) * (ex * oy - ey * ox) := by grind
      rw [this, hpar, Int.zero_mul, Int.add_zero]
    have k1 : ((ex * gx + ey * gy) - den * (ex * ex + ey * ey)) * ((ox * ex + oy * ey) - (ex * ex + ey * ey)) ≤ 0 := Int.mul_nonpos_of_nonpos_of_nonneg (by omega) (by omega)
    have k2 : (gx - den * ex) * (ox - ex) + (gy - den * ey) * (oy - ey) ≤ 0 := by
      refine Int.not_lt.1 fun q => ?_
      have := Int.mul_pos he q
      omega
    have k3 : den * ((gx - den * ex) * (ox - ex) + (gy - den * ey) * (oy - ey)) ≤ 0 := Int.mul_nonpos_of_nonneg_of_nonpos (by omega) k2
    have e1 : (gx - den * ox) * (gx - den * ox) + (gy - den * oy) * (gy - den * oy) = ((gx - den * ex) * (gx - den * ex) + (gy - den * ey) * (gy - den * ey)) - 2 * (den * ((gx - den * ex) * (ox - ex) + (gy - den * ey) * (oy - ey))) + den * den * ((ox - ex) * (ox - ex) + (oy - ey) * (oy - ey)) := by grind
    have s1 := sq0 (gx - den * ex)
    have s2 := sq0 (gy - den * ey)
    exact Int.le_of_mul_le_mul_left (a := den * den) (by omega) hdd
  · have e1 : (ex * (gy - den * oy) - ey * (gx - den * ox)) * (ex * (gy - den * oy) - ey * (gx - den * ox)) + (ex * (gx - den * ox) + ey * (gy - den * oy)) * (ex * (gx - den * ox) + ey * (gy - den * oy)) = (ex * ex + ey * ey) * ((gx - den * ox) * (gx - den * ox) + (gy - den * oy) * (gy - den * oy)) := by grind
    have e2 : ex * (gy - den * oy) - ey * (gx - den * ox) = -(den * (ex * oy - ey * ox)) := by grind
    rw [e2] at e1
    have e3 : -(den * (ex * oy - ey * ox)) * -(den * (ex * oy - ey * ox)) = den * den * ((ex * oy - ey * ox) * (ex * oy - ey * ox)) := by grind
    have s1 := sq0 (ex * (gx - den * ox) + ey * (gy - den * oy))
    have m := Int.mul_le_mul_of_nonneg_left hq (show 0 ≤ ex * ex + ey * ey by omega)
    have e4 : (ex * ex + ey * ey) * (den * den * r2) = den * den * (r2 * (ex * ex + ey * ey)) := by grind
    exact Int.le_of_mul_le_mul_left (a := den * den) (by omega) hdd
end Go.Ax
end

section
/-
  A disc that is off all edges of a polygon, its middle not being in it, has no spot in common with it.
-/
set_option linter.unusedVariables false
set_option linter.unusedSimpArgs false
set_option maxHeartbeats 4000000
namespace Go.Ax
theorem prev_ex {n j : Nat} (hj : j < n) : ∃ k, k < n ∧ nxt n k = j := by
  by_cases e : j = 0
  · exact ⟨n - 1, by omega, by unfold nxt; rw [if_neg (by omega), e]⟩
  · exact ⟨j - 1, by omega, by unfold nxt; rw [if_pos (by omega)]; omega⟩
/-- A spot on the line of an edge of a convex polygon that is on no edge's wrong side is on the edge. -/
theorem on_edge {n : Nat} {X Y : Nat → Int} {P Q d : Int} {j : Nat} (hc : convexS n X Y = true) (hd : 0 < d) (hj : j < n)
    (hin : ∀ i, i < n → 0 ≤ (X (nxt n i) - X i) * (Q - d * Y i) - (Y (nxt n i) - Y i) * (P - d * X i))
    (hon : (X (nxt n j) - X j) * (Q - d * Y j) - (Y (nxt n j) - Y j) * (P - d * X j) = 0) :
    0 ≤ (X (nxt n j) - X j) * (P - d * X j) + (Y (nxt n j) - Y j) * (Q - d * Y j) ∧
    (X (nxt n j) - X j) * (P - d * X j) + (Y (nxt n j) - Y j) * (Q - d * Y j) ≤ d * ((X (nxt n j) - X j) * (X (nxt n j) - X j) + (Y (nxt n j) - Y j) * (Y (nxt n j) - Y j)) ∧
    0 < (X (nxt n j) - X j) * (X (nxt n j) - X j) + (Y (nxt n j) - Y j) * (Y (nxt n j) - Y j) := by
  obtain ⟨h3, _, hcv⟩ := convexS_iff.1 hc
  obtain ⟨k, hk, ek⟩ := prev_ex hj
  have hj' : nxt n j < n := nxt_lt hj
  have hj2 : nxt n (nxt n j) < n := nxt_lt hj'
  have ne1 : nxt n (nxt n j) ≠ j := by unfold nxt; (repeat' split) <;> omega
  have ne2 : nxt n (nxt n j) ≠ nxt n j := by unfold nxt; (repeat' split) <;> omega
  have ne3 : k ≠ j := by intro e; subst e; unfold nxt at ek; split at ek <;> omega
  have ne4 : nxt n j ≠ k := by intro e; rw [← e] at ek; exact ne1 ek
  have ne5 : nxt n j ≠ nxt n k := by rw [ek]; unfold nxt; split <;> omega
  have c1 := hcv j hj (nxt n (nxt n j)) hj2 ne1 ne2
  have c2 := hcv k hk (nxt n j) hj' ne4 ne5
  have t1 := hin (nxt n j) hj'
  have t2 := hin k hk
  rw [ek] at c2 t2
  generalize X (nxt n (nxt n j)) = cx at *
  generalize Y (nxt n (nxt n j)) = cy at *
  generalize X (nxt n j) = bx at *
  generalize Y (nxt n j) = byy at *
  generalize X j = ax at *
  generalize Y j = ay at *
  generalize X k = dx at *
  generalize Y k = dy at *
  unfold turnS at c1 c2
  clear hin hcv
  have hlen : 0 ≤ (bx - ax) * (bx - ax) + (byy - ay) * (byy - ay) := by have := sq0 (bx - ax); have := sq0 (byy - ay); omega
  have i1 : ((bx - ax) * (bx - ax) + (byy - ay) * (byy - ay)) * ((cx - bx) * (Q - d * byy) - (cy - byy) * (P - d * bx)) =
      -(((bx - ax) * (P - d * bx) + (byy - ay) * (Q - d * byy)) * ((bx - ax) * (cy - ay) - (byy - ay) * (cx - ax))) + ((cx - bx) * (bx - ax) + (cy - byy) * (byy - ay)) * ((bx - ax) * (Q - d * ay) - (byy - ay) * (P - d * ax)) := by grind
  rw [hon, Int.mul_zero, Int.add_zero] at i1
  have i2 : ((bx - ax) * (bx - ax) + (byy - ay) * (byy - ay)) * ((ax - dx) * (Q - d * dy) - (ay - dy) * (P - d * dx)) =
      ((bx - ax) * (P - d * ax) + (byy - ay) * (Q - d * ay)) * ((ax - dx) * (byy - dy) - (ay - dy) * (bx - dx)) + ((ax - dx) * (bx - ax) + (ay - dy) * (byy - ay)) * ((bx - ax) * (Q - d * ay) - (byy - ay) * (P - d * ax)) := by grind
  rw [hon, Int.mul_zero, Int.add_zero] at i2
  have m1 := Int.mul_nonneg hlen t1
  have m2 := Int.mul_nonneg hlen t2
  have r1 : (bx - ax) * (P - d * bx) + (byy - ay) * (Q - d * byy) ≤ 0 := by
    refine Int.not_lt.1 fun q => ?_
    have := Int.mul_pos q c1
    omega
  have r2 : 0 ≤ (bx - ax) * (P - d * ax) + (byy - ay) * (Q - d * ay) := by
    refine Int.not_lt.1 fun q => ?_
    have := Int.mul_neg_of_neg_of_pos q c2
    omega
  have e : (bx - ax) * (P - d * bx) + (byy - ay) * (Q - d * byy) = (bx - ax) * (P - d * ax) + (byy - ay) * (Q - d * ay) - d * ((bx - ax) * (bx - ax) + (byy - ay) * (byy - ay)) := by grind
  refine ⟨r2, by omega, ?_⟩
  suffices hne : 0 ≠ (bx - ax) * (bx - ax) + (byy - ay) * (byy - ay) by omega
  intro q
  have z1 := sq0 (bx - ax)
  have z2 := sq0 (byy - ay)
  have y1 : bx - ax = 0 := by
    have : (bx - ax) * (bx - ax) = 0 := by omega
    rcases Int.mul_eq_zero.1 this with h | h <;> exact h
  have y2 : byy - ay = 0 := by
    have : (byy - ay) * (byy - ay) = 0 := by omega
    rcases Int.mul_eq_zero.1 this with h | h <;> exact h
  rw [y1, y2] at c1
  simp at c1
end Go.Ax
end

section
/-
  A disc that is off all edges of a polygon, its middle not being in it, has no spot in common with it.
-/
set_option linter.unusedVariables false
set_option linter.unusedSimpArgs false
set_option maxHeartbeats 4000000
namespace Go.Ax
theorem mnW_v {x y : Int} (hx : -2097152 ≤ x ∧ x ≤ 2097152) (hy : -2097152 ≤ y ∧ y ≤ 2097152) : mnW x y = y - x := wrap_in (by unfold inR; omega)
theorem dtW_v {a b c d : Int} (ha : sm a) (hb : sm b) (hc : sm c) (hd : sm d) : dtW a b c d = a * c + b * d := by
  have h1 := sm_mul ha hc
  have h2 := sm_mul hb hd
  unfold dtW
  rw [wrap_in (x := a * c) (by unfold inR; omega), wrap_in (x := b * d) (by unfold inR; omega), wrap_in (by unfold inR; omega)]
theorem crW_v {a b c d : Int} (ha : sm a) (hb : sm b) (hc : sm c) (hd : sm d) : crW a b c d = a * d - b * c := by
  have h1 := sm_mul ha hd
  have h2 := sm_mul hb hc
  unfold crW
  rw [wrap_in (x := a * d) (by unfold inR; omega), wrap_in (x := b * c) (by unfold inR; omega), wrap_in (by unfold inR; omega)]
theorem out_common {n : Nat} {X Y : Nat → Int} {cx cy r px py : Int} (hc : convexS n X Y = true) (vc : validS cx cy = true) (vp : validS px py = true) (hr : sm r) (h : outS n X Y cx cy r = true) (h1 : inS n X Y px py = true) (h2 : dist2 cx cy px py ≤ r * r) : False := by
  obtain ⟨_, vX, _⟩ := convexS_iff.1 hc
  obtain ⟨hoff, hf⟩ := of_decide_eq_true h
  have hh := poly_ends hoff h1
  unfold plH at hh
  split at hh
  · cases hh
  rename_i hF
  generalize hs : plS (pgT n X Y cx cy) (pgT n X Y px py) n = s at hh
  unfold plE at hh
  split at hh
  · cases hh
  rename_i hE
  obtain ⟨k1, k2, k3⟩ := poly_in (plF_iff hF) hs (fun q => hE (.inl q)) (fun q => hE (.inr q))
  have ho := (plS_ok n (plF_iff hF)).1
  rw [hs] at ho
  obtain ⟨j, j1, _, _, _, j5⟩ : ∃ j, j < n ∧ s.1 = (j : Int) ∧ pgT n X Y cx cy j < 0 ∧ 0 ≤ pgT n X Y px py j ∧ s.2.1 = (-pgT n X Y cx cy j, pgT n X Y px py j - pgT n X Y cx cy j) := by
    rcases ho with q | q
    · exact absurd (.inl (by omega)) hE
    · exact q
  have hd : 0 < s.2.1.2 := by omega
  have hon : (X (nxt n j) - X j) * ((s.2.1.2 * cy + s.2.1.1 * (py - cy)) - s.2.1.2 * Y j) - (Y (nxt n j) - Y j) * ((s.2.1.2 * cx + s.2.1.1 * (px - cx)) - s.2.1.2 * X j) = 0 := by
    rw [pgT_step, j5]
    dsimp only
    grind
  obtain ⟨e1, e2, e3⟩ := on_edge hc hd j1 k3 hon
  have va := validS_iff.1 (vX j j1)
  have vb := validS_iff.1 (vX _ (nxt_lt j1))
  have vcc := validS_iff.1 vc
  have far := hf j j1
  generalize s.2.1.1 = num at *
  generalize s.2.1.2 = den at *
  have hq : (den * cx + num * (px - cx) - den * X j - den * (cx - X j)) * (den * cx + num * (px - cx) - den * X j - den * (cx - X j)) + (den * cy + num * (py - cy) - den * Y j - den * (cy - Y j)) * (den * cy + num * (py - cy) - den * Y j - den * (cy - Y j)) ≤ den * den * (r * r) := by
    have e : (den * cx + num * (px - cx) - den * X j - den * (cx - X j)) * (den * cx + num * (px - cx) - den * X j - den * (cx - X j)) + (den * cy + num * (py - cy) - den * Y j - den * (cy - Y j)) * (den * cy + num * (py - cy) - den * Y j - den * (cy - Y j)) = num * num * dist2 cx cy px py := by unfold dist2; grind
    rw [e]
    have p0 : 0 ≤ dist2 cx cy px py := by have := sq0 (px - cx); have := sq0 (py - cy); unfold dist2; omega
    have p1 : num * num ≤ den * den := by
      have a1 : num * num ≤ den * num := Int.mul_le_mul_of_nonneg_right k2 (by omega)
      have a2 : den * num ≤ den * den := Int.mul_le_mul_of_nonneg_left k2 (by omega)
      omega
    have p2 : num * num * dist2 cx cy px py ≤ den * den * dist2 cx cy px py := Int.mul_le_mul_of_nonneg_right p1 p0
    have p3 : den * den * dist2 cx cy px py ≤ den * den * (r * r) := Int.mul_le_mul_of_nonneg_left h2 (by have := sq0 den; omega)
    omega
  obtain ⟨n1, n2, n3⟩ := edge_near hd hon e1 e2 e3 hq
  have rr := sm_mul hr hr
  have wr : IntKind.i64.wrap (r * r) = r * r := wrap_in (by unfold inR; omega)
  have m1 : sm (cx - X j) := by unfold sm; omega
  have m2 : sm (cy - Y j) := by unfold sm; omega
  have m3 : sm (X (nxt n j) - X j) := by unfold sm; omega
  have m4 : sm (Y (nxt n j) - Y j) := by unfold sm; omega
  have m5 : sm (cx - X (nxt n j)) := by unfold sm; omega
  have m6 : sm (cy - Y (nxt n j)) := by unfold sm; omega
  unfold farS at far
  rw [wr, mnW_v (x := X j) (y := cx) (by omega) (by omega), mnW_v (x := Y j) (y := cy) (by omega) (by omega), mnW_v (x := X j) (y := X (nxt n j)) (by omega) (by omega), mnW_v (x := Y j) (y := Y (nxt n j)) (by omega) (by omega), mnW_v (x := X (nxt n j)) (y := cx) (by omega) (by omega), mnW_v (x := Y (nxt n j)) (y := cy) (by omega) (by omega),
    dtW_v m1 m2 m3 m4, dtW_v m1 m2 m1 m2, dtW_v m3 m4 m3 m4, dtW_v m5 m6 m5 m6, crW_v m3 m4 m1 m2] at far
  split at far
  · rename_i q
    have := n1 q
    have := of_decide_eq_true far
    omega
  · split at far
    · rename_i q
      have t1 := n2 q
      have t2 := of_decide_eq_true far
      have ea : cx - X j - (X (nxt n j) - X j) = cx - X (nxt n j) := by omega
      have eb : cy - Y j - (Y (nxt n j) - Y j) = cy - Y (nxt n j) := by omega
      rw [ea, eb] at t1
      omega
    · have f := of_decide_eq_true far
      unfold cmpS at f
      split at f
      · omega
      · split at f
        · omega
        · omega
end Go.Ax
end

section
/-
  Polygons that an edge separates have no spot in common.
-/
set_option linter.unusedVariables false
set_option linter.unusedSimpArgs false
set_option maxHeartbeats 4000000
namespace Go.Ax
theorem clr_common {n m : Nat} {X Y Z T : Nat → Int} {px py : Int} (hg : convexS m Z T = true) (h : clrS n X Y m Z T = true) (h1 : inS n X Y px py = true) (h2 : inS m Z T px py = true) : False := by
  obtain ⟨i, hi, hc⟩ := of_decide_eq_true h
  have k1 := of_decide_eq_true h1 i hi
  have k2 := of_decide_eq_true h2
  obtain ⟨j, j1, j2⟩ := inside_dir (P := px) (Q := py) (d := 1) (p := -(Y (nxt n i) - Y i)) (q := X (nxt n i) - X i) hg (by omega) (fun l hl => by
    have := k2 l hl
    unfold turnS at this
    simp only [Int.one_mul]
    exact this)
  have := hc j j1
  unfold turnS at this k1
  grind
/-- No polygon is apart from itself. -/
theorem clr_self {n : Nat} {X Y : Nat → Int} (hg : convexS n X Y = true) : clrS n X Y n X Y = false := by
  refine decide_eq_false fun ⟨i, hi, hc⟩ => ?_
  have := hc i hi
  unfold turnS at this
  grind
end Go.Ax
end

section
/-
  What a way meets of a disc.
-/
set_option linter.unusedVariables false
set_option linter.unusedSimpArgs false
set_option maxHeartbeats 4000000
namespace Go.Ax
theorem sq_lt {u r : Int} (hr : 0 ≤ r) (h : r < u) : r * r < u * u := by
  have h1 : r * r ≤ r * u := Int.mul_le_mul_of_nonneg_left (by omega) hr
  have h2 : r * u < u * u := Int.mul_lt_mul_of_pos_right h (by omega)
  omega
theorem sq_le {u r : Int} (hr : 0 ≤ r) (h : u * u ≤ r * r) : -r ≤ u ∧ u ≤ r := by
  constructor
  · refine Int.not_lt.1 fun q => ?_
    have : r * r < (-u) * (-u) := sq_lt hr (by omega)
    rw [Int.neg_mul_neg] at this
    omega
  · refine Int.not_lt.1 fun q => ?_
    have : r * r < u * u := sq_lt hr q
    omega
end Go.Ax
end

section
/-
  Forms that are apart have no spot in common; no form is apart from itself.
-/
set_option linter.unusedVariables false
set_option linter.unusedSimpArgs false
set_option maxHeartbeats 4000000
namespace Go.Ax
theorem near_two {ux uy vx vy r s : Int} (hr : 0 ≤ r) (hs : 0 ≤ s) (h1 : ux * ux + uy * uy ≤ r * r) (h2 : vx * vx + vy * vy ≤ s * s) : (ux - vx) * (ux - vx) + (uy - vy) * (uy - vy) ≤ (r + s) * (r + s) := by
  have e1 : (ux * vx + uy * vy) * (ux * vx + uy * vy) + (ux * vy - uy * vx) * (ux * vy - uy * vx) = (ux * ux + uy * uy) * (vx * vx + vy * vy) := by grind
  have z1 := sq0 (ux * vy - uy * vx)
  have z2 : 0 ≤ vx * vx + vy * vy := by have := sq0 vx; have := sq0 vy; omega
  have m1 : (ux * ux + uy * uy) * (vx * vx + vy * vy) ≤ r * r * (vx * vx + vy * vy) := Int.mul_le_mul_of_nonneg_right h1 z2
  have m2 : r * r * (vx * vx + vy * vy) ≤ r * r * (s * s) := Int.mul_le_mul_of_nonneg_left h2 (sq0 r)
  have e2 : r * r * (s * s) = (r * s) * (r * s) := by grind
  have k := sq_le (u := ux * vx + uy * vy) (Int.mul_nonneg hr hs) (by omega)
  have e3 : (ux - vx) * (ux - vx) + (uy - vy) * (uy - vy) = (ux * ux + uy * uy) + (vx * vx + vy * vy) - 2 * (ux * vx + uy * vy) := by grind
  have e4 : (r + s) * (r + s) = r * r + s * s + 2 * (r * s) := by grind
  omega
theorem dd_common {x y r a b s px py : Int} (v1 : validS x y = true) (v2 : validS a b = true) (hr : 0 ≤ r ∧ r ≤ 2097152) (hs : 0 ≤ s ∧ s ≤ 2097152) (h : ddS x y r a b s = true) (h1 : dist2 x y px py ≤ r * r) (h2 : dist2 a b px py ≤ s * s) : False := by
  have k1 := validS_iff.1 v1
  have k2 := validS_iff.1 v2
  have hd := of_decide_eq_true h
  have m1 : sm (a - x) := by unfold sm; omega
  have m2 : sm (b - y) := by unfold sm; omega
  have m3 : sm (r + s) := by unfold sm; omega
  have rr := sm_mul m3 m3
  rw [mnW_v (x := x) (y := a) (by omega) (by omega), mnW_v (x := y) (y := b) (by omega) (by omega), dtW_v m1 m2 m1 m2, wrap_in (x := r + s) (by unfold inR; omega), wrap_in (x := (r + s) * (r + s)) (by unfold inR; omega)] at hd
  unfold dist2 at h1 h2
  have := near_two (ux := px - x) (uy := py - y) (vx := px - a) (vy := py - b) hr.1 hs.1 h1 h2
  have e1 : px - x - (px - a) = a - x := by omega
  have e2 : py - y - (py - b) = b - y := by omega
  rw [e1, e2] at this
  omega
/-- Forms that are apart have no spot in common. -/
theorem ap_common {k x y r : Int} {n : Nat} {X Y : Nat → Int} {k' x' y' r' : Int} {m : Nat} {Z T : Nat → Int} {px py : Int} (vp : validS px py = true) (h : apS k x y r n X Y k' x' y' r' m Z T = true) (h1 : holdsS k x y r n X Y px py = true) (h2 : holdsS k' x' y' r' m Z T px py = true) : False := by
  unfold apS at h
  split at h
  · rename_i hAB
    have cA := check_1 hAB.1
    have cB := check_1 hAB.2
    unfold holdsS at h1 h2
    by_cases hk : k = 1
    · obtain ⟨r1, r2, _, _⟩ := cA.2.2.2.1 hk
      rw [if_pos hk] at h h1
      by_cases hk' : k' = 1
      · obtain ⟨r3, r4, _, _⟩ := cB.2.2.2.1 hk'
        rw [if_pos hk'] at h h2
        exact dd_common cA.2.1 cB.2.1 (by omega) (by omega) h (of_decide_eq_true h1) (of_decide_eq_true h2)
      · rw [if_neg hk'] at h h2
        exact out_common (cB.2.2.2.2 hk').2.2 cA.2.1 vp (by unfold sm; omega) h h2 (of_decide_eq_true h1)
    · rw [if_neg hk] at h h1
      by_cases hk' : k' = 1
      · obtain ⟨r3, r4, _, _⟩ := cB.2.2.2.1 hk'
        rw [if_pos hk'] at h h2
        exact out_common (cA.2.2.2.2 hk).2.2 cB.2.1 vp (by unfold sm; omega) h h1 (of_decide_eq_true h2)
      · rw [if_neg hk'] at h h2
        rw [Bool.or_eq_true] at h
        rcases h with h | h
        · exact clr_common (cB.2.2.2.2 hk').2.2 h h1 h2
        · exact clr_common (cA.2.2.2.2 hk).2.2 h h2 h1
  · cases h
end Go.Ax
end

section
/-
  The order of two forms does not matter; no form is apart from itself.
-/
set_option linter.unusedVariables false
set_option linter.unusedSimpArgs false
set_option maxHeartbeats 4000000
namespace Go.Ax
theorem dd_symm {x y r a b s : Int} (v1 : validS x y = true) (v2 : validS a b = true) : ddS x y r a b s = ddS a b s x y r := by
  have k1 := validS_iff.1 v1
  have k2 := validS_iff.1 v2
  have m1 : sm (a - x) := by unfold sm; omega
  have m2 : sm (b - y) := by unfold sm; omega
  have m3 : sm (x - a) := by unfold sm; omega
  have m4 : sm (y - b) := by unfold sm; omega
  unfold ddS
  rw [mnW_v (x := x) (y := a) (by omega) (by omega), mnW_v (x := y) (y := b) (by omega) (by omega), mnW_v (x := a) (y := x) (by omega) (by omega), mnW_v (x := b) (y := y) (by omega) (by omega), dtW_v m1 m2 m1 m2, dtW_v m3 m4 m3 m4, Int.add_comm s r]
  congr 2
  grind
theorem ap_symm {k x y r : Int} {n : Nat} {X Y : Nat → Int} {k' x' y' r' : Int} {m : Nat} {Z T : Nat → Int} : apS k x y r n X Y k' x' y' r' m Z T = apS k' x' y' r' m Z T k x y r n X Y := by
  unfold apS
  by_cases hAB : checkS k x y r n X Y = 0 ∧ checkS k' x' y' r' m Z T = 0
  · rw [if_pos hAB, if_pos (And.intro hAB.2 hAB.1)]
    by_cases hk : k = 1 <;> by_cases hk' : k' = 1
    · rw [if_pos hk, if_pos hk', if_pos hk', if_pos hk]
      exact dd_symm (check_1 hAB.1).2.1 (check_1 hAB.2).2.1
    · rw [if_pos hk, if_neg hk', if_neg hk', if_pos hk]
    · rw [if_neg hk, if_pos hk', if_pos hk', if_neg hk]
    · rw [if_neg hk, if_neg hk', if_neg hk', if_neg hk, Bool.or_comm]
  · rw [if_neg hAB, if_neg (fun q => hAB ⟨q.2, q.1⟩)]
theorem ap_self {k x y r : Int} {n : Nat} {X Y : Nat → Int} : apS k x y r n X Y k x y r n X Y = false := by
  unfold apS
  by_cases hA : checkS k x y r n X Y = 0
  · rw [if_pos ⟨hA, hA⟩]
    have cA := check_1 hA
    by_cases hk : k = 1
    · rw [if_pos hk, if_pos hk]
      obtain ⟨r1, r2, _, _⟩ := cA.2.2.2.1 hk
      have k1 := validS_iff.1 cA.2.1
      have m1 : sm (x - x) := by unfold sm; omega
      have m2 : sm (y - y) := by unfold sm; omega
      have m3 : sm (r + r) := by unfold sm; omega
      have rr := sm_mul m3 m3
      have z := sq0 (r + r)
      unfold ddS
      rw [mnW_v (x := x) (y := x) (by omega) (by omega), mnW_v (x := y) (y := y) (by omega) (by omega), dtW_v m1 m2 m1 m2, wrap_in (x := r + r) (by unfold inR; omega), wrap_in (x := (r + r) * (r + r)) (by unfold inR; omega), Int.sub_self, Int.sub_self]
      exact decide_eq_false (by omega)
    · rw [if_neg hk, if_neg hk, clr_self (cA.2.2.2.2 hk).2.2]
      rfl
  · rw [if_neg (fun q => hA q.1)]
end Go.Ax
end

section
/-
  Two convex polygons that a line keeps apart are kept apart by the line of an edge.
-/
set_option linter.unusedVariables false
set_option linter.unusedSimpArgs false
set_option maxHeartbeats 4000000
namespace Go.Ax
theorem ex_most {R : Nat → Nat → Prop} (ht : ∀ a b, R a b ∨ R b a) (hr : ∀ a b c, R a b → R b c → R a c) : ∀ n, ∃ i, i < n + 1 ∧ ∀ k, k < n + 1 → R k i
  | 0 => ⟨0, by omega, fun k hk => by
    rw [show k = 0 by omega]
    exact (ht 0 0).elim id id⟩
  | n + 1 => by
    obtain ⟨i, hi, h⟩ := ex_most ht hr n
    rcases ht i (n + 1) with q | q
    · refine ⟨n + 1, by omega, fun k hk => ?_⟩
      by_cases e : k = n + 1
      · rw [e]; exact (ht (n + 1) (n + 1)).elim id id
      · exact hr _ _ _ (h k (by omega)) q
    · refine ⟨i, by omega, fun k hk => ?_⟩
      by_cases e : k = n + 1
      · rw [e]; exact q
      · exact h k (by omega)
/-- The later one of two ways in a half plane, turning to the left; of those on one line the shorter one. -/
def lat (p q ax ay bx byy : Int) : Prop := 0 < crs ax ay bx byy ∨ (crs ax ay bx byy = 0 ∧ p * ax + q * ay ≤ p * bx + q * byy)
theorem crs_neg {ax ay bx byy : Int} : crs bx byy ax ay = -crs ax ay bx byy := by unfold crs; grind
theorem lat_tot {p q ax ay bx byy : Int} : lat p q ax ay bx byy ∨ lat p q bx byy ax ay := by
  unfold lat
  rw [@crs_neg ax ay bx byy]
  omega
theorem lat_tr {p q ax ay bx byy cx cy : Int} (ha : p * ax + q * ay < 0) (hb : p * bx + q * byy < 0) (hc : p * cx + q * cy < 0) (h1 : lat p q ax ay bx byy) (h2 : lat p q bx byy cx cy) : lat p q ax ay cx cy := by
  unfold lat at *
  have e := @crs_id ax ay bx byy cx cy p q
  generalize crs ax ay bx byy = u at *
  generalize crs bx byy cx cy = v at *
  generalize crs ax ay cx cy = w at *
  generalize p * ax + q * ay = fa at *
  generalize p * bx + q * byy = fb at *
  generalize p * cx + q * cy = fc at *
  by_cases hz : u = 0 ∧ v = 0
  · obtain ⟨z1, z2⟩ := hz
    subst z1 z2
    have : fb * w = 0 := by rw [e]; simp
    have : w = 0 := by rcases Int.mul_eq_zero.1 this with h | h <;> omega
    omega
  · have k1 : fc * u ≤ 0 := Int.mul_nonpos_of_nonpos_of_nonneg (by omega) (by omega)
    have k2 : fa * v ≤ 0 := Int.mul_nonpos_of_nonpos_of_nonneg (by omega) (by omega)
    have k3 : fc * u < 0 ∨ fa * v < 0 := by
      by_cases hu : u = 0
      · exact .inr (Int.mul_neg_of_neg_of_pos ha (by omega))
      · exact .inl (Int.mul_neg_of_neg_of_pos hc (by omega))
    have k4 : fb * w < 0 := by omega
    refine .inl (Int.not_le.1 fun hw => ?_)
    have : 0 ≤ fb * w := Int.mul_nonneg_of_nonpos_of_nonpos (by omega) hw
    omega
/-- What comes of being the latest one: no edge goes on from there along the line. -/
theorem crs_end {p q dx dy ax ay wx wy : Int} (hd : p * dx + q * dy < 0) (h1 : 0 < crs dx dy ax ay ∨ (crs dx dy ax ay = 0 ∧ 0 ≤ p * ax + q * ay)) (h2 : (crs ax ay wx wy < 0 ∧ crs dx dy wx wy ≤ 0) ∨ (0 < crs ax ay wx wy ∧ 0 ≤ crs dx dy wx wy)) : 0 < crs dx dy ax ay := by
  rcases h1 with h1 | ⟨h1, h3⟩
  · exact h1
  have e := @crs_id dx dy ax ay wx wy p q
  rw [h1, Int.mul_zero, Int.zero_add] at e
  generalize crs ax ay wx wy = v at *
  generalize crs dx dy wx wy = w at *
  generalize p * ax + q * ay = fa at *
  generalize p * dx + q * dy = fd at *
  exfalso
  rcases h2 with ⟨k1, k2⟩ | ⟨k1, k2⟩
  · have : 0 < fd * v := Int.mul_pos_of_neg_of_neg hd k1
    have : fa * w ≤ 0 := Int.mul_nonpos_of_nonneg_of_nonpos h3 k2
    omega
  · have : fd * v < 0 := Int.mul_neg_of_neg_of_pos hd k1
    have : 0 ≤ fa * w := Int.mul_nonneg h3 k2
    omega
/-- A vector by two others. -/
theorem crs_by {dx dy bx byy wx wy ax ay : Int} : crs dx dy bx byy * crs ax ay wx wy = crs bx byy wx wy * crs dx dy ax ay + crs dx dy wx wy * crs ax ay bx byy := by unfold crs; grind
theorem sep_edge {n m : Nat} {X Y Z T : Nat → Int} {p q : Int} (hc : convexS n X Y = true) (hg : convexS m Z T = true) (hs : ∀ i, i < n → ∀ j, j < m → p * X i + q * Y i < p * Z j + q * T j) :
    clrS n X Y m Z T = true ∨ clrS m Z T n X Y = true := by
  obtain ⟨h3, _, hcv⟩ := convexS_iff.1 hc
  obtain ⟨g3, _, hgv⟩ := convexS_iff.1 hg
  have hh : ∀ i, i < n → ∀ j, j < m → p * (X i - Z j) + q * (Y i - T j) < 0 := fun i hi j hj => by
    have := hs i hi j hj
    rw [Int.mul_sub, Int.mul_sub]; omega
  -- the latest pair
  obtain ⟨i, hi, j, hj, hL⟩ : ∃ i, i < n ∧ ∃ j, j < m ∧ ∀ k, k < n → ∀ l, l < m → lat p q (X k - Z l) (Y k - T l) (X i - Z j) (Y i - T j) := by
    have h1 : ∀ k, k < n → ∃ j, j < m ∧ ∀ l, l < m → lat p q (X k - Z l) (Y k - T l) (X k - Z j) (Y k - T j) := fun k hk => by
      obtain ⟨j, hj, h⟩ := ex_most (R := fun a b => lat p q (X k - Z (a % m)) (Y k - T (a % m)) (X k - Z (b % m)) (Y k - T (b % m))) (fun a b => lat_tot) (fun a b c => lat_tr (hh k hk _ (Nat.mod_lt _ (by omega))) (hh k hk _ (Nat.mod_lt _ (by omega))) (hh k hk _ (Nat.mod_lt _ (by omega)))) (m - 1)
      refine ⟨j, by omega, fun l hl => ?_⟩
      have := h l (by omega)
      rwa [Nat.mod_eq_of_lt hl, Nat.mod_eq_of_lt (show j < m by omega)] at this
    have h2 : ∀ k, ∃ j, k < n → (j < m ∧ ∀ l, l < m → lat p q (X k - Z l) (Y k - T l) (X k - Z j) (Y k - T j)) := fun k => by
      by_cases hk : k < n
      · obtain ⟨j, hj⟩ := h1 k hk
        exact ⟨j, fun _ => hj⟩
      · exact ⟨0, fun q => absurd q hk⟩
    obtain ⟨J, hJ⟩ := Classical.skolem.1 h2
    obtain ⟨i, hi, h⟩ := ex_most (R := fun a b => lat p q (X (a % n) - Z (J (a % n))) (Y (a % n) - T (J (a % n))) (X (b % n) - Z (J (b % n))) (Y (b % n) - T (J (b % n)))) (fun a b => lat_tot)
      (fun a b c => lat_tr (hh _ (Nat.mod_lt _ (by omega)) _ (hJ _ (Nat.mod_lt _ (by omega))).1) (hh _ (Nat.mod_lt _ (by omega)) _ (hJ _ (Nat.mod_lt _ (by omega))).1) (hh _ (Nat.mod_lt _ (by omega)) _ (hJ _ (Nat.mod_lt _ (by omega))).1)) (n - 1)
    have hi' : i < n := by omega
    refine ⟨i, hi', J i, (hJ i hi').1, fun k hk l hl => ?_⟩
    have h4 := h k (by omega)
    rw [Nat.mod_eq_of_lt hk, Nat.mod_eq_of_lt hi'] at h4
    exact lat_tr (hh k hk l hl) (hh k hk _ (hJ k hk).1) (hh i hi' _ (hJ i hi').1) ((hJ k hk).2 l hl) h4
  have hD := hh i hi j hj
  have hin := nxt_lt hi
  have hjn := nxt_lt hj
  have ni : nxt n i ≠ i := by unfold nxt; split <;> omega
  have nj : nxt m j ≠ j := by unfold nxt; split <;> omega
  -- all of the first one lies on the right of the line, all of the second one on its left
  have hR : ∀ k, k < n → crs (X i - Z j) (Y i - T j) (X k - X i) (Y k - Y i) ≤ 0 := fun k hk => by
    have := hL k hk j hj
    have e : crs (X k - Z j) (Y k - T j) (X i - Z j) (Y i - T j) = -crs (X i - Z j) (Y i - T j) (X k - X i) (Y k - Y i) := by unfold crs; grind
    unfold lat at this
    omega
  have hS : ∀ l, l < m → 0 ≤ crs (X i - Z j) (Y i - T j) (Z l - Z j) (T l - T j) := fun l hl => by
    have := hL i hi l hl
    have e : crs (X i - Z l) (Y i - T l) (X i - Z j) (Y i - T j) = crs (X i - Z j) (Y i - T j) (Z l - Z j) (T l - T j) := by unfold crs; grind
    unfold lat at this
    omega
  obtain ⟨k, hk, k1, k2⟩ : ∃ k, k < n ∧ k ≠ i ∧ k ≠ nxt n i := by
    by_cases c0 : (0 : Nat) ≠ i ∧ (0 : Nat) ≠ nxt n i
    · exact ⟨0, by omega, c0⟩
    by_cases c1 : (1 : Nat) ≠ i ∧ (1 : Nat) ≠ nxt n i
    · exact ⟨1, by omega, c1⟩
    exact ⟨2, by omega, by omega, by omega⟩
  obtain ⟨l, hl, l1, l2⟩ : ∃ l, l < m ∧ l ≠ j ∧ l ≠ nxt m j := by
    by_cases c0 : (0 : Nat) ≠ j ∧ (0 : Nat) ≠ nxt m j
    · exact ⟨0, by omega, c0⟩
    by_cases c1 : (1 : Nat) ≠ j ∧ (1 : Nat) ≠ nxt m j
    · exact ⟨1, by omega, c1⟩
    exact ⟨2, by omega, by omega, by omega⟩
  have hA : 0 < crs (X i - Z j) (Y i - T j) (X i - X (nxt n i)) (Y i - Y (nxt n i)) := by
    refine crs_end (p := p) (q := q) (wx := X k - X i) (wy := Y k - Y i) hD ?_ (.inl ⟨?_, hR k hk⟩)
    · have := hL _ hin j hj
      have e : crs (X (nxt n i) - Z j) (Y (nxt n i) - T j) (X i - Z j) (Y i - T j) = crs (X i - Z j) (Y i - T j) (X i - X (nxt n i)) (Y i - Y (nxt n i)) := by unfold crs; grind
      unfold lat at this
      rw [e] at this
      rcases this with h | ⟨h, h'⟩
      · exact .inl h
      · refine .inr ⟨h, ?_⟩
        simp only [Int.mul_sub] at h' ⊢
        omega
    · have := hcv i hi k hk k1 k2
      have e : turnS (X i) (Y i) (X (nxt n i)) (Y (nxt n i)) (X k) (Y k) = -crs (X i - X (nxt n i)) (Y i - Y (nxt n i)) (X k - X i) (Y k - Y i) := by unfold crs turnS; grind
      omega
  have hB : 0 < crs (X i - Z j) (Y i - T j) (Z (nxt m j) - Z j) (T (nxt m j) - T j) := by
    refine crs_end (p := p) (q := q) (wx := Z l - Z j) (wy := T l - T j) hD ?_ (.inr ⟨?_, hS l hl⟩)
    · have := hL i hi _ hjn
      have e : crs (X i - Z (nxt m j)) (Y i - T (nxt m j)) (X i - Z j) (Y i - T j) = crs (X i - Z j) (Y i - T j) (Z (nxt m j) - Z j) (T (nxt m j) - T j) := by unfold crs; grind
      unfold lat at this
      rw [e] at this
      rcases this with h | ⟨h, h'⟩
      · exact .inl h
      · refine .inr ⟨h, ?_⟩
        simp only [Int.mul_sub] at h' ⊢
        omega
    · have := hgv j hj l hl l1 l2
      have e : turnS (Z j) (T j) (Z (nxt m j)) (T (nxt m j)) (Z l) (T l) = crs (Z (nxt m j) - Z j) (T (nxt m j) - T j) (Z l - Z j) (T l - T j) := by unfold crs turnS; grind
      omega
  by_cases hab : 0 ≤ crs (X i - X (nxt n i)) (Y i - Y (nxt n i)) (Z (nxt m j) - Z j) (T (nxt m j) - T j)
  · refine .inl (decide_eq_true ⟨i, hi, fun l hl => ?_⟩)
    have hb : 0 ≤ crs (Z (nxt m j) - Z j) (T (nxt m j) - T j) (Z l - Z j) (T l - T j) := by
      by_cases c0 : l = j
      · subst c0; unfold crs; simp
      by_cases c1 : l = nxt m j
      · rw [c1]; unfold crs; rw [Int.mul_comm]; omega
      have := hgv j hj l hl c0 c1
      have e : turnS (Z j) (T j) (Z (nxt m j)) (T (nxt m j)) (Z l) (T l) = crs (Z (nxt m j) - Z j) (T (nxt m j) - T j) (Z l - Z j) (T l - T j) := by unfold crs turnS; grind
      omega
    have e := @crs_by (X i - Z j) (Y i - T j) (Z (nxt m j) - Z j) (T (nxt m j) - T j) (Z l - Z j) (T l - T j) (X i - X (nxt n i)) (Y i - Y (nxt n i))
    have m1 := Int.mul_nonneg hb (Int.le_of_lt hA)
    have m2 := Int.mul_nonneg (hS l hl) hab
    have hw : 0 ≤ crs (X i - X (nxt n i)) (Y i - Y (nxt n i)) (Z l - Z j) (T l - T j) := by
      refine Int.not_lt.1 fun hn => ?_
      have := Int.mul_neg_of_pos_of_neg hB hn
      omega
    have e2 : turnS (X i) (Y i) (X (nxt n i)) (Y (nxt n i)) (Z l) (T l) = -(crs (X i - X (nxt n i)) (Y i - Y (nxt n i)) (Z l - Z j) (T l - T j) + crs (X i - Z j) (Y i - T j) (X i - X (nxt n i)) (Y i - Y (nxt n i))) := by unfold crs turnS; grind
    omega
  · refine .inr (decide_eq_true ⟨j, hj, fun k hk => ?_⟩)
    have ha : crs (X i - X (nxt n i)) (Y i - Y (nxt n i)) (X k - X i) (Y k - Y i) ≤ 0 := by
      by_cases c0 : k = i
      · subst c0; unfold crs; simp
      by_cases c1 : k = nxt n i
      · rw [c1]
        have : crs (X i - X (nxt n i)) (Y i - Y (nxt n i)) (X (nxt n i) - X i) (Y (nxt n i) - Y i) = 0 := by unfold crs; grind
        omega
      have := hcv i hi k hk c0 c1
      have e : turnS (X i) (Y i) (X (nxt n i)) (Y (nxt n i)) (X k) (Y k) = -crs (X i - X (nxt n i)) (Y i - Y (nxt n i)) (X k - X i) (Y k - Y i) := by unfold crs turnS; grind
      omega
    have e := @crs_by (X i - Z j) (Y i - T j) (X i - X (nxt n i)) (Y i - Y (nxt n i)) (X k - X i) (Y k - Y i) (Z (nxt m j) - Z j) (T (nxt m j) - T j)
    have hba : 0 ≤ crs (Z (nxt m j) - Z j) (T (nxt m j) - T j) (X i - X (nxt n i)) (Y i - Y (nxt n i)) := by
      rw [crs_neg]; omega
    have m1 := Int.mul_nonpos_of_nonpos_of_nonneg ha (Int.le_of_lt hB)
    have m2 := Int.mul_nonpos_of_nonpos_of_nonneg (hR k hk) hba
    have hw : crs (Z (nxt m j) - Z j) (T (nxt m j) - T j) (X k - X i) (Y k - Y i) ≤ 0 := by
      refine Int.not_lt.1 fun hn => ?_
      have := Int.mul_pos hA hn
      omega
    have e2 : turnS (Z j) (T j) (Z (nxt m j)) (T (nxt m j)) (X k) (Y k) = crs (Z (nxt m j) - Z j) (T (nxt m j) - T j) (X k - X i) (Y k - Y i) - crs (X i - Z j) (Y i - T j) (Z (nxt m j) - Z j) (T (nxt m j) - T j) := by unfold crs turnS; grind
    omega
end Go.Ax
end

section
/-
  Forms whose boxes do not meet are apart.
-/
set_option linter.unusedVariables false
set_option linter.unusedSimpArgs false
set_option maxHeartbeats 4000000
namespace Go.Ax
theorem dir_sq {p q u v : Int} (h : p * p + q * q = 1) : (p * u + q * v) * (p * u + q * v) ≤ u * u + v * v := by
  have e : (p * u + q * v) * (p * u + q * v) + (p * v - q * u) * (p * v - q * u) = (p * p + q * q) * (u * u + v * v) := by grind
  rw [h, Int.one_mul] at e
  have := sq0 (p * v - q * u)
  omega
theorem cmp_pos {a b : Int} (h : b < a) : 0 < cmpS a b := by unfold cmpS; (repeat' split) <;> omega
theorem dir_gt {p q u v r : Int} (h : p * p + q * q = 1) (hr : 0 ≤ r) (hu : r < p * u + q * v) : r * r < u * u + v * v := by
  have h1 := @dir_sq p q u v h
  have h2 := sq_lt hr hu
  omega
theorem foot_dir {p q e1 e2 m1 m2 r : Int} (h : p * p + q * q = 1) (hr : 0 ≤ r) (h1 : r < p * m1 + q * m2) (h2 : r < p * (m1 - e1) + q * (m2 - e2)) (a0 : 0 < m1 * e1 + m2 * e2) (a1 : m1 * e1 + m2 * e2 < e1 * e1 + e2 * e2) :
    r * r * (e1 * e1 + e2 * e2) < (e1 * m2 - e2 * m1) * (e1 * m2 - e2 * m1) := by
  obtain ⟨al, hal⟩ : ∃ al, al = m1 * e1 + m2 * e2 := ⟨_, rfl⟩
  obtain ⟨A, hA⟩ : ∃ A, A = e1 * e1 + e2 * e2 := ⟨_, rfl⟩
  have s := @dir_sq p q (A * m1 - al * e1) (A * m2 - al * e2) h
  have e3 : (A * m1 - al * e1) * (A * m1 - al * e1) + (A * m2 - al * e2) * (A * m2 - al * e2) = A * ((e1 * m2 - e2 * m1) * (e1 * m2 - e2 * m1)) := by rw [hA, hal]; grind
  have e4 : p * (A * m1 - al * e1) + q * (A * m2 - al * e2) = (A - al) * (p * m1 + q * m2) + al * (p * (m1 - e1) + q * (m2 - e2)) := by grind
  rw [← hal, ← hA] at a1
  rw [← hal] at a0
  rw [← hA]
  have k1 : (A - al) * (r + 1) ≤ (A - al) * (p * m1 + q * m2) := Int.mul_le_mul_of_nonneg_left (by omega) (by omega)
  have k2 : al * (r + 1) ≤ al * (p * (m1 - e1) + q * (m2 - e2)) := Int.mul_le_mul_of_nonneg_left (by omega) (by omega)
  have e5 : (A - al) * (r + 1) + al * (r + 1) = A * r + A := by grind
  have k3 : A * r < p * (A * m1 - al * e1) + q * (A * m2 - al * e2) := by rw [e4]; omega
  have k4 := sq_lt (Int.mul_nonneg (show 0 ≤ A by omega) hr) k3
  rw [e3] at s
  have e6 : A * r * (A * r) = A * (r * r * A) := by grind
  rw [e6] at k4
  exact Int.lt_of_mul_lt_mul_left (Int.lt_of_lt_of_le k4 s) (by omega)
theorem far_dir {ax ay bx byy cx cy r p q : Int} (h : p * p + q * q = 1) (va : validS ax ay = true) (vb : validS bx byy = true) (vc : validS cx cy = true) (hr : 0 ≤ r ∧ r ≤ 2097152)
    (ha : p * ax + q * ay + r < p * cx + q * cy) (hb : p * bx + q * byy + r < p * cx + q * cy) : farS ax ay bx byy cx cy r = true := by
  rw [validS_iff] at va vb vc
  have m1 : sm (cx - ax) := by unfold sm; omega
  have m2 : sm (cy - ay) := by unfold sm; omega
  have n1 : sm (cx - bx) := by unfold sm; omega
  have n2 : sm (cy - byy) := by unfold sm; omega
  have e1 : sm (bx - ax) := by unfold sm; omega
  have e2 : sm (byy - ay) := by unfold sm; omega
  have hrr : inR (r * r) := by
    have := mul_bd (A := 2097152) (B := 2097152) (by omega) (show -2097152 ≤ r ∧ r ≤ 2097152 by omega) (show -2097152 ≤ r ∧ r ≤ 2097152 by omega)
    unfold inR; omega
  unfold farS
  rw [mnW_v (x := ax) (y := cx) (by omega) (by omega), mnW_v (x := ay) (y := cy) (by omega) (by omega), mnW_v (x := ax) (y := bx) (by omega) (by omega), mnW_v (x := ay) (y := byy) (by omega) (by omega), mnW_v (x := bx) (y := cx) (by omega) (by omega), mnW_v (x := byy) (y := cy) (by omega) (by omega),
    dtW_v m1 m2 e1 e2, dtW_v m1 m2 m1 m2, dtW_v e1 e2 e1 e2, dtW_v n1 n2 n1 n2, crW_v e1 e2 m1 m2, wrap_in hrr]
  have q1 : r < p * (cx - ax) + q * (cy - ay) := by rw [Int.mul_sub, Int.mul_sub]; omega
  have q2 : r < p * (cx - bx) + q * (cy - byy) := by rw [Int.mul_sub, Int.mul_sub]; omega
  have x1 : cx - bx = cx - ax - (bx - ax) := by omega
  have x2 : cy - byy = cy - ay - (byy - ay) := by omega
  split
  · exact decide_eq_true (dir_gt h hr.1 q1)
  · split
    · exact decide_eq_true (dir_gt h hr.1 q2)
    · rename_i h1 h2
      rw [x1, x2] at q2
      exact decide_eq_true (cmp_pos (foot_dir h hr.1 q1 q2 (by omega) (by omega)))
/-- How far a form goes in a direction. -/
def supB (k x y r : Int) (n : Nat) (X Y : Nat → Int) (p q V : Int) : Prop := if k = 1 then p * x + q * y + r ≤ V else ∀ i, i < n → p * X i + q * Y i ≤ V
theorem out_dir {n : Nat} {X Y : Nat → Int} {cx cy r p q : Int} (hc : convexS n X Y = true) (vc : validS cx cy = true) (hr : 0 ≤ r ∧ r ≤ 2097152) (h : p * p + q * q = 1) (hs : ∀ i, i < n → p * X i + q * Y i + r < p * cx + q * cy) : outS n X Y cx cy r = true := by
  obtain ⟨h3, vX, _⟩ := convexS_iff.1 hc
  refine decide_eq_true ⟨?_, fun i hi => far_dir h (vX i hi) (vX _ (nxt_lt hi)) vc hr (hs i hi) (hs _ (nxt_lt hi))⟩
  cases hin : inS n X Y cx cy with
  | false => rfl
  | true =>
    rw [inS_iff] at hin
    obtain ⟨j, hj, hh⟩ := inside_dir (P := cx) (Q := cy) (d := 1) (p := p) (q := q) hc (by decide) (fun i hi => by
      have := hin i hi
      unfold turnS at this
      rw [Int.one_mul, Int.one_mul]
      exact this)
    have := hs j hj
    rw [Int.one_mul, Int.one_mul] at hh
    omega
theorem dd_dir {x y r a b s p q : Int} (v1 : validS x y = true) (v2 : validS a b = true) (hr : 0 ≤ r ∧ r ≤ 2097152) (hs : 0 ≤ s ∧ s ≤ 2097152) (h : p * p + q * q = 1) (hd : p * x + q * y + r < p * a + q * b - s) : ddS x y r a b s = true := by
  have k1 := validS_iff.1 v1
  have k2 := validS_iff.1 v2
  have m1 : sm (a - x) := by unfold sm; omega
  have m2 : sm (b - y) := by unfold sm; omega
  have m3 : sm (r + s) := by unfold sm; omega
  have rr := sm_mul m3 m3
  unfold ddS
  rw [mnW_v (x := x) (y := a) (by omega) (by omega), mnW_v (x := y) (y := b) (by omega) (by omega), dtW_v m1 m2 m1 m2, wrap_in (x := r + s) (by unfold inR; omega), wrap_in (x := (r + s) * (r + s)) (by unfold inR; omega)]
  exact decide_eq_true (dir_gt h (by omega) (by rw [Int.mul_sub, Int.mul_sub]; omega))
theorem ap_dir {k x y r : Int} {n : Nat} {X Y : Nat → Int} {k' x' y' r' : Int} {m : Nat} {Z T : Nat → Int} {p q V W : Int} (hA : checkS k x y r n X Y = 0) (hB : checkS k' x' y' r' m Z T = 0) (h : p * p + q * q = 1)
    (h1 : supB k x y r n X Y p q V) (h2 : supB k' x' y' r' m Z T (-p) (-q) (-W)) (hV : V < W) : apS k x y r n X Y k' x' y' r' m Z T = true := by
  have cA := check_1 hA
  have cB := check_1 hB
  have hn : (-p) * (-p) + (-q) * (-q) = 1 := by rw [Int.neg_mul_neg, Int.neg_mul_neg]; exact h
  unfold apS
  rw [if_pos ⟨hA, hB⟩]
  unfold supB at h1 h2
  by_cases hk : k = 1
  · obtain ⟨r1, r2, _, _⟩ := cA.2.2.2.1 hk
    rw [if_pos hk] at h1 ⊢
    by_cases hk' : k' = 1
    · obtain ⟨r3, r4, _, _⟩ := cB.2.2.2.1 hk'
      rw [if_pos hk'] at h2 ⊢
      rw [Int.neg_mul, Int.neg_mul] at h2
      exact dd_dir cA.2.1 cB.2.1 (by omega) (by omega) h (by omega)
    · rw [if_neg hk'] at h2 ⊢
      refine out_dir (cB.2.2.2.2 hk').2.2 cA.2.1 (by omega) hn fun i hi => ?_
      have := h2 i hi
      rw [Int.neg_mul, Int.neg_mul] at this ⊢
      rw [Int.neg_mul, Int.neg_mul]
      omega
  · rw [if_neg hk] at h1 ⊢
    by_cases hk' : k' = 1
    · obtain ⟨r3, r4, _, _⟩ := cB.2.2.2.1 hk'
      rw [if_pos hk'] at h2 ⊢
      rw [Int.neg_mul, Int.neg_mul] at h2
      refine out_dir (cA.2.2.2.2 hk).2.2 cB.2.1 (by omega) h fun i hi => ?_
      have := h1 i hi
      omega
    · rw [if_neg hk'] at h2 ⊢
      rw [Bool.or_eq_true]
      refine sep_edge (p := p) (q := q) (cA.2.2.2.2 hk).2.2 (cB.2.2.2.2 hk').2.2 fun i hi j hj => ?_
      have a := h1 i hi
      have b := h2 j hj
      rw [Int.neg_mul, Int.neg_mul] at b
      omega
/-- A form's box holds it. -/
theorem sup_box {k x y r : Int} {n : Nat} {X Y : Nat → Int} (hA : checkS k x y r n X Y = 0) : supB k x y r n X Y 1 0 (boxS k x y r n X Y 2) ∧ supB k x y r n X Y (-1) 0 (-boxS k x y r n X Y 0) ∧ supB k x y r n X Y 0 1 (boxS k x y r n X Y 3) ∧ supB k x y r n X Y 0 (-1) (-boxS k x y r n X Y 1) := by
  unfold supB
  by_cases hk : k = 1
  · rw [boxS_disc hA hk, boxS_disc hA hk, boxS_disc hA hk, boxS_disc hA hk, if_pos hk, if_pos hk, if_pos hk, if_pos hk]
    show (1 * x + 0 * y + r ≤ x + r) ∧ (-1 * x + 0 * y + r ≤ -(x - r)) ∧ (0 * x + 1 * y + r ≤ y + r) ∧ (0 * x + -1 * y + r ≤ -(y - r))
    omega
  · rw [boxS_poly hA hk, boxS_poly hA hk, boxS_poly hA hk, boxS_poly hA hk, if_neg hk, if_neg hk, if_neg hk, if_neg hk]
    show (∀ i, i < n → 1 * X i + 0 * Y i ≤ mxS X n) ∧ (∀ i, i < n → -1 * X i + 0 * Y i ≤ -mnS X n) ∧ (∀ i, i < n → 0 * X i + 1 * Y i ≤ mxS Y n) ∧ (∀ i, i < n → 0 * X i + -1 * Y i ≤ -mnS Y n)
    refine ⟨fun i hi => ?_, fun i hi => ?_, fun i hi => ?_, fun i hi => ?_⟩
    · have := mxS_ge' (Z := X) hi; omega
    · have := mnS_le' (Z := X) hi; omega
    · have := mxS_ge' (Z := Y) hi; omega
    · have := mnS_le' (Z := Y) hi; omega
theorem box_ok {k x y r : Int} {n : Nat} {X Y : Nat → Int} (hA : checkS k x y r n X Y = 0) : checkBoxS (boxS k x y r n X Y 0) (boxS k x y r n X Y 1) (boxS k x y r n X Y 2) (boxS k x y r n X Y 3) = 0 := by
  have cA := check_1 hA
  by_cases hk : k = 1
  · rw [boxS_disc hA hk, boxS_disc hA hk, boxS_disc hA hk, boxS_disc hA hk]
    exact (cA.2.2.2.1 hk).2.2.1
  · rw [boxS_poly hA hk, boxS_poly hA hk, boxS_poly hA hk, boxS_poly hA hk]
    have hc := convexS_iff.1 (cA.2.2.2.2 hk).2.2
    exact bx_valid (by omega) hc.2.1
/-- Forms whose boxes do not meet are apart. -/
theorem ap_box {k x y r : Int} {n : Nat} {X Y : Nat → Int} {k' x' y' r' : Int} {m : Nat} {Z T : Nat → Int} (hA : checkS k x y r n X Y = 0) (hB : checkS k' x' y' r' m Z T = 0)
    (h : meetsS (boxS k x y r n X Y 0) (boxS k x y r n X Y 1) (boxS k x y r n X Y 2) (boxS k x y r n X Y 3) (boxS k' x' y' r' m Z T 0) (boxS k' x' y' r' m Z T 1) (boxS k' x' y' r' m Z T 2) (boxS k' x' y' r' m Z T 3) = false) : apS k x y r n X Y k' x' y' r' m Z T = true := by
  have h' := of_decide_eq_false h
  obtain ⟨a1, a2, a3, a4⟩ := sup_box hA
  obtain ⟨b1, b2, b3, b4⟩ := sup_box hB
  have c : boxS k x y r n X Y 2 < boxS k' x' y' r' m Z T 0 ∨ boxS k' x' y' r' m Z T 2 < boxS k x y r n X Y 0 ∨ boxS k x y r n X Y 3 < boxS k' x' y' r' m Z T 1 ∨ boxS k' x' y' r' m Z T 3 < boxS k x y r n X Y 1 := by
    refine Classical.byContradiction fun hn => h' ⟨box_ok hA, box_ok hB, ?_⟩
    omega
  rcases c with c | c | c | c
  · exact ap_dir (p := 1) (q := 0) hA hB (by decide) a1 b2 c
  · rw [ap_symm]
    exact ap_dir (p := 1) (q := 0) hB hA (by decide) b1 a2 c
  · exact ap_dir (p := 0) (q := 1) hA hB (by decide) a3 b4 c
  · rw [ap_symm]
    exact ap_dir (p := 0) (q := 1) hB hA (by decide) b3 a4 c
end Go.Ax
end

section
/-
  The order of two forms does not matter: the law's body.
-/
set_option linter.unusedVariables false
set_option linter.unusedSimpArgs false
set_option maxHeartbeats 4000000
set_option maxRecDepth 100000
namespace Go.Ax
open Go.Proofs
theorem bx_r {k x y r : Int} {n : Nat} {X Y : Nat → Int} (hA : checkS k x y r n X Y = 0) : inR (boxS k x y r n X Y 0) ∧ inR (boxS k x y r n X Y 1) ∧ inR (boxS k x y r n X Y 2) ∧ inR (boxS k x y r n X Y 3) := by
  have := checkBoxS_iff.1 (box_ok hA)
  unfold inR
  omega
theorem vc4 (A B C X Y U A' B' C' X' Y' U' x y : Int) (h : inR A ∧ inR B ∧ inR C ∧ inR X ∧ inR Y ∧ inR U) (h' : inR A' ∧ inR B' ∧ inR C' ∧ inR X' ∧ inR Y' ∧ inR U') (hx : inR x) (hy : inR y) :
    fnVC Try.prog [(6, c6), (10, c10), (7, c7), (12, c12), (11, c11), (13, c13), (9, c9)] [(1, ⟨[(6, .made 4), (7, .made 5)], []⟩)] Try.f4 [.agg [i64 A, i64 B, i64 C, i64 X, i64 Y, i64 U], .agg [i64 A', i64 B', i64 C', i64 X', i64 Y', i64 U'], i64 x, i64 y] (· = bo true) := by
  refine fnVC_go (rs := [.tmp 8]) rfl rfl ?_
  obtain ⟨h0, h1, h2, h3, h4, h5⟩ := h
  obtain ⟨g0, g1, g2, g3, g4, g5⟩ := h'
  have h12 : (1 : Int) ≤ 12 ∧ (12 : Int) ≤ 4000 := by omega
  simp only [go_sem, c6, c10, c7, c12, c11, c13, c9, h0, h1, h2, h3, h4, h5, g0, g1, g2, g3, g4, g5, hx, hy]
  obtain ⟨b0, b1, b2, b3⟩ := bx_r (@fo_ok A B C X Y U 12 h12)
  obtain ⟨d0, d1, d2, d3⟩ := bx_r (@fo_ok A' B' C' X' Y' U' 12 h12)
  have hmeet := ap_box (@fo_ok A B C X Y U 12 h12) (@fo_ok A' B' C' X' Y' U' 12 h12)
  obtain ⟨p, hp⟩ : ∃ p, apS (foK A B C X Y U 12) (foX A B C X Y U 12) (foY A B C X Y U 12) (foR A B C X Y U 12) (foN A B C X Y U 12) (foP A B C X Y U 12) (foQ A B C X Y U 12) (foK A' B' C' X' Y' U' 12) (foX A' B' C' X' Y' U' 12) (foY A' B' C' X' Y' U' 12) (foR A' B' C' X' Y' U' 12) (foN A' B' C' X' Y' U' 12) (foP A' B' C' X' Y' U' 12) (foQ A' B' C' X' Y' U' 12) = p := ⟨_, rfl⟩
  have hq : apS (foK A' B' C' X' Y' U' 12) (foX A' B' C' X' Y' U' 12) (foY A' B' C' X' Y' U' 12) (foR A' B' C' X' Y' U' 12) (foN A' B' C' X' Y' U' 12) (foP A' B' C' X' Y' U' 12) (foQ A' B' C' X' Y' U' 12) (foK A B C X Y U 12) (foX A B C X Y U 12) (foY A B C X Y U 12) (foR A B C X Y U 12) (foN A B C X Y U 12) (foP A B C X Y U 12) (foQ A B C X Y U 12) = p := ap_symm.symm.trans hp
  have hs : apS (foK A B C X Y U 12) (foX A B C X Y U 12) (foY A B C X Y U 12) (foR A B C X Y U 12) (foN A B C X Y U 12) (foP A B C X Y U 12) (foQ A B C X Y U 12) (foK A B C X Y U 12) (foX A B C X Y U 12) (foY A B C X Y U 12) (foR A B C X Y U 12) (foN A B C X Y U 12) (foP A B C X Y U 12) (foQ A B C X Y U 12) = false := ap_self
  obtain ⟨mm, hm⟩ : ∃ mm, meetsS (boxS (foK A B C X Y U 12) (foX A B C X Y U 12) (foY A B C X Y U 12) (foR A B C X Y U 12) (foN A B C X Y U 12) (foP A B C X Y U 12) (foQ A B C X Y U 12) 0) (boxS (foK A B C X Y U 12) (foX A B C X Y U 12) (foY A B C X Y U 12) (foR A B C X Y U 12) (foN A B C X Y U 12) (foP A B C X Y U 12) (foQ A B C X Y U 12) 1) (boxS (foK A B C X Y U 12) (foX A B C X Y U 12) (foY A B C X Y U 12) (foR A B C X Y U 12) (foN A B C X Y U 12) (foP A B C X Y U 12) (foQ A B C X Y U 12) 2) (boxS (foK A B C X Y U 12) (foX A B C X Y U 12) (foY A B C X Y U 12) (foR A B C X Y U 12) (foN A B C X Y U 12) (foP A B C X Y U 12) (foQ A B C X Y U 12) 3) (boxS (foK A' B' C' X' Y' U' 12) (foX A' B' C' X' Y' U' 12) (foY A' B' C' X' Y' U' 12) (foR A' B' C' X' Y' U' 12) (foN A' B' C' X' Y' U' 12) (foP A' B' C' X' Y' U' 12) (foQ A' B' C' X' Y' U' 12) 0) (boxS (foK A' B' C' X' Y' U' 12) (foX A' B' C' X' Y' U' 12) (foY A' B' C' X' Y' U' 12) (foR A' B' C' X' Y' U' 12) (foN A' B' C' X' Y' U' 12) (foP A' B' C' X' Y' U' 12) (foQ A' B' C' X' Y' U' 12) 1) (boxS (foK A' B' C' X' Y' U' 12) (foX A' B' C' X' Y' U' 12) (foY A' B' C' X' Y' U' 12) (foR A' B' C' X' Y' U' 12) (foN A' B' C' X' Y' U' 12) (foP A' B' C' X' Y' U' 12) (foQ A' B' C' X' Y' U' 12) 2) (boxS (foK A' B' C' X' Y' U' 12) (foX A' B' C' X' Y' U' 12) (foY A' B' C' X' Y' U' 12) (foR A' B' C' X' Y' U' 12) (foN A' B' C' X' Y' U' 12) (foP A' B' C' X' Y' U' 12) (foQ A' B' C' X' Y' U' 12) 3) = mm := ⟨_, rfl⟩
  rw [hm, hp] at hmeet
  have i12 : inR 4000 := by unfold inR; decide
  simp only [forall_eq, spots_fo, foN_max, foX_r, foY_r, foR_r, gx_fo0, gx_fo1, vS_fo h12, hm, hp, hq, hs, beq_self_eq_true, b0, b1, b2, b3, d0, d1, d2, d3, i12, implies_true, and_self, true_and, and_true]
  have rr : ∀ v : Int, -4000 ≤ v.tmod 4001 ∧ v.tmod 4001 ≤ 4000 := fun v => by
    have h1 : v.tmod 4001 < 4001 := Int.tmod_lt_of_pos v (by omega)
    have h2 : -4001 < v.tmod 4001 := Int.lt_tmod_of_pos v (by omega)
    omega
  have rx := rr x
  have ry := rr y
  generalize x.tmod 4001 = u at *
  generalize y.tmod 4001 = w at *
  have v : validS u w = true := validS_iff.2 (by omega)
  have iu : inR u := by unfold inR; omega
  have iw : inR w := by unfold inR; omega
  refine ⟨fun _ h => h, fun h => ?_, fun h => ⟨fun _ => iu, fun _ => iw, fun _ => iu, fun _ => iw, Bool.eq_false_iff.2 fun hc => ?_⟩⟩
  · rcases h with (h | h) | h
    · cases h
    · cases h
    · have := hmeet h.1
      rw [this] at h
      exact absurd h.2 (by decide)
  · simp only [Bool.and_eq_true, decide_eq_true_eq] at hc
    exact ap_common v (hp.trans hc.1.1) hc.1.2.2 hc.2.2
end Go.Ax
end
