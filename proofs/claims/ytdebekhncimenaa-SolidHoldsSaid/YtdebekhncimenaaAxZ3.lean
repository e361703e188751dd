/-
  The laws of boxes: what the functions hand back.
-/
import Derived.Test.YtdebekhncimenaaAxZ2
set_option linter.unusedVariables false
set_option linter.unusedSimpArgs false
set_option maxHeartbeats 2000000
set_option maxRecDepth 100000
namespace Go.Ax
open Go.Proofs
def joinT (a b c d e f g h : Int) (k : Nat) : Int := if checkBoxS a b c d = 0 ∧ checkBoxS e f g h = 0 then (match k with
  | 0 => min a e
  | 1 => min b f
  | 2 => max c g
  | _ => max d h) else 0
theorem rows_0 {a b c d : AV} {l : List AV} : rowsOf 4 (a :: b :: c :: d :: l) 0 = [a, b, c, d] := (rfl)
theorem rows_1 {a b c d e f g h : AV} {l : List AV} : rowsOf 4 (a :: b :: c :: d :: e :: f :: g :: h :: l) 1 = [e, f, g, h] := (rfl)
theorem boxes_2 {a b c d e f g h : Int} : boxes 2 (rowsOf 4 [i64 a, i64 b, i64 c, i64 d, i64 e, i64 f, i64 g, i64 h]) = ((inR a ∧ inR b ∧ inR c ∧ inR d) ∧ inR e ∧ inR f ∧ inR g ∧ inR h) := propext ⟨fun H => by
    have h0 := (H 0 (by omega)).2
    have h1 := (H 1 (by omega)).2
    simp only [gx, rows_0, rows_1, gi_0, gi_1, gi_2, gi_3] at h0 h1
    exact ⟨h0, h1⟩, fun ⟨h0, h1⟩ i hi => by
    have : i = 0 ∨ i = 1 := by omega
    rcases this with rfl | rfl
    · simp only [gx, rows_0, gi_0, gi_1, gi_2, gi_3]; exact ⟨trivial, h0⟩
    · simp only [gx, rows_1, gi_0, gi_1, gi_2, gi_3]; exact ⟨trivial, h1⟩⟩
theorem okB_2 {A B C D : Nat → Int} : okB 2 A B C D ↔ checkBoxS (A 0) (B 0) (C 0) (D 0) = 0 ∧ checkBoxS (A 1) (B 1) (C 1) (D 1) = 0 :=
  ⟨fun h => ⟨h 0 (by omega), h 1 (by omega)⟩, fun ⟨h0, h1⟩ i hi => by
    have : i = 0 ∨ i = 1 := by omega
    rcases this with rfl | rfl <;> assumption⟩
theorem join_2 {a b c d e f g h : Int} {k : Nat} (hk : k < 4) : joinS 2 (gx (rowsOf 4 [i64 a, i64 b, i64 c, i64 d, i64 e, i64 f, i64 g, i64 h]) 0) (gx (rowsOf 4 [i64 a, i64 b, i64 c, i64 d, i64 e, i64 f, i64 g, i64 h]) 1) (gx (rowsOf 4 [i64 a, i64 b, i64 c, i64 d, i64 e, i64 f, i64 g, i64 h]) 2) (gx (rowsOf 4 [i64 a, i64 b, i64 c, i64 d, i64 e, i64 f, i64 g, i64 h]) 3) k = joinT a b c d e f g h k := by
  unfold joinS joinT
  simp only [okB_2, mnS, mxS, gx, rows_0, rows_1, gi_0, gi_1, gi_2, gi_3]
  have : k = 0 ∨ k = 1 ∨ k = 2 ∨ k = 3 := by omega
  rcases this with rfl | rfl | rfl | rfl <;> simp
attribute [go_sem] boxes_2 join_2 Nat.lt_irrefl
def c9 : Con
  | [] => some ([], bo true)
  | _ => none
theorem con9 : ConOK Try.prog 9 c9 := ConOK.of (G := [(18, c18), (23, c23)]) (H := []) (.cons con18 (.cons con23 .nil)) Try.func9 fun l ob r hc hob => by
  unfold c9 at hc
  split at hc
  · cases hc
    refine ⟨by kernel_rfl, fnVC_go (rs := [.tmp 0]) rfl rfl ?_⟩
    simp only [go_sem, c18, c23]
    intro z hz
    have e : z = 1 := by rw [hz]; decide
    subst e
    refine ⟨?_, ?_, ?_, ?_, ?_, ?_, fun _ => ?_, fun _ => ?_, fun _ => ?_, fun _ => ?_, ?_, ?_, ?_, ?_, ?_⟩ <;> first | (unfold inR; omega) | decide
  · cases hc
theorem tmod_5001 (x : Int) : -5000 ≤ x.tmod 5001 ∧ x.tmod 5001 ≤ 5000 := by
  have h1 := Int.tmod_lt_of_pos x (b := 5001) (by omega)
  have h2 := Int.tmod_lt_of_pos (-x) (b := 5001) (by omega)
  rw [Int.neg_tmod] at h2
  omega
/-- A box of numbers near zero. -/
def near (a b c d : Int) : Prop := -5000 ≤ a ∧ a ≤ c ∧ c ≤ 5000 ∧ -5000 ≤ b ∧ b ≤ d ∧ d ≤ 5000
theorem near_box {x0 x1 x2 x3 a b c d : Int} (ha : a = min (x0.tmod 5001) (x2.tmod 5001)) (hb : b = min (x1.tmod 5001) (x3.tmod 5001)) (hc : c = max (x0.tmod 5001) (x2.tmod 5001)) (hd : d = max (x1.tmod 5001) (x3.tmod 5001)) : near a b c d := by
  have h0 := tmod_5001 x0
  have h1 := tmod_5001 x1
  have h2 := tmod_5001 x2
  have h3 := tmod_5001 x3
  unfold near
  omega
theorem near_check {a b c d : Int} (h : near a b c d) : checkBoxS a b c d = 0 := checkBoxS_iff.2 (by unfold near at h; omega)
theorem near_inR {a b c d : Int} (h : near a b c d) : inR a ∧ inR b ∧ inR c ∧ inR d := by unfold near at h; unfold inR; omega
theorem joinT_0 {a b c d e f g h : Int} (h1 : checkBoxS a b c d = 0) (h2 : checkBoxS e f g h = 0) : joinT a b c d e f g h 0 = min a e := by
  simp only [joinT, h1, h2, and_self, if_true]
theorem joinT_1 {a b c d e f g h : Int} (h1 : checkBoxS a b c d = 0) (h2 : checkBoxS e f g h = 0) : joinT a b c d e f g h 1 = min b f := by
  simp only [joinT, h1, h2, and_self, if_true]
theorem joinT_2 {a b c d e f g h : Int} (h1 : checkBoxS a b c d = 0) (h2 : checkBoxS e f g h = 0) : joinT a b c d e f g h 2 = max c g := by
  simp only [joinT, h1, h2, and_self, if_true]
theorem joinT_3 {a b c d e f g h : Int} (h1 : checkBoxS a b c d = 0) (h2 : checkBoxS e f g h = 0) : joinT a b c d e f g h 3 = max d h := by
  simp only [joinT, h1, h2, and_self, if_true]
theorem modS_in {x : Int} : 0 ≤ modS x 100001 ∧ modS x 100001 ≤ 100000 := by
  have h1 := Int.tmod_lt_of_pos x (b := 100001) (by omega)
  have h2 := Int.tmod_lt_of_pos (-x) (b := 100001) (by omega)
  rw [Int.neg_tmod] at h2
  unfold modS
  split <;> omega
theorem grow_in {a b c d n : Int} (h : checkBoxS a b c d = 0) (hn : 0 ≤ n) (ha : -2097152 ≤ a - n) (hb : -2097152 ≤ b - n) (hc : c + n ≤ 2097152) (hd : d + n ≤ 2097152) : growS a b c d n 0 = a - n ∧ growS a b c d n 1 = b - n ∧ growS a b c d n 2 = c + n ∧ growS a b c d n 3 = d + n := by
  have h' := checkBoxS_iff.1 h
  have hg : growN n = n := by unfold growN; omega
  simp only [growS, h, if_true, hg]
  omega
theorem vc4 (x0 x1 x2 x3 y0 y1 y2 y3 z0 z1 z2 z3 n k : Int) (hn : inR n) (hk : inR k) : fnVC Try.prog [(9, c9), (10, c10), (12, c12), (14, c14), (16, c16), (18, c18), (20, c20), (21, c21)] [(1, ⟨[(30, .made 27), (31, .made 28), (32, .made 29)], []⟩)] Try.f4 [.agg [i64 x0, i64 x1, i64 x2, i64 x3], .agg [i64 y0, i64 y1, i64 y2, i64 y3], .agg [i64 z0, i64 z1, i64 z2, i64 z3], i64 n, i64 k] (· = bo true) := by
  refine fnVC_go (rs := [.tmp 10]) rfl rfl ?_
  simp only [go_sem, c9, c10, c12, c14, c16, c18, c20, c21]
  intro a ha b hb c hc d hd e he f hf g hg h hh p hp q hq r hr t ht u hu v hv w hw z hz
  have n1 := near_box ha hb hc hd
  have n2 := near_box he hf hg hh
  have n3 := near_box hp hq hr ht
  have c1 := near_check n1
  have c2 := near_check n2
  have c3 := near_check n3
  have i1 := near_inR n1
  have i2 := near_inR n2
  have i3 := near_inR n3
  clear ha hb hc hd he hf hg hh hp hq hr ht
  rw [joinT_0 c1 c2] at hu
  rw [joinT_1 c1 c2] at hv
  rw [joinT_2 c1 c2] at hw
  rw [joinT_3 c1 c2] at hz
  have n4 : near u v w z := by unfold near at *; omega
  have c4 := near_check n4
  have i4 := near_inR n4
  simp only [i1, i2, i3, i4, c1, c2, c3, c4, joinT_0, joinT_1, joinT_2, joinT_3, true_and, and_self, implies_true]
  intro z1 h1 z2 h2 z3 h3
  have hn1 := n1
  have hn2 := n2
  unfold near at hn1 hn2
  have e2 : z2 = true := by rw [h2]; simp only [withinS, decide_eq_true_eq, c4, true_and]; omega
  have e3 : z3 = true := by rw [h3]; simp only [withinS, decide_eq_true_eq, c4, true_and]; omega
  have f1 : min e a = u := by omega
  have f2 : min f b = v := by omega
  have f3 : max g c = w := by omega
  have f4 : max h d = z := by omega
  have f5 : min u a = u := by omega
  have f6 : min v b = v := by omega
  have f7 : max w c = w := by omega
  have f8 : max z d = z := by omega
  clear h2 h3
  subst e2 e3 h1
  simp only [f1, f2, f3, f4, f5, f6, f7, f8]
  refine ⟨by simp, fun _ => ?_⟩
  intro m1 g1 m2 g2 m3 g3 m4 g4 m5 g5 m6 g6
  have k1 : m5 = m4 := by rw [g4, g5, Bool.eq_iff_iff]; simp only [meetsS, c1, c2, true_and, decide_eq_true_eq]; omega
  have k2 : m6 = true := by rw [g6]; simp only [meetsS, decide_eq_true_eq, c1, true_and]; omega
  have k3 : ((m1 || m2) && !m3) = false := by
    have j1 : m1 = true → m3 = true := by rw [g1, g3]; simp only [meetsS, decide_eq_true_eq, c1, c3, c4, true_and]; omega
    have j2 : m2 = true → m3 = true := by rw [g2, g3]; simp only [meetsS, decide_eq_true_eq, c2, c3, c4, true_and]; omega
    cases m1 <;> cases m2 <;> cases m3 <;> simp_all
  refine ⟨?_, fun _ => ?_⟩
  · rw [k1, k2]
    rintro ((⟨h1, h2⟩ | h) | h)
    · rw [h2] at k3; rcases h1 with h1 | h1 <;> rw [h1] at k3 <;> simp at k3
    · simp at h
    · simp at h
  intro x hx
  refine ⟨hn, by unfold inR; omega, fun y hy => ⟨hk, by unfold inR; omega, ?_⟩⟩
  have hx' := modS_in (x := n)
  have hy' := modS_in (x := k)
  rw [← hx] at hx'
  rw [← hy] at hy'
  clear hx hy
  obtain ⟨G0, G1, G2, G3⟩ := grow_in c1 hx'.1 (by omega) (by omega) (by omega) (by omega)
  rw [G0, G1, G2, G3]
  intro a' ha b' hb c' hc d' hd
  have c5 : checkBoxS a' b' c' d' = 0 := checkBoxS_iff.2 (by omega)
  obtain ⟨K0, K1, K2, K3⟩ := grow_in c5 hy'.1 (by omega) (by omega) (by omega) (by omega)
  rw [K0, K1, K2, K3]
  intro a2 ha2 b2 hb2 c2 hc2 d2 hd2
  refine ⟨by unfold inR; omega, by unfold inR; omega, by unfold inR; omega, by unfold inR; omega, fun s hs => ?_⟩
  rw [wrap_in (by unfold inR; omega)] at hs
  obtain ⟨L0, L1, L2, L3⟩ := grow_in (n := s) c1 (by omega) (by omega) (by omega) (by omega) (by omega)
  rw [L0, L1, L2, L3]
  intro a3 ha3 b3 hb3 c3 hc3 d3 hd3 t ht
  refine ⟨⟨?_, ?_, ?_, ?_⟩, ht⟩ <;> simp only [beq_iff_eq] <;> omega
end Go.Ax
