/-
  Rays and polygons.
-/
import Derived.Test.YtiikkfegcmejcaaGreatCM4
import Derived.ShutString
import Derived.ChangeOld
import Derived.Below
section
set_option linter.unusedVariables false
set_option linter.unusedSimpArgs false
set_option maxHeartbeats 4000000
set_option maxRecDepth 100000
namespace Go.Ax
open Go.Proofs
theorem mth128_meets : methT Tryz.prog 128 "bagatelle/solid.meets" = some 249 := by kernel_rfl
theorem mth133_meets : methT Tryz.prog 133 "bagatelle/solid.meets" = some 253 := by kernel_rfl
attribute [go_sem] mth128_meets mth133_meets
/-- What a ray meets. -/
abbrev HitT := Bool × Nb × V2
def hit0 : HitT := (false, (0, false), ((0, false), (0, false)))
abbrev hitC (h : HitT) : List AV := [bo h.1, i64 h.2.1.1, bo h.2.1.2, i64 h.2.2.1.1, bo h.2.2.1.2, i64 h.2.2.2.1, bo h.2.2.2.2]
def hitA (h : HitT) : AV := .agg (hitC h)
theorem bnd_hit {h : HitT} : bnd (hitA h) = .agg [bo h.1, i64 h.2.1.1, bo h.2.1.2, i64 h.2.2.1.1, bo h.2.2.1.2, i64 h.2.2.2.1, bo h.2.2.2.2] := (rfl)
theorem plain_hit {h : HitT} : plain 3 (hitA h) = true := (rfl)
attribute [go_sem] bnd_hit plain_hit
theorem turnS_bd {a b c d e f : Int} (h1 : validS a b = true) (h2 : validS c d = true) (h3 : validS e f = true) : -35184372088832 ≤ turnS a b c d e f ∧ turnS a b c d e f ≤ 35184372088832 := by
  rw [validS_iff] at h1 h2 h3
  have s1 : sm (c - a) := by unfold sm; omega
  have s2 : sm (d - b) := by unfold sm; omega
  have s3 : sm (e - a) := by unfold sm; omega
  have s4 : sm (f - b) := by unfold sm; omega
  have q1 := sm_mul s1 s4
  have q2 := sm_mul s2 s3
  unfold turnS
  omega
/-- A way past the edges of a polygon: the edge that was entered last (or none), where, and where the way leaves first. -/
abbrev PS := Int × (Int × Int) × (Int × Int)
def plS (G H : Nat → Int) : Nat → PS
  | 0 => (-1, (-1, 1), (1, 1))
  | i + 1 => if G i < 0 then (if (plS G H i).2.1.1 * (H i - G i) < -G i * (plS G H i).2.1.2 then ((i : Int), (-G i, H i - G i), (plS G H i).2.2) else plS G H i)
    else if H i < 0 then (if G i * (plS G H i).2.2.2 < (plS G H i).2.2.1 * (G i - H i) then ((plS G H i).1, (plS G H i).2.1, (G i, G i - H i)) else plS G H i)
    else plS G H i
/-- What is so of it. -/
def plOK (G H : Nat → Int) (i : Nat) (s : PS) : Prop :=
  (s.1 = -1 ∧ s.2.1 = (-1, 1) ∨ ∃ j, j < i ∧ s.1 = (j : Int) ∧ G j < 0 ∧ 0 ≤ H j ∧ s.2.1 = (-G j, H j - G j)) ∧ (s.2.2 = (1, 1) ∨ ∃ j, j < i ∧ 0 ≤ G j ∧ H j < 0 ∧ s.2.2 = (G j, G j - H j))
theorem plS_ok {G H : Nat → Int} : ∀ (i : Nat), (∀ j, j < i → ¬ (G j < 0 ∧ H j < 0)) → plOK G H i (plS G H i)
  | 0, _ => ⟨.inl ⟨rfl, rfl⟩, .inl rfl⟩
  | i + 1, h => by
    obtain ⟨h1, h2⟩ := plS_ok i fun j hj => h j (by omega)
    have hi := h i (by omega)
    have up1 : (plS G H i).1 = -1 ∧ (plS G H i).2.1 = (-1, 1) ∨ ∃ j, j < i + 1 ∧ (plS G H i).1 = (j : Int) ∧ G j < 0 ∧ 0 ≤ H j ∧ (plS G H i).2.1 = (-G j, H j - G j) := h1.imp id fun ⟨j, a, b⟩ => ⟨j, by omega, b⟩
    have up2 : (plS G H i).2.2 = (1, 1) ∨ ∃ j, j < i + 1 ∧ 0 ≤ G j ∧ H j < 0 ∧ (plS G H i).2.2 = (G j, G j - H j) := h2.imp id fun ⟨j, a, b⟩ => ⟨j, by omega, b⟩
    unfold plS
    split
    · split
      · exact ⟨.inr ⟨i, by omega, rfl, by assumption, by omega, rfl⟩, up2⟩
      · exact ⟨up1, up2⟩
    · split
      · split
        · exact ⟨up1, .inr ⟨i, by omega, by omega, by assumption, rfl⟩⟩
        · exact ⟨up1, up2⟩
      · exact ⟨up1, up2⟩
/-- The hit of the edge that was entered last. -/
def plHit (n : Nat) (X Y : Nat → Int) (s : PS) : HitT :=
  if s.1 < 0 then hit0 else (true, nRat (-s.2.1.1) (-s.2.1.2), vNorm (X s.1.toNat) (Y s.1.toNat) (X (nxt n s.1.toNat)) (Y (nxt n s.1.toNat)))
def pgT (n : Nat) (X Y : Nat → Int) (fx fy : Int) (i : Nat) : Int := turnS (X i) (Y i) (X (nxt n i)) (Y (nxt n i)) fx fy
def plF (n : Nat) (X Y : Nat → Int) (fx fy tx ty : Int) : Bool := anyB (fun i => decide (pgT n X Y fx fy i < 0 ∧ pgT n X Y tx ty i < 0)) n
def plE (n : Nat) (X Y : Nat → Int) (s : PS) : HitT := if s.1 < 0 ∨ s.2.2.1 * s.2.1.2 < s.2.1.1 * s.2.2.2 then hit0 else plHit n X Y s
/-- What a way meets of a polygon that does not have its beginning. -/
def plH (n : Nat) (X Y : Nat → Int) (fx fy tx ty : Int) : HitT :=
  if plF n X Y fx fy tx ty = true then hit0 else plE n X Y (plS (pgT n X Y fx fy) (pgT n X Y tx ty) n)
def c253 : Con
  | [.agg [.ro n 2 g], .agg [.v (.int .i64 fx), .v (.int .i64 fy)], .agg [.v (.int .i64 tx), .v (.int .i64 ty)]] => some ([spots n g, n ≤ 9223372036854775806, ∀ i, i < n → validS (gx g 0 i) (gx g 1 i) = true, validS fx fy = true, validS tx ty = true], hitA (plH n (gx g 0) (gx g 1) fx fy tx ty))
  | _ => none
theorem vc253 (n : Nat) (X Y : Nat → Int) (fx fy tx ty : Int) (hX : ∀ i, i < n → inR (X i) ∧ inR (Y i)) (hn : n ≤ 9223372036854775806) (hv : ∀ i, i < n → validS (X i) (Y i) = true) (hf : validS fx fy = true) (ht : validS tx ty = true) :
    fnVC Tryz.prog [(97, c97), (121, c121), (1000000 + 187, c187), (254, c254), (132, k132), (173, k173)] [(13, ⟨[(9, .slot 9)], []⟩)] Tryz.f253 [.agg [.ro n 2 fun i => [i64 (X i), i64 (Y i)]], .agg [i64 fx, i64 fy], .agg [i64 tx, i64 ty]] (· = hitA (plH n X Y fx fy tx ty)) := by
  refine fnVC_go (rs := [.cell 6 49]) rfl rfl ?_
  simp only [go_sem, c121]
  have hg : spots n fun i => [i64 (X i), i64 (Y i)] := fun i hi => ⟨rfl, hX i hi⟩
  generalize hG : pgT n X Y fx fy = G
  generalize hH : pgT n X Y tx ty = H
  have hGi : ∀ i, turnS (X i) (Y i) (X (nxt n i)) (Y (nxt n i)) fx fy = G i := fun i => by rw [← hG]; rfl
  have hHi : ∀ i, turnS (X i) (Y i) (X (nxt n i)) (Y (nxt n i)) tx ty = H i := fun i => by rw [← hH]; rfl
  have hGb : ∀ i, i < n → -35184372088832 ≤ G i ∧ G i ≤ 35184372088832 := fun i hi => by rw [← hGi]; exact turnS_bd (hv i hi) (hv _ (nxt_lt hi)) hf
  have hHb : ∀ i, i < n → -35184372088832 ≤ H i ∧ H i ≤ 35184372088832 := fun i hi => by rw [← hHi]; exact turnS_bd (hv i hi) (hv _ (nxt_lt hi)) ht
  have eF : plF n X Y fx fy tx ty = anyB (fun i => decide (G i < 0 ∧ H i < 0)) n := by unfold plF; rw [hG, hH]
  have eH : plH n X Y fx fy tx ty = if anyB (fun i => decide (G i < 0 ∧ H i < 0)) n = true then hit0 else plE n X Y (plS G H n) := by unfold plH; rw [eF, hG, hH]
  rw [eH]
  clear eH eF
  refine rangeC_go (fun (i : Nat) => i ≤ n ∧ ∀ j, j < i → ¬ (G j < 0 ∧ H j < 0)) (fun i => i)
    (fun i => [(10, fam1 49 7 (hitC (plHit n X Y (plS G H i))) none), (7, fam1 250 2 [i64 (plS G H i).2.2.1, i64 (plS G H i).2.2.2] none), (6, fam1 250 2 [i64 (plS G H i).2.1.1, i64 (plS G H i).2.1.2] none)]) [3, 2, 1, 0] [20, 21, 10, 11, 22, 23, 24, 25, 26, 27, 28, 29, 12, 13, 31, 32, 33, 34, 35, 36, 30, 37, 39, 40, 38, 41, 42, 43, 44, 45, 46, 14, 47, 48, 49, 50, 51, 52, 53, 54, 55, 56, 57, 58, 59, 61, 62, 60, 63, 64, 65, 66, 67, 15, 68, 69, 70, 71] 0 0 (N := n) (sq := edgeE n fun i => [i64 (X i), i64 (Y i)]) (ob := [spots n fun i => [i64 (X i), i64 (Y i)], n ≤ 9223372036854775806]) rfl (by simp [hg, hn]) (by kernel_rfl) rfl (fun i _ => ⟨rfl, rfl⟩) ⟨Nat.zero_le _, fun j hj => by omega⟩ rfl ⟨[], ?_, ?_, ?_⟩ ?_ ?_
  · simp only [go_sem, plS, plHit]
    exact ⟨rfl, rfl, rfl, rfl, rfl, rfl, rfl⟩
  · simp only [go_sem]
  · simp [goodNames, asg]
  · intro i hi hlt
    simp only [go_sem, edgeE, c97, c254, k132, k173]
    have gb := hGb i hlt
    have hb := hHb i hlt
    obtain ⟨ok1, ok2⟩ := plS_ok i hi.2
    have in1 : inR (plS G H i).2.1.1 ∧ inR (plS G H i).2.1.2 := by
      rcases ok1 with h | ⟨j, h1, _, _, _, h⟩
      · rw [h.2]; exact ⟨by unfold inR; omega, by unfold inR; omega⟩
      · have := hGb j (by omega); have := hHb j (by omega)
        rw [h]; exact ⟨by unfold inR; dsimp only; omega, by unfold inR; dsimp only; omega⟩
    have in2 : inR (plS G H i).2.2.1 ∧ inR (plS G H i).2.2.2 := by
      rcases ok2 with h | ⟨j, h1, _, _, h⟩
      · rw [h]; exact ⟨by unfold inR; omega, by unfold inR; omega⟩
      · have := hGb j (by omega); have := hHb j (by omega)
        rw [h]; exact ⟨by unfold inR; dsimp only; omega, by unfold inR; dsimp only; omega⟩
    intro z hz
    rw [hGi] at hz; subst hz
    refine ⟨hv i hlt, hv _ (nxt_lt hlt), hf, fun z1 hz1 => ?_⟩
    rw [hHi] at hz1; subst hz1
    refine ⟨hv i hlt, hv _ (nxt_lt hlt), ht, fun h => ?_, fun h => ?_⟩
    · have : anyB (fun i => decide (G i < 0 ∧ H i < 0)) n = true := anyB_iff.2 ⟨i, hlt, decide_eq_true h⟩
      rw [if_pos this]; rfl
    have hno : ¬ (G i < 0 ∧ H i < 0) := by simpa using h
    have hnext : ∀ j, j < i + 1 → ¬ (G j < 0 ∧ H j < 0) := fun j hj => by
      by_cases e : j = i
      · subst e; exact hno
      · exact hi.2 j (by omega)
    refine ⟨fun hg => ?_, fun hg => ⟨fun hh => ?_, fun hh => ?_⟩⟩
    · intro z2 hz2 z3 hz3 z4 hz4
      rw [wrap_in (by unfold inR; omega)] at hz2 hz3
      rw [show (0 : Int) - G i = -G i by omega] at hz2
      subst hz2 hz3
      refine ⟨by unfold inR; omega, by unfold inR; omega, in1.1, in1.2, fun h4 z5 hz5 => ?_, fun h4 => ?_⟩
      · rw [wrap_in (by unfold inR; omega)] at hz5
        subst hz5
        rw [hz4] at h4
        have es : plS G H (i + 1) = ((i : Int), (-G i, H i - G i), (plS G H i).2.2) := by
          conv => lhs; unfold plS
          rw [if_pos hg, if_pos (by simpa using h4)]
        refine ⟨by unfold inR; omega, by unfold inR; omega, hv i hlt, hv _ (nxt_lt hlt), i + 1, ⟨by have : i < n := hlt; omega, hnext⟩, rfl, [], ?_⟩
        have eh : plHit n X Y ((i : Int), (-G i, H i - G i), (plS G H i).2.2) = (true, nRat (G i) (G i - H i), vNorm (X i) (Y i) (X (nxt n i)) (Y (nxt n i))) := by
          unfold plHit
          dsimp only
          rw [if_neg (by omega), show -(-G i) = G i by omega, show -(H i - G i) = G i - H i by omega]
          rfl
        simp only [go_sem, es, eh]
        simp [goodNames, asg]
      · rw [hz4] at h4
        have es : plS G H (i + 1) = plS G H i := by
          conv => lhs; unfold plS
          rw [if_pos hg, if_neg (by simpa using h4)]
        refine ⟨i + 1, ⟨by have : i < n := hlt; omega, hnext⟩, rfl, [], ?_⟩
        simp only [go_sem, es]
        simp [goodNames, asg]
    · intro z2 hz2 z4 hz4
      rw [wrap_in (by unfold inR; omega)] at hz2
      subst hz2
      refine ⟨in2.1, in2.2, by unfold inR; omega, by unfold inR; omega, fun h4 => ?_, fun h4 => ?_⟩
      · rw [hz4] at h4
        have es : plS G H (i + 1) = ((plS G H i).1, (plS G H i).2.1, (G i, G i - H i)) := by
          conv => lhs; unfold plS
          rw [if_neg hg, if_pos hh, if_pos (by simpa using h4)]
        refine ⟨i + 1, ⟨by have : i < n := hlt; omega, hnext⟩, rfl, [], ?_⟩
        have eh : plHit n X Y ((plS G H i).1, (plS G H i).2.1, (G i, G i - H i)) = plHit n X Y (plS G H i) := rfl
        simp only [go_sem, es, eh]
        simp [goodNames, asg]
      · rw [hz4] at h4
        have es : plS G H (i + 1) = plS G H i := by
          conv => lhs; unfold plS
          rw [if_neg hg, if_pos hh, if_neg (by simpa using h4)]
        refine ⟨i + 1, ⟨by have : i < n := hlt; omega, hnext⟩, rfl, [], ?_⟩
        simp only [go_sem, es]
        simp [goodNames, asg]
    · have es : plS G H (i + 1) = plS G H i := by
        conv => lhs; unfold plS
        rw [if_neg hg, if_neg hh]
      refine ⟨i + 1, ⟨by have : i < n := hlt; omega, hnext⟩, rfl, [], ?_⟩
      simp only [go_sem, es]
      simp [goodNames, asg]
  · intro i hi he
    have he : i = n := he
    subst he
    simp only [go_sem, c254]
    obtain ⟨ok1, ok2⟩ := plS_ok i hi.2
    have in1 : inR (plS G H i).2.1.1 ∧ inR (plS G H i).2.1.2 := by
      rcases ok1 with h | ⟨j, h1, _, _, _, h⟩
      · rw [h.2]; exact ⟨by unfold inR; omega, by unfold inR; omega⟩
      · have := hGb j (by omega); have := hHb j (by omega)
        rw [h]; exact ⟨by unfold inR; dsimp only; omega, by unfold inR; dsimp only; omega⟩
    have in2 : inR (plS G H i).2.2.1 ∧ inR (plS G H i).2.2.2 := by
      rcases ok2 with h | ⟨j, h1, _, _, h⟩
      · rw [h]; exact ⟨by unfold inR; omega, by unfold inR; omega⟩
      · have := hGb j (by omega); have := hHb j (by omega)
        rw [h]; exact ⟨by unfold inR; dsimp only; omega, by unfold inR; dsimp only; omega⟩
    have hno : ¬ anyB (fun i => decide (G i < 0 ∧ H i < 0)) i = true := fun h => by
      obtain ⟨j, h1, h2⟩ := anyB_iff.1 h
      exact hi.2 j h1 (of_decide_eq_true h2)
    have e1 : (plHit i X Y (plS G H i)).1 = decide (¬ (plS G H i).1 < 0) := by
      unfold plHit; split
      · rename_i h; rw [decide_eq_false (by simpa using h)]; rfl
      · rename_i h; rw [decide_eq_true h]
    rw [if_neg hno]
    intro z hz
    refine ⟨fun _ => in1.1, fun _ => in1.2, fun _ => in2.1, fun _ => in2.2, fun h => ?_, fun h => ?_⟩
    · have : (plS G H i).1 < 0 ∨ (plS G H i).2.2.1 * (plS G H i).2.1.2 < (plS G H i).2.1.1 * (plS G H i).2.2.2 := by
        rw [e1, hz] at h
        rcases h with h | h
        · left; simpa using h
        · right; simpa using h
      unfold plE; rw [if_pos this]; rfl
    · have : ¬ ((plS G H i).1 < 0 ∨ (plS G H i).2.2.1 * (plS G H i).2.1.2 < (plS G H i).2.1.1 * (plS G H i).2.2.2) := by
        rw [e1, hz] at h
        rintro (k | k)
        · have := h.1; simp at this; omega
        · have := h.2; simp at this; omega
      unfold plE; rw [if_neg this]; rfl
theorem con253 : ConOK Tryz.prog 253 c253 := ConOK.go (G := [(97, c97), (121, c121), (1000000 + 187, c187), (254, c254), (132, k132), (173, k173)]) (H := [(13, ⟨[(9, .slot 9)], []⟩)]) (.cons con97 (.cons con121 (.seq seq187 (.cons con254 (.cons kon132 (.cons kon173 .nil)))))) Tryz.func253 fun l ob rr hc hob => by
  unfold c253 at hc
  split at hc
  · rename_i n g fx fy tx ty
    cases hc
    have hs : spots n g := hob _ (by simp)
    refine ⟨[.agg [.ro n 2 fun i => [i64 (gx g 0 i), i64 (gx g 1 i)]], .agg [i64 fx, i64 fy], .agg [i64 tx, i64 ty]], fun w I vs h => ?_, by kernel_rfl, vc253 n _ _ fx fy tx ty (fun i hi => (hs i hi).2) (hob _ (by simp)) (hob _ (by simp)) (hob _ (by simp)) (hob _ (by simp))⟩
    obtain ⟨x, xs, rfl, h1, h2⟩ := h.inv
    exact .cons (Rs_poly hs _ h1) h2
  · cases hc
end Go.Ax
end

section
/-
  Rays and forms.
-/
set_option linter.unusedVariables false
set_option linter.unusedSimpArgs false
set_option maxHeartbeats 4000000
set_option maxRecDepth 100000
namespace Go.Ax
open Go.Proofs
instance {x y r fx fy tx ty : Int} : Decidable (dmB x y r fx fy tx ty) := by unfold dmB; infer_instance
def dmH (x y r fx fy tx ty : Int) : HitT := if dmB x y r fx fy tx ty then hit0 else (true, dmT (fx - x) (fy - y) (tx - fx) (ty - fy) r, dmN (fx - x) (fy - y) (tx - fx) (ty - fy) r)
def k249 : Con
  | [.agg [.v (.int .i64 x), .v (.int .i64 y), .v (.int .i64 r)], .agg [.v (.int .i64 a), .v (.int .i64 b)], .agg [.v (.int .i64 c), .v (.int .i64 d)]] => some ([validS x y = true, sm r, validS a b = true, validS c d = true], hitA (dmH x y r a b c d))
  | _ => none
theorem kon249 : ConOK Tryz.prog 249 k249 := ConOK.of (G := [(154, c154), (155, c155), (248, c248), (211, c211), (63, k63), (162, k162), (165, k165), (250, k250), (129, k129), (160, k160), (167, k167), (251, k251), (178, k178), (179, k179), (161, k161), (168, k168), (127, k127), (171, k171), (169, k169), (130, k130)]) (H := [(1, ⟨[(9, .made 7), (10, .made 8)], []⟩), (8, ⟨[(10, .made 7), (11, .made 8), (12, .made 9)], []⟩), (11, ⟨[(10, .made 9)], []⟩), (12, ⟨[(10, .made 9)], []⟩), (13, ⟨[(4, .slot 18)], []⟩), (14, ⟨[(11, .made 10)], []⟩)]) (.cons con154 (.cons con155 (.cons con248 (.cons con211 (.cons kon63 (.cons kon162 (.cons kon165 (.cons kon250 (.cons kon129 (.cons kon160 (.cons kon167 (.cons kon251 (.cons kon178 (.cons kon179 (.cons kon161 (.cons kon168 (.cons kon127 (.cons kon171 (.cons kon169 (.cons kon130 .nil)))))))))))))))))))) Tryz.func249 fun l ob r hc hob => by
  unfold k249 at hc
  split at hc
  · rename_i x y r a b c d
    cases hc
    have h_0 : validS x y = true := hob _ (by simp)
    have h_1 : sm r := hob _ (by simp)
    have h_2 : validS a b = true := hob _ (by simp)
    have h_3 : validS c d = true := hob _ (by simp)
    refine ⟨by kernel_rfl, fnVC_go (rs := [.cell 6 49]) rfl rfl ?_⟩
    simp only [go_sem, c154, c155, c248, c211, k63, k162, k165, k250, k129, k160, k167, k251, k178, k179, k161, k168, k127, k171, k169, k130]
    have v0 := validS_iff.1 h_0
    have v2 := validS_iff.1 h_2
    have v3 := validS_iff.1 h_3
    have hrs : sm r := h_1
    have s1 : sm (a - x) := by unfold sm; omega
    have s2 : sm (b - y) := by unfold sm; omega
    have s3 : sm (c - a) := by unfold sm; omega
    have s4 : sm (d - b) := by unfold sm; omega
    have q1 := sm_mul s1 s3
    have q2 := sm_mul s2 s4
    have q3 := sm_mul s3 s3
    have q4 := sm_mul s4 s4
    have q5 := sm_mul s1 s1
    have q6 := sm_mul s2 s2
    have q7 := sm_mul hrs hrs
    unfold sm at s1 s2 s3 s4 hrs
    have w1 : IntKind.i64.wrap (a - x) = a - x := wrap_in (by unfold inR; omega)
    have w2 : IntKind.i64.wrap (b - y) = b - y := wrap_in (by unfold inR; omega)
    have w3 : IntKind.i64.wrap (c - a) = c - a := wrap_in (by unfold inR; omega)
    have w4 : IntKind.i64.wrap (d - b) = d - b := wrap_in (by unfold inR; omega)
    have t1 : IntKind.i64.wrap ((a - x) * (c - a)) = (a - x) * (c - a) := wrap_in (by unfold inR; omega)
    have t2 : IntKind.i64.wrap ((b - y) * (d - b)) = (b - y) * (d - b) := wrap_in (by unfold inR; omega)
    have t3 : IntKind.i64.wrap ((c - a) * (c - a)) = (c - a) * (c - a) := wrap_in (by unfold inR; omega)
    have t4 : IntKind.i64.wrap ((d - b) * (d - b)) = (d - b) * (d - b) := wrap_in (by unfold inR; omega)
    have t5 : IntKind.i64.wrap ((a - x) * (a - x)) = (a - x) * (a - x) := wrap_in (by unfold inR; omega)
    have t6 : IntKind.i64.wrap ((b - y) * (b - y)) = (b - y) * (b - y) := wrap_in (by unfold inR; omega)
    have t7 : IntKind.i64.wrap (r * r) = r * r := wrap_in (by unfold inR; omega)
    have u1 : IntKind.i64.wrap ((a - x) * (c - a) + (b - y) * (d - b)) = (a - x) * (c - a) + (b - y) * (d - b) := wrap_in (by unfold inR; omega)
    have u2 : IntKind.i64.wrap ((c - a) * (c - a) + (d - b) * (d - b)) = (c - a) * (c - a) + (d - b) * (d - b) := wrap_in (by unfold inR; omega)
    have u3 : IntKind.i64.wrap ((a - x) * (a - x) + (b - y) * (b - y)) = (a - x) * (a - x) + (b - y) * (b - y) := wrap_in (by unfold inR; omega)
    have u4 : IntKind.i64.wrap (0 - ((a - x) * (c - a) + (b - y) * (d - b))) = -((a - x) * (c - a) + (b - y) * (d - b)) := by rw [wrap_in (by unfold inR; omega)]; omega
    have u5 : IntKind.i64.wrap ((a - x) * (a - x) + (b - y) * (b - y) - r * r) = (a - x) * (a - x) + (b - y) * (b - y) - r * r := wrap_in (by unfold inR; omega)
    intro z hz z1 hz1 z2 hz2 z3 hz3
    rw [w3] at hz; rw [w4] at hz1; rw [w1] at hz2; rw [w2] at hz3
    subst hz hz1 hz2 hz3
    intro z4 hz4 z5 hz5 z6 hz6
    rw [t3, t4, u2] at hz4
    rw [t1, t2, u1] at hz5
    have hc : ∀ p q : Int, cmpS p q < 0 ↔ p < q := fun p q => by
      unfold cmpS; split
      · omega
      · split <;> omega
    have hyes : ¬ dmB x y r a b c d → dmH x y r a b c d = (true, dmT (a - x) (b - y) (c - a) (d - b) r, dmN (a - x) (b - y) (c - a) (d - b) r) := fun h => by unfold dmH; rw [if_neg h]
    have hno : dmB x y r a b c d → dmH x y r a b c d = hit0 := fun h => by unfold dmH; rw [if_pos h]
    unfold dmB at hyes hno
    refine ⟨h_0, h_3, h_1, fun h1 z7 hz7 => ⟨fun h2 => ?_, fun h2 z8 hz8 z9 hz9 z10 hz10 z11 hz11 => ?_⟩, fun h1 => ?_⟩
    · rw [hz5, u4] at hz7
      rw [hz7, hz5, hz4] at h2
      rw [hno ⟨by rw [hz6] at h1; exact of_decide_eq_false h1, .inl h2⟩]; rfl
    · rw [hz5, u4] at hz7
      rw [t5, t6, u3] at hz8
      rw [t7] at hz9
      rw [hz8, hz9, u5] at hz10
      have i4 : inR z4 := by unfold inR; omega
      have i5 : inR z5 := by unfold inR; omega
      have i10 : inR z10 := by unfold inR; omega
      refine ⟨i5, i5, i4, i10, fun h3 => ?_, fun h3 => ⟨by unfold inR; omega, by unfold inR; omega, by unfold inR; omega, by unfold inR; omega, by unfold inR; omega, ?_⟩⟩
      · rw [hz11, hc, hz10, hz5, hz4] at h3
        rw [hno ⟨by rw [hz6] at h1; exact of_decide_eq_false h1, .inr h3⟩]; rfl
      · rw [hz11, hc, hz10, hz5, hz4] at h3
        rw [hz7, hz5, hz4] at h2
        rw [hyes (by
          rintro ⟨_, (k | k) | k⟩
          · exact h2.1 k
          · exact h2.2 k
          · exact h3 k)]
        rfl
    · have hin : dist2 x y c d ≤ r * r := by rw [hz6] at h1; exact of_decide_eq_true h1
      refine ⟨by unfold inR; omega, by unfold inR; omega, by unfold inR; omega, by unfold inR; omega, by unfold inR; omega, ?_⟩
      rw [hyes (fun k => k.1 hin)]
      rfl
  · cases hc
/-- What the way between two spots meets of a form. -/
def castS (k x y r : Int) (n : Nat) (X Y : Nat → Int) (fx fy tx ty : Int) : HitT :=
  if checkS k x y r n X Y = 0 ∧ validS fx fy = true ∧ validS tx ty = true then
    (if holdsS k x y r n X Y fx fy = true then (true, (0, false), ((0, false), (0, false))) else if k = 1 then dmH x y r fx fy tx ty else plH n X Y fx fy tx ty) else hit0
theorem fair2r {a b c d : Int} : fairS 2 (gx (rowsOf 2 [i64 a, i64 b, i64 c, i64 d]) 0) (gx (rowsOf 2 [i64 a, i64 b, i64 c, i64 d]) 1) = (validS a b && validS c d) := fair2 rfl rfl
def c23 : Con
  | [.agg [.v (.int .i64 k), .v (.int .i64 x), .v (.int .i64 y), .v (.int .i64 r), .ro n 2 g], .agg [.v (.int .i64 a), .v (.int .i64 b)], .agg [.v (.int .i64 c), .v (.int .i64 d)]] => some ([spots n g, n ≤ 9223372036854775806, inR x, inR y, inR r, inR a, inR b, inR c, inR d], hitA (castS k x y r n (gx g 0) (gx g 1) a b c d))
  | _ => none
theorem con23 : ConOK Tryz.prog 23 c23 := ConOK.of (G := [(76, c76), (70, c70), (156, c156), (248, c248), (253, c253), (249, k249)]) (H := []) (.cons con76 (.cons con70 (.cons con156 (.cons con248 (.cons con253 (.cons kon249 .nil)))))) Tryz.func23 fun l ob r hc hob => by
  unfold c23 at hc
  split at hc
  · rename_i k x y r n g a b c d
    cases hc
    have h_0 : spots n g := hob _ (by simp)
    have h_1 : n ≤ 9223372036854775806 := hob _ (by simp)
    have h_2 : inR x := hob _ (by simp)
    have h_3 : inR y := hob _ (by simp)
    have h_4 : inR r := hob _ (by simp)
    have h_5 : inR a := hob _ (by simp)
    have h_6 : inR b := hob _ (by simp)
    have h_7 : inR c := hob _ (by simp)
    have h_8 : inR d := hob _ (by simp)
    refine ⟨by kernel_rfl, fnVC_go (rs := [.cell 6 49]) rfl rfl ?_⟩
    simp only [go_sem, c76, c70, c156, c248, c253, k249]
    have hsp : spots 2 (rowsOf 2 [i64 a, i64 b, i64 c, i64 d]) := spots2 rfl rfl h_5 h_6 h_7 h_8
    have hfa := fair2r (a := a) (b := b) (c := c) (d := d)
    rw [hfa]
    have cno : ¬ (checkS k x y r n (gx g 0) (gx g 1) = 0 ∧ validS a b = true ∧ validS c d = true) → castS k x y r n (gx g 0) (gx g 1) a b c d = hit0 := fun h => by unfold castS; rw [if_neg h]
    have cin : checkS k x y r n (gx g 0) (gx g 1) = 0 ∧ validS a b = true ∧ validS c d = true → holdsS k x y r n (gx g 0) (gx g 1) a b = true → castS k x y r n (gx g 0) (gx g 1) a b c d = (true, (0, false), ((0, false), (0, false))) := fun h h2 => by unfold castS; rw [if_pos h, if_pos h2]
    have cout : checkS k x y r n (gx g 0) (gx g 1) = 0 ∧ validS a b = true ∧ validS c d = true → ¬ holdsS k x y r n (gx g 0) (gx g 1) a b = true → castS k x y r n (gx g 0) (gx g 1) a b c d = if k = 1 then dmH x y r a b c d else plH n (gx g 0) (gx g 1) a b c d := fun h h2 => by unfold castS; rw [if_pos h, if_neg h2]
    refine ⟨fun hc => ?_, fun hc => ?_⟩
    · obtain ⟨_, v1, v2, h1, h2⟩ := check_1 hc
      refine ⟨fun hk => ⟨h_0, h_1, h_2, h_3, h_4, fun z hz => ⟨fun _ => hsp, fun h => ?_, fun h z1 hz1 => ?_⟩⟩, fun hk => ⟨h_0, h_1, h_2, h_3, h_4, fun z hz => ⟨fun _ => hsp, fun h => ?_, fun h z1 hz1 => ?_⟩⟩⟩
      · rw [cno (by
          rintro ⟨_, p, q⟩
          rw [p, q] at hz
          rcases h with h | h
          · exact h
          · rw [hz] at h; cases h)]; rfl
      · have hv : validS a b = true ∧ validS c d = true := by rw [hz] at h; simpa using h
        have hr := h1 hk
        have eh : holdsS k x y r n (gx g 0) (gx g 1) a b = decide (dist2 x y a b ≤ r * r) := by unfold holdsS; rw [if_pos hk]
        refine ⟨v1, hv.1, by unfold sm; omega, fun hz2 => ?_, fun hz2 => ⟨v1, by unfold sm; omega, hv.1, hv.2, ?_⟩⟩
        · rw [cin ⟨hc, hv⟩ (by rw [eh, ← hz1]; exact hz2)]; rfl
        · rw [cout ⟨hc, hv⟩ (by rw [eh, ← hz1, hz2]; simp), if_pos hk]; rfl
      · rw [cno (by
          rintro ⟨_, p, q⟩
          rw [p, q] at hz
          rcases h with h | h
          · exact h
          · rw [hz] at h; cases h)]; rfl
      · have hv : validS a b = true ∧ validS c d = true := by rw [hz] at h; simpa using h
        have eh : holdsS k x y r n (gx g 0) (gx g 1) a b = inS n (gx g 0) (gx g 1) a b := by unfold holdsS; rw [if_neg hk]
        refine ⟨h_0, h_1, v2, hv.1, fun hz2 => ?_, fun hz2 => ⟨h_0, h_1, v2, hv.1, hv.2, ?_⟩⟩
        · rw [cin ⟨hc, hv⟩ (by rw [eh, ← hz1]; exact hz2)]; rfl
        · rw [cout ⟨hc, hv⟩ (by rw [eh, ← hz1, hz2]; simp), if_neg hk]; rfl
    · rw [cno (fun h => hc h.1)]
      exact ⟨h_0, h_1, h_2, h_3, h_4, fun z hz => ⟨fun h => h.elim, fun _ => trivial, fun h => (by cases h), fun _ => rfl, fun h => (by cases h.1)⟩⟩
  · cases hc
/-! ### The reference's -/
def c79 : Con
  | [.agg [.v (.int .i64 k), .v (.int .i64 x), .v (.int .i64 y), .v (.int .i64 r), .ro n 2 g], .v (.int .i64 i)] => some ([spots n g, 0 ≤ i, i < n, n ≤ 9223372036854775806], .tup [.agg [i64 (gx g 0 i.toNat), i64 (gx g 1 i.toNat)], .agg [i64 (gx g 0 (nxt n i.toNat)), i64 (gx g 1 (nxt n i.toNat))]])
  | _ => none
theorem vc79 (k x y r : Int) (n : Nat) (X Y : Nat → Int) (i : Nat) (hi : i < n) (hn : n ≤ 9223372036854775806) : fnVC Tryz.prog [] [(1, ⟨[(15, .slot 4), (16, .slot 5)], [(6, [.slot 4]), (10, [.slot 4]), (14, [.slot 4])]⟩)] Tryz.f79 [formA k x y r n fun i => [i64 (X i), i64 (Y i)], i64 i] (· = .tup [.agg [i64 (X i), i64 (Y i)], .agg [i64 (X (nxt n i)), i64 (Y (nxt n i))]]) := by
  refine fnVC_go (rs := [.cell 4 34, .cell 5 34]) rfl rfl ?_
  have hn0 : ((n : Int) = 0) = False := eq_false (by omega)
  simp only [go_sem, hn0]
  have hl := nxt_lt hi
  refine ⟨by omega, by omega, fun z hz z1 hz1 => ?_⟩
  rw [wrap_in (by unfold inR; omega)] at hz
  rw [hz, tmod_nxt hi] at hz1
  subst hz1
  exact ⟨by omega, by omega, rfl⟩
theorem con79 : ConOK Tryz.prog 79 c79 := ConOK.go (G := []) (H := [(1, ⟨[(15, .slot 4), (16, .slot 5)], [(6, [.slot 4]), (10, [.slot 4]), (14, [.slot 4])]⟩)]) .nil Tryz.func79 fun l ob rr hc hob => by
  unfold c79 at hc
  split at hc
  · rename_i k x y r n g i
    cases hc
    have hs : spots n g := hob _ (by simp)
    have h0 : 0 ≤ i := hob _ (by simp)
    have h1 : i < n := hob _ (by simp)
    have e : i = (i.toNat : Int) := by omega
    refine ⟨[formA k x y r n fun i => [i64 (gx g 0 i), i64 (gx g 1 i)], i64 (i.toNat : Int)], fun w I vs h => Rs_two (Rs_form hs) (fun v h => by rw [← e]; exact h) h, by kernel_rfl, vc79 k x y r n _ _ i.toNat (by omega) (hob _ (by simp))⟩
  · cases hc
def c78 : Con
  | [.agg [.v (.int .i64 k), .v (.int .i64 x), .v (.int .i64 y), .v (.int .i64 r), .ro n 2 g], .agg [.v (.int .i64 a), .v (.int .i64 b)], .agg [.v (.int .i64 c), .v (.int .i64 d)]] => some ([spots n g, n ≤ 9223372036854775806, checkS k x y r n (gx g 0) (gx g 1) = 0, k = 1, validS a b = true, validS c d = true, holdsS k x y r n (gx g 0) (gx g 1) a b = false], hitA (dmH x y r a b c d))
  | _ => none
theorem con78 : ConOK Tryz.prog 78 c78 := ConOK.of (G := [(81, c81), (91, c155), (77, c77), (82, c82), (69, k69), (140, k140), (54, k54), (141, k141), (52, k52), (46, k46), (143, k143), (142, k142), (145, k145), (111, k111), (47, k47), (144, k144), (146, k146), (147, k147), (138, k138)]) (H := [(1, ⟨[(9, .made 7), (10, .made 8)], []⟩), (5, ⟨[(6, .made 4), (7, .made 5)], []⟩), (7, ⟨[(8, .made 6), (9, .made 7)], []⟩), (8, ⟨[(12, .made 11)], []⟩), (9, ⟨[(10, .made 9)], []⟩), (11, ⟨[(11, .made 10)], []⟩)]) (.cons con81 (.cons con91 (.cons con77 (.cons con82 (.cons kon69 (.cons kon140 (.cons kon54 (.cons kon141 (.cons kon52 (.cons kon46 (.cons kon143 (.cons kon142 (.cons kon145 (.cons kon111 (.cons kon47 (.cons kon144 (.cons kon146 (.cons kon147 (.cons kon138 .nil))))))))))))))))))) Tryz.func78 fun l ob r hc hob => by
  unfold c78 at hc
  split at hc
  · rename_i k x y r n g a b c d
    cases hc
    have h_0 : spots n g := hob _ (by simp)
    have h_1 : n ≤ 9223372036854775806 := hob _ (by simp)
    have h_2 : checkS k x y r n (gx g 0) (gx g 1) = 0 := hob _ (by simp)
    have h_3 : k = 1 := hob _ (by simp)
    have h_4 : validS a b = true := hob _ (by simp)
    have h_5 : validS c d = true := hob _ (by simp)
    have h_6 : holdsS k x y r n (gx g 0) (gx g 1) a b = false := hob _ (by simp)
    refine ⟨by kernel_rfl, fnVC_go (rs := [.cell 6 49]) rfl rfl ?_⟩
    simp only [go_sem, c81, c155, c77, c82, k69, k140, k54, k141, k52, k46, k143, k142, k145, k111, k47, k144, k146, k147, k138]
    obtain ⟨_, v0, _, hr1, _⟩ := check_1 h_2
    have hr := hr1 h_3
    have v0 := validS_iff.1 v0
    have v2 := validS_iff.1 h_4
    have v3 := validS_iff.1 h_5
    have hout : ¬ dist2 x y a b ≤ r * r := by
      unfold holdsS at h_6
      rw [if_pos h_3] at h_6
      exact of_decide_eq_false h_6
    have eto : holdsS k x y r n (gx g 0) (gx g 1) c d = decide (dist2 x y c d ≤ r * r) := by unfold holdsS; rw [if_pos h_3]
    rw [eto]
    have s1 : sm (a - x) := by unfold sm; omega
    have s2 : sm (b - y) := by unfold sm; omega
    have s3 : sm (c - a) := by unfold sm; omega
    have s4 : sm (d - b) := by unfold sm; omega
    have hrs : sm r := by unfold sm; omega
    have q1 := sm_mul s1 s3
    have q2 := sm_mul s2 s4
    have q3 := sm_mul s3 s3
    have q4 := sm_mul s4 s4
    have q5 := sm_mul s1 s1
    have q6 := sm_mul s2 s2
    have q7 := sm_mul hrs hrs
    unfold sm at s1 s2 s3 s4 hrs
    have w1 : IntKind.i64.wrap (a - x) = a - x := wrap_in (by unfold inR; omega)
    have w2 : IntKind.i64.wrap (b - y) = b - y := wrap_in (by unfold inR; omega)
    have w3 : IntKind.i64.wrap (c - a) = c - a := wrap_in (by unfold inR; omega)
    have w4 : IntKind.i64.wrap (d - b) = d - b := wrap_in (by unfold inR; omega)
    have t1 : IntKind.i64.wrap ((a - x) * (c - a)) = (a - x) * (c - a) := wrap_in (by unfold inR; omega)
    have t2 : IntKind.i64.wrap ((b - y) * (d - b)) = (b - y) * (d - b) := wrap_in (by unfold inR; omega)
    have t3 : IntKind.i64.wrap ((c - a) * (c - a)) = (c - a) * (c - a) := wrap_in (by unfold inR; omega)
    have t4 : IntKind.i64.wrap ((d - b) * (d - b)) = (d - b) * (d - b) := wrap_in (by unfold inR; omega)
    have t5 : IntKind.i64.wrap ((a - x) * (a - x)) = (a - x) * (a - x) := wrap_in (by unfold inR; omega)
    have t6 : IntKind.i64.wrap ((b - y) * (b - y)) = (b - y) * (b - y) := wrap_in (by unfold inR; omega)
    have t7 : IntKind.i64.wrap (r * r) = r * r := wrap_in (by unfold inR; omega)
    have u1 : IntKind.i64.wrap ((a - x) * (c - a) + (b - y) * (d - b)) = (a - x) * (c - a) + (b - y) * (d - b) := wrap_in (by unfold inR; omega)
    have u2 : IntKind.i64.wrap ((c - a) * (c - a) + (d - b) * (d - b)) = (c - a) * (c - a) + (d - b) * (d - b) := wrap_in (by unfold inR; omega)
    have u3 : IntKind.i64.wrap ((a - x) * (a - x) + (b - y) * (b - y)) = (a - x) * (a - x) + (b - y) * (b - y) := wrap_in (by unfold inR; omega)
    have u4 : IntKind.i64.wrap (0 - ((a - x) * (c - a) + (b - y) * (d - b))) = -((a - x) * (c - a) + (b - y) * (d - b)) := by rw [wrap_in (by unfold inR; omega)]; omega
    have u5 : IntKind.i64.wrap ((a - x) * (a - x) + (b - y) * (b - y) - r * r) = (a - x) * (a - x) + (b - y) * (b - y) - r * r := wrap_in (by unfold inR; omega)
    intro z hz z1 hz1 z2 hz2 z3 hz3
    rw [w3] at hz; rw [w4] at hz1; rw [w1] at hz2; rw [w2] at hz3
    subst hz hz1 hz2 hz3
    intro z4 hz4 z5 hz5 z6 hz6 z7 hz7 z8 hz8 z9 hz9
    rw [t3, t4, u2] at hz4
    rw [t1, t2, u1] at hz5
    rw [t5, t6, u3] at hz6
    rw [t7] at hz7
    rw [hz6, hz7, u5] at hz8
    refine ⟨h_0, h_1, h_2, h_5, fun z10 hz10 => ?_⟩
    rw [hz5, u4] at hz10
    have hc : ∀ p q : Int, cmpS p q < 0 ↔ p < q := fun p q => by
      unfold cmpS; split
      · omega
      · split <;> omega
    have i4 : inR z4 := by unfold inR; omega
    have i5 : inR z5 := by unfold inR; omega
    have i8 : inR z8 := by unfold inR; omega
    clear q1 q2 q5 q6 q7 w1 w2 w3 w4 t1 t2 t3 t4 t5 t6 t7 u1 u2 u3 u4 u5
    have key : dmB x y r a b c d ↔ z9 = false ∧ ((0 ≤ z5 ∨ z4 < z10) ∨ cmpS (z5 * z5) (z4 * z8) < 0) := by
      rw [hc, hz9, hz10, hz8, hz5, hz4]
      unfold dmB
      rw [decide_eq_false_iff_not]
      unfold dist2 at hout ⊢
      refine and_congr_right fun hto => ?_
      constructor
      · rintro ((h | h) | h)
        · exact .inl (.inl h)
        · by_cases e : (c - a) * (c - a) + (d - b) * (d - b) < -((a - x) * (c - a) + (b - y) * (d - b))
          · exact .inl (.inr e)
          · have e : -((a - x) * (c - a) + (b - y) * (d - b)) = (c - a) * (c - a) + (d - b) * (d - b) := by omega
            by_cases e0 : 0 ≤ (a - x) * (c - a) + (b - y) * (d - b)
            · exact .inl (.inl e0)
            · right
              have e2 : (a - x) * (c - a) + (b - y) * (d - b) = -((c - a) * (c - a) + (d - b) * (d - b)) := by omega
              rw [e2, Int.neg_mul_neg]
              refine Int.mul_lt_mul_of_pos_left ?_ (by omega)
              have : (c - x) * (c - x) + (d - y) * (d - y) = (a - x) * (a - x) + (b - y) * (b - y) + 2 * ((a - x) * (c - a) + (b - y) * (d - b)) + ((c - a) * (c - a) + (d - b) * (d - b)) := by grind
              omega
        · exact .inr h
      · rintro ((h | h) | h)
        · exact .inl (.inl h)
        · exact .inl (.inr (by omega))
        · exact .inr h
    refine ⟨fun h1 h2 => ⟨h1, h2⟩, fun z11 hz11 => ⟨fun _ => i5, fun _ => i5, fun _ => i4, fun _ => i8, fun h1 h2 => ⟨h1, h2⟩, fun h => ?_, fun h => ⟨by unfold inR; omega, by unfold inR; omega, by unfold inR; omega, by unfold inR; omega, by unfold inR; omega, ?_⟩⟩⟩
    · rw [hz11] at h
      have : dmH x y r a b c d = hit0 := by unfold dmH; rw [if_pos (key.2 h)]
      rw [this]; rfl
    · rw [hz11] at h
      have : dmH x y r a b c d = (true, dmT (a - x) (b - y) (c - a) (d - b) r, dmN (a - x) (b - y) (c - a) (d - b) r) := by
        unfold dmH
        rw [if_neg fun hk => ?_]
        obtain ⟨h1, h2⟩ := key.1 hk
        rw [h1] at h
        simp only [Bool.not_false, Bool.true_and, Bool.or_eq_false_iff, decide_eq_false_iff_not] at h
        rcases h2 with (h2 | h2) | h2
        · exact h.1.1 h2
        · exact h.1.2 h2
        · exact h.2 h2
      rw [this]; rfl
  · cases hc
end Go.Ax
end

section
/-
  Rays and forms: the reference.
-/
set_option linter.unusedVariables false
set_option linter.unusedSimpArgs false
set_option maxHeartbeats 4000000
set_option maxRecDepth 100000
namespace Go.Ax
open Go.Proofs
/-- Where the edge was entered, ars the reference says. -/
def rfA (s : PS) : Int := if s.1 < 0 then 0 else s.2.1.1
theorem vc24 (k x y r : Int) (n : Nat) (X Y : Nat → Int) (fx fy tx ty : Int) (hX : ∀ i, i < n → inR (X i) ∧ inR (Y i)) (hn : n ≤ 9223372036854775806) (hx : inR x) (hy : inR y) (hr : inR r) :
    fnVC Tryz.prog [(21, c20), (72, c72), (77, c77), (78, c78), (79, c79), (80, c164), (81, c81), (82, c82), (54, k54), (83, k83)] [(23, ⟨[(9, .slot 6)], []⟩)] Tryz.f24 [formA k x y r n fun i => [i64 (X i), i64 (Y i)], .agg [i64 fx, i64 fy], .agg [i64 tx, i64 ty]] (· = hitA (castS k x y r n X Y fx fy tx ty)) := by
  refine fnVC_go (rs := [.cell 6 49]) rfl rfl ?_
  have hg : spots n fun i => [i64 (X i), i64 (Y i)] := fun i hi => ⟨rfl, hX i hi⟩
  have eX : gx (fun i => [i64 (X i), i64 (Y i)]) 0 = X := rfl
  have eY : gx (fun i => [i64 (X i), i64 (Y i)]) 1 = Y := rfl
  simp only [go_sem, c20, c72, c77, c78, eX, eY]
  have cno : ¬ (checkS k x y r n X Y = 0 ∧ validS fx fy = true ∧ validS tx ty = true) → castS k x y r n X Y fx fy tx ty = hit0 := fun h => by unfold castS; rw [if_neg h]
  have cin : checkS k x y r n X Y = 0 ∧ validS fx fy = true ∧ validS tx ty = true → holdsS k x y r n X Y fx fy = true → castS k x y r n X Y fx fy tx ty = (true, (0, false), ((0, false), (0, false))) := fun h h2 => by unfold castS; rw [if_pos h, if_pos h2]
  have cout : checkS k x y r n X Y = 0 ∧ validS fx fy = true ∧ validS tx ty = true → ¬ holdsS k x y r n X Y fx fy = true → castS k x y r n X Y fx fy tx ty = if k = 1 then dmH x y r fx fy tx ty else plH n X Y fx fy tx ty := fun h h2 => by unfold castS; rw [if_pos h, if_neg h2]
  intro z hz
  refine ⟨hg, hn, hx, hy, hr, fun z1 hz1 z2 hz2 => ⟨fun h => ?_, fun h z3 hz3 => ?_⟩⟩
  · rw [cno (by
      rintro ⟨p, q, t⟩
      rw [p] at hz; rw [q] at hz1; rw [t] at hz2
      rw [hz, hz1, hz2] at h
      simp at h)]
    rfl
  have hv : checkS k x y r n X Y = 0 ∧ validS fx fy = true ∧ validS tx ty = true := by
    refine ⟨?_, ?_, ?_⟩
    · rw [← hz]; simpa using h.1.1
    · rw [← hz1]; exact h.1.2
    · rw [← hz2]; exact h.2
  refine ⟨hg, hn, hv.1, hv.2.1, fun h3 => ?_, fun h3 => ⟨fun hk => ?_, fun hk => ?_⟩⟩
  · rw [cin hv (by rw [← hz3]; exact h3)]; rfl
  · have hk : k = 1 := by simpa using hk
    refine ⟨hg, hn, hv.1, hk, hv.2.1, hv.2.2, by rw [← hz3]; exact h3, ?_⟩
    rw [cout hv (by rw [← hz3, h3]; simp), if_pos hk]; rfl
  have hk : ¬ k = 1 := by simpa using hk
  rw [cout hv (by rw [← hz3, h3]; simp), if_neg hk]
  obtain ⟨hc, hvf, hvt⟩ := hv
  obtain ⟨_, _, v2, _, h2⟩ := check_1 hc
  have hn3 := (convexS_iff.1 (h2 hk).2.2).1
  have hn8 := (h2 hk).2.1
  clear cno cin cout hz hz1 hz2 hz3 h h3
  generalize hG : pgT n X Y fx fy = G
  generalize hH : pgT n X Y tx ty = H
  have hGi : ∀ i, turnS (X i) (Y i) (X (nxt n i)) (Y (nxt n i)) fx fy = G i := fun i => by rw [← hG]; rfl
  have hHi : ∀ i, turnS (X i) (Y i) (X (nxt n i)) (Y (nxt n i)) tx ty = H i := fun i => by rw [← hH]; rfl
  have hGb : ∀ i, i < n → -35184372088832 ≤ G i ∧ G i ≤ 35184372088832 := fun i hi => by rw [← hGi]; exact turnS_bd (v2 i hi) (v2 _ (nxt_lt hi)) hvf
  have hHb : ∀ i, i < n → -35184372088832 ≤ H i ∧ H i ≤ 35184372088832 := fun i hi => by rw [← hHi]; exact turnS_bd (v2 i hi) (v2 _ (nxt_lt hi)) hvt
  have hGw : ∀ i, i < n → IntKind.i64.wrap (IntKind.i64.wrap (IntKind.i64.wrap (X (nxt n i) - X i) * IntKind.i64.wrap (fy - Y i)) - IntKind.i64.wrap (IntKind.i64.wrap (Y (nxt n i) - Y i) * IntKind.i64.wrap (fx - X i))) = G i := fun i hi => by
    rw [← hGi]; exact turn_wrap (v2 i hi) (v2 _ (nxt_lt hi)) hvf
  have hHw : ∀ i, i < n → IntKind.i64.wrap (IntKind.i64.wrap (IntKind.i64.wrap (X (nxt n i) - X i) * IntKind.i64.wrap (ty - Y i)) - IntKind.i64.wrap (IntKind.i64.wrap (Y (nxt n i) - Y i) * IntKind.i64.wrap (tx - X i))) = H i := fun i hi => by
    rw [← hHi]; exact turn_wrap (v2 i hi) (v2 _ (nxt_lt hi)) hvt
  have eF : plF n X Y fx fy tx ty = anyB (fun i => decide (G i < 0 ∧ H i < 0)) n := by unfold plF; rw [hG, hH]
  have eH : plH n X Y fx fy tx ty = if anyB (fun i => decide (G i < 0 ∧ H i < 0)) n = true then hit0 else plE n X Y (plS G H n) := by unfold plH; rw [eF, hG, hH]
  rw [eH]
  clear eH eF
  have hcl : ∀ p q : Int, cmpS p q < 0 ↔ p < q := fun p q => by
    unfold cmpS; split
    · omega
    · split <;> omega
  have hcg : ∀ p q : Int, 0 < cmpS p q ↔ q < p := fun p q => by
    unfold cmpS; split
    · omega
    · split <;> omega
  refine loopC_go (fun (i : Nat) => i ≤ n ∧ ∀ j, j < i → ¬ (G j < 0 ∧ H j < 0)) (fun i => n - i) (fun i => [(12, i64 i), (7, i64 (plS G H i).1), (8, i64 (rfA (plS G H i))), (9, i64 (plS G H i).2.1.2), (10, i64 (plS G H i).2.2.1), (11, i64 (plS G H i).2.2.2)]) (fun _ => []) [3, 2, 1, 0] [44, 45, 46, 47, 48, 52, 53, 54, 51, 55, 56, 13, 14, 57, 58, 59, 60, 61, 62, 63, 64, 65, 66, 67, 68, 69, 70, 15, 16, 71, 72, 73, 74, 75, 76, 77, 78, 79, 80, 81, 82, 83, 84, 85, 86, 87, 88, 89, 90, 91, 92, 93, 94, 95, 96, 97, 98, 99, 100, 7, 8, 9, 101, 102, 103, 104, 105, 106, 107, 108, 109, 110, 111, 112, 113, 114, 115, 116, 117, 118, 119, 120, 10, 11, 49, 50, 12] 0 (by kernel_rfl) ?_ ⟨Nat.zero_le _, fun j hj => by omega⟩ ?_ ?_
  · intro x _; simp [goodNames]
  · simp only [go_sem, plS, rfA]
  · intro i hi
    simp only [go_sem, c79, c164, c81, c82, k54, k83, eX, eY, forall_eq]
    obtain ⟨ok1, ok2⟩ := plS_ok i hi.2
    refine ⟨fun hin => ?_, fun hin => ?_⟩
    · have hin' : i < n := by omega
      rw [hGw i hin', hHw i hin']
      have gb := hGb i hin'
      have hb := hHb i hin'
      have w1 : IntKind.i64.wrap (0 - G i) = -G i := by rw [wrap_in (by unfold inR; omega)]; omega
      have w2 : IntKind.i64.wrap (H i - G i) = H i - G i := wrap_in (by unfold inR; omega)
      have w3 : IntKind.i64.wrap (G i - H i) = G i - H i := wrap_in (by unfold inR; omega)
      have w4 : IntKind.i64.wrap ((i : Int) + 1) = ((i + 1 : Nat) : Int) := by rw [wrap_in (by unfold inR; omega)]; rfl
      rw [w1, w2, w3, w4]
      refine ⟨hg, by omega, hin, hn, fun h => ?_, fun h => ?_⟩
      · have : anyB (fun i => decide (G i < 0 ∧ H i < 0)) n = true := anyB_iff.2 ⟨i, hin', decide_eq_true h⟩
        rw [if_pos this]; rfl
      have hno : ¬ (G i < 0 ∧ H i < 0) := by simpa using h
      have hnext : ∀ j, j < i + 1 → ¬ (G j < 0 ∧ H j < 0) := fun j hj => by
        by_cases e : j = i
        · subst e; exact hno
        · exact hi.2 j (by omega)
      have i1 : ¬ (plS G H i).1 < 0 → inR (rfA (plS G H i)) ∧ inR (plS G H i).2.1.2 := fun hs => by
        rcases ok1 with h | ⟨j, h1, _, _, _, h⟩
        · omega
        · have := hGb j (by omega); have := hHb j (by omega)
          unfold rfA
          rw [if_neg hs, h]; exact ⟨by unfold inR; dsimp only; omega, by unfold inR; dsimp only; omega⟩
      have i2 : inR (plS G H i).2.2.1 ∧ inR (plS G H i).2.2.2 := by
        rcases ok2 with h | ⟨j, h1, _, _, h⟩
        · rw [h]; exact ⟨by unfold inR; omega, by unfold inR; omega⟩
        · have := hGb j (by omega); have := hHb j (by omega)
          rw [h]; exact ⟨by unfold inR; dsimp only; omega, by unfold inR; dsimp only; omega⟩
      have key : G i < 0 → (((plS G H i).1 < 0 ∨ 0 < cmpS (-G i * (plS G H i).2.1.2) (rfA (plS G H i) * (H i - G i))) ↔ (plS G H i).2.1.1 * (H i - G i) < -G i * (plS G H i).2.1.2) := fun hg => by
        rw [hcg]
        rcases ok1 with h | ⟨j, h1, h2, _, _, h⟩
        · rw [h.1, h.2]
          constructor
          · intro _; dsimp only; omega
          · intro _; left; omega
        · unfold rfA
          rw [if_neg (by omega)]
          constructor
          · intro h'; exact h'.resolve_left (by omega)
          · intro h'; exact .inr h'
      refine ⟨fun _ => by unfold inR; omega, fun h => (i1 h.2).2, fun h => (i1 h.2).1, fun _ => by unfold inR; omega, fun h1 h2 => ⟨h1, h2⟩, fun ⟨hg1, h1⟩ => ?_, fun h1 => ?_⟩
      · have es : plS G H (i + 1) = ((i : Int), (-G i, H i - G i), (plS G H i).2.2) := by
          conv => lhs; unfold plS
          rw [if_pos hg1, if_pos ((key hg1).1 h1)]
        refine ⟨fun h => by omega, fun h => by omega, fun h => by omega, fun h => by omega, fun h => by omega, fun _ => ⟨i + 1, ⟨by omega, hnext⟩, by omega, rfl, ?_⟩⟩
        rw [es]
        exact ⟨rfl, by unfold rfA; rw [if_neg (by dsimp only; omega)], rfl, rfl, rfl⟩
      · refine ⟨fun _ => by unfold inR; omega, fun _ => i2.2, fun _ => i2.1, fun _ => by unfold inR; omega, fun ⟨h2, h3⟩ => ⟨i + 1, ⟨by omega, hnext⟩, by omega, rfl, ?_⟩, fun h2 => ⟨i + 1, ⟨by omega, hnext⟩, by omega, rfl, ?_⟩⟩
        · have es : plS G H (i + 1) = ((plS G H i).1, (plS G H i).2.1, (G i, G i - H i)) := by
            conv => lhs; unfold plS
            rw [if_neg (by omega), if_pos h2.2, if_pos ((hcl _ _).1 h3)]
          rw [es]
          exact ⟨rfl, rfl, rfl, rfl, rfl⟩
        · have es : plS G H (i + 1) = plS G H i := by
            conv => lhs; unfold plS
            by_cases hg1 : G i < 0
            · rw [if_pos hg1, if_neg (fun hk => ?_)]
              have := (key hg1).2 hk
              simp only [decide_eq_true hg1, Bool.true_and, Bool.or_eq_false_iff, decide_eq_false_iff_not] at h1
              rcases this with k | k
              · exact h1.1 k
              · exact h1.2 k
            · rw [if_neg hg1]
              by_cases hh : H i < 0
              · rw [if_pos hh, if_neg (fun hk => ?_)]
                have hk := (hcl _ _).2 hk
                simp only [decide_eq_true hh, decide_eq_true (show 0 ≤ G i by omega), decide_eq_true hk] at h2
                cases h2
              · rw [if_neg hh]
          rw [es]
          exact ⟨rfl, rfl, rfl, rfl, rfl⟩
    · have he : i = n := by omega
      subst he
      have hno : ¬ anyB (fun i => decide (G i < 0 ∧ H i < 0)) i = true := fun h => by
        obtain ⟨j, h1, h2⟩ := anyB_iff.1 h
        exact hi.2 j h1 (of_decide_eq_true h2)
      rw [if_neg hno]
      have i1 : ¬ (plS G H i).1 < 0 → rfA (plS G H i) = (plS G H i).2.1.1 ∧ inR (plS G H i).2.1.1 ∧ inR (plS G H i).2.1.2 ∧ (plS G H i).1 < i ∧ IntKind.i64.wrap (0 - (plS G H i).2.1.1) = -(plS G H i).2.1.1 ∧ IntKind.i64.wrap (0 - (plS G H i).2.1.2) = -(plS G H i).2.1.2 ∧ inR (-(plS G H i).2.1.1) ∧ inR (-(plS G H i).2.1.2) := fun hs => by
        rcases ok1 with h | ⟨j, h1, h2, _, _, h⟩
        · omega
        · have := hGb j (by omega); have := hHb j (by omega)
          unfold rfA
          rw [if_neg hs, h]
          dsimp only
          refine ⟨rfl, by unfold inR; omega, by unfold inR; omega, by omega, ?_, ?_, by unfold inR; omega, by unfold inR; omega⟩
          · rw [wrap_in (by unfold inR; omega)]; omega
          · rw [wrap_in (by unfold inR; omega)]; omega
      have i2 : inR (plS G H i).2.2.1 ∧ inR (plS G H i).2.2.2 := by
        rcases ok2 with h | ⟨j, h1, _, _, h⟩
        · rw [h]; exact ⟨by unfold inR; omega, by unfold inR; omega⟩
        · have := hGb j (by omega); have := hHb j (by omega)
          rw [h]; exact ⟨by unfold inR; dsimp only; omega, by unfold inR; dsimp only; omega⟩
      refine ⟨fun h => by rw [(i1 h).1]; exact (i1 h).2.1, fun _ => i2.2, fun _ => i2.1, fun h => (i1 h).2.2.1, fun h => ?_, fun ⟨h1, h2⟩ => ?_⟩
      · have : (plS G H i).1 < 0 ∨ (plS G H i).2.2.1 * (plS G H i).2.1.2 < (plS G H i).2.1.1 * (plS G H i).2.2.2 := by
          by_cases e : (plS G H i).1 < 0
          · exact .inl e
          · right
            have := h.resolve_left e
            rw [hcg, (i1 e).1] at this
            exact this
        unfold plE; rw [if_pos this]; rfl
      · obtain ⟨a1, a2, a3, a4, a5, a6, a7, a8⟩ := i1 h1
        rw [a1] at h2 ⊢
        rw [hcg] at h2
        rw [a5, a6]
        have hlt : (plS G H i).1.toNat < i := by omega
        refine ⟨hg, by omega, a4, hn, a7, a8, v2 _ hlt, v2 _ (nxt_lt hlt), ?_⟩
        unfold plE
        rw [if_neg (by rintro (q | q); exact h1 q; exact h2 q)]
        unfold plHit
        rw [if_neg h1]
        rfl
def c24 : Con
  | [.agg [.v (.int .i64 k), .v (.int .i64 x), .v (.int .i64 y), .v (.int .i64 r), .ro n 2 g], .agg [.v (.int .i64 a), .v (.int .i64 b)], .agg [.v (.int .i64 c), .v (.int .i64 d)]] => some ([spots n g, n ≤ 9223372036854775806, inR x, inR y, inR r], hitA (castS k x y r n (gx g 0) (gx g 1) a b c d))
  | _ => none
theorem con24 : ConOK Tryz.prog 24 c24 := ConOK.go (G := [(21, c20), (72, c72), (77, c77), (78, c78), (79, c79), (80, c164), (81, c81), (82, c82), (54, k54), (83, k83)]) (H := [(23, ⟨[(9, .slot 6)], []⟩)]) (.cons con21 (.cons con72 (.cons con77 (.cons con78 (.cons con79 (.cons con80 (.cons con81 (.cons con82 (.cons kon54 (.cons kon83 .nil)))))))))) Tryz.func24 fun l ob rr hc hob => by
  unfold c24 at hc
  split at hc
  · rename_i k x y r n g a b c d
    cases hc
    have hs : spots n g := hob _ (by simp)
    refine ⟨[formA k x y r n fun i => [i64 (gx g 0 i), i64 (gx g 1 i)], .agg [i64 a, i64 b], .agg [i64 c, i64 d]], fun w I vs h => ?_, by kernel_rfl, vc24 k x y r n _ _ a b c d (fun i hi => (hs i hi).2) (hob _ (by simp)) (hob _ (by simp)) (hob _ (by simp)) (hob _ (by simp))⟩
    obtain ⟨v, vs', rfl, h1, h2⟩ := h.inv
    exact .cons (Rs_form hs _ h1) h2
  · cases hc
end Go.Ax
end

section
/-
  What rays meet, the law's body.
-/
set_option linter.unusedVariables false
set_option linter.unusedSimpArgs false
set_option maxHeartbeats 4000000
set_option maxRecDepth 100000
namespace Go.Ax
open Go.Proofs
/-! ### Equality -/
theorem aEq26 {a0 b0 : Int} {a1 b1 : Bool} : aEq Tryz.prog 26 (.agg [i64 a0, bo a1]) (.agg [i64 b0, bo b1]) = some ((a0 == b0) && ((a1 == b1) && true)) := by kernel_rfl
theorem eq26 {xo yo : Operand} {neg : Bool} {a0 b0 : Int} {a1 b1 : Bool} : eqE Tryz.prog neg 26 xo yo (.agg [i64 a0, bo a1]) (.agg [i64 b0, bo b1]) = some ⟨[], .v (.bool (negV neg ((a0 == b0) && ((a1 == b1) && true)))), .none⟩ := eqE_agg aEq26
attribute [go_sem] eq26
theorem aEq28 {a0 b0 : Int} {a1 b1 : Bool} {a2 b2 : Int} {a3 b3 : Bool} : aEq Tryz.prog 28 (.agg [i64 a0, bo a1, i64 a2, bo a3]) (.agg [i64 b0, bo b1, i64 b2, bo b3]) = some (((a0 == b0) && ((a1 == b1) && true)) && (((a2 == b2) && ((a3 == b3) && true)) && true)) := by kernel_rfl
theorem eq28 {xo yo : Operand} {neg : Bool} {a0 b0 : Int} {a1 b1 : Bool} {a2 b2 : Int} {a3 b3 : Bool} : eqE Tryz.prog neg 28 xo yo (.agg [i64 a0, bo a1, i64 a2, bo a3]) (.agg [i64 b0, bo b1, i64 b2, bo b3]) = some ⟨[], .v (.bool (negV neg (((a0 == b0) && ((a1 == b1) && true)) && (((a2 == b2) && ((a3 == b3) && true)) && true)))), .none⟩ := eqE_agg aEq28
attribute [go_sem] eq28
theorem aEq49 {a0 b0 : Bool} {a1 b1 : Int} {a2 b2 : Bool} {a3 b3 : Int} {a4 b4 : Bool} {a5 b5 : Int} {a6 b6 : Bool} : aEq Tryz.prog 49 (.agg [bo a0, i64 a1, bo a2, i64 a3, bo a4, i64 a5, bo a6]) (.agg [bo b0, i64 b1, bo b2, i64 b3, bo b4, i64 b5, bo b6]) = some ((a0 == b0) && (((a1 == b1) && ((a2 == b2) && true)) && ((((a3 == b3) && ((a4 == b4) && true)) && (((a5 == b5) && ((a6 == b6) && true)) && true)) && true))) := by kernel_rfl
theorem eq49 {xo yo : Operand} {neg : Bool} {a0 b0 : Bool} {a1 b1 : Int} {a2 b2 : Bool} {a3 b3 : Int} {a4 b4 : Bool} {a5 b5 : Int} {a6 b6 : Bool} : eqE Tryz.prog neg 49 xo yo (.agg [bo a0, i64 a1, bo a2, i64 a3, bo a4, i64 a5, bo a6]) (.agg [bo b0, i64 b1, bo b2, i64 b3, bo b4, i64 b5, bo b6]) = some ⟨[], .v (.bool (negV neg ((a0 == b0) && (((a1 == b1) && ((a2 == b2) && true)) && ((((a3 == b3) && ((a4 == b4) && true)) && (((a5 == b5) && ((a6 == b6) && true)) && true)) && true))))), .none⟩ := eqE_agg aEq49
attribute [go_sem] eq49
theorem vc4 (k x y r : Int) (n : Nat) (X Y : Nat → Int) (a b c d : Int) (hX : ∀ i, i < n → inR (X i) ∧ inR (Y i)) (hx : inR x) (hy : inR y) (hr : inR r) (h1 : inR a) (h2 : inR b) (h3 : inR c) (h4 : inR d) :
    fnVC Tryz.prog [(13, c13), (14, c14), (15, c15), (19, c19), (23, c23), (24, c24)] [] Tryz.f4 [formA k x y r n fun i => [i64 (X i), i64 (Y i)], .agg [i64 a, i64 b], .agg [i64 c, i64 d]] (· = bo true) := by
  refine fnVC_go (rs := [.tmp 6]) rfl rfl ?_
  simp only [go_sem, c13, c14, c15, c19, c23, c24]
  have hg : spots n fun i => [i64 (X i), i64 (Y i)] := fun i hi => ⟨rfl, hX i hi⟩
  intro z hz
  refine ⟨fun _ _ => trivial, fun h => ?_⟩
  have hn : n ≤ 12 := by rw [hz] at h; have := of_decide_eq_true h; omega
  have hn2 : n ≤ 1000 := by omega
  have hn3 : n ≤ 9223372036854775806 := by omega
  simp only [forall_eq, hg, hn2, hn3, hx, hy, hr, h1, h2, h3, h4, and_self, implies_true, true_and, beq_self_eq_true, sameF_self]
end Go.Ax
end

section
/-
  The frame of a law: its arguments ars abstract values, and what they read ars behind the call.
-/
set_option linter.unusedSimpArgs false
set_option linter.unusedVariables false
namespace Go.Ax
open Go.ChangeShapes Go.WideShapes Go.ChangeAt Go.RowKit

/-- What an argument is. -/
inductive ShV where
  | int (k : IntKind)
  | bool
  | agg (es : List Sh)
  | slice (sz : Nat) (es : List Sh)

def shV (P : Program) (t : TypeId) : Option ShV :=
  match P.underlying t with
  | some .bool => some .bool
  | some (.int k) => some (.int k)
  | some (.slice _) => match shT P 6 t with
    | some [.slice sz es] => some (.slice sz es)
    | _ => none
  | some (.struct _) => (shT P 6 t).map .agg
  | some (.array _ _) => (shT P 6 t).map .agg
  | _ => none

def fitV : ShV → AV → Prop
  | .int k, a => ∃ n, a = .v (.int k n) ∧ (Lit.int k n).wf = true
  | .bool, a => ∃ b, a = .v (.bool b)
  | .agg es, a => ∃ l, a = .agg l ∧ fitS es l
  | .slice sz es, a => ∃ (n : Nat) (get : Nat → List AV), a = .ro n sz get ∧ n ≤ maxLen ∧ ∀ i, fitS es (get i)

def shVs (P : Program) : List TypeId → Option (List ShV)
  | [] => some []
  | t :: ts => match shV P t, shVs P ts with
    | some s, some r => some (s :: r)
    | _, _ => none
def fitVs : List ShV → List AV → Prop
  | [], l => l = []
  | s :: ss, l => ∃ a r, l = a :: r ∧ fitV s a ∧ fitVs ss r

section
variable {H : Type} {enc : TypeId × Value → H} {P : Program} {w : World} {spare : Nat → Bool} {held : Bool} {base : Nat}

theorem okWide_agg_struct {t : TypeId} {fs : Array Field} {v : Value} (ht : P.underlying t = some (.struct fs)) (h : Value.okWide P w .any base t v) : ∃ cs, v = .agg cs := by
  obtain ⟨cs, h, _⟩ := okWide_struct ht h
  exact ⟨cs, h⟩
theorem trod_agg_array {t e : TypeId} {n : Nat} {v : Value} {x : DataW H} {ps : List MemPlace} (ht : P.underlying t = some (.array n e)) (h : Value.okWide P w .any base t v) : ∃ cs, v = .agg cs := by
  cases v <;> simp [Value.okWide, Value.ok, ht] at h <;> exact ⟨_, rfl⟩

theorem arg_read {t : TypeId} {s : ShV} {v : Value} {x : DataW H} {ps : List MemPlace} (hs : shV P t = some s) (ho : Value.okWide P w .any base t v) (h : DataW.Trod enc P w 0 spare held t v x ps) : ∃ a, fitV s a ∧ R w (.ext (All w)) a v := by
  unfold shV at hs
  split at hs
  · rename_i hu
    cases hs
    obtain ⟨b, rfl⟩ := okWide_bool hu ho
    exact ⟨_, ⟨b, rfl⟩, .v⟩
  · rename_i k hu
    cases hs
    obtain ⟨n, rfl, _, _, hw⟩ := open_int hu ho h
    exact ⟨_, ⟨n, rfl, hw⟩, .v⟩
  · rename_i e hu
    split at hs
    · rename_i sz es he
      cases hs
      obtain ⟨a, len, cap, rfl⟩ := okWide_slice hu ho
      obtain ⟨n, get, h1, h2, h3⟩ := slice_read he h
      exact ⟨_, ⟨n, get, rfl, h1, h2⟩, h3⟩
    · cases hs
  · rename_i fs hu
    obtain ⟨es, he, rfl⟩ := Option.map_eq_some_iff.1 hs
    obtain ⟨cs, rfl⟩ := okWide_agg_struct hu ho
    obtain ⟨l, h1, h2⟩ := agg_read he h
    exact ⟨_, ⟨l, rfl, h1⟩, h2⟩
  · rename_i n e hu
    obtain ⟨es, he, rfl⟩ := Option.map_eq_some_iff.1 hs
    obtain ⟨cs, rfl⟩ := trod_agg_array (x := x) (ps := ps) hu ho
    obtain ⟨l, h1, h2⟩ := agg_read he h
    exact ⟨_, ⟨l, rfl, h1⟩, h2⟩
  · cases hs

theorem args_read : ∀ {ts : List TypeId} {ss : List ShV} {vs : List Value} {ds : List (DataW H)} {ps : List MemPlace}, shVs P ts = some ss → (∀ (j : Nat) t v, ts[j]? = some t → vs[j]? = some v → Value.okWide P w .any base t v) →
    DataW.TrodAll enc P w 0 spare held ts vs ds ps → ∃ l, fitVs ss l ∧ Rs w (.ext (All w)) l vs
  | [], ss, vs, ds, ps, hs, ho, h => by
    simp only [shVs, Option.some.injEq] at hs
    subst hs
    obtain ⟨rfl, rfl, rfl⟩ := trodAll_nil h
    exact ⟨[], rfl, .nil⟩
  | t :: ts, ss, vs, ds, ps, hs, ho, h => by
    simp only [shVs] at hs
    split at hs
    · rename_i s r h1 h2
      cases hs
      obtain ⟨v, vs', d, ds', p, q, rfl, rfl, rfl, h3, h4⟩ := trodAll_cons h
      obtain ⟨a, a1, a2⟩ := arg_read h1 (ho 0 t v rfl rfl) h3
      obtain ⟨l, b1, b2⟩ := args_read h2 (fun j t v hj hv => ho (j + 1) t v (by simpa using hj) (by simpa using hv)) h4
      exact ⟨a :: l, ⟨a, l, rfl, a1, b1⟩, Rs.cons a2 b2⟩
    · cases hs

/-- Types that may be read whole. -/
def readOK (P : Program) (ts : List TypeId) : Bool := ts.all fun t => P.readableRec t && decide (t < P.types.size)

theorem args_stay {W W' : World} (hl : laidOutB P = true) (hb : Below W.heap.size W W') : ∀ {ts : List TypeId} {vs : List Value} {ds : List (DataW H)} {ps : List MemPlace}, readOK P ts = true →
    DataW.TrodAll enc P W 0 (fun _ => true) true ts vs ds ps → ∃ ps, DataW.TrodAll enc P W' 0 (fun b => decide (b < W.heap.size)) true ts vs ds ps
  | [], vs, ds, ps, _, h => by
    obtain ⟨rfl, rfl, rfl⟩ := trodAll_nil h
    exact ⟨[], rfl⟩
  | t :: ts, vs, ds, ps, hr, h => by
    obtain ⟨v, vs', d, ds', p, q, rfl, rfl, rfl, h3, h4⟩ := trodAll_cons h
    simp only [readOK, List.all_cons, Bool.and_eq_true, decide_eq_true_eq] at hr
    obtain ⟨q', h5⟩ := args_stay hl hb (by simpa [readOK] using hr.2) h4
    refine ⟨_, trodAll_cons_mk (Below.trod hl hr.1.1 hr.1.2 h3 hb ?_) h5⟩
    obtain ⟨m, hm⟩ := h3
    exact DataW.trod_lt m _ _ _ hm
end
end Go.Ax
end

section
/-
  What is met first.
-/
set_option linter.unusedVariables false
set_option linter.unusedSimpArgs false
set_option maxHeartbeats 4000000
set_option maxRecDepth 100000
namespace Go.Ax
open Go.Proofs
/-- The slice in a cell. -/
def cn (cs : List AV) (k : Nat) : Nat := match cs[k]? with
  | some (.ro n _ _) => n
  | _ => 0
def cg (cs : List AV) (k : Nat) : Nat → List AV := match cs[k]? with
  | some (.ro _ _ g) => g
  | _ => fun _ => []
/-- A form's cells. -/
abbrev formC (k x y r : Int) (n : Nat) (X Y : Nat → Int) : List AV := [i64 k, i64 x, i64 y, i64 r, .ro n 2 fun i => [i64 (X i), i64 (Y i)]]
/-- The form in some cells. -/
def formOf (cs : List AV) : List AV := formC (gi cs 0) (gi cs 1) (gi cs 2) (gi cs 3) (cn cs 4) (gx (cg cs 4) 0) (gx (cg cs 4) 1)
/-- The cells are a form's. -/
def formOK (cs : List AV) : Prop := cs = [i64 (gi cs 0), i64 (gi cs 1), i64 (gi cs 2), i64 (gi cs 3), .ro (cn cs 4) 2 (cg cs 4)] ∧ inR (gi cs 1) ∧ inR (gi cs 2) ∧ inR (gi cs 3) ∧ spots (cn cs 4) (cg cs 4) ∧ cn cs 4 ≤ 9223372036854775806
def forms (m : Nat) (G : Nat → List AV) : Prop := ∀ i, i < m → formOK (G i)
/-- The hit that comes first of some. -/
def firS (C : Nat → HitT) : Nat → Int × HitT
  | 0 => (-1, hit0)
  | i + 1 => if (C i).1 = true ∧ ((firS C i).1 < 0 ∨ cmpS (whV (C i).2.1.1) (whV (firS C i).2.2.1.1) < 0) then ((i : Int), C i) else firS C i
def fiA (s : Int × HitT) : AV := .tup [i64 s.1, .agg (hitC s.2)]
theorem bnd_fi {s : Int × HitT} : bnd (fiA s) = .tup [i64 s.1, .agg [bo s.2.1, i64 s.2.2.1.1, bo s.2.2.1.2, i64 s.2.2.2.1.1, bo s.2.2.2.1.2, i64 s.2.2.2.2.1, bo s.2.2.2.2.2]] := (rfl)
theorem plain_fi {s : Int × HitT} : plain 3 (fiA s) = true := (rfl)
attribute [go_sem] bnd_fi plain_fi
/-- What the way meets of the form in some cells. -/
def castC (a b c d : Int) (cs : List AV) : HitT := castS (gi cs 0) (gi cs 1) (gi cs 2) (gi cs 3) (cn cs 4) (gx (cg cs 4) 0) (gx (cg cs 4) 1) a b c d
theorem vc34 (m : Nat) (K X Y Z : Nat → Int) (N : Nat → Nat) (P : Nat → Nat → List AV) (a b c d : Int) (hm : m ≤ 1000) (hX : ∀ i, i < m → inR (X i) ∧ inR (Y i) ∧ inR (Z i)) (hP : ∀ i, i < m → spots (N i) (P i) ∧ N i ≤ 9223372036854775806) (h1 : inR a) (h2 : inR b) (h3 : inR c) (h4 : inR d) :
    fnVC Tryz.prog [(23, c23), (88, c88)] [(7, ⟨[(3, .slot 9)], []⟩), (9, ⟨[(3, .slot 7)], []⟩)] Tryz.f34 [.agg [i64 a, i64 b], .agg [i64 c, i64 d], .ro m 5 fun i => [i64 (K i), i64 (X i), i64 (Y i), i64 (Z i), .ro (N i) 2 (P i)]] (· = fiA (firS (fun i => castS (K i) (X i) (Y i) (Z i) (N i) (gx (P i) 0) (gx (P i) 1) a b c d) m)) := by
  refine fnVC_go (rs := [.tmp 6, .cell 7 49]) rfl rfl ?_
  simp only [go_sem]
  generalize hC : (fun i => castS (K i) (X i) (Y i) (Z i) (N i) (gx (P i) 0) (gx (P i) 1) a b c d) = C
  have hCi : ∀ i, castS (K i) (X i) (Y i) (Z i) (N i) (gx (P i) 0) (gx (P i) 1) a b c d = C i := fun i => by rw [← hC]
  refine loopC_go (fun (i : Nat) => i ≤ m) (fun i => m - i) (fun i => [(16, i64 i), (8, i64 (firS C i).1)]) (fun i => [(5, fam1 49 7 (hitC (firS C i).2) none)]) [3, 1, 0] [17, 18, 19, 20, 11, 10, 21, 22, 23, 24, 12, 25, 26, 27, 28, 29, 30, 31, 32, 33, 34, 35, 36, 37, 38, 39, 40, 8, 41, 16] 0 (by kernel_rfl) ?_ (Nat.zero_le _) ?_ ?_
  · intro x _; simp [goodNames, asg]
  · simp only [go_sem, firS]
    exact ⟨rfl, rfl, rfl, rfl, rfl, rfl, rfl⟩
  · intro i hi
    simp only [go_sem, c23, c88, hCi]
    refine ⟨fun hin => ?_, fun hin => ?_⟩
    · have hin' : i < m := by omega
      have hx := hX i hin'
      refine ⟨by omega, hin, (hP i hin').1, (hP i hin').2, hx.1, hx.2.1, hx.2.2, h1, h2, h3, h4, fun z hz => ⟨fun a b => ⟨a, b⟩, fun h z1 hz1 => ⟨i + 1, by omega, by omega, ?_⟩, fun h z1 hz1 => ⟨i + 1, by omega, by omega, ?_⟩⟩⟩
      · have e : firS C (i + 1) = ((i : Int), C i) := by
          conv => lhs; unfold firS
          rw [if_pos ⟨h.1, h.2.imp id fun h => by rw [← hz]; exact h⟩]
        rw [e, hz1, wrap_in (by unfold inR; omega)]
        exact ⟨⟨rfl, rfl⟩, rfl, rfl, rfl, rfl, rfl, rfl, rfl⟩
      · have e : firS C (i + 1) = firS C i := by
          conv => lhs; unfold firS
          rw [if_neg ?_]
          rintro ⟨k1, k2⟩
          rw [← hz] at k2
          simp only [k1, Bool.true_and, Bool.or_eq_false_iff, decide_eq_false_iff_not] at h
          rcases k2 with k | k
          · exact h.1 k
          · exact h.2 k
        rw [e, hz1, wrap_in (by unfold inR; omega)]
        exact ⟨⟨rfl, rfl⟩, rfl, rfl, rfl, rfl, rfl, rfl, rfl⟩
    · have e : i = m := by omega
      subst e
      rfl
def c34 : Con
  | [.agg [.v (.int .i64 a), .v (.int .i64 b)], .agg [.v (.int .i64 c), .v (.int .i64 d)], .ro m 5 G] => some ([m ≤ 1000, forms m G, inR a, inR b, inR c, inR d], fiA (firS (fun i => castC a b c d (G i)) m))
  | _ => none
theorem con34 : ConOK Tryz.prog 34 c34 := ConOK.go (G := [(23, c23), (88, c88)]) (H := [(7, ⟨[(3, .slot 9)], []⟩), (9, ⟨[(3, .slot 7)], []⟩)]) (.cons con23 (.cons con88 .nil)) Tryz.func34 fun l ob r hc hob => by
  unfold c34 at hc
  split at hc
  · rename_i a b c d m G
    cases hc
    have hs : forms m G := hob _ (by simp)
    refine ⟨[.agg [i64 a, i64 b], .agg [i64 c, i64 d], .ro m 5 fun i => [i64 (gi (G i) 0), i64 (gi (G i) 1), i64 (gi (G i) 2), i64 (gi (G i) 3), .ro (cn (G i) 4) 2 (cg (G i) 4)]], fun w I vs h => ?_, by kernel_rfl,
      vc34 m _ _ _ _ _ _ a b c d (hob _ (by simp)) (fun i hi => ⟨(hs i hi).2.1, (hs i hi).2.2.1, (hs i hi).2.2.2.1⟩) (fun i hi => (hs i hi).2.2.2.2) (hob _ (by simp)) (hob _ (by simp)) (hob _ (by simp)) (hob _ (by simp))⟩
    obtain ⟨v, vs', rfl, k1, k2⟩ := h.inv
    obtain ⟨v2, vs2, rfl, k3, k4⟩ := k2.inv
    exact .cons k1 (.cons k3 (Rs_one (fun v => ro_alike fun i hi => (hs i hi).1) k4))
  · cases hc
/-! ### The reference's -/
theorem vc39 (m : Nat) (K X Y Z : Nat → Int) (N : Nat → Nat) (P : Nat → Nat → List AV) (a b c d : Int) (hm : m ≤ 1000) (hX : ∀ i, i < m → inR (X i) ∧ inR (Y i) ∧ inR (Z i)) (hP : ∀ i, i < m → spots (N i) (P i) ∧ N i ≤ 9223372036854775806) :
    fnVC Tryz.prog [(24, c24), (96, c96)] [(5, ⟨[(8, .made 7)], []⟩), (7, ⟨[(3, .slot 9)], []⟩), (8, ⟨[(3, .slot 7)], []⟩)] Tryz.f39 [.agg [i64 a, i64 b], .agg [i64 c, i64 d], .ro m 5 fun i => [i64 (K i), i64 (X i), i64 (Y i), i64 (Z i), .ro (N i) 2 (P i)]] (· = fiA (firS (fun i => castS (K i) (X i) (Y i) (Z i) (N i) (gx (P i) 0) (gx (P i) 1) a b c d) m)) := by
  refine fnVC_go (rs := [.tmp 6, .cell 7 49]) rfl rfl ?_
  simp only [go_sem]
  generalize hC : (fun i => castS (K i) (X i) (Y i) (Z i) (N i) (gx (P i) 0) (gx (P i) 1) a b c d) = C
  have hCi : ∀ i, castS (K i) (X i) (Y i) (Z i) (N i) (gx (P i) 0) (gx (P i) 1) a b c d = C i := fun i => by rw [← hC]
  refine loopC_go (fun (i : Nat) => i ≤ m) (fun i => m - i) (fun i => [(10, i64 i), (8, i64 (firS C i).1)]) (fun i => [(5, fam1 49 7 (hitC (firS C i).2) none)]) [3, 1, 0] [13, 14, 15, 16, 19, 20, 21, 22, 23, 24, 25, 11, 26, 27, 28, 29, 30, 31, 32, 33, 34, 35, 36, 37, 38, 39, 40, 41, 8, 17, 18, 10] 0 (by kernel_rfl) ?_ (Nat.zero_le _) ?_ ?_
  · intro x _; simp [goodNames, asg]
  · simp only [go_sem, firS]
    exact ⟨rfl, rfl, rfl, rfl, rfl, rfl, rfl⟩
  · intro i hi
    simp only [go_sem, c24, c96, hCi]
    refine ⟨fun hin => ?_, fun hin => ?_⟩
    · have hin' : i < m := by omega
      have hx := hX i hin'
      refine ⟨by omega, hin, (hP i hin').1, (hP i hin').2, hx.1, hx.2.1, hx.2.2, fun z hz => ⟨fun a b => ⟨a, b⟩, fun h z1 hz1 => ⟨i + 1, by omega, by omega, ?_⟩, fun h z1 hz1 => ⟨i + 1, by omega, by omega, ?_⟩⟩⟩
      · have e : firS C (i + 1) = ((i : Int), C i) := by
          conv => lhs; unfold firS
          rw [if_pos ⟨h.1, h.2.imp id fun h => by rw [← hz]; exact h⟩]
        rw [e, hz1, wrap_in (by unfold inR; omega)]
        exact ⟨⟨rfl, rfl⟩, rfl, rfl, rfl, rfl, rfl, rfl, rfl⟩
      · have e : firS C (i + 1) = firS C i := by
          conv => lhs; unfold firS
          rw [if_neg ?_]
          rintro ⟨k1, k2⟩
          rw [← hz] at k2
          simp only [k1, Bool.true_and, Bool.or_eq_false_iff, decide_eq_false_iff_not] at h
          rcases k2 with k | k
          · exact h.1 k
          · exact h.2 k
        rw [e, hz1, wrap_in (by unfold inR; omega)]
        exact ⟨⟨rfl, rfl⟩, rfl, rfl, rfl, rfl, rfl, rfl, rfl⟩
    · have e : i = m := by omega
      subst e
      rfl
def c39 : Con
  | [.agg [.v (.int .i64 a), .v (.int .i64 b)], .agg [.v (.int .i64 c), .v (.int .i64 d)], .ro m 5 G] => some ([m ≤ 1000, forms m G], fiA (firS (fun i => castC a b c d (G i)) m))
  | _ => none
theorem con39 : ConOK Tryz.prog 39 c39 := ConOK.go (G := [(24, c24), (96, c96)]) (H := [(5, ⟨[(8, .made 7)], []⟩), (7, ⟨[(3, .slot 9)], []⟩), (8, ⟨[(3, .slot 7)], []⟩)]) (.cons con24 (.cons con96 .nil)) Tryz.func39 fun l ob r hc hob => by
  unfold c39 at hc
  split at hc
  · rename_i a b c d m G
    cases hc
    have hs : forms m G := hob _ (by simp)
    refine ⟨[.agg [i64 a, i64 b], .agg [i64 c, i64 d], .ro m 5 fun i => [i64 (gi (G i) 0), i64 (gi (G i) 1), i64 (gi (G i) 2), i64 (gi (G i) 3), .ro (cn (G i) 4) 2 (cg (G i) 4)]], fun w I vs h => ?_, by kernel_rfl,
      vc39 m _ _ _ _ _ _ a b c d (hob _ (by simp)) (fun i hi => ⟨(hs i hi).2.1, (hs i hi).2.2.1, (hs i hi).2.2.2.1⟩) (fun i hi => (hs i hi).2.2.2.2)⟩
    obtain ⟨v, vs', rfl, k1, k2⟩ := h.inv
    obtain ⟨v2, vs2, rfl, k3, k4⟩ := k2.inv
    exact .cons k1 (.cons k3 (Rs_one (fun v => ro_alike fun i hi => (hs i hi).1) k4))
  · cases hc
end Go.Ax
end

section
/-
  Ways and boxes.
-/
set_option linter.unusedVariables false
set_option linter.unusedSimpArgs false
set_option maxHeartbeats 4000000
set_option maxRecDepth 100000
namespace Go.Ax
open Go.Proofs
/-! ### An element of an array's value -/
section
variable {P : Program} {G : Ctx} {key : Nat} {d : Option Tmp} {q ty : TypeId} {pos : String} {af : Array Edge} {gd : Option (Nat × Bool)} {g : Option Bool} {ρ0 : Operand → AV} {m : Mem}
def idzE (P : Program) (q : TypeId) (a b : AV) : Option Eff := match flat a with
  | some x => match flat b with
    | some y => match pureRun P (Instr.index q x y) with
      | some v => some ⟨[], ofVal v, .none⟩
      | none => none
    | none => none
  | none => none
theorem aStep_idz {x i : Operand} : aStep P G key g ⟨d, .index q x i, ty, pos, af, gd⟩ ρ0 m = idzE P q (strip (ρ0 x)) (strip (ρ0 i)) := by
  show effOf (aPure P (fun x => strip (ρ0 x)) ⟨d, .index q x i, ty, pos, af, gd⟩) = _
  unfold aPure idzE
  dsimp only [Op.operands, List.map, flatAll]
  cases hx : flat (strip (ρ0 x)) with
  | none => rfl
  | some vx =>
    dsimp only
    cases hi : flat (strip (ρ0 i)) with
    | none => rfl
    | some vi =>
      dsimp only
      have : execOp (fun x => (flat (strip (ρ0 x))).getD undef) ⟨d, .index q x i, ty, pos, af, gd⟩ = Sem.bind (Instr.index q vx vi) fun v => Sem.pure (Next.value v) := by
        show Sem.bind (Instr.index q ((flat (strip (ρ0 x))).getD undef) ((flat (strip (ρ0 i))).getD undef)) (fun v => Sem.pure (Next.value v)) = _
        rw [hx, hi]; rfl
      rw [this, pureRun_bind]
      cases pureRun P (Instr.index q vx vi) <;> rfl
end
theorem idx125_0 {a b : Int} : idzE Tryz.prog 125 (.agg [i64 a, i64 b]) (.v (.int .i64 0)) = some ⟨[], i64 a, .none⟩ := by kernel_rfl
theorem idx125_1 {a b : Int} : idzE Tryz.prog 125 (.agg [i64 a, i64 b]) (.v (.int .i64 1)) = some ⟨[], i64 b, .none⟩ := by kernel_rfl
attribute [go_sem] aStep_idz idx125_0 idx125_1
/-- The box around a way. -/
def wayB (a b c d : Int) (k : Nat) : Int := joinT (IntKind.i64.wrap (a - 0)) (IntKind.i64.wrap (b - 0)) (IntKind.i64.wrap (a + 0)) (IntKind.i64.wrap (b + 0)) (IntKind.i64.wrap (c - 0)) (IntKind.i64.wrap (d - 0)) (IntKind.i64.wrap (c + 0)) (IntKind.i64.wrap (d + 0)) k
/-- The corner of a box. -/
def crS (a b c d x0 y0 x1 y1 : Int) (j : Nat) : Int := turnS a b c d (if j < 2 then x0 else x1) (if j % 2 = 0 then y0 else y1)
/-- The way meets the box. -/
def alS (x0 y0 x1 y1 a b c d : Int) : Bool := validS a b && (validS c d && (meetsS x0 y0 x1 y1 (wayB a b c d 0) (wayB a b c d 1) (wayB a b c d 2) (wayB a b c d 3) && (anyB (fun j => decide (crS a b c d x0 y0 x1 y1 j ≤ 0)) 4 && anyB (fun j => decide (0 ≤ crS a b c d x0 y0 x1 y1 j)) 4)))
def c40 : Con
  | [.agg [.v (.int .i64 x0), .v (.int .i64 y0), .v (.int .i64 x1), .v (.int .i64 y1)], .agg [.v (.int .i64 a), .v (.int .i64 b)], .agg [.v (.int .i64 c), .v (.int .i64 d)]] => some ([inR x0, inR y0, inR x1, inR y1, inR a, inR b, inR c, inR d], bo (alS x0 y0 x1 y1 a b c d))
  | _ => none
theorem con40 : ConOK Tryz.prog 40 c40 := ConOK.of (G := [(70, c70), (71, c71), (49, c49), (87, c87), (97, c97)]) (H := []) (.cons con70 (.cons con71 (.cons con49 (.cons con87 (.cons con97 .nil))))) Tryz.func40 fun l ob r hc hob => by
  unfold c40 at hc
  split at hc
  · rename_i x0 y0 x1 y1 a b c d
    cases hc
    have h_0 : inR x0 := hob _ (by simp)
    have h_1 : inR y0 := hob _ (by simp)
    have h_2 : inR x1 := hob _ (by simp)
    have h_3 : inR y1 := hob _ (by simp)
    have h_4 : inR a := hob _ (by simp)
    have h_5 : inR b := hob _ (by simp)
    have h_6 : inR c := hob _ (by simp)
    have h_7 : inR d := hob _ (by simp)
    refine ⟨by kernel_rfl, fnVC_go (rs := [.tmp 6]) rfl rfl ?_⟩
    simp only [go_sem, c70, c71, c49, c87, c97]
    have hsp : spots 2 (rowsOf 2 [i64 a, i64 b, i64 c, i64 d]) := spots2 rfl rfl h_4 h_5 h_6 h_7
    have hfa := fair2r (a := a) (b := b) (c := c) (d := d)
    rw [hfa]
    intro z hz
    have wv : z = true → validS a b = true ∧ validS c d = true ∧ IntKind.i64.wrap (a - 0) = a ∧ IntKind.i64.wrap (b - 0) = b ∧ IntKind.i64.wrap (a + 0) = a ∧ IntKind.i64.wrap (b + 0) = b ∧ IntKind.i64.wrap (c - 0) = c ∧ IntKind.i64.wrap (d - 0) = d ∧ IntKind.i64.wrap (c + 0) = c ∧ IntKind.i64.wrap (d + 0) = d := fun h => by
      have hv : validS a b = true ∧ validS c d = true := by rw [hz] at h; simpa using h
      refine ⟨hv.1, hv.2, ?_, ?_, ?_, ?_, ?_, ?_, ?_, ?_⟩ <;> (rw [wrap_in (by unfold inR at *; omega)]; omega)
    have wj : ∀ k, z = true → inR (wayB a b c d k) := fun k h => by
      obtain ⟨v1, v2, e1, e2, e3, e4, e5, e6, e7, e8⟩ := wv h
      unfold wayB joinT
      rw [e1, e2, e3, e4, e5, e6, e7, e8]
      rw [validS_iff] at v1 v2
      unfold inR
      split
      · split <;> omega
      · omega
    refine ⟨hsp, fun h => ?_, fun _ => trivial, fun z1 hz1 => ⟨fun _ => h_0, fun _ => h_1, fun _ => h_2, fun _ => h_3, fun h => wj 0 h, fun h => wj 1 h, fun h => wj 2 h, fun h => wj 3 h, fun h => ?_, fun h => ?_⟩⟩
    · obtain ⟨v1, v2, e1, e2, e3, e4, e5, e6, e7, e8⟩ := wv h
      rw [e1, e2, e3, e4, e5, e6, e7, e8]
      exact ⟨⟨h_4, h_5, h_4, h_5⟩, h_6, h_7, h_6, h_7⟩
    · unfold alS wayB
      rcases h with h | h
      · rw [hz] at h
        rw [← Bool.and_assoc, h, Bool.false_and]
      · rw [hz1] at h
        rw [h, Bool.false_and, Bool.and_false, Bool.and_false]
    · obtain ⟨v1, v2, _⟩ := wv h.1
      have hm := h.2
      rw [hz1] at hm
      have hms := of_decide_eq_true hm
      have hcb := checkBoxS_iff.1 hms.1
      have q00 : validS x0 y0 = true := validS_iff.2 (by omega)
      have q01 : validS x0 y1 = true := validS_iff.2 (by omega)
      have q10 : validS x1 y0 = true := validS_iff.2 (by omega)
      have q11 : validS x1 y1 = true := validS_iff.2 (by omega)
      have eal : alS x0 y0 x1 y1 a b c d = (anyB (fun j => decide (crS a b c d x0 y0 x1 y1 j ≤ 0)) 4 && anyB (fun j => decide (0 ≤ crS a b c d x0 y0 x1 y1 j)) 4) := by
        unfold alS wayB
        rw [v1, v2, hm]; rfl
      have c0 : crS a b c d x0 y0 x1 y1 0 = turnS a b c d x0 y0 := rfl
      have c1 : crS a b c d x0 y0 x1 y1 1 = turnS a b c d x0 y1 := rfl
      have c2 : crS a b c d x0 y0 x1 y1 2 = turnS a b c d x1 y0 := rfl
      have c3 : crS a b c d x0 y0 x1 y1 3 = turnS a b c d x1 y1 := rfl
      rw [eal]
      clear eal wv wj hms hm hz hz1
      generalize crS a b c d x0 y0 x1 y1 = T at *
      have w1 : IntKind.i64.wrap 1 = 1 := wrap_in (by unfold inR; omega)
      have w2 : IntKind.i64.wrap 2 = 2 := wrap_in (by unfold inR; omega)
      refine loopC_go (fun (i : Nat) => i ≤ 2) (fun i => 2 - i) (fun i => [(35, i64 i), (7, bo (anyB (fun j => decide (T j ≤ 0)) (2 * i))), (8, bo (anyB (fun j => decide (0 ≤ T j)) (2 * i)))]) (fun _ => []) [2, 1, 0] [36, 37, 10, 38, 39, 40, 41, 42, 43, 44, 45, 12, 46, 47, 48, 49, 50, 51, 13, 52, 53, 54, 55, 56, 57, 58, 59, 60, 61, 7, 8, 62, 43, 63, 35] 0 (by kernel_rfl) ?_ (Nat.zero_le _) ?_ ?_
      · intro x _; simp [goodNames]
      · simp only [go_sem, Nat.mul_zero, anyB]
      · intro i hi
        have hi : i = 0 ∨ i = 1 ∨ i = 2 := by omega
        rcases hi with rfl | rfl | rfl
        · simp only [go_sem]
          refine ⟨fun _ => ?_, fun h => (by cases h)⟩
          refine loopC_go (fun (j : Nat) => j ≤ 2) (fun j => 2 - j) (fun j => [(43, i64 j), (7, bo (anyB (fun j => decide (T j ≤ 0)) (0 + j))), (8, bo (anyB (fun j => decide (0 ≤ T j)) (0 + j)))]) (fun _ => []) [2, 1, 0] [44, 45, 12, 46, 47, 48, 49, 50, 51, 13, 52, 53, 54, 55, 56, 57, 58, 59, 60, 61, 7, 8, 62, 43] 0 (by kernel_rfl) ?_ (Nat.zero_le _) ?_ ?_
          · intro x _; simp [goodNames]
          · simp only [go_sem]
          · intro j hj
            have hj : j = 0 ∨ j = 1 ∨ j = 2 := by omega
            rcases hj with rfl | rfl | rfl
            · simp only [go_sem, c97]
              refine ⟨fun _ z hz => ⟨v1, v2, q00, fun z1 hz1 => ⟨1, by omega, by omega, by rw [hz1, w1]; rfl, ?_, ?_⟩⟩, fun h => by cases h⟩
              · rw [hz, ← c0]; rfl
              · rw [hz, ← c0]; rfl
            · simp only [go_sem, c97]
              refine ⟨fun _ z hz => ⟨v1, v2, q01, fun z1 hz1 => ⟨2, by omega, by omega, by rw [hz1, w2]; rfl, ?_, ?_⟩⟩, fun h => by cases h⟩
              · rw [hz, ← c1]; rfl
              · rw [hz, ← c1]; rfl
            · simp only [go_sem]
              refine ⟨fun h => h.elim, fun _ z hz => ⟨1, by omega, by omega, by rw [hz, w1]; rfl, rfl, rfl⟩⟩
        · simp only [go_sem]
          refine ⟨fun _ => ?_, fun h => (by cases h)⟩
          refine loopC_go (fun (j : Nat) => j ≤ 2) (fun j => 2 - j) (fun j => [(43, i64 j), (7, bo (anyB (fun j => decide (T j ≤ 0)) (2 + j))), (8, bo (anyB (fun j => decide (0 ≤ T j)) (2 + j)))]) (fun _ => []) [2, 1, 0] [44, 45, 12, 46, 47, 48, 49, 50, 51, 13, 52, 53, 54, 55, 56, 57, 58, 59, 60, 61, 7, 8, 62, 43] 0 (by kernel_rfl) ?_ (Nat.zero_le _) ?_ ?_
          · intro x _; simp [goodNames]
          · simp only [go_sem]
          · intro j hj
            have hj : j = 0 ∨ j = 1 ∨ j = 2 := by omega
            rcases hj with rfl | rfl | rfl
            · simp only [go_sem, c97]
              refine ⟨fun _ z hz => ⟨v1, v2, q10, fun z1 hz1 => ⟨1, by omega, by omega, by rw [hz1, w1]; rfl, ?_, ?_⟩⟩, fun h => by cases h⟩
              · rw [hz, ← c2]; rfl
              · rw [hz, ← c2]; rfl
            · simp only [go_sem, c97]
              refine ⟨fun _ z hz => ⟨v1, v2, q11, fun z1 hz1 => ⟨2, by omega, by omega, by rw [hz1, w2]; rfl, ?_, ?_⟩⟩, fun h => by cases h⟩
              · rw [hz, ← c3]; rfl
              · rw [hz, ← c3]; rfl
            · simp only [go_sem]
              refine ⟨fun h => h.elim, fun _ z hz => ⟨2, by omega, by omega, by rw [hz, w2]; rfl, rfl, rfl⟩⟩
        · simp only [go_sem]
          exact fun h => h.elim
  · cases hc
/-- How many of some are so. -/
def cntB (G : Nat → Bool) : Nat → Int
  | 0 => 0
  | n + 1 => if G n = true then cntB G n + 1 else cntB G n
theorem cntB_le {G : Nat → Bool} : ∀ n, 0 ≤ cntB G n ∧ cntB G n ≤ n ∧ (cntB G n < n ↔ anyB (fun j => !G j) n = true)
  | 0 => ⟨Int.le_refl _, Int.le_refl _, by simp [cntB, anyB]⟩
  | n + 1 => by
    obtain ⟨h1, h2, h3⟩ := cntB_le (G := G) n
    unfold cntB anyB
    by_cases e : G n = true
    · rw [if_pos e, e, Bool.not_true, Bool.or_false]
      exact ⟨by omega, by omega, by rw [← h3]; omega⟩
    · rw [if_neg e]
      have e : G n = false := Bool.eq_false_iff.2 e
      rw [e, Bool.not_false, Bool.or_true]
      exact ⟨by omega, by omega, by simp; omega⟩
def c41 : Con
  | [.agg [.v (.int .i64 x0), .v (.int .i64 y0), .v (.int .i64 x1), .v (.int .i64 y1)], .agg [.v (.int .i64 a), .v (.int .i64 b)], .agg [.v (.int .i64 c), .v (.int .i64 d)]] => some ([inR x0, inR y0, inR x1, inR y1, inR a, inR b, inR c, inR d], bo (alS x0 y0 x1 y1 a b c d))
  | _ => none
theorem con41 : ConOK Tryz.prog 41 c41 := ConOK.of (G := [(73, c73), (72, c72), (74, c71), (99, c49), (98, c98), (100, c100)]) (H := []) (.cons con73 (.cons con72 (.cons con74 (.cons con99 (.cons con98 (.cons con100 .nil)))))) Tryz.func41 fun l ob r hc hob => by
  unfold c41 at hc
  split at hc
  · rename_i x0 y0 x1 y1 a b c d
    cases hc
    have h_0 : inR x0 := hob _ (by simp)
    have h_1 : inR y0 := hob _ (by simp)
    have h_2 : inR x1 := hob _ (by simp)
    have h_3 : inR y1 := hob _ (by simp)
    have h_4 : inR a := hob _ (by simp)
    have h_5 : inR b := hob _ (by simp)
    have h_6 : inR c := hob _ (by simp)
    have h_7 : inR d := hob _ (by simp)
    refine ⟨by kernel_rfl, fnVC_go (rs := [.tmp 6]) rfl rfl ?_⟩
    simp only [go_sem, c73, c72, c71, c49, c98, c100]
    intro z hz z1 hz1 z2 hz2
    refine ⟨fun h => ?_, fun h => ?_⟩
    · unfold alS
      rw [← hz1, ← hz2]
      rcases h with (h | h) | h
      · have : meetsS x0 y0 x1 y1 (wayB a b c d 0) (wayB a b c d 1) (wayB a b c d 2) (wayB a b c d 3) = false := by
          unfold meetsS
          exact decide_eq_false fun k => by rw [← hz] at k; rw [k.1] at h; simp at h
        rw [this]; simp
      · rw [h]; rfl
      · rw [h]; simp
    have v1 : validS a b = true := by rw [← hz1]; exact h.1.2
    have v2 : validS c d = true := by rw [← hz2]; exact h.2
    intro z3 hz3 z4 hz4 z5 hz5 z6 hz6 z7 hz7 z8 hz8 z9 hz9 z10 hz10 z11 hz11 z12 hz12 z13 hz13 z14 hz14
    have e1 : IntKind.i64.wrap (a - 0) = a := by rw [wrap_in (by unfold inR at *; omega)]; omega
    have e2 : IntKind.i64.wrap (b - 0) = b := by rw [wrap_in (by unfold inR at *; omega)]; omega
    have e3 : IntKind.i64.wrap (a + 0) = a := by rw [wrap_in (by unfold inR at *; omega)]; omega
    have e4 : IntKind.i64.wrap (b + 0) = b := by rw [wrap_in (by unfold inR at *; omega)]; omega
    have e5 : IntKind.i64.wrap (c - 0) = c := by rw [wrap_in (by unfold inR at *; omega)]; omega
    have e6 : IntKind.i64.wrap (d - 0) = d := by rw [wrap_in (by unfold inR at *; omega)]; omega
    have e7 : IntKind.i64.wrap (c + 0) = c := by rw [wrap_in (by unfold inR at *; omega)]; omega
    have e8 : IntKind.i64.wrap (d + 0) = d := by rw [wrap_in (by unfold inR at *; omega)]; omega
    have ew : ∀ k, wayB a b c d k = joinT z3 z4 z5 z6 z7 z8 z9 z10 k := fun k => by rw [hz3, hz4, hz5, hz6, hz7, hz8, hz9, hz10]; rfl
    refine ⟨?_, fun z15 hz15 => ?_⟩
    · rw [hz3, hz4, hz5, hz6, hz7, hz8, hz9, hz10, e1, e2, e3, e4, e5, e6, e7, e8]
      exact ⟨⟨h_4, h_5, h_4, h_5⟩, h_6, h_7, h_6, h_7⟩
    rw [hz11, hz12, hz13, hz14, ← ew, ← ew, ← ew, ← ew] at hz15
    refine ⟨fun hm => ?_, fun hm => ?_⟩
    · unfold alS
      rw [← hz15, hm]; simp
    rw [hz15] at hm
    have hms := of_decide_eq_true hm
    have hcb := checkBoxS_iff.1 hms.1
    have q00 : validS x0 y0 = true := validS_iff.2 (by omega)
    have q01 : validS x0 y1 = true := validS_iff.2 (by omega)
    have q10 : validS x1 y0 = true := validS_iff.2 (by omega)
    have q11 : validS x1 y1 = true := validS_iff.2 (by omega)
    have eal : alS x0 y0 x1 y1 a b c d = (anyB (fun j => decide (crS a b c d x0 y0 x1 y1 j ≤ 0)) 4 && anyB (fun j => decide (0 ≤ crS a b c d x0 y0 x1 y1 j)) 4) := by
      unfold alS
      rw [v1, v2, hm]; rfl
    rw [eal]
    clear eal
    obtain ⟨T, hT⟩ : ∃ T : Nat → Int, T = fun j => if j = 0 then turnS a b c d x0 y0 else if j = 1 then turnS a b c d x1 y0 else if j = 2 then turnS a b c d x1 y1 else turnS a b c d x0 y1 := ⟨_, rfl⟩
    have c0 : T 0 = turnS a b c d x0 y0 := by rw [hT]; rfl
    have c1 : T 1 = turnS a b c d x1 y0 := by rw [hT]; rfl
    have c2 : T 2 = turnS a b c d x1 y1 := by rw [hT]; rfl
    have c3 : T 3 = turnS a b c d x0 y1 := by rw [hT]; rfl
    have eL : anyB (fun j => decide (crS a b c d x0 y0 x1 y1 j ≤ 0)) 4 = anyB (fun j => !decide (0 < T j)) 4 := by
      rw [Bool.eq_iff_iff]
      have k0 : crS a b c d x0 y0 x1 y1 0 = T 0 := by rw [c0]; rfl
      have k1 : crS a b c d x0 y0 x1 y1 1 = T 3 := by rw [c3]; rfl
      have k2 : crS a b c d x0 y0 x1 y1 2 = T 1 := by rw [c1]; rfl
      have k3 : crS a b c d x0 y0 x1 y1 3 = T 2 := by rw [c2]; rfl
      simp only [anyB, k0, k1, k2, k3, Bool.or_eq_true, decide_eq_true_eq, Bool.not_eq_true', decide_eq_false_iff_not, Bool.false_eq_true, false_or]
      omega
    have eR : anyB (fun j => decide (0 ≤ crS a b c d x0 y0 x1 y1 j)) 4 = anyB (fun j => !decide (T j < 0)) 4 := by
      rw [Bool.eq_iff_iff]
      have k0 : crS a b c d x0 y0 x1 y1 0 = T 0 := by rw [c0]; rfl
      have k1 : crS a b c d x0 y0 x1 y1 1 = T 3 := by rw [c3]; rfl
      have k2 : crS a b c d x0 y0 x1 y1 2 = T 1 := by rw [c1]; rfl
      have k3 : crS a b c d x0 y0 x1 y1 3 = T 2 := by rw [c2]; rfl
      simp only [anyB, k0, k1, k2, k3, Bool.or_eq_true, decide_eq_true_eq, Bool.not_eq_true', decide_eq_false_iff_not, Bool.false_eq_true, false_or]
      omega
    rw [eL, eR]
    have es : ∀ p q : Int, validS p q = true → (0 < sideS a b c d p q ↔ 0 < turnS a b c d p q) ∧ (sideS a b c d p q < 0 ↔ turnS a b c d p q < 0) := fun p q hv => by
      unfold sideS
      rw [if_pos ⟨v1, v2, hv⟩]
      split
      · omega
      · split <;> omega
    have s0 := es _ _ q00
    have s1 := es _ _ q10
    have s2 := es _ _ q11
    have s3 := es _ _ q01
    rw [← c0] at s0
    rw [← c1] at s1
    rw [← c2] at s2
    rw [← c3] at s3
    have bL := fun n => (cntB_le (G := fun j => decide (0 < T j)) n).1
    have bR := fun n => (cntB_le (G := fun j => decide (T j < 0)) n).1
    have bL2 := fun n => (cntB_le (G := fun j => decide (0 < T j)) n).2.1
    have bR2 := fun n => (cntB_le (G := fun j => decide (T j < 0)) n).2.1
    refine loopC_go (fun (i : Nat) => i ≤ 4) (fun i => 4 - i) (fun i => [(10, i64 i), (8, i64 (cntB (fun j => decide (0 < T j)) i)), (9, i64 (cntB (fun j => decide (T j < 0)) i))]) (fun _ => []) [46, 2, 1, 0] [55, 56, 57, 58, 61, 62, 63, 64, 65, 66, 67, 11, 68, 69, 70, 71, 8, 72, 73, 74, 75, 9, 59, 60, 10] 0 (by kernel_rfl) ?_ (Nat.zero_le _) ?_ ?_
    · intro x _; simp [goodNames]
    · simp only [go_sem, cntB]
    · intro i hi
      have hi : i = 0 ∨ i = 1 ∨ i = 2 ∨ i = 3 ∨ i = 4 := by omega
      have up : ∀ (G : Nat → Bool) n, G n = true → cntB G (n + 1) = cntB G n + 1 := fun G n h => by
        show (if G n = true then cntB G n + 1 else cntB G n) = _
        rw [if_pos h]
      have dn : ∀ (G : Nat → Bool) n, G n = false → cntB G (n + 1) = cntB G n := fun G n h => by
        show (if G n = true then cntB G n + 1 else cntB G n) = _
        rw [if_neg (by rw [h]; decide)]
      rcases hi with rfl | rfl | rfl | rfl | rfl
      · simp only [go_sem, c100]
        refine ⟨fun _ z hz => ?_, fun h => (by cases h)⟩
        rw [hz]
        rw [s0.1, s0.2]
        refine ⟨fun p z1 hz1 => ⟨fun q => by omega, fun q z2 hz2 => ⟨1, by omega, by omega, by rw [hz2, wrap_in (by unfold inR; omega)]; rfl, ?_, ?_⟩⟩, fun p => ⟨fun q z1 hz1 z2 hz2 => ⟨1, by omega, by omega, by rw [hz2, wrap_in (by unfold inR; omega)]; rfl, ?_, ?_⟩, fun q z1 hz1 => ⟨1, by omega, by omega, by rw [hz1, wrap_in (by unfold inR; omega)]; rfl, ?_, ?_⟩⟩⟩
        · rw [hz1, up (fun j => decide (0 < T j)) 0 (decide_eq_true p), wrap_in (by have := bL 0; have := bL2 0; unfold inR; omega)]
        · rw [dn (fun j => decide (T j < 0)) 0 (decide_eq_false q)]
        · rw [dn (fun j => decide (0 < T j)) 0 (decide_eq_false p)]
        · rw [hz1, up (fun j => decide (T j < 0)) 0 (decide_eq_true q), wrap_in (by have := bR 0; have := bR2 0; unfold inR; omega)]
        · rw [dn (fun j => decide (0 < T j)) 0 (decide_eq_false p)]
        · rw [dn (fun j => decide (T j < 0)) 0 (decide_eq_false q)]
      · simp only [go_sem, c100]
        refine ⟨fun _ z hz => ?_, fun h => (by cases h)⟩
        rw [hz]
        rw [s1.1, s1.2]
        refine ⟨fun p z1 hz1 => ⟨fun q => by omega, fun q z2 hz2 => ⟨2, by omega, by omega, by rw [hz2, wrap_in (by unfold inR; omega)]; rfl, ?_, ?_⟩⟩, fun p => ⟨fun q z1 hz1 z2 hz2 => ⟨2, by omega, by omega, by rw [hz2, wrap_in (by unfold inR; omega)]; rfl, ?_, ?_⟩, fun q z1 hz1 => ⟨2, by omega, by omega, by rw [hz1, wrap_in (by unfold inR; omega)]; rfl, ?_, ?_⟩⟩⟩
        · rw [hz1, up (fun j => decide (0 < T j)) 1 (decide_eq_true p), wrap_in (by have := bL 1; have := bL2 1; unfold inR; omega)]
        · rw [dn (fun j => decide (T j < 0)) 1 (decide_eq_false q)]
        · rw [dn (fun j => decide (0 < T j)) 1 (decide_eq_false p)]
        · rw [hz1, up (fun j => decide (T j < 0)) 1 (decide_eq_true q), wrap_in (by have := bR 1; have := bR2 1; unfold inR; omega)]
        · rw [dn (fun j => decide (0 < T j)) 1 (decide_eq_false p)]
        · rw [dn (fun j => decide (T j < 0)) 1 (decide_eq_false q)]
      · simp only [go_sem, c100]
        refine ⟨fun _ z hz => ?_, fun h => (by cases h)⟩
        rw [hz]
        rw [s2.1, s2.2]
        refine ⟨fun p z1 hz1 => ⟨fun q => by omega, fun q z2 hz2 => ⟨3, by omega, by omega, by rw [hz2, wrap_in (by unfold inR; omega)]; rfl, ?_, ?_⟩⟩, fun p => ⟨fun q z1 hz1 z2 hz2 => ⟨3, by omega, by omega, by rw [hz2, wrap_in (by unfold inR; omega)]; rfl, ?_, ?_⟩, fun q z1 hz1 => ⟨3, by omega, by omega, by rw [hz1, wrap_in (by unfold inR; omega)]; rfl, ?_, ?_⟩⟩⟩
        · rw [hz1, up (fun j => decide (0 < T j)) 2 (decide_eq_true p), wrap_in (by have := bL 2; have := bL2 2; unfold inR; omega)]
        · rw [dn (fun j => decide (T j < 0)) 2 (decide_eq_false q)]
        · rw [dn (fun j => decide (0 < T j)) 2 (decide_eq_false p)]
        · rw [hz1, up (fun j => decide (T j < 0)) 2 (decide_eq_true q), wrap_in (by have := bR 2; have := bR2 2; unfold inR; omega)]
        · rw [dn (fun j => decide (0 < T j)) 2 (decide_eq_false p)]
        · rw [dn (fun j => decide (T j < 0)) 2 (decide_eq_false q)]
      · simp only [go_sem, c100]
        refine ⟨fun _ z hz => ?_, fun h => (by cases h)⟩
        rw [hz]
        rw [s3.1, s3.2]
        refine ⟨fun p z1 hz1 => ⟨fun q => by omega, fun q z2 hz2 => ⟨4, by omega, by omega, by rw [hz2, wrap_in (by unfold inR; omega)]; rfl, ?_, ?_⟩⟩, fun p => ⟨fun q z1 hz1 z2 hz2 => ⟨4, by omega, by omega, by rw [hz2, wrap_in (by unfold inR; omega)]; rfl, ?_, ?_⟩, fun q z1 hz1 => ⟨4, by omega, by omega, by rw [hz1, wrap_in (by unfold inR; omega)]; rfl, ?_, ?_⟩⟩⟩
        · rw [hz1, up (fun j => decide (0 < T j)) 3 (decide_eq_true p), wrap_in (by have := bL 3; have := bL2 3; unfold inR; omega)]
        · rw [dn (fun j => decide (T j < 0)) 3 (decide_eq_false q)]
        · rw [dn (fun j => decide (0 < T j)) 3 (decide_eq_false p)]
        · rw [hz1, up (fun j => decide (T j < 0)) 3 (decide_eq_true q), wrap_in (by have := bR 3; have := bR2 3; unfold inR; omega)]
        · rw [dn (fun j => decide (0 < T j)) 3 (decide_eq_false p)]
        · rw [dn (fun j => decide (T j < 0)) 3 (decide_eq_false q)]
      · have k1 := (cntB_le (G := fun j => decide (0 < T j)) 4).2.2
        have k2 := (cntB_le (G := fun j => decide (T j < 0)) 4).2.2
        simp only [go_sem]
        refine ⟨fun h => h.elim, fun _ => ?_⟩
        rw [Bool.eq_iff_iff, Bool.and_eq_true, Bool.and_eq_true, ← k1, ← k2]
        simp
  · cases hc
end Go.Ax
end

section
/-
  Ways, the law's body.
-/
set_option linter.unusedVariables false
set_option linter.unusedSimpArgs false
set_option maxHeartbeats 4000000
set_option maxRecDepth 100000
namespace Go.Ax
open Go.Proofs
theorem vc8 (x0 y0 x1 y1 a b c d : Int) (m : Nat) (K X Y Z : Nat → Int) (N : Nat → Nat) (P Q : Nat → Nat → Int) (g1 : inR x0) (g2 : inR y0) (g3 : inR x1) (g4 : inR y1) (h1 : inR a) (h2 : inR b) (h3 : inR c) (h4 : inR d) (hX : ∀ i, i < m → inR (X i) ∧ inR (Y i) ∧ inR (Z i)) (hP : ∀ i j, i < m → j < N i → inR (P i j) ∧ inR (Q i j)) (hm : m ≤ 9223372036854775807) (hN : ∀ i, i < m → N i ≤ 9223372036854775807) :
    fnVC Tryz.prog [(13, c13), (14, c14), (15, c15), (19, c19), (34, c34), (39, c39), (40, c40), (41, c41)] [] Tryz.f8 [.agg [i64 x0, i64 y0, i64 x1, i64 y1], .agg [i64 a, i64 b], .agg [i64 c, i64 d], .ro m 5 fun i => formC (K i) (X i) (Y i) (Z i) (N i) (P i) (Q i)] (· = bo true) := by
  refine fnVC_go (rs := [.tmp 8]) rfl rfl ?_
  simp only [go_sem, c14]
  refine ⟨fun _ _ => trivial, fun hm8 => ?_⟩
  have hm8 : m ≤ 8 := by omega
  have sp : ∀ i, i < m → spots (N i) fun j => [i64 (P i j), i64 (Q i j)] := fun i hi j hj => ⟨rfl, hP i j hi hj⟩
  have hb : bytesT Tryz.prog 36 = 56 := by kernel_rfl
  refine loopN_go (fun (i : Nat) => i ≤ m ∧ ∀ j, j < i → N j ≤ 12) (fun i => m - i) (fun i => [(10, i64 i), (9, .own 9 0 i 5)]) (fun i => [(9, famN i 5 36 (fun j => formC (K j) (X j) (Y j) (Z j) (N j) (P j) (Q j)) none)]) [2, 1, 0] [20, 21, 22, 23, 26, 27, 28, 29, 30, 31, 32, 8, 33, 34, 35, 36, 37, 38, 39, 40, 9, 24, 25, 10] 1 0 (by kernel_rfl) ⟨Nat.zero_le _, fun j hj => by omega⟩ ⟨[(9, none)], ?_, ?_, ?_, ?_⟩ ?_
  · simp only [go_sem]
  · simp only [go_sem]
  · simp only [go_sem]
  · simp [goodNames, asg]
  intro i hi
  simp only [go_sem, c13, c14, c15, c34, c39]
  refine ⟨fun hin => ?_, fun hin => ?_⟩
  · have hin' : i < m := by omega
    refine ⟨by omega, hin, fun z hz => ⟨fun _ _ => trivial, fun h => ?_⟩⟩
    have hNi : N i ≤ 12 := by rw [hz] at h; have := of_decide_eq_true h; omega
    simp only [forall_eq]
    refine ⟨by omega, hin, sp i hin', by omega, by rw [hb]; omega, by omega, i + 1, ⟨by omega, fun j hj => ?_⟩, by omega, [(9, some 27)], ?_⟩
    · by_cases e : j = i
      · subst e; exact hNi
      · exact hi.2 j (by omega)
    · simp only [go_sem]
      refine ⟨by rw [wrap_in (by unfold inR; omega)]; rfl, fun j hj => ?_, by simp [goodNames, asg]⟩
      by_cases e : j < i
      · rw [if_pos e]; simp only [go_sem]
      · have e : j = i := by omega
        subst e
        rw [if_neg (by omega), Nat.sub_self]
        simp only [Nat.zero_mul, go_sem]
  · have e : i = m := by omega
    subst e
    have fo : forms i fun j => formC (K j) (X j) (Y j) (Z j) (N j) (P j) (Q j) := fun j hj => ⟨rfl, (hX j hj).1, (hX j hj).2.1, (hX j hj).2.2, sp j hj, by have := hi.2 j hj; show N j ≤ _; omega⟩
    refine ⟨by omega, fo, h1, h2, h3, h4, by omega, fo, ?_⟩
    refine loopC_go (fun (j : Nat) => j ≤ i) (fun j => i - j) (fun j => [(15, i64 j)]) (fun _ => []) [31, 21, 9, 2, 1, 0] [55, 56, 57, 58, 61, 62, 63, 64, 65, 66, 67, 68, 69, 70, 8, 59, 60, 15] 0 (by kernel_rfl) ?_ (Nat.zero_le _) ?_ ?_
    · intro x _; simp [goodNames]
    · simp only [go_sem]
    intro j hj
    simp only [go_sem, c19, c40, c41, c14]
    refine ⟨fun hin => ?_, fun hin => ?_⟩
    · have hj' : j < i := by omega
      have := hi.2 j hj'
      refine ⟨by omega, hin, hj', by omega, hin, fun z hz => ⟨sp j hj', sp j hj', by omega, by omega, fun h => ?_, fun h z1 hz1 => ⟨j + 1, by omega, by omega, ?_⟩⟩⟩
      · rw [hz, sameF_self] at h; cases h
      · rw [hz1, wrap_in (by unfold inR; omega)]; rfl
    · simp only [forall_eq, g1, g2, g3, g4, h1, h2, h3, h4, true_and, and_self, implies_true, beq_self_eq_true]
end Go.Ax
end

section
/-
  Iterators whose yield stands in a region that draws its order, behind all that draws.
-/
set_option linter.unusedSimpArgs false
set_option linter.unusedVariables false
namespace Go.Ax
open Go.RowKit
section
variable {P : Program} {G : Ctx} {ops : Array Oper} {base : Nat} {hot : Hot} {w0 : Base} {w : World} {ρ : Env} {m : Mem} {D : Nat → Prop} {t : Slots} {nt : Nat} {ds : Frm} {a : Act} {ro : Option Nat} {n : Nat} {Q : Exit → Act → World → Prop}

/-- What is to be done of the first k operations. -/
structure TodoK (ops : Array Oper) (k : Nat) (listed : Array Bool) (T : List (Nat × Oper)) : Prop where
  size : listed.size = ops.size
  mem : ∀ q, q ∈ T ↔ ops[q.1]? = some q.2 ∧ listed.getD q.1 true = false ∧ q.1 < k
  late : ∀ i, k ≤ i → listed.getD i false = false
  sorted : T.Pairwise fun p q => p.1 < q.1
  closed : ∀ i, listed.getD i false = true → ∀ b, ((masks ops.toList []).getD i 0).testBit b = true → listed.getD b false = true

/-- The first k operations come ahead of all others. -/
def firstK (ops : Array Oper) (k : Nat) : Bool := (List.range ops.size).all fun i => decide (i < k) || (List.range k).all fun b => ((masks ops.toList []).getD i 0).testBit b
theorem firstK_bit {k : Nat} (h : firstK ops k = true) {i b : Nat} (hi : i < ops.size) (hk : k ≤ i) (hb : b < k) : ((masks ops.toList []).getD i 0).testBit b = true := by
  unfold firstK at h
  rw [List.all_eq_true] at h
  have h1 := h i (List.mem_range.2 hi)
  rw [Bool.or_eq_true, decide_eq_true_eq] at h1
  have h2 := h1.resolve_left (by omega)
  rw [List.all_eq_true] at h2
  exact h2 b (List.mem_range.2 hb)

theorem any_pre (hG : CtxOK P G) (hd : drawOK hot ops = true) {k : Nat} (hk : k ≤ ops.size) (hfk : firstK ops k = true) (hfit : ∀ o ∈ ops.toList, ∀ j, o.dst = some j → j < nt ∧ ds.W j) {f' : Nat} :
    ∀ (c : Nat) (T : List (Nat × Oper)) (listed : Array Bool) (s s' : St) (ρ : Env) (a : Act) (w : World),
      TodoK ops k listed T → T.length = c → runL P G hot ops base T s s' → SR w0 ρ s.t s.m (listedD base listed) nt ds a w → (0 < c ∨ ∀ i, i < k → listed.getD i false = true) →
      (∀ listed' ρ' a' w', listed'.size = ops.size → (∀ i, listed'.getD i false = decide (i < k)) → SR w0 ρ' s'.t s'.m (· < base + k) nt ds a' w' → wpAnyIn (Fw ro) n P .any ops Q f' listed' a' w') →
      wpAnyIn (Fw ro) n P .any ops Q (c + f') listed a w := by
  intro c
  induction c with
  | zero =>
    intro T listed s s' ρ a w hT hl hr hs hall hK
    have : T = [] := List.eq_nil_of_length_eq_zero hl
    subst this
    simp only [runL] at hr
    subst hr
    have hall := hall.resolve_left (by omega)
    rw [Nat.zero_add]
    refine hK listed ρ a w hT.size (fun i => ?_) (hs.weaken fun r hr => ?_)
    · by_cases h : i < k
      · rw [hall i h, decide_eq_true h]
      · rw [hT.late i (by omega), decide_eq_false h]
    · rcases hr with hr | ⟨i, rfl, hr⟩
      · omega
      · by_cases h : i < k
        · omega
        · rw [hT.late i (by omega)] at hr; cases hr
  | succ c ih =>
    intro T listed s s' ρ a w hT hl hr hs _ hK
    rw [show c + 1 + f' = (c + f') + 1 by omega]
    have hne : ∃ q, q ∈ T := by
      cases T with
      | nil => simp at hl
      | cons q T => exact ⟨q, by simp⟩
    refine ⟨fun h0 => ?_, fun i hi => ?_⟩
    · exfalso
      cases T with
      | nil => simp at hl
      | cons q T =>
        obtain ⟨i, o⟩ := q
        obtain ⟨h1, h2, h3⟩ := (hT.mem (i, o)).1 (by simp)
        dsimp only at h1 h2 h3
        have : i ∈ Region.ready .any ops listed := by
          refine mem_ready.2 ⟨h2, o, h1, fun e he hb => ?_⟩
          have hlt := drawOK_edge hd h1 e he hb
          have hi : i < ops.size := by
            rw [Array.getElem?_eq_some_iff] at h1
            exact h1.1
          have hlt2 : e.on < listed.size := by rw [hT.size]; omega
          cases hl2 : listed.getD e.on false with
          | true => rfl
          | false =>
            exfalso
            have hm : (e.on, ops[e.on]'(by omega)) ∈ (i, o) :: T := (hT.mem _).2 ⟨by simp, by rw [getD_true_of hlt2]; exact hl2, by show e.on < k; omega⟩
            rcases List.mem_cons.1 hm with hm | hm
            · have := congrArg Prod.fst hm; dsimp only at this; omega
            · have := (List.pairwise_cons.1 hT.sorted).1 _ hm
              dsimp only at this
              omega
        rw [h0] at this
        simp at this
    · obtain ⟨hu, o, ho, hall⟩ := mem_ready.1 hi
      have hsz : i < ops.size := by
        have h1 := ho
        rw [Array.getElem?_eq_some_iff] at h1
        exact h1.1
      have hli : i < listed.size := by rw [hT.size]; exact hsz
      have hik : i < k := by
        refine Nat.lt_of_not_le fun hki => ?_
        obtain ⟨q, hq⟩ := hne
        obtain ⟨q1, q2, q3⟩ := (hT.mem q).1 hq
        have hb := firstK_bit hfk hsz hki q3
        obtain ⟨e, he, hbi, h3⟩ := mask_bit ho hb
        have hel := hall e he hbi
        have hql : q.1 < listed.size := by rw [hT.size]; omega
        rw [getD_true_of hql] at q2
        rcases h3 with h3 | h3
        · rw [← h3, hel] at q2; cases q2
        · rw [hT.closed _ hel _ h3] at q2; cases q2
      have hm : (i, o) ∈ T := (hT.mem _).2 ⟨ho, hu, hik⟩
      obtain ⟨L1, L2, rfl⟩ := List.append_of_mem hm
      have hs1 := List.pairwise_append.1 hT.sorted
      have hcm : ∀ q ∈ L1, q.1 ≠ i ∧ comm hot ops q.1 i q.2 o = true := fun q hq => by
        have hlt := hs1.2.2 q hq (i, o) (by simp)
        dsimp only at hlt
        obtain ⟨q1, q2, q3⟩ := (hT.mem q).1 (List.mem_append_left _ hq)
        refine ⟨by omega, ?_⟩
        rcases drawOK_comm hd q1 ho hlt with hb | hc
        · exfalso
          have hql : q.1 < listed.size := by omega
          rw [getD_true_of hql] at q2
          obtain ⟨e, he, hbi, h3⟩ := mask_bit ho hb
          have hel := hall e he hbi
          rcases h3 with h3 | h3
          · rw [← h3, hel] at q2; cases q2
          · rw [hT.closed _ hel _ h3] at q2; cases q2
        · exact hc
      obtain ⟨s1, ⟨e, he, hro, hob, hrest⟩, heq⟩ := bubble hcm hr
      have key : wpOpIn (Fw ro) n P ops Q i (wpAnyIn (Fw ro) n P .any ops Q (c + f') (listed.setIfInBounds i true)) a w := by
        unfold wpOpIn
        rw [ho]
        refine stepE_sound hG hs (key := base + i) ?_ (fun r x hx => look_restr hx) he hob (hfit _ (by
          rw [Array.getElem?_eq_some_iff] at ho
          obtain ⟨h1, rfl⟩ := ho
          simp)) fun ρ' v w' hs' => ?_
        · rintro (h | ⟨j, hj, h⟩)
          · omega
          · have : j = i := by omega
            subst this
            rw [getD_true_of hli, h] at hu
            cases hu
        · refine ih (L1 ++ L2) _ (stApp base i o e s) s1 ρ' _ w' ⟨by simpa using hT.size, fun q => ?_, fun j hj => ?_, ?_, ?_⟩ (by simp at hl ⊢; omega) hrest (hs'.weaken fun r hr => ?_) ?_ fun l' ρ'' a' w'' z1 z2 hq => hK l' ρ'' a' w'' z1 z2 (heq.m ▸ hq.congr heq.t.symm)
          · rw [getD_set hli]
            have h0 := hT.mem q
            simp only [List.mem_append, List.mem_cons] at h0 ⊢
            constructor
            · intro hq
              have hne : q.1 ≠ i := by
                rcases hq with hq | hq
                · have := hs1.2.2 q hq (i, o) (by simp); dsimp only at this; omega
                · have := (List.pairwise_cons.1 hs1.2.1).1 q hq; dsimp only at this; omega
              rw [if_neg hne]
              exact h0.1 (hq.imp id .inr)
            · rintro ⟨q1, q2, q3⟩
              split at q2
              · cases q2
              · rename_i hne
                rcases h0.2 ⟨q1, q2, q3⟩ with h | h | h
                · exact .inl h
                · subst h; exact absurd rfl hne
                · exact .inr h
          · rw [getD_set hli, if_neg (by omega)]; exact hT.late j hj
          · refine List.pairwise_append.2 ⟨hs1.1, (List.pairwise_cons.1 hs1.2.1).2, fun x hx y hy => hs1.2.2 x hx y (by simp [hy])⟩
          · intro j hj b hb
            rw [getD_set hli] at hj ⊢
            split
            · rfl
            · split at hj
              · rename_i e; subst e
                obtain ⟨e, he, hbi, h3⟩ := mask_bit ho hb
                have hel := hall e he hbi
                rcases h3 with h3 | h3
                · rw [← h3]; exact hel
                · exact hT.closed _ hel _ h3
              · exact hT.closed _ hj _ hb
          · rcases hr with (hr | ⟨j, hj, hr⟩) | hr
            · exact .inl hr
            · exact .inr ⟨j, hj, by rw [getD_set hli]; split <;> first | rfl | exact hr⟩
            · exact .inr ⟨i, hr, by rw [getD_set hli]; simp⟩
          · rcases Nat.eq_zero_or_pos c with h | h
            · right
              subst h
              intro j hj
              have hjl : j < listed.size := by rw [hT.size]; omega
              rw [getD_set hli]
              by_cases hne : j = i
              · rw [if_pos hne]
              · rw [if_neg hne]
                by_cases hc : listed.getD j false = true
                · exact hc
                · exfalso
                  have hc : listed.getD j false = false := Bool.eq_false_iff.2 hc
                  have hjm : (j, ops[j]'(by omega)) ∈ L1 ++ (i, o) :: L2 := (hT.mem _).2 ⟨by simp, by rw [getD_true_of hjl]; exact hc, hj⟩
                  have e0 : L1.length + L2.length = 0 := by
                    rw [List.length_append, List.length_cons] at hl
                    omega
                  have e1 : L1 = [] := List.eq_nil_of_length_eq_zero (by omega)
                  have e2 : L2 = [] := List.eq_nil_of_length_eq_zero (by omega)
                  rw [e1, e2] at hjm
                  simp at hjm
                  exact hne hjm.1
            · exact .inl h
      exact key

/-- The first k operations of a region that draws its order. -/
theorem region_splitA (hG : CtxOK P G) (hm : P.follows .mixedOrders = true) {id : Nat} (k : Nat) (hk : k ≤ ops.size) (hk0 : 0 < k) (hd : drawOK hot ops = true) (hfk : firstK ops k = true) {K : St → Prop} {s : St} (hfit : fitsOps nt ops.toList = true) (hW : ∀ j ∈ writesOps ops.toList, ds.W j)
    (h : regP P G (some hot) ops s.nx (ops.toList.take k) 0 s K) (hs : SR w0 ρ s.t s.m (· < s.nx) nt ds a w)
    (hK : ∀ s' listed' ρ' a' w', K s' → listed'.size = ops.size → (∀ i, listed'.getD i false = decide (i < k)) → SR w0 ρ' s'.t s'.m (· < s.nx + k) nt ds a' w' → wpAnyIn (Fw ro) n P .any ops Q (ops.size - k) listed' a' w') : (Code.region id ops true).wpIn (Fw ro) n P Q a w := by
  obtain ⟨s', h1, h2⟩ := regP_runL _ _ _ h
  have hl : (ops.toList.take k).length = k := by simp; omega
  refine wpIn_region_any hm ?_
  rw [hl] at h1
  have hz : ∀ q, q ∈ (List.range' 0 k).zip (ops.toList.take k) ↔ ops[q.1]? = some q.2 ∧ q.1 < k := fun q => by
    rw [List.mem_iff_getElem?]
    constructor
    · rintro ⟨i, hi⟩
      rw [List.getElem?_zip_eq_some] at hi
      obtain ⟨g1, g2⟩ := hi
      have hlt : i < k := by
        have := (List.getElem?_eq_some_iff.1 g2).1
        rw [hl] at this; exact this
      rw [List.getElem?_range' hlt] at g1
      simp at g1
      subst g1
      rw [List.getElem?_take_of_lt hlt] at g2
      exact ⟨by simpa using g2, hlt⟩
    · rintro ⟨h, hlt⟩
      refine ⟨q.1, ?_⟩
      rw [List.getElem?_zip_eq_some]
      refine ⟨?_, by rw [List.getElem?_take_of_lt hlt]; simpa using h⟩
      rw [List.getElem?_range' hlt]
      simp
  have hmain := any_pre (ro := ro) (n := n) (Q := Q) (f' := ops.size - k) hG hd hk hfk (fun o ho j hj => ⟨fitsOps_mem hfit ho j hj, hW j (writesOps_mem ho hj)⟩) k _ (Array.replicate ops.size false) s s' ρ a { w with drawn := w.drawn + 1 }
    ⟨by simp, fun q => ?_, fun i hi => ?_, ?_, fun i hi => ?_⟩ (by rw [List.length_zip, hl]; simp) h1 (hs.draw.weaken fun r hr => .inl hr) (.inl hk0) (fun l' ρ' a' w' z1 z2 z3 => hK s' l' ρ' a' w' h2 z1 z2 z3)
  · rw [show k + (ops.size - k) = ops.size by omega] at hmain
    exact hmain
  · rw [hz]
    constructor
    · rintro ⟨h, h3⟩
      refine ⟨h, ?_, h3⟩
      have hlt := (Array.getElem?_eq_some_iff.1 h).1
      simp [Array.getD_eq_getD_getElem?, Array.getElem?_replicate, hlt]
    · exact fun h => ⟨h.1, h.2.2⟩
  · simp [Array.getD_eq_getD_getElem?, Array.getElem?_replicate]
    split <;> rfl
  · refine List.Pairwise.of_map (S := (· < ·)) Prod.fst (fun _ _ h => h) ?_
    rw [List.map_fst_zip (by rw [hl]; simp)]
    exact List.pairwise_lt_range'
  · simp [Array.getD_eq_getD_getElem?, Array.getElem?_replicate] at hi
    split at hi <;> simp at hi
end
end Go.Ax
end

section
/-
  Corners of shapes: the iterator over them.
-/
set_option linter.unusedVariables false
set_option linter.unusedSimpArgs false
set_option maxHeartbeats 4000000
set_option maxRecDepth 100000
namespace Go.Ax
open Go.Proofs Go.RowKit
/-- The next corner but one. -/
def nxt2 (n i : Nat) : Nat := nxt n (nxt n i)
theorem nxt2_lt {n i : Nat} (h : i < n) : nxt2 n i < n := nxt_lt (nxt_lt h)
theorem tmod_nxt2 {n i : Nat} (h : i < n) : Int.tmod ((i : Int) + 2) n = (nxt2 n i : Nat) := by
  have e : ((i : Int) + 2) = ((i + 2 : Nat) : Int) := rfl
  rw [e, Int.tmod_eq_emod_of_nonneg (by omega), ← Int.natCast_emod]
  congr 1
  unfold nxt2 nxt
  by_cases h2 : i + 2 < n
  · rw [Nat.mod_eq_of_lt h2, if_pos (show i + 1 < n by omega), if_pos h2]
  · by_cases h1 : i + 1 < n
    · have : i + 2 = n := by omega
      rw [if_pos h1, if_neg (by omega), this, Nat.mod_self]
    · have : i + 1 = n := by omega
      rw [if_neg h1, Nat.mod_eq_sub_mod (by omega), show i + 2 - n = 1 by omega]
      by_cases h0 : 0 + 1 < n
      · rw [if_pos h0, Nat.mod_eq_of_lt h0]
      · rw [if_neg h0, show n = 1 by omega]
/-- A corner and the two behind it. -/
def cornerE (n : Nat) (g : Nat → List AV) (i : Nat) : List AV := [.agg [i64 i, i64 (gx g 0 i), i64 (gx g 1 i), i64 (gx g 0 (nxt n i)), i64 (gx g 1 (nxt n i)), i64 (gx g 0 (nxt2 n i)), i64 (gx g 1 (nxt2 n i))]]
def c219 : Con
  | [.rop [.ro n 2 g]] => some ([spots n g, n ≤ 9223372036854775800], .ro n 1 (cornerE n g))
  | _ => none
/-- At the head of the loop. -/
structure At219 (I : Nat → Prop) (w : World) (J : Nat → World → Prop) (l n : Nat) (v1 : Value) (i : Nat) (a : Act) (W : World) : Prop where
  sz : a.tmps.size = 35
  de : a.defers = []
  t0 : a.tmps.getD 0 undef = .func (.yield l) #[] #[]
  t1 : a.tmps.getD 1 undef = v1
  t3 : a.tmps.getD 3 undef = .int .i64 n
  t7 : a.tmps.getD 7 undef = .int .i64 n
  t8 : a.tmps.getD 8 undef = .int .i64 i
  le : i ≤ n
  j : J i W
  same : Same I w W
theorem listed_eq {L : Array Bool} {n k : Nat} (hs : L.size = n) (h : ∀ i, L.getD i false = decide (i < k)) : L = ((List.range n).map fun i => decide (i < k)).toArray := by
  apply Array.ext
  · simp [hs]
  · intro i h1 h2
    have := h i
    rw [Array.getD_eq_getD_getElem?, Array.getElem?_eq_getElem h1] at this
    simpa using this
theorem wpOps_free' {P : Program} {n : Nat} {Q : Exit → Act → World → Prop} {a : Act} {w : World} {ro : Option Nat} {ops : Array Oper} {i : Nat} {o : Oper} {K : Act → World → Prop} (ho : ops[i]? = some o) (hg : o.guard = none) (h : o.wpIn (Fw ro) n P a w K Q) : wpOpIn (Fw ro) n P ops Q i K a w := by
  unfold wpOpIn
  rw [ho]
  dsimp only
  rw [if_pos (by simp [Region.wanted, hg])]; exact h
theorem no_nil {l : List Nat} {k : Nat} (e : l = [k]) (h : l = []) : False := by rw [e] at h; cases h
theorem mem_one {l : List Nat} {i k : Nat} (h : l = [k]) (hi : i ∈ l) : i = k := by rw [h] at hi; simpa using hi
theorem seq219 : SeqOK Tryz.prog 219 c219 := by
  intro es ob N k sq hc hob
  unfold c219 at hc
  split at hc
  case h_2 => cases hc
  rename_i n g
  simp only [Option.some.injEq, Prod.mk.injEq, AV.ro.injEq] at hc
  obtain ⟨rfl, rfl, rfl, rfl⟩ := hc
  have hsp : spots n g := hob _ (by simp)
  have hn : n ≤ 9223372036854775800 := hob _ (by simp)
  intro I w vs nn l J Jx hI hRs hJ hJx h0 hy
  obtain ⟨v1, rest, rfl, hv1, hrest⟩ := hRs.inv
  have : rest = [] := by have := hrest.1; simpa using this
  subst this
  cases hv1 with
  | rop b o hib hex hr =>
  obtain ⟨x, hx⟩ := hex 0 (by simp)
  have hx : Has w b o x := hx
  have hib : I b := hib
  have hxr : R w (.ext I) (.ro n 2 (sg g)) x := ro_alike (fun i hi => (hsp i hi).1) (hr 0 _ x rfl hx)
  have hvr : R w (.ext I) (.rop [.ro n 2 (sg g)]) (.pointer (some ⟨b, o, none⟩)) := rop1 hib hx hxr
  refine ⟨callFunc_enter Tryz.func219 (by kernel_rfl) rfl, ?_⟩
  refine callsIn_of_wp_marks (F := Fence.wide) Tryz.func219 rfl trivial ?_
  have hm : Tryz.prog.follows .mixedOrders = true := by kernel_rfl
  rw [show Tryz.f219.ntmps = 35 from by kernel_rfl]
  generalize hes : (#[Value.func (.yield l) #[] #[]] ++ [Value.pointer (some ⟨b, o, none⟩)].toArray : Array Value) = es
  have hes2 : es.size = 2 := by rw [← hes]; rfl
  have hes0 : es[0]? = some (.func (.yield l) #[] #[]) := by rw [← hes]; rfl
  have hes1 : es[1]? = some (.pointer (some ⟨b, o, none⟩)) := by rw [← hes]; rfl
  generalize ha : (Act.mk (es ++ Array.replicate (35 - es.size) undef) []) = a
  have hsz : a.tmps.size = 35 := by rw [← ha]; exact start_size (by omega)
  have hde : a.defers = [] := by rw [← ha]
  have ht0 : a.tmps.getD 0 undef = .func (.yield l) #[] #[] := by rw [← ha]; exact start_get hes0
  have ht1 : a.tmps.getD 1 undef = .pointer (some ⟨b, o, none⟩) := by rw [← ha]; exact start_get hes1
  clear ha hes hes0 hes1 hes2
  have keepR : ∀ {av : AV} {v : Value} {W : World}, R w (.ext I) av v → Same I w W → R W (.ext I) av v := fun h hs => h.mono (.refl _) hs
  have ltI : ∀ {W : World}, Same I w W → ∀ b, I b → b < W.heap.size := fun {W} hs b hb => by
    have h1 := hs b hb
    have h2 := hI b hb
    rw [Array.getElem?_eq_getElem h2] at h1
    exact (Array.getElem?_eq_some_iff.1 h1).1
  -- region 0
  refine wpIn_seq (pieceI (G := []) (H := []) .nil hm (l := [(1, .rop [.ro n 2 (sg g)])]) (W := [5, 6, 3]) (K := fun e s => match e with | .normal => slot s.t 3 = i64 n | _ => False) (by kernel_rfl) (by kernel_rfl) (by kernel_rfl) ?_ hI hsz ?_ ?_)
  · refine awp_go (K1 := fun e t _ => match e with | .normal => slot t 3 = i64 n | _ => False) ?_
    simp only [go_sem, List.range, List.range.loop]
  · intro p hp; simp only [List.mem_singleton] at hp; subst hp; dsimp only; rw [ht1]; exact hvr
  intro e s1 ρ1 a1 w1 k1 k2
  cases e with
  | exit j => exact k1.elim
  | ret => exact k1.elim
  | normal =>
  have bel1 : RowKit.Below w.heap.size w w1 := k2.rel.below
  have hs1 : Same I w w1 := Same.of_below bel1 hI
  have hj1 : J 0 w1 := hJ 0 w w1 h0 bel1
  have u0 : a1.tmps.getD 0 undef = .func (.yield l) #[] #[] := (k2.frame 0 (show ¬ (0 : Nat) ∈ [5, 6, 3] by decide)).trans ht0
  have u1 : a1.tmps.getD 1 undef = .pointer (some ⟨b, o, none⟩) := (k2.frame 1 (show ¬ (1 : Nat) ∈ [5, 6, 3] by decide)).trans ht1
  have u3 := k2.val k1
  have usz := k2.size
  have ude : a1.defers = [] := k2.defers.trans hde
  clear k1 k2 s1 ρ1 hsz hde ht0 ht1
  -- region 1
  refine wpIn_seq (pieceI (G := []) (H := []) .nil hm (l := [(3, i64 n)]) (W := [7, 8]) (K := fun e s => match e with | .normal => slot s.t 7 = i64 n ∧ slot s.t 8 = i64 0 | _ => False) (by kernel_rfl) (by kernel_rfl) (by kernel_rfl) ?_ (ltI hs1) usz ?_ ?_)
  · refine awp_go (K1 := fun e t _ => match e with | .normal => slot t 7 = i64 n ∧ slot t 8 = i64 0 | _ => False) ?_
    simp only [go_sem, List.range, List.range.loop]
  · intro p hp; simp only [List.mem_singleton] at hp; subst hp; dsimp only; rw [u3]; exact .v
  intro e s3 ρ3 a3 w3 k1 k2
  cases e with
  | exit j => exact k1.elim
  | ret => exact k1.elim
  | normal =>
  have bel3 : RowKit.Below w1.heap.size w1 w3 := k2.rel.below
  have hs3 : Same I w w3 := hs1.trans (Same.of_below bel3 (ltI hs1))
  have hAt0 : At219 I w J l n (.pointer (some ⟨b, o, none⟩)) 0 a3 w3 :=
    ⟨k2.size, k2.defers.trans ude, (k2.frame 0 (show ¬ (0 : Nat) ∈ [7, 8] by decide)).trans u0, (k2.frame 1 (show ¬ (1 : Nat) ∈ [7, 8] by decide)).trans u1, (k2.frame 3 (show ¬ (3 : Nat) ∈ [7, 8] by decide)).trans u3,
      k2.val k1.1, k2.val k1.2, Nat.zero_le _, hJ 0 w1 w3 hj1 bel3, hs3⟩
  clear k1 k2 s3 ρ3 bel3 hs3 hj1 hs1 u0 u1 u3 usz ude
  refine wpIn_block (wpIn_loop_rounds (n + 1) ?_)
  obtain ⟨i, hAt, hlt⟩ : ∃ i, At219 I w J l n (.pointer (some ⟨b, o, none⟩)) i a3 w3 ∧ n - i < n + 1 := ⟨0, hAt0, by omega⟩
  clear hAt0
  generalize n + 1 = fuel at hlt ⊢
  induction fuel generalizing i a3 w3 with
  | zero => omega
  | succ fuel ih =>
  rw [roundsIn_succ]
  -- the guard
  refine wpIn_seq (pieceI (G := []) (H := []) .nil hm (l := [(7, i64 n), (8, i64 i)]) (W := [9]) (K := fun e s => match e with | .normal => slot s.t 9 = bo (decide ((i : Int) < n)) | _ => False) (by kernel_rfl) (by kernel_rfl) (by kernel_rfl) ?_ (ltI hAt.same) hAt.sz ?_ ?_)
  · refine awp_go (K1 := fun e t _ => match e with | .normal => slot t 9 = bo (decide ((i : Int) < n)) | _ => False) ?_
    simp only [go_sem, List.range, List.range.loop]
  · intro p hp
    simp only [List.mem_cons, List.mem_singleton, List.not_mem_nil, or_false] at hp
    rcases hp with rfl | rfl
    · dsimp only; rw [hAt.t7]; exact .v
    · dsimp only; rw [hAt.t8]; exact .v
  intro e s1 ρ1 a1 w1 k1 k2
  cases e with
  | exit j => exact k1.elim
  | ret => exact k1.elim
  | normal =>
  have bel1 : RowKit.Below w3.heap.size w3 w1 := k2.rel.below
  have hs1 : Same I w w1 := hAt.same.trans (Same.of_below bel1 (ltI hAt.same))
  have hj1 : J i w1 := hJ i w3 w1 hAt.j bel1
  have v9 := k2.val k1
  have d1 : a1.defers = [] := k2.defers.trans hAt.de
  have z1 := k2.size
  have f1 : ∀ j, ¬ j ∈ [9] → a1.tmps.getD j undef = a3.tmps.getD j undef := k2.frame
  clear k1 k2 s1 ρ1
  refine wpIn_seq (wpIn_cond_split (t := decide ((i : Int) < n)) v9 ?_ ?_)
  case refine_2 =>
    intro hf
    have hin : i = n := by have := hAt.le; simp at hf; omega
    subst hin
    refine wpIn_exit ?_
    show LeavesInM Fence.wide nn Tryz.prog Tryz.f219 a1.tmps _ a1.defers .returning w1
    exact leave_nil d1 rfl fun v => ⟨⟨v, rfl⟩, .inl hj1⟩
  intro ht
  have hin : i < n := by simp at ht; omega
  refine wpIn_skip ?_
  refine wpIn_seq (wpIn_block ?_)
  -- region 3
  refine wpIn_seq (pieceI (G := []) (H := []) .nil hm (l := [(8, i64 i)]) (W := [10, 4]) (K := fun e s => match e with | .normal => slot s.t 4 = i64 i | _ => False) (by kernel_rfl) (by kernel_rfl) (by kernel_rfl) ?_ (ltI hs1) z1 ?_ ?_)
  · refine awp_go (K1 := fun e t _ => match e with | .normal => slot t 4 = i64 i | _ => False) ?_
    simp only [go_sem, List.range, List.range.loop]
  · intro p hp; simp only [List.mem_singleton] at hp; subst hp; dsimp only; rw [f1 8 (by decide), hAt.t8]; exact .v
  intro e s4 ρ4 a4 w4 k1 k2
  cases e with
  | exit j => exact k1.elim
  | ret => exact k1.elim
  | normal =>
  have bel4 : RowKit.Below w1.heap.size w1 w4 := k2.rel.below
  have hs4 : Same I w w4 := hs1.trans (Same.of_below bel4 (ltI hs1))
  have hj4 : J i w4 := hJ i w1 w4 hj1 bel4
  have v4 := k2.val k1
  have d4 : a4.defers = [] := k2.defers.trans d1
  have z4 := k2.size
  have f4 : ∀ j, ¬ j ∈ [9] → ¬ j ∈ [10, 4] → a4.tmps.getD j undef = a3.tmps.getD j undef := fun j h1 h2 => (k2.frame j h2).trans (f1 j h1)
  clear k1 k2 s4 ρ4 f1 z1 d1 v9 hj1 hs1 bel1 bel4
  -- region 4: all but the yield
  obtain ⟨K1, hK1⟩ : ∃ K1 : Slots → Prop, K1 = fun t => slot t 11 = .v (.func (.yield l) #[] #[]) ∧ [slot t 31] = cornerE n g i := ⟨_, rfl⟩
  refine wpIn_seq (region_splitA (G := []) (nt := 35) (hot := ⟨[], []⟩) (s := ⟨[(0, .v (.func (.yield l) #[] #[])), (1, .rop [.ro n 2 (sg g)]), (3, i64 n), (4, i64 i)] ++ anyS (List.range 35), [], 0⟩) (ds := ⟨a4.defers, (· ∈ [11, 12, 13, 14, 15, 16, 17, 18, 19, 20, 21, 22, 23, 24, 25, 26, 27, 28, 29, 30, 31, 32, 33]), a4.tmps⟩) .nil hm 21 (by decide) (by decide) (by kernel_rfl) (by kernel_rfl) (K := fun s => K1 s.t) (by kernel_rfl) (fun j hj => hj) ?_ (SR.anew (ltI hs4) (slots_R z4 ?_) z4 rfl (fun _ _ => rfl)) ?_)
  · show regC Tryz.prog [] [] (fun _ s => K1 s.t) (some ⟨[], []⟩) _ _ 0 [] _ [] 0
    have hn0 : ((n : Int) = 0) = False := eq_false (by omega)
    simp only [go_sem, List.range, List.range.loop, sg_eq, hn0]
    subst hK1
    have e1 : IntKind.i64.wrap ((i : Int) + 1) = i + 1 := wrap_in (by unfold inR; omega)
    have e2 : IntKind.i64.wrap ((i : Int) + 2) = i + 2 := wrap_in (by unfold inR; omega)
    have l1 := nxt_lt hin
    have l2 := nxt2_lt hin
    refine ⟨by omega, by omega, fun z hz z1 hz1 => ?_⟩
    rw [hz, e1, tmod_nxt hin] at hz1
    subst hz1
    refine ⟨by omega, by omega, fun z2 hz2 z3 hz3 => ?_⟩
    rw [hz2, e2, tmod_nxt2 hin] at hz3
    subst hz3
    refine ⟨by omega, by omega, ?_⟩
    simp only [slot_cons, Nat.reduceEqDiff, if_true, if_false, reduceIte, true_and, cornerE, gx, Int.toNat_natCast]
  · intro p hp
    simp only [List.mem_cons, List.mem_singleton, List.not_mem_nil, or_false] at hp
    rcases hp with rfl | rfl | rfl | rfl
    · dsimp only; rw [f4 0 (by decide) (by decide), hAt.t0]; exact .v
    · dsimp only; rw [f4 1 (by decide) (by decide), hAt.t1]; exact keepR hvr hs4
    · dsimp only; rw [f4 3 (by decide) (by decide), hAt.t3]; exact .v
    · dsimp only; rw [v4]; exact .v
  intro s5 L ρ2 a2 w2 k1 hL1 hL2 k2
  subst hK1
  have bel2 : RowKit.Below w4.heap.size w4 w2 := k2.rel.below
  have hs2 : Same I w w2 := hs4.trans (Same.of_below bel2 (ltI hs4))
  have hj2 : J i w2 := hJ i w4 w2 hj4 bel2
  have v11 := k2.val k1.1
  have e31 : slot s5.t 31 = .agg [i64 i, i64 (gx g 0 i), i64 (gx g 1 i), i64 (gx g 0 (nxt n i)), i64 (gx g 1 (nxt n i)), i64 (gx g 0 (nxt2 n i)), i64 (gx g 1 (nxt2 n i))] := by have := k1.2; unfold cornerE at this; exact (List.cons.inj this).1
  have hargs : Rs w2 (.ext I) (cornerE n g i) [a2.tmps.getD 31 undef] := by
    have q31 := k2.slots 31
    rw [e31] at q31
    exact .cons (plain_sound 3 rfl q31) .nil
  have d2 : a2.defers = [] := k2.defers.trans d4
  have z2 := k2.size
  have f2 := k2.frame
  clear k1 e31
  have hL : L = ((List.range 23).map fun i => decide (i < 21)).toArray := listed_eq hL1 hL2
  subst hL
  have z32 : 32 < a2.tmps.size := by rw [z2]; decide
  refine ⟨fun h => (no_nil (k := 21) (by kernel_rfl) h).elim, fun j hj => ?_⟩
  have hj : j = 21 := mem_one (by kernel_rfl) hj
  subst hj
  refine wpOps_free' rfl rfl (yield_op (l := l) [a2.tmps.getD 31 undef] rfl v11 (by simp [Act.eval]) (hy i w2 _ hin hj2 hs2 hargs) ?_)
  intro e W hpost
  obtain ⟨r, he, hsm, hjt, hjf⟩ : ∃ r, e = .returned (.bool r) ∧ Same I w2 W ∧ (r = true → J (i + 1) W) ∧ (r = false → Jx W) := by
    obtain ⟨hsm, ⟨rfl, hj⟩ | ⟨rfl, hj⟩⟩ := hpost
    · exact ⟨true, rfl, hsm, fun _ => hj, fun h => (by cases h)⟩
    · exact ⟨false, rfl, hsm, fun h => (by cases h), fun _ => hj⟩
  subst he
  refine ⟨_, rfl, ?_⟩
  have hs5 : Same I w W := hs2.trans hsm
  refine ⟨fun h => (no_nil (k := 22) (by kernel_rfl) h).elim, fun j hj => ?_⟩
  have hj : j = 22 := mem_one (by kernel_rfl) hj
  subst hj
  have q0 : SR ⟨W, I, [], []⟩ (.ext I) ([(32, bo r)] ++ anyS (List.range 35)) [] (· < 0) 35 ⟨[], (· ∈ [33]), (a2.put (some 32) (.bool r)).tmps⟩ (a2.put (some 32) (.bool r)) W := SR.anew (ltI hs5) (slots_R ((put_size _ _).trans z2) (fun p hp => by
    simp only [List.mem_singleton] at hp; subst hp; dsimp only; rw [put_at z32]; exact .v)) ((put_size _ _).trans z2) d2 (fun _ _ => rfl)
  refine wpOps_free' rfl rfl ?_
  refine aStep_sound (G := []) (key := 0) (g := none) (m' := []) (e := ⟨[], bo (!r), .none⟩) (ρ0 := opd ([(32, bo r)] ++ anyS (List.range 35))) .nil q0.rel (by simp) (fun _ _ h => h) (by kernel_rfl) (fun q hq => by simp [owed, isPick, needs, Op.operands, opd, slot] at hq) q0.opd fun v w5 hpost => ?_
  obtain ⟨ρ5, p1, p2, p3, p4⟩ := hpost
  have bel5 : RowKit.Below W.heap.size W w5 := p2.below
  have hs6 : Same I w w5 := hs5.trans (Same.of_below bel5 (ltI hs5))
  cases p1
  have hput : ∀ j, 33 ≠ j → 32 ≠ j → (((a2.put (some 32) (.bool r)).put (some 33) (.bool (!r))).tmps.getD j undef) = a2.tmps.getD j undef := fun j h1 h2 => by
    rw [put_not (by rw [put_size, z2]; decide) h1, put_not z32 h2]
  have z33 : 33 < (a2.put (some 32) (.bool r)).tmps.size := by rw [put_size, z2]; decide
  have v33 : ((a2.put (some 32) (.bool r)).put (some 33) (.bool (!r))).tmps.getD 33 undef = .bool (!r) := put_at z33
  have z5 : ((a2.put (some 32) (.bool r)).put (some 33) (.bool (!r))).tmps.size = 35 := ((put_size _ _).trans (put_size _ _)).trans z2
  have d5 : ((a2.put (some 32) (.bool r)).put (some 33) (.bool (!r))).defers = [] := d2
  show wpAnyIn (Fw none) nn Tryz.prog .any _ _ 0 _ ((a2.put (some 32) (.bool r)).put (some 33) (.bool (!r))) w5
  generalize (a2.put (some 32) (.bool r)).put (some 33) (.bool (!r)) = a5 at *
  refine ⟨by kernel_rfl, ?_⟩
  refine wpIn_cond_split (t := !r) v33 (fun hb => ?_) (fun hb => ?_)
  · have hr : r = false := by simpa using hb
    have hjx : Jx w5 := hJx W w5 (hjf hr) bel5
    refine wpIn_ret ?_
    show LeavesInM Fence.wide nn Tryz.prog Tryz.f219 a5.tmps _ a5.defers .returning w5
    exact leave_nil d5 rfl fun v => ⟨⟨v, rfl⟩, .inr hjx⟩
  · have hr : r = true := by simpa using hb
    have hj5 : J (i + 1) w5 := hJ (i + 1) W w5 (hjt hr) bel5
    refine wpIn_skip ?_
    show Code.wpIn Fence.wide nn Tryz.prog (Code.region 5 _ false) _ a5 w5
    have g2 : ∀ j, ¬ j ∈ [9] → ¬ j ∈ [10, 4] → ¬ j ∈ [11, 12, 13, 14, 15, 16, 17, 18, 19, 20, 21, 22, 23, 24, 25, 26, 27, 28, 29, 30, 31, 32, 33] → a5.tmps.getD j undef = a3.tmps.getD j undef := fun j h1 h2 h3 => by
      rw [hput j (fun h => h3 (by subst h; decide)) (fun h => h3 (by subst h; decide)), f2 j h3, f4 j h1 h2]
    refine pieceI (G := []) (H := []) .nil hm (l := [(8, i64 i)]) (W := [34, 8]) (K := fun e s => match e with | .normal => slot s.t 8 = i64 (i + 1) | _ => False) (by kernel_rfl) (by kernel_rfl) (by kernel_rfl) ?_ (ltI hs6) z5 ?_ ?_
    · refine awp_go (K1 := fun e t _ => match e with | .normal => slot t 8 = i64 (i + 1) | _ => False) ?_
      simp only [go_sem, List.range, List.range.loop]
      intro z hz
      have e1 : IntKind.i64.wrap ((i : Int) + 1) = i + 1 := wrap_in (by unfold inR; omega)
      rw [hz, e1]
    · intro p hp; simp only [List.mem_singleton] at hp; subst hp; dsimp only; rw [g2 8 (by decide) (by decide) (by decide), hAt.t8]; exact .v
    intro e s6 ρ6 a6 w6 q1 q2
    cases e with
    | exit j => exact q1.elim
    | ret => exact q1.elim
    | normal =>
    have bel6 : RowKit.Below w5.heap.size w5 w6 := q2.rel.below
    have f6 : ∀ j, ¬ j ∈ [34, 8] → a6.tmps.getD j undef = a5.tmps.getD j undef := q2.frame
    refine ih a6 w6 (i + 1) ⟨q2.size, q2.defers.trans d5, ?_, ?_, ?_, ?_, ?_, by omega, hJ (i + 1) w5 w6 hj5 bel6, hs6.trans (Same.of_below bel6 (ltI hs6))⟩ (by omega)
    · rw [f6 0 (by decide), g2 0 (by decide) (by decide) (by decide), hAt.t0]
    · rw [f6 1 (by decide), g2 1 (by decide) (by decide) (by decide), hAt.t1]
    · rw [f6 3 (by decide), g2 3 (by decide) (by decide) (by decide), hAt.t3]
    · rw [f6 7 (by decide), g2 7 (by decide) (by decide) (by decide), hAt.t7]
    · have := q2.val q1; rw [this]; rfl
end Go.Ax
end
