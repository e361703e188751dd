/-
  Whether forms are apart: the two.
-/
import Derived.Test.YtiikkfegcmejcaaGreatCM6
section
set_option linter.unusedVariables false
set_option linter.unusedSimpArgs false
set_option maxHeartbeats 4000000
set_option maxRecDepth 100000
namespace Go.Ax
open Go.Proofs
def apS (k x y r : Int) (n : Nat) (X Y : Nat → Int) (k' x' y' r' : Int) (m : Nat) (Z T : Nat → Int) : Bool :=
  if checkS k x y r n X Y = 0 ∧ checkS k' x' y' r' m Z T = 0 then
    (if k = 1 then (if k' = 1 then ddS x y r x' y' r' else outS m Z T x y r) else if k' = 1 then outS n X Y x' y' r' else (clrS n X Y m Z T || clrS m Z T n X Y))
  else false
def bothS (k x y r : Int) (n : Nat) (g : Nat → List AV) (k' x' y' r' : Int) (m : Nat) (g' : Nat → List AV) : AV := if checkS k x y r n (gx g 0) (gx g 1) = 0 then (if k = 1 then (if checkS k' x' y' r' m (gx g' 0) (gx g' 1) = 0 then (if k' = 1 then .tup [.iface 128 (.agg [i64 x, i64 y, i64 r]), .iface 128 (.agg [i64 x', i64 y', i64 r']), bo true] else .tup [.iface 128 (.agg [i64 x, i64 y, i64 r]), .iface 133 (.agg [.ro m 2 g']), bo true]) else .tup [.iface 128 (.agg [i64 x, i64 y, i64 r]), .v .nilIface, bo false]) else (if checkS k' x' y' r' m (gx g' 0) (gx g' 1) = 0 then (if k' = 1 then .tup [.iface 133 (.agg [.ro n 2 g]), .iface 128 (.agg [i64 x', i64 y', i64 r']), bo true] else .tup [.iface 133 (.agg [.ro n 2 g]), .iface 133 (.agg [.ro m 2 g']), bo true]) else .tup [.iface 133 (.agg [.ro n 2 g]), .v .nilIface, bo false])) else (if checkS k' x' y' r' m (gx g' 0) (gx g' 1) = 0 then (if k' = 1 then .tup [.v .nilIface, .iface 128 (.agg [i64 x', i64 y', i64 r']), bo false] else .tup [.v .nilIface, .iface 133 (.agg [.ro m 2 g']), bo false]) else .tup [.v .nilIface, .v .nilIface, bo false])
def c89 : Con
  | [.agg [.v (.int .i64 k), .v (.int .i64 x), .v (.int .i64 y), .v (.int .i64 r), .ro n 2 g], .agg [.v (.int .i64 k'), .v (.int .i64 x'), .v (.int .i64 y'), .v (.int .i64 r'), .ro m 2 g']] => some ([spots n g, spots m g', n ≤ 9223372036854775806, m ≤ 9223372036854775806, inR x, inR y, inR r, inR x', inR y', inR r'],
      bothS k x y r n g k' x' y' r' m g')
  | _ => none
theorem vc89 (k x y r : Int) (n : Nat) (g : Nat → List AV) (k' x' y' r' : Int) (m : Nat) (g' : Nat → List AV) (hg : spots n g) (hg' : spots m g') (hn : n ≤ 9223372036854775806) (hm : m ≤ 9223372036854775806) (h1 : inR x) (h2 : inR y) (h3 : inR r) (h4 : inR x') (h5 : inR y') (h6 : inR r') :
    fnVC Tryz.prog [(76, c76)] [] Tryz.f89 [formA k x y r n g, formA k' x' y' r' m g'] (· = bothS k x y r n g k' x' y' r' m g') := by
  refine fnVC_go (rs := [.tmp 4, .tmp 5, .tmp 6]) rfl rfl ?_
  simp only [go_sem, c76]
  exact ⟨fun hA => ⟨fun hk => ⟨hg, hn, h1, h2, h3, fun hB => ⟨fun hk' => ⟨hg', hm, h4, h5, h6, by unfold bothS; rw [if_pos hA, if_pos hk, if_pos hB, if_pos hk']⟩, fun hk' => ⟨hg', hm, h4, h5, h6, by unfold bothS; rw [if_pos hA, if_pos hk, if_pos hB, if_neg hk']⟩⟩, fun hB => ⟨hg', hm, h4, h5, h6, by unfold bothS; rw [if_pos hA, if_pos hk, if_neg hB]⟩⟩, fun hk => ⟨hg, hn, h1, h2, h3, fun hB => ⟨fun hk' => ⟨hg', hm, h4, h5, h6, by unfold bothS; rw [if_pos hA, if_neg hk, if_pos hB, if_pos hk']⟩, fun hk' => ⟨hg', hm, h4, h5, h6, by unfold bothS; rw [if_pos hA, if_neg hk, if_pos hB, if_neg hk']⟩⟩, fun hB => ⟨hg', hm, h4, h5, h6, by unfold bothS; rw [if_pos hA, if_neg hk, if_neg hB]⟩⟩⟩, fun hA => ⟨hg, hn, h1, h2, h3, fun hB => ⟨fun hk' => ⟨hg', hm, h4, h5, h6, by unfold bothS; rw [if_neg hA, if_pos hB, if_pos hk']⟩, fun hk' => ⟨hg', hm, h4, h5, h6, by unfold bothS; rw [if_neg hA, if_pos hB, if_neg hk']⟩⟩, fun hB => ⟨hg', hm, h4, h5, h6, by unfold bothS; rw [if_neg hA, if_neg hB]⟩⟩⟩
theorem con89 : ConOK Tryz.prog 89 c89 := ConOK.go (G := [(76, c76)]) (H := []) (.cons con76 .nil) Tryz.func89 fun l ob rr hc hob => by
  unfold c89 at hc
  split at hc
  · rename_i k x y r n g k' x' y' r' m g'
    cases hc
    exact ⟨_, fun w I vs h => h, by kernel_rfl, vc89 k x y r n g k' x' y' r' m g' (hob _ (by simp)) (hob _ (by simp)) (hob _ (by simp)) (hob _ (by simp)) (hob _ (by simp)) (hob _ (by simp)) (hob _ (by simp)) (hob _ (by simp)) (hob _ (by simp)) (hob _ (by simp))⟩
  · cases hc
theorem vc35 (k x y r : Int) (n : Nat) (g : Nat → List AV) (k' x' y' r' : Int) (m : Nat) (g' : Nat → List AV) (hg : spots n g) (hg' : spots m g') (hn : n ≤ 9223372036854775806) (hm : m ≤ 9223372036854775806) (h1 : inR x) (h2 : inR y) (h3 : inR r) (h4 : inR x') (h5 : inR y') (h6 : inR r') :
    fnVC Tryz.prog [(89, c89), (90, c90)] [] Tryz.f35 [formA k x y r n g, formA k' x' y' r' m g'] (· = bo (apS k x y r n (gx g 0) (gx g 1) k' x' y' r' m (gx g' 0) (gx g' 1))) := by
  refine fnVC_go (rs := [.tmp 4]) rfl rfl ?_
  simp only [go_sem, c89, bothS, c90, c90a, c90d, c90e, c90f]
  refine ⟨fun hA => ⟨fun hk => ⟨fun hB => ⟨fun hk' => ?_, fun hk' => ?_⟩, fun hB => ?_⟩, fun hk => ⟨fun hB => ⟨fun hk' => ?_, fun hk' => ?_⟩, fun hB => ?_⟩⟩, fun hA => ⟨fun hB => ⟨fun hk' => ?_, fun hk' => ?_⟩, fun hB => ?_⟩⟩
  · exact fun z hz => ⟨hg, hg', hn, hm, h1, h2, h3, h4, h5, h6, fun z1 hz1 => by rw [hz, hz1, Bool.true_and]; unfold apS; rw [if_pos ⟨hA, hB⟩, if_pos hk, if_pos hk']⟩
  · exact fun z hz => ⟨hg, hg', hn, hm, h1, h2, h3, h4, h5, h6, fun z1 hz1 => ⟨fun _ => hg', fun _ => hm, fun _ => (check_1 hB).2.2.1, fun _ => (check_1 hA).2.1, by rw [hz, hz1, Bool.true_and]; unfold apS; rw [if_pos ⟨hA, hB⟩, if_pos hk, if_neg hk']⟩⟩
  · exact fun z hz => ⟨hg, hg', hn, hm, h1, h2, h3, h4, h5, h6, fun z1 hz1 => ⟨fun h => (by rw [hz] at h; cases h), by rw [hz, Bool.false_and]; unfold apS; rw [if_neg (fun q => hB q.2)]⟩⟩
  · exact fun z hz => ⟨hg, hg', hn, hm, h1, h2, h3, h4, h5, h6, fun z1 hz1 => ⟨fun _ => hg, fun _ => hn, fun _ => (check_1 hA).2.2.1, fun _ => (check_1 hB).2.1, by rw [hz, hz1, Bool.true_and]; unfold apS; rw [if_pos ⟨hA, hB⟩, if_neg hk, if_pos hk']⟩⟩
  · exact fun z hz => ⟨hg, hg', hn, hm, h1, h2, h3, h4, h5, h6, fun z1 hz1 => ⟨fun _ => hg, fun _ => hn, fun _ => (check_1 hA).2.2.1, fun _ => hg', fun _ => hm, fun _ => (check_1 hB).2.2.1, by rw [hz, hz1, Bool.true_and]; unfold apS; rw [if_pos ⟨hA, hB⟩, if_neg hk, if_neg hk']⟩⟩
  · exact fun z hz => ⟨hg, hg', hn, hm, h1, h2, h3, h4, h5, h6, fun z1 hz1 => ⟨fun h => (by rw [hz] at h; cases h), by rw [hz, Bool.false_and]; unfold apS; rw [if_neg (fun q => hB q.2)]⟩⟩
  · exact fun z hz => ⟨hg, hg', hn, hm, h1, h2, h3, h4, h5, h6, fun z1 hz1 => ⟨fun h => (by rw [hz] at h; cases h), by rw [hz, Bool.false_and]; unfold apS; rw [if_neg (fun q => hA q.1)]⟩⟩
  · exact fun z hz => ⟨hg, hg', hn, hm, h1, h2, h3, h4, h5, h6, fun z1 hz1 => ⟨fun h => (by rw [hz] at h; cases h), by rw [hz, Bool.false_and]; unfold apS; rw [if_neg (fun q => hA q.1)]⟩⟩
  · exact fun z hz => ⟨hg, hg', hn, hm, h1, h2, h3, h4, h5, h6, fun z1 hz1 => ⟨fun h => (by rw [hz] at h; cases h), by rw [hz, Bool.false_and]; unfold apS; rw [if_neg (fun q => hA q.1)]⟩⟩
def c35 : Con
  | [.agg [.v (.int .i64 k), .v (.int .i64 x), .v (.int .i64 y), .v (.int .i64 r), .ro n 2 g], .agg [.v (.int .i64 k'), .v (.int .i64 x'), .v (.int .i64 y'), .v (.int .i64 r'), .ro m 2 g']] => some ([spots n g, spots m g', n ≤ 9223372036854775806, m ≤ 9223372036854775806, inR x, inR y, inR r, inR x', inR y', inR r'],
      bo (apS k x y r n (gx g 0) (gx g 1) k' x' y' r' m (gx g' 0) (gx g' 1)))
  | _ => none
theorem con35 : ConOK Tryz.prog 35 c35 := ConOK.go (G := [(89, c89), (90, c90)]) (H := []) (.cons con89 (.cons con90 .nil)) Tryz.func35 fun l ob rr hc hob => by
  unfold c35 at hc
  split at hc
  · rename_i k x y r n g k' x' y' r' m g'
    cases hc
    exact ⟨_, fun w I vs h => h, by kernel_rfl, vc35 k x y r n g k' x' y' r' m g' (hob _ (by simp)) (hob _ (by simp)) (hob _ (by simp)) (hob _ (by simp)) (hob _ (by simp)) (hob _ (by simp)) (hob _ (by simp)) (hob _ (by simp)) (hob _ (by simp)) (hob _ (by simp))⟩
  · cases hc
theorem vc36 (k x y r : Int) (n : Nat) (g : Nat → List AV) (k' x' y' r' : Int) (m : Nat) (g' : Nat → List AV) (hg : spots n g) (hg' : spots m g') (hn : n ≤ 9223372036854775806) (hm : m ≤ 9223372036854775806) (h1 : inR x) (h2 : inR y) (h3 : inR r) (h4 : inR x') (h5 : inR y') (h6 : inR r') :
    fnVC Tryz.prog [(21, c20), (81, c81), (91, c155), (92, c92), (93, c93)] [] Tryz.f36 [formA k x y r n g, formA k' x' y' r' m g'] (· = bo (apS k x y r n (gx g 0) (gx g 1) k' x' y' r' m (gx g' 0) (gx g' 1))) := by
  refine fnVC_go (rs := [.tmp 4]) rfl rfl ?_
  simp only [go_sem, c20, c81, c155, c92, c93]
  simp only [forall_eq, mnW_eq, dtW_eq]
  refine ⟨hg, hn, h1, h2, h3, fun _ => hg', fun _ => hm, fun _ => h4, fun _ => h5, fun _ => h6, fun h => ?_, fun h => ?_⟩
  · unfold apS
    rw [if_neg (fun q => by
      rcases h with h | h
      · exact (bne_iff_ne.1 h) q.1
      · exact (bne_iff_ne.1 h) q.2)]
  have hA : checkS k x y r n (gx g 0) (gx g 1) = 0 := bne_eq_false_iff_eq.1 h.1
  have hB : checkS k' x' y' r' m (gx g' 0) (gx g' 1) = 0 := bne_eq_false_iff_eq.1 h.2
  have vA := (check_1 hA).2
  have vB := (check_1 hB).2
  refine ⟨fun q => ?_, fun q => ⟨fun q1 => ?_, fun q1 => ⟨fun q2 => ?_, fun q2 => ?_⟩⟩⟩
  · unfold apS; rw [if_pos ⟨hA, hB⟩, if_pos (by simpa using q.1), if_pos (by simpa using q.2)]; rfl
  · have hk : k = 1 := by simpa using q1
    have hk' : ¬ k' = 1 := by rw [q1, Bool.true_and] at q; simpa using q
    exact ⟨hg', hg, hm, hB, hk', vA.1, by unfold apS; rw [if_pos ⟨hA, hB⟩, if_pos hk, if_neg hk']⟩
  · have hk : ¬ k = 1 := by simpa using q1
    have hk' : k' = 1 := by simpa using q2
    exact ⟨hg, hg', hn, hA, hk, vB.1, by unfold apS; rw [if_pos ⟨hA, hB⟩, if_neg hk, if_pos hk']⟩
  · have hk : ¬ k = 1 := by simpa using q1
    have hk' : ¬ k' = 1 := by simpa using q2
    exact ⟨hg, hg', hn, hm, vA.2.1, vB.2.1, fun _ => hg', fun _ => hg, fun _ => hm, fun _ => hn, fun _ => vB.2.1, fun _ => vA.2.1, by unfold apS; rw [if_pos ⟨hA, hB⟩, if_neg hk, if_neg hk']⟩
theorem con36 : ConOK Tryz.prog 36 c35 := ConOK.go (G := [(21, c20), (81, c81), (91, c155), (92, c92), (93, c93)]) (H := []) (.cons con21 (.cons con81 (.cons con91 (.cons con92 (.cons con93 .nil))))) Tryz.func36 fun l ob rr hc hob => by
  unfold c35 at hc
  split at hc
  · rename_i k x y r n g k' x' y' r' m g'
    cases hc
    exact ⟨_, fun w I vs h => h, by kernel_rfl, vc36 k x y r n g k' x' y' r' m g' (hob _ (by simp)) (hob _ (by simp)) (hob _ (by simp)) (hob _ (by simp)) (hob _ (by simp)) (hob _ (by simp)) (hob _ (by simp)) (hob _ (by simp)) (hob _ (by simp)) (hob _ (by simp))⟩
  · cases hc
end Go.Ax
end

section
/-
  The gap between an edge and a form.
-/
set_option linter.unusedVariables false
set_option linter.unusedSimpArgs false
set_option maxHeartbeats 4000000
set_option maxRecDepth 100000
namespace Go.Ax
open Go.Proofs
/-- How far a spot is off an edge. -/
def hgt (a b c d x y : Int) : Nb := vDot (vNorm a b c d) (vLoc (mnW a x) (mnW b y))
/-- The least of some numbers. -/
def mnN (h : Nat → Nb) : Nat → Nb
  | 0 => h 0
  | n + 1 => nMn (mnN h n) (h (n + 1))
/-- The gap between an edge and a form. -/
def gapS (a b c d k x y r : Int) (n : Nat) (X Y : Nat → Int) : Nb :=
  if k = 1 then nSub (hgt a b c d x y) (nRat r 256) else mnN (fun j => hgt a b c d (X j) (Y j)) (n - 1)
theorem hgt_rg {a b c d x y : Int} : rg (hgt a b c d x y).1 := nDot_rg
theorem mnN_step {h : Nat → Nb} {n : Nat} (h1 : rg (mnN h n).1) (h2 : rg (h (n + 1)).1) : mnN h (n + 1) = (if (h (n + 1)).1 < (mnN h n).1 then (h (n + 1)).1 else (mnN h n).1, (mnN h n).2 || (h (n + 1)).2) := by
  show nMn (mnN h n) (h (n + 1)) = _
  unfold nMn
  rw [whV_of h1, whV_of h2, whF_of h1, whF_of h2]
theorem mnN_rg {h : Nat → Nb} (hr : ∀ i, rg (h i).1) : ∀ n, rg (mnN h n).1
  | 0 => hr 0
  | n + 1 => by
    have h1 := mnN_rg hr n
    have h2 := hr (n + 1)
    rw [mnN_step h1 h2]
    dsimp only
    split
    · exact h2
    · exact h1
theorem mn_ex {h : Nat → Nb} (hr : ∀ i, rg (h i).1) : ∀ k, exS 1 (h 0).1 (fun i => (h (i + 1)).1) k = (mnN h k).1
  | 0 => rfl
  | k + 1 => by
    rw [mnN_step (mnN_rg hr k) (hr (k + 1))]
    have ih := mn_ex hr k
    unfold exS
    rw [ih]
    by_cases q : (h (k + 1)).1 < (mnN h k).1
    · rw [if_pos (.inl ⟨rfl, q⟩)]; dsimp only; rw [if_pos q]
    · rw [if_neg (by rintro (q1 | q1); exact q q1.2; exact absurd q1.1 (by omega))]; dsimp only; rw [if_neg q]
theorem mn_fl {h : Nat → Nb} (hr : ∀ i, rg (h i).1) : ∀ k, anyB (fun i => (h i).2) (k + 1) = (mnN h k).2
  | 0 => by unfold anyB anyB; rw [Bool.false_or]; rfl
  | k + 1 => by
    rw [mnN_step (mnN_rg hr k) (hr (k + 1)), ← mn_fl hr k]
    rfl
theorem vc95 (a b c d k x y r : Int) (n : Nat) (X Y : Nat → Int) (hX : ∀ i, i < n → inR (X i) ∧ inR (Y i)) (hn : n ≤ 9223372036854775806) (h1 : inR r) (v1 : validS a b = true) (v2 : validS c d = true) (h0 : ¬ k = 1 → 0 < n) :
    fnVC Tryz.prog [(46, k46), (54, k54), (69, k69), (81, c81), (83, k83), (145, k145), (163, k163)] [(3, ⟨[(11, .slot 6)], []⟩), (4, ⟨[(10, .made 9)], []⟩), (8, ⟨[(13, .slot 8)], []⟩)] Tryz.f95 [.agg [i64 a, i64 b], .agg [i64 c, i64 d], formA k x y r n fun i => [i64 (X i), i64 (Y i)]] (· = nbA (gapS a b c d k x y r n X Y)) := by
  refine fnVC_go (rs := [.cell 6 26]) rfl rfl ?_
  simp only [go_sem, k46, k54, k69, c81, k83, k145, k163]
  refine ⟨v1, v2, fun h => ?_, fun h => ?_⟩
  · have hk : k = 1 := by simpa using h
    refine fun z hz z1 hz1 => ⟨by rw [hz]; exact wrap_inR _, by rw [hz1]; exact wrap_inR _, h1, ?_⟩
    unfold gapS
    rw [if_pos hk, hz, hz1]
    rfl
  · have hk : ¬ k = 1 := by simpa using h
    have hpos := h0 hk
    refine ⟨by omega, fun z hz z1 hz1 => ⟨by rw [hz]; exact wrap_inR _, by rw [hz1]; exact wrap_inR _, ?_⟩⟩
    have e0 : vDot (vNorm a b c d) (vLoc z z1) = mnN (fun j => hgt a b c d (X j) (Y j)) 0 := by rw [hz, hz1]; rfl
    refine loopC_go (fun (j : Nat) => 1 ≤ j ∧ j ≤ n) (fun j => n - j) (fun j => [(9, i64 j)]) (fun j => [(21, fam1 26 2 [i64 (mnN (fun j => hgt a b c d (X j) (Y j)) (j - 1)).1, bo (mnN (fun j => hgt a b c d (X j) (Y j)) (j - 1)).2] none)]) [7, 3, 2, 1, 0] [36, 37, 38, 39, 40, 43, 44, 45, 46, 47, 48, 49, 50, 51, 52, 53, 54, 55, 41, 42, 9] 1 (by kernel_rfl) ?_ ⟨Nat.le_refl _, hpos⟩ ?_ ?_
    · intro x _; simp [goodNames, asg]
    · simp only [go_sem, e0]
    intro j hj
    simp only [go_sem, k46, k54, k69, c81, k83, k145, k163]
    refine ⟨fun hin => ⟨by omega, hin, fun y1 hy1 y2 hy2 => ⟨by rw [hy1]; exact wrap_inR _, by rw [hy2]; exact wrap_inR _, rg_inR (mnN_rg (fun _ => hgt_rg) _), fun y3 hy3 => ⟨j + 1, by omega, by omega, by rw [hy3, wrap_in (by unfold inR; omega)]; rfl, ?_⟩⟩⟩, fun hin => ?_⟩
    · have e : nMn (mnN (fun j => hgt a b c d (X j) (Y j)) (j - 1)) (vDot (vNorm a b c d) (vLoc y1 y2)) = mnN (fun j => hgt a b c d (X j) (Y j)) (j + 1 - 1) := by
        rw [hy1, hy2]
        obtain ⟨q, rfl⟩ : ∃ q, j = q + 1 := ⟨j - 1, by omega⟩
        rfl
      rw [e]
      exact ⟨rfl, rfl⟩
    · have e : j = n := by omega
      subst e
      unfold gapS
      rw [if_neg hk]
      rfl
theorem vc159d (a b c d x y r : Int) (h1 : inR r) (v1 : validS a b = true) (v2 : validS c d = true) :
    fnVC Tryz.prog [(160, k160), (162, k162), (173, k173), (180, k180)] [(5, ⟨[(9, .slot 6)], []⟩)] Tryz.f159 [.agg [i64 a, i64 b], .agg [i64 c, i64 d], .iface 128 (.agg [i64 x, i64 y, i64 r])] (· = nbA (nSub (hgt a b c d x y) (nRat r 256))) := by
  refine fnVC_go (rs := [.cell 6 26]) rfl rfl ?_
  simp only [go_sem, k160, k162, k173, k180]
  simp only [false_imp_iff, true_imp_iff, reduceCtorEq, true_and, and_true, Bool.false_eq_true]
  exact ⟨v1, v2, h1, rfl⟩
theorem vc159p (a b c d : Int) (n : Nat) (X Y : Nat → Int) (hX : ∀ i, i < n → inR (X i) ∧ inR (Y i)) (hn : n ≤ 1000) (v1 : validS a b = true) (v2 : validS c d = true) (h0 : 0 < n) :
    fnVC Tryz.prog [(173, k173), (180, k180), (212, c212)] [(5, ⟨[(9, .slot 6)], []⟩)] Tryz.f159 [.agg [i64 a, i64 b], .agg [i64 c, i64 d], .iface 133 (.agg [.ro n 2 fun i => [i64 (X i), i64 (Y i)]])] (· = nbA (mnN (fun j => hgt a b c d (X j) (Y j)) (n - 1))) := by
  refine fnVC_go (rs := [.cell 6 26]) rfl rfl ?_
  simp only [go_sem, k160, k162, k173, k180]
  simp only [false_imp_iff, true_imp_iff, reduceCtorEq, true_and, and_true, Bool.false_eq_true]
  have hb : bytesT Tryz.prog 26 = 16 := by kernel_rfl
  rw [hb]
  refine ⟨v1, v2, by omega, by omega, by omega, ?_⟩
  refine loopC_go (fun (i : Nat) => i ≤ n) (fun i => n - i) (fun i => [(39, i64 i)]) (fun i => [(20, famN n 2 26 (fun j => [i64 (uptN i (fun l => (hgt a b c d (X l) (Y l)).1) j), bo (decide (j < i) && (hgt a b c d (X j) (Y j)).2)]) none)]) [15, 6, 2, 1, 0] [40, 41, 42, 43, 12, 11, 44, 45, 46, 47, 48, 49, 50, 51, 39] 0 (by kernel_rfl) ?_ (Nat.zero_le _) ?_ ?_
  · intro x _; simp [goodNames, asg]
  · simp only [go_sem, uptN_zero, implies_true, true_and]
    intro i hi
    rw [decide_eq_false (by omega), Bool.false_and]
  intro i hi
  simp only [go_sem, k180, c212]
  refine ⟨fun hin => ⟨by omega, hin, by omega, hin, by omega, fun z hz => ⟨i + 1, by omega, by omega, by rw [hz, wrap_in (by unfold inR; omega)]; rfl, fun j hj => ?_⟩⟩, fun hin z hz z1 hz1 => ?_⟩
  · by_cases e : j = i
    · subst e
      rw [if_pos rfl]
      simp only [go_sem, uptN_self]
      exact ⟨rfl, by rw [decide_eq_true (by omega), Bool.true_and]; rfl⟩
    · rw [if_neg e]
      have h1 : ∀ Z, uptN (i + 1) Z j = uptN i Z j := fun Z => uptN_ne e
      have h2 : decide (j < i + 1) = decide (j < i) := by rw [decide_eq_decide]; omega
      simp only [go_sem, h1, h2]
  · have e : i = n := by omega
    subst e
    have hr : ∀ j, rg ((fun j => hgt a b c d (X j) (Y j)) j).1 := fun _ => hgt_rg
    have u : ∀ j, j < i → uptN i (fun l => (hgt a b c d (X l) (Y l)).1) j = (hgt a b c d (X j) (Y j)).1 := fun j hj => uptN_lt hj
    refine ⟨fun j hj => ⟨rfl, ?_⟩, hn, ?_⟩
    · show inR (uptN i (fun l => (hgt a b c d (X l) (Y l)).1) j)
      rw [u j hj]; exact rg_inR hgt_rg
    · have e1 : z = (mnN (fun j => hgt a b c d (X j) (Y j)) (i - 1)).1 := by
        rw [hz, ← mn_ex hr (i - 1)]
        unfold moV msS
        rw [if_neg (by omega)]
        have w : ∀ j, j < i → wvS (fun l => [AV.v (Value.int IntKind.i64 (uptN i (fun l => (hgt a b c d (X l) (Y l)).1) l)), AV.v (Value.bool (decide (l < i) && (hgt a b c d (X l) (Y l)).2))]) j = (hgt a b c d (X j) (Y j)).1 := fun j hj => by
          show whV (uptN i (fun l => (hgt a b c d (X l) (Y l)).1) j) = _
          rw [u j hj, whV_of hgt_rg]
        rw [w 0 (by omega)]
        exact exS_congr fun j hj => w (j + 1) (by omega)
      have e2 : z1 = (mnN (fun j => hgt a b c d (X j) (Y j)) (i - 1)).2 := by
        rw [hz1, ← mn_fl hr (i - 1)]
        unfold wfS
        rw [show i - 1 + 1 = i by omega]
        refine anyB_congr fun j hj => ?_
        show whF (uptN i (fun l => (hgt a b c d (X l) (Y l)).1) j) (decide (j < i) && (hgt a b c d (X j) (Y j)).2) = _
        rw [u j hj, whF_of hgt_rg, decide_eq_true hj, Bool.true_and]
      rw [e1, e2]; rfl
def k95 : Con
  | [.agg [.v (.int .i64 a), .v (.int .i64 b)], .agg [.v (.int .i64 c), .v (.int .i64 d)], .agg [.v (.int .i64 k), .v (.int .i64 x), .v (.int .i64 y), .v (.int .i64 r), .ro n 2 g]] => some ([spots n g, n ≤ 9223372036854775806, inR r, validS a b = true, validS c d = true, ¬ k = 1 → 0 < n], nbA (gapS a b c d k x y r n (gx g 0) (gx g 1)))
  | _ => none
theorem kon95 : ConOK Tryz.prog 95 k95 := ConOK.go (G := [(46, k46), (54, k54), (69, k69), (81, c81), (83, k83), (145, k145), (163, k163)]) (H := [(3, ⟨[(11, .slot 6)], []⟩), (4, ⟨[(10, .made 9)], []⟩), (8, ⟨[(13, .slot 8)], []⟩)]) (.cons kon46 (.cons kon54 (.cons kon69 (.cons con81 (.cons kon83 (.cons kon145 (.cons kon163 .nil))))))) Tryz.func95 fun l ob rr hc hob => by
  unfold k95 at hc
  split at hc
  · rename_i a b c d k x y r n g
    cases hc
    have hs : spots n g := hob _ (by simp)
    refine ⟨[.agg [i64 a, i64 b], .agg [i64 c, i64 d], formA k x y r n fun i => [i64 (gx g 0 i), i64 (gx g 1 i)]], fun w I vs h => ?_, by kernel_rfl, vc95 a b c d k x y r n _ _ (fun i hi => (hs i hi).2) (hob _ (by simp)) (hob _ (by simp)) (hob _ (by simp)) (hob _ (by simp)) (hob _ (by simp))⟩
    obtain ⟨x1, xs, rfl, p1, p2⟩ := h.inv
    obtain ⟨x2, ys, rfl, p3, p4⟩ := p2.inv
    exact .cons p1 (.cons p3 (Rs_one (Rs_form hs) p4))
  · cases hc
def k159d : Con
  | [.agg [.v (.int .i64 a), .v (.int .i64 b)], .agg [.v (.int .i64 c), .v (.int .i64 d)], .iface 128 (.agg [.v (.int .i64 x), .v (.int .i64 y), .v (.int .i64 r)])] => some ([inR r, validS a b = true, validS c d = true], nbA (nSub (hgt a b c d x y) (nRat r 256)))
  | _ => none
theorem kon159d : ConOK Tryz.prog 159 k159d := ConOK.go (G := [(160, k160), (162, k162), (173, k173), (180, k180)]) (H := [(5, ⟨[(9, .slot 6)], []⟩)]) (.cons kon160 (.cons kon162 (.cons kon173 (.cons kon180 .nil)))) Tryz.func159 fun l ob rr hc hob => by
  unfold k159d at hc
  split at hc
  · rename_i a b c d x y r
    cases hc
    exact ⟨_, fun w I vs h => h, by kernel_rfl, vc159d a b c d x y r (hob _ (by simp)) (hob _ (by simp)) (hob _ (by simp))⟩
  · cases hc
def k159p : Con
  | [.agg [.v (.int .i64 a), .v (.int .i64 b)], .agg [.v (.int .i64 c), .v (.int .i64 d)], .iface 133 (.agg [.ro n 2 g])] => some ([spots n g, n ≤ 1000, validS a b = true, validS c d = true, 0 < n], nbA (mnN (fun j => hgt a b c d (gx g 0 j) (gx g 1 j)) (n - 1)))
  | _ => none
theorem kon159p : ConOK Tryz.prog 159 k159p := ConOK.go (G := [(173, k173), (180, k180), (212, c212)]) (H := [(5, ⟨[(9, .slot 6)], []⟩)]) (.cons kon173 (.cons kon180 (.cons con212 .nil))) Tryz.func159 fun l ob rr hc hob => by
  unfold k159p at hc
  split at hc
  · rename_i a b c d n g
    cases hc
    have hs : spots n g := hob _ (by simp)
    refine ⟨[.agg [i64 a, i64 b], .agg [i64 c, i64 d], .iface 133 (.agg [.ro n 2 fun i => [i64 (gx g 0 i), i64 (gx g 1 i)]])], fun w I vs h => ?_, by kernel_rfl, vc159p a b c d n _ _ (fun i hi => (hs i hi).2) (hob _ (by simp)) (hob _ (by simp)) (hob _ (by simp)) (hob _ (by simp))⟩
    obtain ⟨x1, xs, rfl, p1, p2⟩ := h.inv
    obtain ⟨x2, ys, rfl, p3, p4⟩ := p2.inv
    exact .cons p1 (.cons p3 (Rs_one (Rs_if (Rs_poly hs)) p4))
  · cases hc
def k159 (l : List AV) : Option (List Prop × AV) := match l with
  | [_, _, .iface 128 _] => k159d l
  | [_, _, .iface 133 _] => k159p l
  | _ => none
theorem kon159 : ConOK Tryz.prog 159 k159 := fun l ob rr hc hob => by
  unfold k159 at hc
  split at hc
  · exact kon159d _ _ _ hc hob
  · exact kon159p _ _ _ hc hob
  · cases hc
end Go.Ax
end

section
/-
  The axis between forms.
-/
set_option linter.unusedVariables false
set_option linter.unusedSimpArgs false
set_option maxHeartbeats 4000000
set_option maxRecDepth 100000
namespace Go.Ax
open Go.Proofs
theorem aEq72 {a0 b0 : Bool} {a1 b1 : Int} {a2 b2 : Int} {a3 b3 : Int} {a4 b4 : Bool} : aEq Tryz.prog 72 (.agg [bo a0, i64 a1, i64 a2, i64 a3, bo a4]) (.agg [bo b0, i64 b1, i64 b2, i64 b3, bo b4]) = some ((a0 == b0) && ((a1 == b1) && ((a2 == b2) && (((a3 == b3) && ((a4 == b4) && true)) && true)))) := by kernel_rfl
theorem eq72 {xo yo : Operand} {neg : Bool} {a0 b0 : Bool} {a1 b1 : Int} {a2 b2 : Int} {a3 b3 : Int} {a4 b4 : Bool} : eqE Tryz.prog neg 72 xo yo (.agg [bo a0, i64 a1, i64 a2, i64 a3, bo a4]) (.agg [bo b0, i64 b1, i64 b2, i64 b3, bo b4]) = some ⟨[], .v (.bool (negV neg ((a0 == b0) && ((a1 == b1) && ((a2 == b2) && (((a3 == b3) && ((a4 == b4) && true)) && true)))))), .none⟩ := eqE_agg aEq72
attribute [go_sem] eq72
abbrev AxT := Int × Int × Nb
/-- The best of the edges of one form. -/
def axF (o : Int) (G : Nat → Nb) (s : AxT) : Nat → AxT
  | 0 => s
  | i + 1 => if (axF o G s i).2.1 < 0 ∨ 0 < cmpS (whV (G i).1) (whV (axF o G s i).2.2.1) then (o, (i : Int), G i) else axF o G s i
def ax0 : AxT := (0, -1, (0, false))
def axOK (s : AxT) : Prop := s = ax0 ∨ 0 ≤ s.2.1
def axC (q : Bool) (s : AxT) : List AV := [bo q, i64 s.1, i64 s.2.1, i64 s.2.2.1, bo s.2.2.2]
theorem axF_ok {o : Int} {G : Nat → Nb} {s : AxT} (h : axOK s) : ∀ n, axOK (axF o G s n)
  | 0 => h
  | n + 1 => by
    have ih := axF_ok (o := o) (G := G) h n
    unfold axF
    split
    · exact .inr (Int.natCast_nonneg n)
    · exact ih
theorem axOK_eq {s : AxT} (h : axOK s) : ((false == false) && ((s.1 == 0) && ((s.2.1 == -1) && (((s.2.2.1 == 0) && ((s.2.2.2 == false) && true)) && true)))) = decide (s.2.1 < 0) := by
  rcases h with h | h
  · rw [h]; rfl
  · rw [decide_eq_false (by omega)]
    have : (s.2.1 == -1) = false := by rw [beq_eq_false_iff_ne]; omega
    rw [this]; simp
/-- What is best after so many forms. -/
def axSt (n : Nat) (G : Nat → Nb) (m : Nat) (G' : Nat → Nb) : Nat → AxT
  | 0 => ax0
  | 1 => axF 0 G ax0 n
  | _ => axF 1 G' (axF 0 G ax0 n) m
/-- The gaps between edges and a polygon, a disc. -/
def gP (n : Nat) (X Y : Nat → Int) (m : Nat) (Z T : Nat → Int) (j : Nat) : Nb := mnN (fun l => hgt (X j) (Y j) (X (nxt n j)) (Y (nxt n j)) (Z l) (T l)) (m - 1)
def gD (n : Nat) (X Y : Nat → Int) (x y r : Int) (j : Nat) : Nb := nSub (hgt (X j) (Y j) (X (nxt n j)) (Y (nxt n j)) x y) (nRat r 256)
theorem gP_rg {n : Nat} {X Y : Nat → Int} {m : Nat} {Z T : Nat → Int} {j : Nat} : rg (gP n X Y m Z T j).1 := mnN_rg (fun _ => hgt_rg) _
theorem gD_rg {n : Nat} {X Y : Nat → Int} {x y r : Int} {j : Nat} : rg (gD n X Y x y r j).1 := nSub_rg
theorem axOK_not {s : AxT} (h : axOK s) (k : (false == false && (s.1 == 0 && (s.2.1 == -1 && (s.2.2.1 == 0 && s.2.2.2 == false)))) = false) : ¬ s.2.1 < 0 := by
  rcases h with h | h
  · rw [h] at k; exact absurd k (by decide)
  · omega
theorem axF_hit {o : Int} {G : Nat → Nb} {s : AxT} {j : Nat} (h : (axF o G s j).2.1 < 0 ∨ 0 < cmpS (whV (G j).1) (whV (axF o G s j).2.2.1)) : axF o G s (j + 1) = (o, (j : Int), G j) := by
  conv => lhs; unfold axF
  rw [if_pos h]
theorem axF_not {o : Int} {G : Nat → Nb} {s : AxT} {j : Nat} (h : ¬ ((axF o G s j).2.1 < 0 ∨ 0 < cmpS (whV (G j).1) (whV (axF o G s j).2.2.1))) : axF o G s (j + 1) = axF o G s j := by
  conv => lhs; unfold axF
  rw [if_neg h]
theorem vc94pp (n : Nat) (X Y : Nat → Int) (hX : ∀ i, i < n → inR (X i) ∧ inR (Y i)) (hn : n ≤ 1000) (n0 : 0 < n) (vX : ∀ i, i < n → validS (X i) (Y i) = true) (m : Nat) (Z T : Nat → Int) (hZ : ∀ i, i < m → inR (Z i) ∧ inR (T i)) (hm : m ≤ 1000) (m0 : 0 < m) (vZ : ∀ i, i < m → validS (Z i) (T i) = true) :
    fnVC Tryz.prog [(63, k63), (88, c88), (90, c90), (121, c121), (1000000 + 187, c187), (154, c154), (159, k159), (160, k160), (161, k161), (162, k162)] [(22, ⟨[(15, .slot 6)], []⟩)] Tryz.f94 [.iface 133 (.agg [.ro n 2 fun i => [i64 (X i), i64 (Y i)]]), .iface 133 (.agg [.ro m 2 fun i => [i64 (Z i), i64 (T i)]])] (· = .agg (axC (clrS n X Y m Z T || clrS m Z T n X Y) (axSt n (gP n X Y m Z T) m (gP m Z T n X Y) 2))) := by
  refine fnVC_go (rs := [.cell 4 72]) rfl rfl ?_
  simp only [go_sem, c121]
  have hg : spots n fun i => [i64 (X i), i64 (Y i)] := fun i hi => ⟨rfl, hX i hi⟩
  have hg' : spots m fun i => [i64 (Z i), i64 (T i)] := fun i hi => ⟨rfl, hZ i hi⟩
  generalize hS : axSt n (gP n X Y m Z T) m (gP m Z T n X Y) = S
  have s0 : S 0 = (0, -1, (0, false)) := by rw [← hS]; rfl
  have s1 : S 1 = axF 0 (gP n X Y m Z T) (S 0) n := by rw [← hS]; rfl
  have s2 : S 2 = axF 1 (gP m Z T n X Y) (S 1) m := by rw [← hS]; rfl
  have k0 : axOK (S 0) := .inl s0
  have k1 : axOK (S 1) := by rw [s1]; exact axF_ok k0 _
  refine loopC_go (fun (i : Nat) => i ≤ 2) (fun i => 2 - i) (fun i => [(26, i64 i)]) (fun i => [(5, fam1 72 5 (axC false (S i)) none)]) [9, 2, 0] [27, 28, 29, 30, 7, 8, 32, 33, 31, 34, 35, 9, 10, 36, 37, 38, 39, 40, 41, 42, 43, 11, 12, 44, 45, 46, 47, 13, 14, 48, 49, 50, 51, 15, 52, 53, 54, 55, 56, 57, 58, 59, 60, 61, 62, 63, 64, 65, 66, 67, 68, 26] 0 (by kernel_rfl) ?_ (Nat.zero_le _) ?_ ?_
  · intro x _; simp [goodNames, asg]
  · simp only [go_sem, s0, axC]
  intro i hi
  match i with
  | 0 =>
    simp only [go_sem, axC, c121]
    simp only [false_imp_iff, true_imp_iff, reduceCtorEq, true_and, and_true, Bool.false_eq_true]
    refine rangeC_go (fun (j : Nat) => j ≤ n) (fun j => j) (fun j => [(5, fam1 72 5 (axC false (axF 0 (gP n X Y m Z T) (S 0) j)) none), (37, fam1 3 1 [i64 j] none)]) [35, 24, 16, 9, 2, 0] [46, 47, 13, 14, 48, 49, 50, 51, 15, 52, 53, 54, 55, 56, 57, 58, 59, 60, 61, 62, 63, 64, 65, 66, 67] 0 0 (N := n) (sq := edgeE n fun i => [i64 (X i), i64 (Y i)]) (ob := [spots n fun i => [i64 (X i), i64 (Y i)], n ≤ 9223372036854775806]) rfl (owe2 hg (by omega)) (by kernel_rfl) rfl (fun i _ => ⟨rfl, rfl⟩) (Nat.zero_le _) rfl ⟨[], ?_, ?_, ?_⟩ ?_ ?_
    · simp only [go_sem, axF, axC]
    · simp only [go_sem]
    · simp [goodNames, asg]
    · intro j hj hlt
      simp only [go_sem, edgeE, k159, k159d, k159p, c88, axC]
      refine ⟨hg', hm, vX j hlt, vX _ (nxt_lt hlt), m0, fun z hz => ⟨fun h z1 hz1 => ⟨j + 1, by have : j < n := hlt; omega, rfl, [], ?_⟩, fun h z1 hz1 => ⟨j + 1, by have : j < n := hlt; omega, rfl, [], ?_⟩⟩⟩
      · have es : axF 0 (gP n X Y m Z T) (S 0) (j + 1) = (0, (j : Int), mnN (fun l => hgt (X j) (Y j) (X (nxt n j)) (Y (nxt n j)) (Z l) (T l)) (m - 1)) := axF_hit (h.imp (fun q => by have := q.2.2.1; simp at this; omega) (fun q => by rw [hz] at q; exact q))
        rw [wrap_in (by have : j < n := hlt; unfold inR; omega)] at hz1
        simp only [go_sem, es, hz1]
        simp [goodNames, asg]
      · have es : axF 0 (gP n X Y m Z T) (S 0) (j + 1) = axF 0 (gP n X Y m Z T) (S 0) j := axF_not (by
          rintro (q | q)
          · exact axOK_not (axF_ok k0 _) h.1 q
          · exact h.2 (by rw [hz]; exact q))
        rw [wrap_in (by have : j < n := hlt; unfold inR; omega)] at hz1
        simp only [go_sem, es, hz1]
        simp [goodNames, asg]
    · intro j hj he
      simp only [go_sem, axC]
      refine fun z hz => ⟨1, by omega, by omega, by rw [hz]; decide, ?_⟩
      rw [s1, he]
      exact ⟨rfl, rfl, rfl, rfl⟩
  | 1 =>
    simp only [go_sem, axC, c121]
    simp only [false_imp_iff, true_imp_iff, reduceCtorEq, true_and, and_true, Bool.false_eq_true]
    refine rangeC_go (fun (j : Nat) => j ≤ m) (fun j => j) (fun j => [(5, fam1 72 5 (axC false (axF 1 (gP m Z T n X Y) (S 1) j)) none), (37, fam1 3 1 [i64 j] none)]) [35, 24, 16, 9, 2, 0] [46, 47, 13, 14, 48, 49, 50, 51, 15, 52, 53, 54, 55, 56, 57, 58, 59, 60, 61, 62, 63, 64, 65, 66, 67] 0 0 (N := m) (sq := edgeE m fun i => [i64 (Z i), i64 (T i)]) (ob := [spots m fun i => [i64 (Z i), i64 (T i)], m ≤ 9223372036854775806]) rfl (owe2 hg' (by omega)) (by kernel_rfl) rfl (fun i _ => ⟨rfl, rfl⟩) (Nat.zero_le _) rfl ⟨[], ?_, ?_, ?_⟩ ?_ ?_
    · simp only [go_sem, axF, axC]
    · simp only [go_sem]
    · simp [goodNames, asg]
    · intro j hj hlt
      simp only [go_sem, edgeE, k159, k159d, k159p, c88, axC]
      refine ⟨hg, hn, vZ j hlt, vZ _ (nxt_lt hlt), n0, fun z hz => ⟨fun h z1 hz1 => ⟨j + 1, by have : j < m := hlt; omega, rfl, [], ?_⟩, fun h z1 hz1 => ⟨j + 1, by have : j < m := hlt; omega, rfl, [], ?_⟩⟩⟩
      · have es : axF 1 (gP m Z T n X Y) (S 1) (j + 1) = (1, (j : Int), mnN (fun l => hgt (Z j) (T j) (Z (nxt m j)) (T (nxt m j)) (X l) (Y l)) (n - 1)) := axF_hit (h.imp (fun q => by have := q.2.2.1; simp at this; omega) (fun q => by rw [hz] at q; exact q))
        rw [wrap_in (by have : j < m := hlt; unfold inR; omega)] at hz1
        simp only [go_sem, es, hz1]
        simp [goodNames, asg]
      · have es : axF 1 (gP m Z T n X Y) (S 1) (j + 1) = axF 1 (gP m Z T n X Y) (S 1) j := axF_not (by
          rintro (q | q)
          · exact axOK_not (axF_ok k1 _) h.1 q
          · exact h.2 (by rw [hz]; exact q))
        rw [wrap_in (by have : j < m := hlt; unfold inR; omega)] at hz1
        simp only [go_sem, es, hz1]
        simp [goodNames, asg]
    · intro j hj he
      simp only [go_sem, axC]
      refine fun z hz => ⟨2, by omega, by omega, by rw [hz]; decide, ?_⟩
      rw [s2, he]
      exact ⟨rfl, rfl, rfl, rfl⟩
  | 2 =>
    simp only [go_sem, axC, c90, c90f]
    simp only [false_imp_iff, true_imp_iff, reduceCtorEq, true_and, and_true, Bool.false_eq_true]
    exact fun z hz => ⟨hg, by omega, vX, hg', by omega, vZ, by rw [hz]; rfl⟩
  | q + 3 => omega
theorem vc94pd (n : Nat) (X Y : Nat → Int) (hX : ∀ i, i < n → inR (X i) ∧ inR (Y i)) (hn : n ≤ 1000) (n0 : 0 < n) (vX : ∀ i, i < n → validS (X i) (Y i) = true) (x' y' r' : Int) (v2 : validS x' y' = true) (h6 : inR r') :
    fnVC Tryz.prog [(63, k63), (88, c88), (90, c90), (121, c121), (1000000 + 187, c187), (154, c154), (159, k159), (160, k160), (161, k161), (162, k162)] [(22, ⟨[(15, .slot 6)], []⟩)] Tryz.f94 [.iface 133 (.agg [.ro n 2 fun i => [i64 (X i), i64 (Y i)]]), .iface 128 (.agg [i64 x', i64 y', i64 r'])] (· = .agg (axC (outS n X Y x' y' r') (axSt n (gD n X Y x' y' r') 0 (gD n X Y x' y' r') 2))) := by
  refine fnVC_go (rs := [.cell 4 72]) rfl rfl ?_
  simp only [go_sem, c121]
  have hg : spots n fun i => [i64 (X i), i64 (Y i)] := fun i hi => ⟨rfl, hX i hi⟩
  generalize hS : axSt n (gD n X Y x' y' r') 0 (gD n X Y x' y' r') = S
  have s0 : S 0 = (0, -1, (0, false)) := by rw [← hS]; rfl
  have s1 : S 1 = axF 0 (gD n X Y x' y' r') (S 0) n := by rw [← hS]; rfl
  have s2 : S 2 = S 1 := by rw [← hS]; rfl
  have k0 : axOK (S 0) := .inl s0
  have k1 : axOK (S 1) := by rw [s1]; exact axF_ok k0 _
  refine loopC_go (fun (i : Nat) => i ≤ 2) (fun i => 2 - i) (fun i => [(26, i64 i)]) (fun i => [(5, fam1 72 5 (axC false (S i)) none)]) [9, 2, 0] [27, 28, 29, 30, 7, 8, 32, 33, 31, 34, 35, 9, 10, 36, 37, 38, 39, 40, 41, 42, 43, 11, 12, 44, 45, 46, 47, 13, 14, 48, 49, 50, 51, 15, 52, 53, 54, 55, 56, 57, 58, 59, 60, 61, 62, 63, 64, 65, 66, 67, 68, 26] 0 (by kernel_rfl) ?_ (Nat.zero_le _) ?_ ?_
  · intro x _; simp [goodNames, asg]
  · simp only [go_sem, s0, axC]
  intro i hi
  match i with
  | 0 =>
    simp only [go_sem, axC, c121]
    simp only [false_imp_iff, true_imp_iff, reduceCtorEq, true_and, and_true, Bool.false_eq_true]
    refine rangeC_go (fun (j : Nat) => j ≤ n) (fun j => j) (fun j => [(5, fam1 72 5 (axC false (axF 0 (gD n X Y x' y' r') (S 0) j)) none), (37, fam1 3 1 [i64 j] none)]) [35, 24, 16, 9, 2, 0] [46, 47, 13, 14, 48, 49, 50, 51, 15, 52, 53, 54, 55, 56, 57, 58, 59, 60, 61, 62, 63, 64, 65, 66, 67] 0 0 (N := n) (sq := edgeE n fun i => [i64 (X i), i64 (Y i)]) (ob := [spots n fun i => [i64 (X i), i64 (Y i)], n ≤ 9223372036854775806]) rfl (owe2 hg (by omega)) (by kernel_rfl) rfl (fun i _ => ⟨rfl, rfl⟩) (Nat.zero_le _) rfl ⟨[], ?_, ?_, ?_⟩ ?_ ?_
    · simp only [go_sem, axF, axC]
    · simp only [go_sem]
    · simp [goodNames, asg]
    · intro j hj hlt
      simp only [go_sem, edgeE, k159, k159d, k159p, c88, axC]
      refine ⟨h6, vX j hlt, vX _ (nxt_lt hlt), fun z hz => ⟨fun h z1 hz1 => ⟨j + 1, by have : j < n := hlt; omega, rfl, [], ?_⟩, fun h z1 hz1 => ⟨j + 1, by have : j < n := hlt; omega, rfl, [], ?_⟩⟩⟩
      · have es : axF 0 (gD n X Y x' y' r') (S 0) (j + 1) = (0, (j : Int), nSub (hgt (X j) (Y j) (X (nxt n j)) (Y (nxt n j)) x' y') (nRat r' 256)) := axF_hit (h.imp (fun q => by have := q.2.2.1; simp at this; omega) (fun q => by rw [hz] at q; exact q))
        rw [wrap_in (by have : j < n := hlt; unfold inR; omega)] at hz1
        simp only [go_sem, es, hz1]
        simp [goodNames, asg]
      · have es : axF 0 (gD n X Y x' y' r') (S 0) (j + 1) = axF 0 (gD n X Y x' y' r') (S 0) j := axF_not (by
          rintro (q | q)
          · exact axOK_not (axF_ok k0 _) h.1 q
          · exact h.2 (by rw [hz]; exact q))
        rw [wrap_in (by have : j < n := hlt; unfold inR; omega)] at hz1
        simp only [go_sem, es, hz1]
        simp [goodNames, asg]
    · intro j hj he
      simp only [go_sem, axC]
      refine fun z hz => ⟨1, by omega, by omega, by rw [hz]; decide, ?_⟩
      rw [s1, he]
      exact ⟨rfl, rfl, rfl, rfl⟩
  | 1 =>
    simp only [go_sem, axC, c121]
    simp only [false_imp_iff, true_imp_iff, reduceCtorEq, true_and, and_true, Bool.false_eq_true]
    refine fun z hz => ⟨2, by omega, by omega, by rw [hz]; decide, ?_⟩
    rw [s2]
    exact ⟨rfl, rfl, rfl, rfl⟩
  | 2 =>
    simp only [go_sem, axC, c90, c90a]
    simp only [false_imp_iff, true_imp_iff, reduceCtorEq, true_and, and_true, Bool.false_eq_true]
    exact fun z hz => ⟨hg, by omega, vX, v2, by rw [hz]; rfl⟩
  | q + 3 => omega
theorem vc94dp (x y r : Int) (v1 : validS x y = true) (h3 : inR r) (m : Nat) (Z T : Nat → Int) (hZ : ∀ i, i < m → inR (Z i) ∧ inR (T i)) (hm : m ≤ 1000) (m0 : 0 < m) (vZ : ∀ i, i < m → validS (Z i) (T i) = true) :
    fnVC Tryz.prog [(63, k63), (88, c88), (90, c90), (121, c121), (1000000 + 187, c187), (154, c154), (159, k159), (160, k160), (161, k161), (162, k162)] [(22, ⟨[(15, .slot 6)], []⟩)] Tryz.f94 [.iface 128 (.agg [i64 x, i64 y, i64 r]), .iface 133 (.agg [.ro m 2 fun i => [i64 (Z i), i64 (T i)]])] (· = .agg (axC (outS m Z T x y r) (axSt 0 (gD m Z T x y r) m (gD m Z T x y r) 2))) := by
  refine fnVC_go (rs := [.cell 4 72]) rfl rfl ?_
  simp only [go_sem, c121]
  have hg' : spots m fun i => [i64 (Z i), i64 (T i)] := fun i hi => ⟨rfl, hZ i hi⟩
  generalize hS : axSt 0 (gD m Z T x y r) m (gD m Z T x y r) = S
  have s0 : S 0 = (0, -1, (0, false)) := by rw [← hS]; rfl
  have s1 : S 1 = S 0 := by rw [← hS]; rfl
  have s2 : S 2 = axF 1 (gD m Z T x y r) (S 1) m := by rw [← hS]; rfl
  have k0 : axOK (S 0) := .inl s0
  have k1 : axOK (S 1) := by rw [s1]; exact k0
  refine loopC_go (fun (i : Nat) => i ≤ 2) (fun i => 2 - i) (fun i => [(26, i64 i)]) (fun i => [(5, fam1 72 5 (axC false (S i)) none)]) [9, 2, 0] [27, 28, 29, 30, 7, 8, 32, 33, 31, 34, 35, 9, 10, 36, 37, 38, 39, 40, 41, 42, 43, 11, 12, 44, 45, 46, 47, 13, 14, 48, 49, 50, 51, 15, 52, 53, 54, 55, 56, 57, 58, 59, 60, 61, 62, 63, 64, 65, 66, 67, 68, 26] 0 (by kernel_rfl) ?_ (Nat.zero_le _) ?_ ?_
  · intro x _; simp [goodNames, asg]
  · simp only [go_sem, s0, axC]
  intro i hi
  match i with
  | 0 =>
    simp only [go_sem, axC, c121]
    simp only [false_imp_iff, true_imp_iff, reduceCtorEq, true_and, and_true, Bool.false_eq_true]
    refine fun z hz => ⟨1, by omega, by omega, by rw [hz]; decide, ?_⟩
    rw [s1]
    exact ⟨rfl, rfl, rfl, rfl⟩
  | 1 =>
    simp only [go_sem, axC, c121]
    simp only [false_imp_iff, true_imp_iff, reduceCtorEq, true_and, and_true, Bool.false_eq_true]
    refine rangeC_go (fun (j : Nat) => j ≤ m) (fun j => j) (fun j => [(5, fam1 72 5 (axC false (axF 1 (gD m Z T x y r) (S 1) j)) none), (37, fam1 3 1 [i64 j] none)]) [35, 24, 16, 9, 2, 0] [46, 47, 13, 14, 48, 49, 50, 51, 15, 52, 53, 54, 55, 56, 57, 58, 59, 60, 61, 62, 63, 64, 65, 66, 67] 0 0 (N := m) (sq := edgeE m fun i => [i64 (Z i), i64 (T i)]) (ob := [spots m fun i => [i64 (Z i), i64 (T i)], m ≤ 9223372036854775806]) rfl (owe2 hg' (by omega)) (by kernel_rfl) rfl (fun i _ => ⟨rfl, rfl⟩) (Nat.zero_le _) rfl ⟨[], ?_, ?_, ?_⟩ ?_ ?_
    · simp only [go_sem, axF, axC]
    · simp only [go_sem]
    · simp [goodNames, asg]
    · intro j hj hlt
      simp only [go_sem, edgeE, k159, k159d, k159p, c88, axC]
      refine ⟨h3, vZ j hlt, vZ _ (nxt_lt hlt), fun z hz => ⟨fun h z1 hz1 => ⟨j + 1, by have : j < m := hlt; omega, rfl, [], ?_⟩, fun h z1 hz1 => ⟨j + 1, by have : j < m := hlt; omega, rfl, [], ?_⟩⟩⟩
      · have es : axF 1 (gD m Z T x y r) (S 1) (j + 1) = (1, (j : Int), nSub (hgt (Z j) (T j) (Z (nxt m j)) (T (nxt m j)) x y) (nRat r 256)) := axF_hit (h.imp (fun q => by have := q.2.2.1; simp at this; omega) (fun q => by rw [hz] at q; exact q))
        rw [wrap_in (by have : j < m := hlt; unfold inR; omega)] at hz1
        simp only [go_sem, es, hz1]
        simp [goodNames, asg]
      · have es : axF 1 (gD m Z T x y r) (S 1) (j + 1) = axF 1 (gD m Z T x y r) (S 1) j := axF_not (by
          rintro (q | q)
          · exact axOK_not (axF_ok k1 _) h.1 q
          · exact h.2 (by rw [hz]; exact q))
        rw [wrap_in (by have : j < m := hlt; unfold inR; omega)] at hz1
        simp only [go_sem, es, hz1]
        simp [goodNames, asg]
    · intro j hj he
      simp only [go_sem, axC]
      refine fun z hz => ⟨2, by omega, by omega, by rw [hz]; decide, ?_⟩
      rw [s2, he]
      exact ⟨rfl, rfl, rfl, rfl⟩
  | 2 =>
    simp only [go_sem, axC, c90, c90e]
    simp only [false_imp_iff, true_imp_iff, reduceCtorEq, true_and, and_true, Bool.false_eq_true]
    exact fun z hz => ⟨hg', by omega, vZ, v1, by rw [hz]; rfl⟩
  | q + 3 => omega
theorem vc94dd (x y r x' y' r' : Int) :
    fnVC Tryz.prog [(63, k63), (88, c88), (90, c90), (121, c121), (1000000 + 187, c187), (154, c154), (159, k159), (160, k160), (161, k161), (162, k162)] [(22, ⟨[(15, .slot 6)], []⟩)] Tryz.f94 [.iface 128 (.agg [i64 x, i64 y, i64 r]), .iface 128 (.agg [i64 x', i64 y', i64 r'])] (· = .agg (axC (ddS x y r x' y' r') (0, -1, nSub (vLen (vLoc (mnW x x') (mnW y y'))) (nRat (IntKind.i64.wrap (r + r')) 256)))) := by
  refine fnVC_go (rs := [.cell 4 72]) rfl rfl ?_
  simp only [go_sem, c121]
  refine loopC_go (fun (i : Nat) => i ≤ 2) (fun i => 2 - i) (fun i => [(26, i64 i)]) (fun i => [(5, fam1 72 5 (axC false ax0) none)]) [9, 2, 0] [27, 28, 29, 30, 7, 8, 32, 33, 31, 34, 35, 9, 10, 36, 37, 38, 39, 40, 41, 42, 43, 11, 12, 44, 45, 46, 47, 13, 14, 48, 49, 50, 51, 15, 52, 53, 54, 55, 56, 57, 58, 59, 60, 61, 62, 63, 64, 65, 66, 67, 68, 26] 0 (by kernel_rfl) ?_ (Nat.zero_le _) ?_ ?_
  · intro x _; simp [goodNames, asg]
  · simp only [go_sem, ax0, axC]
  intro i hi
  match i with
  | 0 =>
    simp only [go_sem, axC, c121]
    simp only [false_imp_iff, true_imp_iff, reduceCtorEq, true_and, and_true, Bool.false_eq_true]
    exact fun z hz => ⟨1, by omega, by omega, by rw [hz]; decide⟩
  | 1 =>
    simp only [go_sem, axC, c121]
    simp only [false_imp_iff, true_imp_iff, reduceCtorEq, true_and, and_true, Bool.false_eq_true]
    exact fun z hz => ⟨2, by omega, by omega, by rw [hz]; decide⟩
  | 2 =>
    simp only [go_sem, axC, c90, c90d, c154, k63, k161, k162, k160, ax0]
    simp only [false_imp_iff, true_imp_iff, reduceCtorEq, true_and, and_true, Bool.false_eq_true]
    exact fun z hz z1 hz1 => ⟨by rw [hz]; exact wrap_inR _, by rw [hz1]; exact wrap_inR _, fun z2 hz2 => ⟨by rw [hz2]; exact wrap_inR _, fun z3 hz3 => by rw [hz, hz1, hz2, hz3]; rfl⟩⟩
  | q + 3 => omega
end Go.Ax
end

section
/-
  The axis between forms: the contracts.
-/
set_option linter.unusedVariables false
set_option linter.unusedSimpArgs false
set_option maxHeartbeats 4000000
set_option maxRecDepth 100000
namespace Go.Ax
open Go.Proofs
def axA (q : Bool) (s : AxT) : AV := .agg (axC q s)
theorem bnd_ax {q : Bool} {s : AxT} : bnd (axA q s) = .agg [bo q, i64 s.1, i64 s.2.1, i64 s.2.2.1, bo s.2.2.2] := (rfl)
theorem plain_ax {q : Bool} {s : AxT} : plain 3 (axA q s) = true := (rfl)
attribute [go_sem] bnd_ax plain_ax
def k94p : Con
  | [.iface 133 (.agg [.ro n 2 g]), .iface 133 (.agg [.ro m 2 g'])] => some ([spots n g, n ≤ 1000, 0 < n, ∀ i, i < n → validS (gx g 0 i) (gx g 1 i) = true, spots m g', m ≤ 1000, 0 < m, ∀ i, i < m → validS (gx g' 0 i) (gx g' 1 i) = true], axA (clrS n (gx g 0) (gx g 1) m (gx g' 0) (gx g' 1) || clrS m (gx g' 0) (gx g' 1) n (gx g 0) (gx g 1)) (axSt n (gP n (gx g 0) (gx g 1) m (gx g' 0) (gx g' 1)) m (gP m (gx g' 0) (gx g' 1) n (gx g 0) (gx g 1)) 2))
  | _ => none
theorem ctx94 : CtxOK Tryz.prog [(63, k63), (88, c88), (90, c90), (121, c121), (1000000 + 187, c187), (154, c154), (159, k159), (160, k160), (161, k161), (162, k162)] := .cons kon63 (.cons con88 (.cons con90 (.cons con121 (.seq seq187 (.cons con154 (.cons kon159 (.cons kon160 (.cons kon161 (.cons kon162 .nil)))))))))
theorem kon94p : ConOK Tryz.prog 94 k94p := ConOK.go (H := [(22, ⟨[(15, .slot 6)], []⟩)]) ctx94 Tryz.func94 fun l ob rr hc hob => by
  unfold k94p at hc
  split at hc
  · rename_i n g m g'
    cases hc
    have hs : spots n g := hob _ (by simp)
    have hs' : spots m g' := hob _ (by simp)
    exact ⟨[.iface 133 (.agg [.ro n 2 fun i => [i64 (gx g 0 i), i64 (gx g 1 i)]]), .iface 133 (.agg [.ro m 2 fun i => [i64 (gx g' 0 i), i64 (gx g' 1 i)]])], fun w I vs h => Rs_two (Rs_if (Rs_poly hs)) (Rs_if (Rs_poly hs')) h, by kernel_rfl, vc94pp n _ _ (fun i hi => (hs i hi).2) (hob _ (by simp)) (hob _ (by simp)) (hob _ (by simp)) m _ _ (fun i hi => (hs' i hi).2) (hob _ (by simp)) (hob _ (by simp)) (hob _ (by simp))⟩
  · cases hc
def k94q : Con
  | [.iface 133 (.agg [.ro n 2 g]), .iface 128 (.agg [.v (.int .i64 x), .v (.int .i64 y), .v (.int .i64 r)])] => some ([spots n g, n ≤ 1000, 0 < n, ∀ i, i < n → validS (gx g 0 i) (gx g 1 i) = true, validS x y = true, inR r], axA (outS n (gx g 0) (gx g 1) x y r) (axSt n (gD n (gx g 0) (gx g 1) x y r) 0 (gD n (gx g 0) (gx g 1) x y r) 2))
  | _ => none
theorem kon94q : ConOK Tryz.prog 94 k94q := ConOK.go (H := [(22, ⟨[(15, .slot 6)], []⟩)]) ctx94 Tryz.func94 fun l ob rr hc hob => by
  unfold k94q at hc
  split at hc
  · rename_i n g x y r
    cases hc
    have hs : spots n g := hob _ (by simp)
    exact ⟨[.iface 133 (.agg [.ro n 2 fun i => [i64 (gx g 0 i), i64 (gx g 1 i)]]), .iface 128 (.agg [i64 x, i64 y, i64 r])], fun w I vs h => Rs_two (Rs_if (Rs_poly hs)) (fun v h => h) h, by kernel_rfl, vc94pd n _ _ (fun i hi => (hs i hi).2) (hob _ (by simp)) (hob _ (by simp)) (hob _ (by simp)) x y r (hob _ (by simp)) (hob _ (by simp))⟩
  · cases hc
def k94r : Con
  | [.iface 128 (.agg [.v (.int .i64 x), .v (.int .i64 y), .v (.int .i64 r)]), .iface 133 (.agg [.ro n 2 g])] => some ([spots n g, n ≤ 1000, 0 < n, ∀ i, i < n → validS (gx g 0 i) (gx g 1 i) = true, validS x y = true, inR r], axA (outS n (gx g 0) (gx g 1) x y r) (axSt 0 (gD n (gx g 0) (gx g 1) x y r) n (gD n (gx g 0) (gx g 1) x y r) 2))
  | _ => none
theorem kon94r : ConOK Tryz.prog 94 k94r := ConOK.go (H := [(22, ⟨[(15, .slot 6)], []⟩)]) ctx94 Tryz.func94 fun l ob rr hc hob => by
  unfold k94r at hc
  split at hc
  · rename_i x y r n g
    cases hc
    have hs : spots n g := hob _ (by simp)
    exact ⟨[.iface 128 (.agg [i64 x, i64 y, i64 r]), .iface 133 (.agg [.ro n 2 fun i => [i64 (gx g 0 i), i64 (gx g 1 i)]])], fun w I vs h => Rs_two (fun v h => h) (Rs_if (Rs_poly hs)) h, by kernel_rfl, vc94dp x y r (hob _ (by simp)) (hob _ (by simp)) n _ _ (fun i hi => (hs i hi).2) (hob _ (by simp)) (hob _ (by simp)) (hob _ (by simp))⟩
  · cases hc
def k94d : Con
  | [.iface 128 (.agg [.v (.int .i64 x), .v (.int .i64 y), .v (.int .i64 r)]), .iface 128 (.agg [.v (.int .i64 a), .v (.int .i64 b), .v (.int .i64 s)])] => some ([], axA (ddS x y r a b s) (0, -1, nSub (vLen (vLoc (mnW x a) (mnW y b))) (nRat (IntKind.i64.wrap (r + s)) 256)))
  | _ => none
theorem kon94d : ConOK Tryz.prog 94 k94d := ConOK.go (H := [(22, ⟨[(15, .slot 6)], []⟩)]) ctx94 Tryz.func94 fun l ob rr hc hob => by
  unfold k94d at hc
  split at hc
  · rename_i x y r a b s
    cases hc
    exact ⟨_, fun w I vs h => h, by kernel_rfl, vc94dd x y r a b s⟩
  · cases hc
def k94 (l : List AV) : Option (List Prop × AV) := match l with
  | [.iface 133 _, .iface 128 _] => k94q l
  | [.iface 128 _, .iface 133 _] => k94r l
  | [.iface 128 _, .iface 128 _] => k94d l
  | [.iface 133 _, .iface 133 _] => k94p l
  | [.iface 128 _, .v .nilIface] => some ([False], axA false ax0)
  | [.iface 133 _, .v .nilIface] => some ([False], axA false ax0)
  | [.v .nilIface, .iface 128 _] => some ([False], axA false ax0)
  | [.v .nilIface, .iface 133 _] => some ([False], axA false ax0)
  | [.v .nilIface, .v .nilIface] => some ([False], axA false ax0)
  | _ => none
theorem kon94 : ConOK Tryz.prog 94 k94 := fun l ob rr hc hob => by
  unfold k94 at hc
  split at hc
  · exact kon94q _ _ _ hc hob
  · exact kon94r _ _ _ hc hob
  · exact kon94d _ _ _ hc hob
  · exact kon94p _ _ _ hc hob
  · cases hc; exact (hob False (by simp)).elim
  · cases hc; exact (hob False (by simp)).elim
  · cases hc; exact (hob False (by simp)).elim
  · cases hc; exact (hob False (by simp)).elim
  · cases hc; exact (hob False (by simp)).elim
  · cases hc
/-- The axis between two forms. -/
def axS (k x y r : Int) (n : Nat) (X Y : Nat → Int) (k' x' y' r' : Int) (m : Nat) (Z T : Nat → Int) : AxT :=
  if checkS k x y r n X Y = 0 ∧ checkS k' x' y' r' m Z T = 0 then
    (if k = 1 then (if k' = 1 then (0, -1, nSub (vLen (vLoc (mnW x x') (mnW y y'))) (nRat (IntKind.i64.wrap (r + r')) 256)) else axSt 0 (gD m Z T x y r) m (gD m Z T x y r) 2)
      else if k' = 1 then axSt n (gD n X Y x' y' r') 0 (gD n X Y x' y' r') 2 else axSt n (gP n X Y m Z T) m (gP m Z T n X Y) 2)
  else (0, 0, (0, false))
theorem fig_n {k x y r : Int} {n : Nat} {X Y : Nat → Int} (h : checkS k x y r n X Y = 0) (hk : ¬ k = 1) : 3 ≤ n ∧ n ≤ 8 := by
  have := (check_1 h).2.2.2.2 hk
  exact ⟨(convexS_iff.1 this.2.2).1, this.2.1⟩
theorem vc37 (k x y r : Int) (n : Nat) (g : Nat → List AV) (k' x' y' r' : Int) (m : Nat) (g' : Nat → List AV) (hg : spots n g) (hg' : spots m g') (hn : n ≤ 9223372036854775806) (hm : m ≤ 9223372036854775806) (h1 : inR x) (h2 : inR y) (h3 : inR r) (h4 : inR x') (h5 : inR y') (h6 : inR r') :
    fnVC Tryz.prog [(89, c89), (94, k94)] [] Tryz.f37 [formA k x y r n g, formA k' x' y' r' m g'] (· = axA (apS k x y r n (gx g 0) (gx g 1) k' x' y' r' m (gx g' 0) (gx g' 1)) (axS k x y r n (gx g 0) (gx g 1) k' x' y' r' m (gx g' 0) (gx g' 1))) := by
  refine fnVC_go (rs := [.cell 4 72]) rfl rfl ?_
  simp only [go_sem, c89, bothS, k94, k94p, k94q, k94r, k94d]
  refine ⟨fun hA => ⟨fun hk => ⟨fun hB => ⟨fun hk' => ?_, fun hk' => ?_⟩, fun hB => ?_⟩, fun hk => ⟨fun hB => ⟨fun hk' => ?_, fun hk' => ?_⟩, fun hB => ?_⟩⟩, fun hA => ⟨fun hB => ⟨fun hk' => ?_, fun hk' => ?_⟩, fun hB => ?_⟩⟩
  · exact fun z hz => ⟨hg, hg', hn, hm, h1, h2, h3, h4, h5, h6, fun h => (by rw [hz] at h; cases h), fun h => by have hAB := And.intro hA hB; simp only [apS, axS, if_pos hAB, if_pos hk, if_pos hk']; rfl⟩
  · have fB := fig_n hB
    exact fun z hz => ⟨hg, hg', hn, hm, h1, h2, h3, h4, h5, h6, fun h => (by rw [hz] at h; cases h), fun h => ⟨hg', (by have := fB hk'; omega), (by have := fB hk'; omega), (check_1 hB).2.2.1, (check_1 hA).2.1, h3, by have hAB := And.intro hA hB; simp only [apS, axS, if_pos hAB, if_pos hk, if_neg hk']; rfl⟩⟩
  · exact fun z hz => ⟨hg, hg', hn, hm, h1, h2, h3, h4, h5, h6, fun h => (by have hN : ¬ (checkS k x y r n (gx g 0) (gx g 1) = 0 ∧ checkS k' x' y' r' m (gx g' 0) (gx g' 1) = 0) := fun q => hB q.2; simp only [apS, axS, if_neg hN]; rfl), fun h => (by rw [hz] at h; cases h)⟩
  · have fA := fig_n hA
    exact fun z hz => ⟨hg, hg', hn, hm, h1, h2, h3, h4, h5, h6, fun h => (by rw [hz] at h; cases h), fun h => ⟨hg, (by have := fA hk; omega), (by have := fA hk; omega), (check_1 hA).2.2.1, (check_1 hB).2.1, h6, by have hAB := And.intro hA hB; simp only [apS, axS, if_pos hAB, if_neg hk, if_pos hk']; rfl⟩⟩
  · have fA := fig_n hA
    have fB := fig_n hB
    exact fun z hz => ⟨hg, hg', hn, hm, h1, h2, h3, h4, h5, h6, fun h => (by rw [hz] at h; cases h), fun h => ⟨hg, (by have := fA hk; omega), (by have := fA hk; omega), (check_1 hA).2.2.1, hg', (by have := fB hk'; omega), (by have := fB hk'; omega), (check_1 hB).2.2.1, by have hAB := And.intro hA hB; simp only [apS, axS, if_pos hAB, if_neg hk, if_neg hk']; rfl⟩⟩
  · exact fun z hz => ⟨hg, hg', hn, hm, h1, h2, h3, h4, h5, h6, fun h => (by have hN : ¬ (checkS k x y r n (gx g 0) (gx g 1) = 0 ∧ checkS k' x' y' r' m (gx g' 0) (gx g' 1) = 0) := fun q => hB q.2; simp only [apS, axS, if_neg hN]; rfl), fun h => (by rw [hz] at h; cases h)⟩
  · exact fun z hz => ⟨hg, hg', hn, hm, h1, h2, h3, h4, h5, h6, fun h => (by have hN : ¬ (checkS k x y r n (gx g 0) (gx g 1) = 0 ∧ checkS k' x' y' r' m (gx g' 0) (gx g' 1) = 0) := fun q => hA q.1; simp only [apS, axS, if_neg hN]; rfl), fun h => (by rw [hz] at h; cases h)⟩
  · exact fun z hz => ⟨hg, hg', hn, hm, h1, h2, h3, h4, h5, h6, fun h => (by have hN : ¬ (checkS k x y r n (gx g 0) (gx g 1) = 0 ∧ checkS k' x' y' r' m (gx g' 0) (gx g' 1) = 0) := fun q => hA q.1; simp only [apS, axS, if_neg hN]; rfl), fun h => (by rw [hz] at h; cases h)⟩
  · exact fun z hz => ⟨hg, hg', hn, hm, h1, h2, h3, h4, h5, h6, fun h => (by have hN : ¬ (checkS k x y r n (gx g 0) (gx g 1) = 0 ∧ checkS k' x' y' r' m (gx g' 0) (gx g' 1) = 0) := fun q => hA q.1; simp only [apS, axS, if_neg hN]; rfl), fun h => (by rw [hz] at h; cases h)⟩
def c37 : Con
  | [.agg [.v (.int .i64 k), .v (.int .i64 x), .v (.int .i64 y), .v (.int .i64 r), .ro n 2 g], .agg [.v (.int .i64 k'), .v (.int .i64 x'), .v (.int .i64 y'), .v (.int .i64 r'), .ro m 2 g']] => some ([spots n g, spots m g', n ≤ 9223372036854775806, m ≤ 9223372036854775806, inR x, inR y, inR r, inR x', inR y', inR r'],
      axA (apS k x y r n (gx g 0) (gx g 1) k' x' y' r' m (gx g' 0) (gx g' 1)) (axS k x y r n (gx g 0) (gx g 1) k' x' y' r' m (gx g' 0) (gx g' 1)))
  | _ => none
theorem con37 : ConOK Tryz.prog 37 c37 := ConOK.go (G := [(89, c89), (94, k94)]) (H := []) (.cons con89 (.cons kon94 .nil)) Tryz.func37 fun l ob rr hc hob => by
  unfold c37 at hc
  split at hc
  · rename_i k x y r n g k' x' y' r' m g'
    cases hc
    exact ⟨_, fun w I vs h => h, by kernel_rfl, vc37 k x y r n g k' x' y' r' m g' (hob _ (by simp)) (hob _ (by simp)) (hob _ (by simp)) (hob _ (by simp)) (hob _ (by simp)) (hob _ (by simp)) (hob _ (by simp)) (hob _ (by simp)) (hob _ (by simp)) (hob _ (by simp))⟩
  · cases hc
end Go.Ax
end

section
/-
  The axis between forms: the reference's.
-/
set_option linter.unusedVariables false
set_option linter.unusedSimpArgs false
set_option maxHeartbeats 4000000
set_option maxRecDepth 100000
namespace Go.Ax
open Go.Proofs
theorem vc38 (k x y r : Int) (n : Nat) (X Y : Nat → Int) (k' x' y' r' : Int) (m : Nat) (Z T : Nat → Int) (hX : ∀ i, i < n → inR (X i) ∧ inR (Y i)) (hZ : ∀ i, i < m → inR (Z i) ∧ inR (T i)) (hn : n ≤ 9223372036854775806) (hm : m ≤ 9223372036854775806) (h1 : inR x) (h2 : inR y) (h3 : inR r) (h4 : inR x') (h5 : inR y') (h6 : inR r') :
    fnVC Tryz.prog [(21, c20), (36, c35), (46, k46), (47, k47), (54, k54), (69, k69), (79, c79), (81, c81), (95, k95), (96, c96)] [(5, ⟨[(15, .slot 5)], []⟩), (10, ⟨[(4, .made 2), (5, .made 3)], [(1, [.made 2])]⟩), (12, ⟨[(2, .slot 7), (3, .slot 8)], [(1, [.slot 7])]⟩), (19, ⟨[(4, .slot 5), (6, .slot 5), (8, .slot 5)], [(2, [.slot 5])]⟩)] Tryz.f38 [formA k x y r n fun i => [i64 (X i), i64 (Y i)], formA k' x' y' r' m fun i => [i64 (Z i), i64 (T i)]] (· = axA (apS k x y r n X Y k' x' y' r' m Z T) (axS k x y r n X Y k' x' y' r' m Z T)) := by
  refine fnVC_go (rs := [.cell 4 72]) rfl rfl ?_
  have hg : spots n fun i => [i64 (X i), i64 (Y i)] := fun i hi => ⟨rfl, hX i hi⟩
  have hg' : spots m fun i => [i64 (Z i), i64 (T i)] := fun i hi => ⟨rfl, hZ i hi⟩
  have eX : gx (fun i => [i64 (X i), i64 (Y i)]) 0 = X := rfl
  have eY : gx (fun i => [i64 (X i), i64 (Y i)]) 1 = Y := rfl
  have eZ : gx (fun i => [i64 (Z i), i64 (T i)]) 0 = Z := rfl
  have eT : gx (fun i => [i64 (Z i), i64 (T i)]) 1 = T := rfl
  simp only [go_sem, c20, c35, c81, k69, k47, k54, k46, eX, eY, eZ, eT]
  intro c hc
  refine ⟨hg, hn, h1, h2, h3, fun c' hc' => ⟨fun _ => hg', fun _ => hm, fun _ => h4, fun _ => h5, fun _ => h6, fun h => ?_, fun h q hq => ⟨hg, hg', hn, hm, h1, h2, h3, h4, h5, h6, fun hk => ?_, fun hk => ?_⟩⟩⟩
  · have hN : ¬ (checkS k x y r n X Y = 0 ∧ checkS k' x' y' r' m Z T = 0) := fun q => by
      rw [hc, hc'] at h
      rcases h with h | h
      · exact (bne_iff_ne.1 h) q.1
      · exact (bne_iff_ne.1 h) q.2
    simp only [apS, axS, if_neg hN]; rfl
  · have hA : checkS k x y r n X Y = 0 := by rw [← hc]; exact bne_eq_false_iff_eq.1 h.1
    have hB : checkS k' x' y' r' m Z T = 0 := by rw [← hc']; exact bne_eq_false_iff_eq.1 h.2
    have hAB := And.intro hA hB
    have k1 : k = 1 := by simpa using hk.1
    have k2 : k' = 1 := by simpa using hk.2
    refine fun z hz z1 hz1 => ⟨by rw [hz]; exact wrap_inR _, by rw [hz1]; exact wrap_inR _, fun z2 hz2 => ⟨by rw [hz2]; exact wrap_inR _, ?_⟩⟩
    rw [hq, hz, hz1, hz2]
    simp only [axS, if_pos hAB, if_pos k1, if_pos k2]; rfl
  have hA : checkS k x y r n X Y = 0 := by rw [← hc]; exact bne_eq_false_iff_eq.1 h.1
  have hB : checkS k' x' y' r' m Z T = 0 := by rw [← hc']; exact bne_eq_false_iff_eq.1 h.2
  have hAB := And.intro hA hB
  have vX := (check_1 hA).2.2.1
  have vZ := (check_1 hB).2.2.1
  have nA : k = 1 → n = 0 := fun e => ((check_1 hA).2.2.2.1 e).2.2.2
  have nB : k' = 1 → m = 0 := fun e => ((check_1 hB).2.2.2.1 e).2.2.2
  have pA : ¬ k = 1 → 0 < n := fun e => by have := fig_n hA e; omega
  have pB : ¬ k' = 1 → 0 < m := fun e => by have := fig_n hB e; omega
  have hS : ∃ S : Nat → AxT, S 0 = (0, -1, (0, false)) ∧ S 1 = axF 0 (fun j => gapS (X j) (Y j) (X (nxt n j)) (Y (nxt n j)) k' x' y' r' m Z T) (S 0) n ∧ S 2 = axF 1 (fun j => gapS (Z j) (T j) (Z (nxt m j)) (T (nxt m j)) k x y r n X Y) (S 1) m ∧ axS k x y r n X Y k' x' y' r' m Z T = S 2 := by
    refine ⟨axSt n (fun j => gapS (X j) (Y j) (X (nxt n j)) (Y (nxt n j)) k' x' y' r' m Z T) m (fun j => gapS (Z j) (T j) (Z (nxt m j)) (T (nxt m j)) k x y r n X Y), rfl, rfl, rfl, ?_⟩
    unfold axS
    rw [if_pos hAB]
    by_cases e : k = 1
    · by_cases e' : k' = 1
      · rw [e, e'] at hk; cases hk
      · have hG : (fun j => gapS (Z j) (T j) (Z (nxt m j)) (T (nxt m j)) k x y r n X Y) = gD m Z T x y r := funext fun j => if_pos e
        rw [if_pos e, if_neg e', hG, nA e]
        rfl
    · by_cases e' : k' = 1
      · have hG : (fun j => gapS (X j) (Y j) (X (nxt n j)) (Y (nxt n j)) k' x' y' r' m Z T) = gD n X Y x' y' r' := funext fun j => if_pos e'
        rw [if_neg e, if_pos e', hG, nB e']
        rfl
      · have hG : (fun j => gapS (X j) (Y j) (X (nxt n j)) (Y (nxt n j)) k' x' y' r' m Z T) = gP n X Y m Z T := funext fun j => if_neg e'
        have hG' : (fun j => gapS (Z j) (T j) (Z (nxt m j)) (T (nxt m j)) k x y r n X Y) = gP m Z T n X Y := funext fun j => if_neg e
        rw [if_neg e, if_neg e', hG, hG']
  obtain ⟨S, s0, s1, s2, s3⟩ := hS
  rw [s3]
  have k0 : axOK (S 0) := .inl s0
  have k1 : axOK (S 1) := by rw [s1]; exact axF_ok k0 _
  refine loopC_go (fun (i : Nat) => i ≤ 2) (fun i => 2 - i) (fun i => [(6, i64 i)]) (fun i => [(15, fam1 72 5 (axC q (S i)) none)]) [2, 1, 0] [50, 51, 54, 55, 7, 8, 56, 57, 58, 59, 9, 60, 61, 62, 63, 64, 68, 69, 70, 67, 71, 72, 10, 11, 73, 74, 75, 76, 12, 77, 78, 79, 80, 81, 82, 83, 84, 85, 86, 87, 88, 89, 90, 91, 92, 65, 66, 9, 52, 53, 6] 0 (by kernel_rfl) ?_ (Nat.zero_le _) ?_ ?_
  · intro x _; simp [goodNames, asg]
  · simp only [go_sem, s0, axC]
  intro i hi
  match i with
  | 0 =>
    simp only [go_sem, axC]
    simp only [false_imp_iff, true_imp_iff, reduceCtorEq, true_and, and_true, Bool.false_eq_true]
    refine ⟨fun h => absurd h (by decide), fun _ => ?_⟩
    refine loopC_go (fun (j : Nat) => j ≤ n) (fun j => n - j) (fun j => [(9, i64 j)]) (fun j => [(15, fam1 72 5 (axC q (axF 0 (fun j => gapS (X j) (Y j) (X (nxt n j)) (Y (nxt n j)) k' x' y' r' m Z T) (S 0) j)) none)]) [31, 30, 2, 1, 0] [60, 61, 62, 63, 64, 68, 69, 70, 67, 71, 72, 10, 11, 73, 74, 75, 76, 12, 77, 78, 79, 80, 81, 82, 83, 84, 85, 86, 87, 88, 89, 90, 91, 92, 65, 66, 9] 0 (by kernel_rfl) ?_ (Nat.zero_le _) ?_ ?_
    · intro x _; simp [goodNames, asg]
    · simp only [go_sem, axF, axC]
    intro j hj
    simp only [go_sem, axC, c79, k95, c96]
    refine ⟨fun hin => ?_, fun hin z hz => ⟨1, by omega, by omega, by rw [hz]; decide, ?_⟩⟩
    · have hlt : j < n := by omega
      refine ⟨hg, by omega, hin, hn, hg', hm, h6, vX j hlt, vX _ (nxt_lt hlt), pB, fun z hz => ⟨fun h z1 hz1 => ⟨j + 1, by omega, by omega, by rw [hz1, wrap_in (by unfold inR; omega)]; rfl, ?_⟩, fun h z1 hz1 => ⟨j + 1, by omega, by omega, by rw [hz1, wrap_in (by unfold inR; omega)]; rfl, ?_⟩⟩⟩
      · rw [axF_hit (h.imp id (fun q => by rw [hz] at q; exact q))]
        exact ⟨rfl, rfl, rfl, rfl⟩
      · rw [axF_not (by
          rintro (q | q)
          · exact h.1 q
          · exact h.2 (by rw [hz]; exact q))]
        exact ⟨rfl, rfl, rfl, rfl⟩
    · rw [s1, show j = n by omega]
      exact ⟨rfl, rfl, rfl, rfl⟩
  | 1 =>
    simp only [go_sem, axC]
    simp only [false_imp_iff, true_imp_iff, reduceCtorEq, true_and, and_true, Bool.false_eq_true]
    refine ⟨fun _ => ?_, fun h => absurd h (by decide)⟩
    refine loopC_go (fun (j : Nat) => j ≤ m) (fun j => m - j) (fun j => [(9, i64 j)]) (fun j => [(15, fam1 72 5 (axC q (axF 1 (fun j => gapS (Z j) (T j) (Z (nxt m j)) (T (nxt m j)) k x y r n X Y) (S 1) j)) none)]) [31, 30, 2, 1, 0] [60, 61, 62, 63, 64, 68, 69, 70, 67, 71, 72, 10, 11, 73, 74, 75, 76, 12, 77, 78, 79, 80, 81, 82, 83, 84, 85, 86, 87, 88, 89, 90, 91, 92, 65, 66, 9] 0 (by kernel_rfl) ?_ (Nat.zero_le _) ?_ ?_
    · intro x _; simp [goodNames, asg]
    · simp only [go_sem, axF, axC]
    intro j hj
    simp only [go_sem, axC, c79, k95, c96]
    refine ⟨fun hin => ?_, fun hin z hz => ⟨2, by omega, by omega, by rw [hz]; decide, ?_⟩⟩
    · have hlt : j < m := by omega
      refine ⟨hg', by omega, hin, hm, hg, hn, h3, vZ j hlt, vZ _ (nxt_lt hlt), pA, fun z hz => ⟨fun h z1 hz1 => ⟨j + 1, by omega, by omega, by rw [hz1, wrap_in (by unfold inR; omega)]; rfl, ?_⟩, fun h z1 hz1 => ⟨j + 1, by omega, by omega, by rw [hz1, wrap_in (by unfold inR; omega)]; rfl, ?_⟩⟩⟩
      · rw [axF_hit (h.imp id (fun q => by rw [hz] at q; exact q))]
        exact ⟨rfl, rfl, rfl, rfl⟩
      · rw [axF_not (by
          rintro (q | q)
          · exact h.1 q
          · exact h.2 (by rw [hz]; exact q))]
        exact ⟨rfl, rfl, rfl, rfl⟩
    · rw [s2, show j = m by omega]
      exact ⟨rfl, rfl, rfl, rfl⟩
  | 2 =>
    simp only [go_sem, axC]
    simp only [false_imp_iff, true_imp_iff, reduceCtorEq, true_and, and_true, Bool.false_eq_true]
    rw [hq]; rfl
  | q + 3 => omega
theorem con38 : ConOK Tryz.prog 38 c37 := ConOK.go (G := [(21, c20), (36, c35), (46, k46), (47, k47), (54, k54), (69, k69), (79, c79), (81, c81), (95, k95), (96, c96)]) (H := [(5, ⟨[(15, .slot 5)], []⟩), (10, ⟨[(4, .made 2), (5, .made 3)], [(1, [.made 2])]⟩), (12, ⟨[(2, .slot 7), (3, .slot 8)], [(1, [.slot 7])]⟩), (19, ⟨[(4, .slot 5), (6, .slot 5), (8, .slot 5)], [(2, [.slot 5])]⟩)]) (.cons con21 (.cons con36 (.cons kon46 (.cons kon47 (.cons kon54 (.cons kon69 (.cons con79 (.cons con81 (.cons kon95 (.cons con96 .nil)))))))))) Tryz.func38 fun l ob rr hc hob => by
  unfold c37 at hc
  split at hc
  · rename_i k x y r n g k' x' y' r' m g'
    cases hc
    have hs : spots n g := hob _ (by simp)
    have hs' : spots m g' := hob _ (by simp)
    exact ⟨[formA k x y r n fun i => [i64 (gx g 0 i), i64 (gx g 1 i)], formA k' x' y' r' m fun i => [i64 (gx g' 0 i), i64 (gx g' 1 i)]], fun w I vs h => Rs_two (Rs_form hs) (Rs_form hs') h, by kernel_rfl, vc38 k x y r n _ _ k' x' y' r' m _ _ (fun i hi => (hs i hi).2) (fun i hi => (hs' i hi).2) (hob _ (by simp)) (hob _ (by simp)) (hob _ (by simp)) (hob _ (by simp)) (hob _ (by simp)) (hob _ (by simp)) (hob _ (by simp)) (hob _ (by simp))⟩
  · cases hc
theorem vc7 (k x y r : Int) (n : Nat) (X Y : Nat → Int) (k' x' y' r' : Int) (m : Nat) (Z T : Nat → Int) (hX : ∀ i, i < n → inR (X i) ∧ inR (Y i)) (h1 : inR x) (h2 : inR y) (h3 : inR r) (hZ : ∀ i, i < m → inR (Z i) ∧ inR (T i)) (h4 : inR x') (h5 : inR y') (h6 : inR r') :
    fnVC Tryz.prog [(13, c13), (14, c14), (15, c15), (19, c19), (35, c35), (36, c35), (37, c37), (38, c37)] [(3, ⟨[(6, .made 4), (7, .made 5)], []⟩)] Tryz.f7 [formA k x y r n fun i => [i64 (X i), i64 (Y i)], formA k' x' y' r' m fun i => [i64 (Z i), i64 (T i)]] (· = bo true) := by
  refine fnVC_go (rs := [.tmp 4]) rfl rfl ?_
  have hg : spots n fun i => [i64 (X i), i64 (Y i)] := fun i hi => ⟨rfl, hX i hi⟩
  have hg' : spots m fun i => [i64 (Z i), i64 (T i)] := fun i hi => ⟨rfl, hZ i hi⟩
  simp only [go_sem, c13, c14, c15, c19, c35, c37]
  intro z hz z1 hz1
  refine ⟨fun _ _ => trivial, fun h => ?_⟩
  have hn : n ≤ 12 := by have h := h.1; rw [hz] at h; have := of_decide_eq_true h; omega
  have hm : m ≤ 12 := by have h := h.2; rw [hz1] at h; have := of_decide_eq_true h; omega
  have n2 : n ≤ 1000 := by omega
  have n3 : n ≤ 9223372036854775806 := by omega
  have m2 : m ≤ 1000 := by omega
  have m3 : m ≤ 9223372036854775806 := by omega
  simp only [forall_eq, hg, hg', n2, n3, m2, m3, h1, h2, h3, h4, h5, h6, and_self, implies_true, true_and, beq_self_eq_true, sameF_self]
end Go.Ax
end
