/-
  Whether forms are apart: the two.
-/
import Derived.Test.YtiikkfegcmejcaaGreatCM6
section
set_option linter.unusedVariables false
set_option linter.unusedSimpArgs false
set_option maxHeartbeats 4000000
set_option maxRecDepth 100000
namespace Go.Ax
open Go.Proofs
def apS (k x y r : Int) (n : Nat) (X Y : Nat → Int) (k' x' y' r' : Int) (m : Nat) (Z T : Nat → Int) : Bool :=
  if checkS k x y r n X Y = 0 ∧ checkS k' x' y' r' m Z T = 0 then
    (if k = 1 then (if k' = 1 then ddS x y r x' y' r' else outS m Z T x y r) else if k' = 1 then outS n X Y x' y' r' else (clrS n X Y m Z T || clrS m Z T n X Y))
  else false
def bothS (k x y r : Int) (n : Nat) (g : Nat → List AV) (k' x' y' r' : Int) (m : Nat) (g' : Nat → List AV) : AV := if checkS k x y r n (gx g 0) (gx g 1) = 0 then (if k = 1 then (if checkS k' x' y' r' m (gx g' 0) (gx g' 1) = 0 then (if k' = 1 then .tup [.iface 128 (.agg [i64 x, i64 y, i64 r]), .iface 128 (.agg [i64 x', i64 y', i64 r']), bo true] else .tup [.iface 128 (.agg [i64 x, i64 y, i64 r]), .iface 133 (.agg [.ro m 2 g']), bo true]) else .tup [.iface 128 (.agg [i64 x, i64 y, i64 r]), .v .nilIface, bo false]) else (if checkS k' x' y' r' m (gx g' 0) (gx g' 1) = 0 then (if k' = 1 then .tup [.iface 133 (.agg [.ro n 2 g]), .iface 128 (.agg [i64 x', i64 y', i64 r']), bo true] else .tup [.iface 133 (.agg [.ro n 2 g]), .iface 133 (.agg [.ro m 2 g']), bo true]) else .tup [.iface 133 (.agg [.ro n 2 g]), .v .nilIface, bo false])) else (if checkS k' x' y' r' m (gx g' 0) (gx g' 1) = 0 then (if k' = 1 then .tup [.v .nilIface, .iface 128 (.agg [i64 x', i64 y', i64 r']), bo false] else .tup [.v .nilIface, .iface 133 (.agg [.ro m 2 g']), bo false]) else .tup [.v .nilIface, .v .nilIface, bo false])
def c89 : Con
  | [.agg [.v (.int .i64 k), .v (.int .i64 x), .v (.int .i64 y), .v (.int .i64 r), .ro n 2 g], .agg [.v (.int .i64 k'), .v (.int .i64 x'), .v (.int .i64 y'), .v (.int .i64 r'), .ro m 2 g']] => some ([spots n g, spots m g', n ≤ 9223372036854775806, m ≤ 9223372036854775806, inR x, inR y, inR r, inR x', inR y', inR r'],
      bothS k x y r n g k' x' y' r' m g')
  | _ => none
theorem vc89 (k x y r : Int) (n : Nat) (g : Nat → List AV) (k' x' y' r' : Int) (m : Nat) (g' : Nat → List AV) (hg : spots n g) (hg' : spots m g') (hn : n ≤ 9223372036854775806) (hm : m ≤ 9223372036854775806) (h1 : inR x) (h2 : inR y) (h3 : inR r) (h4 : inR x') (h5 : inR y') (h6 : inR r') :
    fnVC Tryz.prog [(76, c76)] [] Tryz.f89 [formA k x y r n g, formA k' x' y' r' m g'] (· = bothS k x y r n g k' x' y' r' m g') := by
  refine fnVC_go (rs := [.tmp 4, .tmp 5, .tmp 6]) rfl rfl ?_
  simp only [go_sem, c76]
  exact ⟨fun hA => ⟨fun hk => ⟨hg, hn, h1, h2, h3, fun hB => ⟨fun hk' => ⟨hg', hm, h4, h5, h6, by unfold bothS; rw [if_pos hA, if_pos hk, if_pos hB, if_pos hk']⟩, fun hk' => ⟨hg', hm, h4, h5, h6, by unfold bothS; rw [if_pos hA, if_pos hk, if_pos hB, if_neg hk']⟩⟩, fun hB => ⟨hg', hm, h4, h5, h6, by unfold bothS; rw [if_pos hA, if_pos hk, if_neg hB]⟩⟩, fun hk => ⟨hg, hn, h1, h2, h3, fun hB => ⟨fun hk' => ⟨hg', hm, h4, h5, h6, by unfold bothS; rw [if_pos hA, if_neg hk, if_pos hB, if_pos hk']⟩, fun hk' => ⟨hg', hm, h4, h5, h6, by unfold bothS; rw [if_pos hA, if_neg hk, if_pos hB, if_neg hk']⟩⟩, fun hB => ⟨hg', hm, h4, h5, h6, by unfold bothS; rw [if_pos hA, if_neg hk, if_neg hB]⟩⟩⟩, fun hA => ⟨hg, hn, h1, h2, h3, fun hB => ⟨fun hk' => ⟨hg', hm, h4, h5, h6, by unfold bothS; rw [if_neg hA, if_pos hB, if_pos hk']⟩, fun hk' => ⟨hg', hm, h4, h5, h6, by unfold bothS; rw [if_neg hA, if_pos hB, if_neg hk']⟩⟩, fun hB => ⟨hg', hm, h4, h5, h6, by unfold bothS; rw [if_neg hA, if_neg hB]⟩⟩⟩
theorem con89 : ConOK Tryz.prog 89 c89 := ConOK.go (G := [(76, c76)]) (H := []) (.cons con76 .nil) Tryz.func89 fun l ob rr hc hob => by
  unfold c89 at hc
  split at hc
  · rename_i k x y r n g k' x' y' r' m g'
    cases hc
    exact ⟨_, fun w I vs h => h, by kernel_rfl, vc89 k x y r n g k' x' y' r' m g' (hob _ (by simp)) (hob _ (by simp)) (hob _ (by simp)) (hob _ (by simp)) (hob _ (by simp)) (hob _ (by simp)) (hob _ (by simp)) (hob _ (by simp)) (hob _ (by simp)) (hob _ (by simp))⟩
  · cases hc
theorem vc35 (k x y r : Int) (n : Nat) (g : Nat → List AV) (k' x' y' r' : Int) (m : Nat) (g' : Nat → List AV) (hg : spots n g) (hg' : spots m g') (hn : n ≤ 9223372036854775806) (hm : m ≤ 9223372036854775806) (h1 : inR x) (h2 : inR y) (h3 : inR r) (h4 : inR x') (h5 : inR y') (h6 : inR r') :
    fnVC Tryz.prog [(89, c89), (90, c90)] [] Tryz.f35 [formA k x y r n g, formA k' x' y' r' m g'] (· = bo (apS k x y r n (gx g 0) (gx g 1) k' x' y' r' m (gx g' 0) (gx g' 1))) := by
  refine fnVC_go (rs := [.tmp 4]) rfl rfl ?_
  simp only [go_sem, c89, bothS, c90, c90a, c90d, c90e, c90f]
  refine ⟨fun hA => ⟨fun hk => ⟨fun hB => ⟨fun hk' => ?_, fun hk' => ?_⟩, fun hB => ?_⟩, fun hk => ⟨fun hB => ⟨fun hk' => ?_, fun hk' => ?_⟩, fun hB => ?_⟩⟩, fun hA => ⟨fun hB => ⟨fun hk' => ?_, fun hk' => ?_⟩, fun hB => ?_⟩⟩
  · exact fun z hz => ⟨hg, hg', hn, hm, h1, h2, h3, h4, h5, h6, fun z1 hz1 => by rw [hz, hz1, Bool.true_and]; unfold apS; rw [if_pos ⟨hA, hB⟩, if_pos hk, if_pos hk']⟩
  · exact fun z hz => ⟨hg, hg', hn, hm, h1, h2, h3, h4, h5, h6, fun z1 hz1 => ⟨fun _ => hg', fun _ => hm, fun _ => (check_1 hB).2.2.1, fun _ => (check_1 hA).2.1, by rw [hz, hz1, Bool.true_and]; unfold apS; rw [if_pos ⟨hA, hB⟩, if_pos hk, if_neg hk']⟩⟩
  · exact fun z hz => ⟨hg, hg', hn, hm, h1, h2, h3, h4, h5, h6, fun z1 hz1 => ⟨fun h => (by rw [hz] at h; cases h), by rw [hz, Bool.false_and]; unfold apS; rw [if_neg (fun q => hB q.2)]⟩⟩
  · exact fun z hz => ⟨hg, hg', hn, hm, h1, h2, h3, h4, h5, h6, fun z1 hz1 => ⟨fun _ => hg, fun _ => hn, fun _ => (check_1 hA).2.2.1, fun _ => (check_1 hB).2.1, by rw [hz, hz1, Bool.true_and]; unfold apS; rw [if_pos ⟨hA, hB⟩, if_neg hk, if_pos hk']⟩⟩
  · exact fun z hz => ⟨hg, hg', hn, hm, h1, h2, h3, h4, h5, h6, fun z1 hz1 => ⟨fun _ => hg, fun _ => hn, fun _ => (check_1 hA).2.2.1, fun _ => hg', fun _ => hm, fun _ => (check_1 hB).2.2.1, by rw [hz, hz1, Bool.true_and]; unfold apS; rw [if_pos ⟨hA, hB⟩, if_neg hk, if_neg hk']⟩⟩
  · exact fun z hz => ⟨hg, hg', hn, hm, h1, h2, h3, h4, h5, h6, fun z1 hz1 => ⟨fun h => (by rw [hz] at h; cases h), by rw [hz, Bool.false_and]; unfold apS; rw [if_neg (fun q => hB q.2)]⟩⟩
  · exact fun z hz => ⟨hg, hg', hn, hm, h1, h2, h3, h4, h5, h6, fun z1 hz1 => ⟨fun h => (by rw [hz] at h; cases h), by rw [hz, Bool.false_and]; unfold apS; rw [if_neg (fun q => hA q.1)]⟩⟩
  · exact fun z hz => ⟨hg, hg', hn, hm, h1, h2, h3, h4, h5, h6, fun z1 hz1 => ⟨fun h => (by rw [hz] at h; cases h), by rw [hz, Bool.false_and]; unfold apS; rw [if_neg (fun q => hA q.1)]⟩⟩
  · exact fun z hz => ⟨hg, hg', hn, hm, h1, h2, h3, h4, h5, h6, fun z1 hz1 => ⟨fun h => (by rw [hz] at h; cases h), by rw [hz, Bool.false_and]; unfold apS; rw [if_neg (fun q => hA q.1)]⟩⟩
def c35 : Con
  | [.agg [.v (.int .i64 k), .v (.int .i64 x), .v (.int .i64 y), .v (.int .i64 r), .ro n 2 g], .agg [.v (.int .i64 k'), .v (.int .i64 x'), .v (.int .i64 y'), .v (.int .i64 r'), .ro m 2 g']] => some ([spots n g, spots m g', n ≤ 9223372036854775806, m ≤ 9223372036854775806, inR x, inR y, inR r, inR x', inR y', inR r'],
      bo (apS k x y r n (gx g 0) (gx g 1) k' x' y' r' m (gx g' 0) (gx g' 1)))
  | _ => none
theorem con35 : ConOK Tryz.prog 35 c35 := ConOK.go (G := [(89, c89), (90, c90)]) (H := []) (.cons con89 (.cons con90 .nil)) Tryz.func35 fun l ob rr hc hob => by
  unfold c35 at hc
  split at hc
  · rename_i k x y r n g k' x' y' r' m g'
    cases hc
    exact ⟨_, fun w I vs h => h, by kernel_rfl, vc35 k x y r n g k' x' y' r' m g' (hob _ (by simp)) (hob _ (by simp)) (hob _ (by simp)) (hob _ (by simp)) (hob _ (by simp)) (hob _ (by simp)) (hob _ (by simp)) (hob _ (by simp)) (hob _ (by simp)) (hob _ (by simp))⟩
  · cases hc
theorem vc36 (k x y r : Int) (n : Nat) (g : Nat → List AV) (k' x' y' r' : Int) (m : Nat) (g' : Nat → List AV) (hg : spots n g) (hg' : spots m g') (hn : n ≤ 9223372036854775806) (hm : m ≤ 9223372036854775806) (h1 : inR x) (h2 : inR y) (h3 : inR r) (h4 : inR x') (h5 : inR y') (h6 : inR r') :
    fnVC Tryz.prog [(21, c20), (81, c81), (91, c155), (92, c92), (93, c93)] [] Tryz.f36 [formA k x y r n g, formA k' x' y' r' m g'] (· = bo (apS k x y r n (gx g 0) (gx g 1) k' x' y' r' m (gx g' 0) (gx g' 1))) := by
  refine fnVC_go (rs := [.tmp 4]) rfl rfl ?_
  simp only [go_sem, c20, c81, c155, c92, c93]
  simp only [forall_eq, mnW_eq, dtW_eq]
  refine ⟨hg, hn, h1, h2, h3, fun _ => hg', fun _ => hm, fun _ => h4, fun _ => h5, fun _ => h6, fun h => ?_, fun h => ?_⟩
  · unfold apS
    rw [if_neg (fun q => by
      rcases h with h | h
      · exact (bne_iff_ne.1 h) q.1
      · exact (bne_iff_ne.1 h) q.2)]
  have hA : checkS k x y r n (gx g 0) (gx g 1) = 0 := bne_eq_false_iff_eq.1 h.1
  have hB : checkS k' x' y' r' m (gx g' 0) (gx g' 1) = 0 := bne_eq_false_iff_eq.1 h.2
  have vA := (check_1 hA).2
  have vB := (check_1 hB).2
  refine ⟨fun q => ?_, fun q => ⟨fun q1 => ?_, fun q1 => ⟨fun q2 => ?_, fun q2 => ?_⟩⟩⟩
  · unfold apS; rw [if_pos ⟨hA, hB⟩, if_pos (by simpa using q.1), if_pos (by simpa using q.2)]; rfl
  · have hk : k = 1 := by simpa using q1
    have hk' : ¬ k' = 1 := by rw [q1, Bool.true_and] at q; simpa using q
    exact ⟨hg', hg, hm, hB, hk', vA.1, by unfold apS; rw [if_pos ⟨hA, hB⟩, if_pos hk, if_neg hk']⟩
  · have hk : ¬ k = 1 := by simpa using q1
    have hk' : k' = 1 := by simpa using q2
    exact ⟨hg, hg', hn, hA, hk, vB.1, by unfold apS; rw [if_pos ⟨hA, hB⟩, if_neg hk, if_pos hk']⟩
  · have hk : ¬ k = 1 := by simpa using q1
    have hk' : ¬ k' = 1 := by simpa using q2
    exact ⟨hg, hg', hn, hm, vA.2.1, vB.2.1, fun _ => hg', fun _ => hg, fun _ => hm, fun _ => hn, fun _ => vB.2.1, fun _ => vA.2.1, by unfold apS; rw [if_pos ⟨hA, hB⟩, if_neg hk, if_neg hk']⟩
theorem con36 : ConOK Tryz.prog 36 c35 := ConOK.go (G := [(21, c20), (81, c81), (91, c155), (92, c92), (93, c93)]) (H := []) (.cons con21 (.cons con81 (.cons con91 (.cons con92 (.cons con93 .nil))))) Tryz.func36 fun l ob rr hc hob => by
  unfold c35 at hc
  split at hc
  · rename_i k x y r n g k' x' y' r' m g'
    cases hc
    exact ⟨_, fun w I vs h => h, by kernel_rfl, vc36 k x y r n g k' x' y' r' m g' (hob _ (by simp)) (hob _ (by simp)) (hob _ (by simp)) (hob _ (by simp)) (hob _ (by simp)) (hob _ (by simp)) (hob _ (by simp)) (hob _ (by simp)) (hob _ (by simp)) (hob _ (by simp))⟩
  · cases hc
end Go.Ax
end

section
/-
  The gap between an edge and a form.
-/
set_option linter.unusedVariables false
set_option linter.unusedSimpArgs false
set_option maxHeartbeats 4000000
set_option maxRecDepth 100000
namespace Go.Ax
open Go.Proofs
/-- How far a spot is off an edge. -/
def hgt (a b c d x y : Int) : Nb := vDot (vNorm a b c d) (vLoc (mnW a x) (mnW b y))
/-- The least of some numbers. -/
def mnN (h : Nat → Nb) : Nat → Nb
  | 0 => h 0
  | n + 1 => nMn (mnN h n) (h (n + 1))
/-- The gap between an edge and a form. -/
def gapS (a b c d k x y r : Int) (n : Nat) (X Y : Nat → Int) : Nb :=
  if k = 1 then nSub (hgt a b c d x y) (nRat r 256) else mnN (fun j => hgt a b c d (X j) (Y j)) (n - 1)
theorem hgt_rg {a b c d x y : Int} : rg (hgt a b c d x y).1 := nDot_rg
theorem mnN_step {h : Nat → Nb} {n : Nat} (h1 : rg (mnN h n).1) (h2 : rg (h (n + 1)).1) : mnN h (n + 1) = (if (h (n + 1)).1 < (mnN h n).1 then (h (n + 1)).1 else (mnN h n).1, (mnN h n).2 || (h (n + 1)).2) := by
  show nMn (mnN h n) (h (n + 1)) = _
  unfold nMn
  rw [whV_of h1, whV_of h2, whF_of h1, whF_of h2]
theorem mnN_rg {h : Nat → Nb} (hr : ∀ i, rg (h i).1) : ∀ n, rg (mnN h n).1
  | 0 => hr 0
  | n + 1 => by
    have h1 := mnN_rg hr n
    have h2 := hr (n + 1)
    rw [mnN_step h1 h2]
    dsimp only
    split
    · exact h2
    · exact h1
theorem mn_ex {h : Nat → Nb} (hr : ∀ i, rg (h i).1) : ∀ k, exS 1 (h 0).1 (fun i => (h (i + 1)).1) k = (mnN h k).1
  | 0 => rfl
  | k + 1 => by
    rw [mnN_step (mnN_rg hr k) (hr (k + 1))]
    have ih := mn_ex hr k
    unfold exS
    rw [ih]
    by_cases q : (h (k + 1)).1 < (mnN h k).1
    · rw [if_pos (.inl ⟨rfl, q⟩)]; dsimp only; rw [if_pos q]
    · rw [if_neg (by rintro (q1 | q1); exact q q1.2; exact absurd q1.1 (by omega))]; dsimp only; rw [if_neg q]
theorem mn_fl {h : Nat → Nb} (hr : ∀ i, rg (h i).1) : ∀ k, anyB (fun i => (h i).2) (k + 1) = (mnN h k).2
  | 0 => by unfold anyB anyB; rw [Bool.false_or]; rfl
  | k + 1 => by
    rw [mnN_step (mnN_rg hr k) (hr (k + 1)), ← mn_fl hr k]
    rfl
theorem vc95 (a b c d k x y r : Int) (n : Nat) (X Y : Nat → Int) (hX : ∀ i, i < n → inR (X i) ∧ inR (Y i)) (hn : n ≤ 9223372036854775806) (h1 : inR r) (v1 : validS a b = true) (v2 : validS c d = true) (h0 : ¬ k = 1 → 0 < n) :
    fnVC Tryz.prog [(46, k46), (54, k54), (69, k69), (81, c81), (83, k83), (145, k145), (163, k163)] [(3, ⟨[(11, .slot 6)], []⟩), (4, ⟨[(10, .made 9)], []⟩), (8, ⟨[(13, .slot 8)], []⟩)] Tryz.f95 [.agg [i64 a, i64 b], .agg [i64 c, i64 d], formA k x y r n fun i => [i64 (X i), i64 (Y i)]] (· = nbA (gapS a b c d k x y r n X Y)) := by
  refine fnVC_go (rs := [.cell 6 26]) rfl rfl ?_
  simp only [go_sem, k46, k54, k69, c81, k83, k145, k163]
  refine ⟨v1, v2, fun h => ?_, fun h => ?_⟩
  · have hk : k = 1 := by simpa using h
    refine fun z hz z1 hz1 => ⟨by rw [hz]; exact wrap_inR _, by rw [hz1]; exact wrap_inR _, h1, ?_⟩
    unfold gapS
    rw [if_pos hk, hz, hz1]
    rfl
  · have hk : ¬ k = 1 := by simpa using h
    have hpos := h0 hk
    refine ⟨by omega, fun z hz z1 hz1 => ⟨by rw [hz]; exact wrap_inR _, by rw [hz1]; exact wrap_inR _, ?_⟩⟩
    have e0 : vDot (vNorm a b c d) (vLoc z z1) = mnN (fun j => hgt a b c d (X j) (Y j)) 0 := by rw [hz, hz1]; rfl
    refine loopC_go (fun (j : Nat) => 1 ≤ j ∧ j ≤ n) (fun j => n - j) (fun j => [(9, i64 j)]) (fun j => [(21, fam1 26 2 [i64 (mnN (fun j => hgt a b c d (X j) (Y j)) (j - 1)).1, bo (mnN (fun j => hgt a b c d (X j) (Y j)) (j - 1)).2] none)]) [7, 3, 2, 1, 0] [36, 37, 38, 39, 40, 43, 44, 45, 46, 47, 48, 49, 50, 51, 52, 53, 54, 55, 41, 42, 9] 1 (by kernel_rfl) ?_ ⟨Nat.le_refl _, hpos⟩ ?_ ?_
    · intro x _; simp [goodNames, asg]
    · simp only [go_sem, e0]
    intro j hj
    simp only [go_sem, k46, k54, k69, c81, k83, k145, k163]
    refine ⟨fun hin => ⟨by omega, hin, fun y1 hy1 y2 hy2 => ⟨by rw [hy1]; exact wrap_inR _, by rw [hy2]; exact wrap_inR _, rg_inR (mnN_rg (fun _ => hgt_rg) _), fun y3 hy3 => ⟨j + 1, by omega, by omega, by rw [hy3, wrap_in (by unfold inR; omega)]; rfl, ?_⟩⟩⟩, fun hin => ?_⟩
    · have e : nMn (mnN (fun j => hgt a b c d (X j) (Y j)) (j - 1)) (vDot (vNorm a b c d) (vLoc y1 y2)) = mnN (fun j => hgt a b c d (X j) (Y j)) (j + 1 - 1) := by
        rw [hy1, hy2]
        obtain ⟨q, rfl⟩ : ∃ q, j = q + 1 := ⟨j - 1, by omega⟩
        rfl
      rw [e]
      exact ⟨rfl, rfl⟩
    · have e : j = n := by omega
      subst e
      unfold gapS
      rw [if_neg hk]
      rfl
theorem vc159d (a b c d x y r : Int) (h1 : inR r) (v1 : validS a b = true) (v2 : validS c d = true) :
    fnVC Tryz.prog [(160, k160), (162, k162), (173, k173), (180, k180)] [(5, ⟨[(9, .slot 6)], []⟩)] Tryz.f159 [.agg [i64 a, i64 b], .agg [i64 c, i64 d], .iface 128 (.agg [i64 x, i64 y, i64 r])] (· = nbA (nSub (hgt a b c d x y) (nRat r 256))) := by
  refine fnVC_go (rs := [.cell 6 26]) rfl rfl ?_
  simp only [go_sem, k160, k162, k173, k180]
  simp only [false_imp_iff, true_imp_iff, reduceCtorEq, true_and, and_true, Bool.false_eq_true]
  exact ⟨v1, v2, h1, rfl⟩
theorem vc159p (a b c d : Int) (n : Nat) (X Y : Nat → Int) (hX : ∀ i, i < n → inR (X i) ∧ inR (Y i)) (hn : n ≤ 1000) (v1 : validS a b = true) (v2 : validS c d = true) (h0 : 0 < n) :
    fnVC Tryz.prog [(173, k173), (180, k180), (212, c212)] [(5, ⟨[(9, .slot 6)], []⟩)] Tryz.f159 [.agg [i64 a, i64 b], .agg [i64 c, i64 d], .iface 133 (.agg [.ro n 2 fun i => [i64 (X i), i64 (Y i)]])] (· = nbA (mnN (fun j => hgt a b c d (X j) (Y j)) (n - 1))) := by
  refine fnVC_go (rs := [.cell 6 26]) rfl rfl ?_
  simp only [go_sem, k160, k162, k173, k180]
  simp only [false_imp_iff, true_imp_iff, reduceCtorEq, true_and, and_true, Bool.false_eq_true]
  have hb : bytesT Tryz.prog 26 = 16 := by kernel_rfl
  rw [hb]
  refine ⟨v1, v2, by omega, by omega, by omega, ?_⟩
  refine loopC_go (fun (i : Nat) => i ≤ n) (fun i => n - i) (fun i => [(39, i64 i)]) (fun i => [(20, famN n 2 26 (fun j => [i64 (uptN i (fun l => (hgt a b c d (X l) (Y l)).1) j), bo (decide (j < i) && (hgt a b c d (X j) (Y j)).2)]) none)]) [15, 6, 2, 1, 0] [40, 41, 42, 43, 12, 11, 44, 45, 46, 47, 48, 49, 50, 51, 39] 0 (by kernel_rfl) ?_ (Nat.zero_le _) ?_ ?_
  · intro x _; simp [goodNames, asg]
  · simp only [go_sem, uptN_zero, implies_true, true_and]
    intro i hi
    rw [decide_eq_false (by omega), Bool.false_and]
  intro i hi
  simp only [go_sem, k180, c212]
  refine ⟨fun hin => ⟨by omega, hin, by omega, hin, by omega, fun z hz => ⟨i + 1, by omega, by omega, by rw [hz, wrap_in (by unfold inR; omega)]; rfl, fun j hj => ?_⟩⟩, fun hin z hz z1 hz1 => ?_⟩
  · by_cases e : j = i
    · subst e
      rw [if_pos rfl]
      simp only [go_sem, uptN_self]
      exact ⟨rfl, by rw [decide_eq_true (by omega), Bool.true_and]; rfl⟩
    · rw [if_neg e]
      have h1 : ∀ Z, uptN (i + 1) Z j = uptN i Z j := fun Z => uptN_ne e
      have h2 : decide (j < i + 1) = decide (j < i) := by rw [decide_eq_decide]; omega
      simp only [go_sem, h1, h2]
  · have e : i = n := by omega
    subst e
    have hr : ∀ j, rg ((fun j => hgt a b c d (X j) (Y j)) j).1 := fun _ => hgt_rg
    have u : ∀ j, j < i → uptN i (fun l => (hgt a b c d (X l) (Y l)).1) j = (hgt a b c d (X j) (Y j)).1 := fun j hj => uptN_lt hj
    refine ⟨fun j hj => ⟨rfl, ?_⟩, hn, ?_⟩
    · show inR (uptN i (fun l => (hgt a b c d (X l) (Y l)).1) j)
      rw [u j hj]; exact rg_inR hgt_rg
    · have e1 : z = (mnN (fun j => hgt a b c d (X j) (Y j)) (i - 1)).1 := by
        rw [hz, ← mn_ex hr (i - 1)]
        unfold moV msS
        rw [if_neg (by omega)]
        have w : ∀ j, j < i → wvS (fun l => [AV.v (Value.int IntKind.i64 (uptN i (fun l => (hgt a b c d (X l) (Y l)).1) l)), AV.v (Value.bool (decide (l < i) && (hgt a b c d (X l) (Y l)).2))]) j = (hgt a b c d (X j) (Y j)).1 := fun j hj => by
          show whV (uptN i (fun l => (hgt a b c d (X l) (Y l)).1) j) = _
          rw [u j hj, whV_of hgt_rg]
        rw [w 0 (by omega)]
        exact exS_congr fun j hj => w (j + 1) (by omega)
      have e2 : z1 = (mnN (fun j => hgt a b c d (X j) (Y j)) (i - 1)).2 := by
        rw [hz1, ← mn_fl hr (i - 1)]
        unfold wfS
        rw [show i - 1 + 1 = i by omega]
        refine anyB_congr fun j hj => ?_
        show whF (uptN i (fun l => (hgt a b c d (X l) (Y l)).1) j) (decide (j < i) && (hgt a b c d (X j) (Y j)).2) = _
        rw [u j hj, whF_of hgt_rg, decide_eq_true hj, Bool.true_and]
      rw [e1, e2]; rfl
def k95 : Con
  | [.agg [.v (.int .i64 a), .v (.int .i64 b)], .agg [.v (.int .i64 c), .v (.int .i64 d)], .agg [.v (.int .i64 k), .v (.int .i64 x), .v (.int .i64 y), .v (.int .i64 r), .ro n 2 g]] => some ([spots n g, n ≤ 9223372036854775806, inR r, validS a b = true, validS c d = true, ¬ k = 1 → 0 < n], nbA (gapS a b c d k x y r n (gx g 0) (gx g 1)))
  | _ => none
theorem kon95 : ConOK Tryz.prog 95 k95 := ConOK.go (G := [(46, k46), (54, k54), (69, k69), (81, c81), (83, k83), (145, k145), (163, k163)]) (H := [(3, ⟨[(11, .slot 6)], []⟩), (4, ⟨[(10, .made 9)], []⟩), (8, ⟨[(13, .slot 8)], []⟩)]) (.cons kon46 (.cons kon54 (.cons kon69 (.cons con81 (.cons kon83 (.cons kon145 (.cons kon163 .nil))))))) Tryz.func95 fun l ob rr hc hob => by
  unfold k95 at hc
  split at hc
  · rename_i a b c d k x y r n g
    cases hc
    have hs : spots n g := hob _ (by simp)
    refine ⟨[.agg [i64 a, i64 b], .agg [i64 c, i64 d], formA k x y r n fun i => [i64 (gx g 0 i), i64 (gx g 1 i)]], fun w I vs h => ?_, by kernel_rfl, vc95 a b c d k x y r n _ _ (fun i hi => (hs i hi).2) (hob _ (by simp)) (hob _ (by simp)) (hob _ (by simp)) (hob _ (by simp)) (hob _ (by simp))⟩
    obtain ⟨x1, xs, rfl, p1, p2⟩ := h.inv
    obtain ⟨x2, ys, rfl, p3, p4⟩ := p2.inv
    exact .cons p1 (.cons p3 (Rs_one (Rs_form hs) p4))
  · cases hc
def k159d : Con
  | [.agg [.v (.int .i64 a), .v (.int .i64 b)], .agg [.v (.int .i64 c), .v (.int .i64 d)], .iface 128 (.agg [.v (.int .i64 x), .v (.int .i64 y), .v (.int .i64 r)])] => some ([inR r, validS a b = true, validS c d = true], nbA (nSub (hgt a b c d x y) (nRat r 256)))
  | _ => none
theorem kon159d : ConOK Tryz.prog 159 k159d := ConOK.go (G := [(160, k160), (162, k162), (173, k173), (180, k180)]) (H := [(5, ⟨[(9, .slot 6)], []⟩)]) (.cons kon160 (.cons kon162 (.cons kon173 (.cons kon180 .nil)))) Tryz.func159 fun l ob rr hc hob => by
  unfold k159d at hc
  split at hc
  · rename_i a b c d x y r
    cases hc
    exact ⟨_, fun w I vs h => h, by kernel_rfl, vc159d a b c d x y r (hob _ (by simp)) (hob _ (by simp)) (hob _ (by simp))⟩
  · cases hc
def k159p : Con
  | [.agg [.v (.int .i64 a), .v (.int .i64 b)], .agg [.v (.int .i64 c), .v (.int .i64 d)], .iface 133 (.agg [.ro n 2 g])] => some ([spots n g, n ≤ 1000, validS a b = true, validS c d = true, 0 < n], nbA (mnN (fun j => hgt a b c d (gx g 0 j) (gx g 1 j)) (n - 1)))
  | _ => none
theorem kon159p : ConOK Tryz.prog 159 k159p := ConOK.go (G := [(173, k173), (180, k180), (212, c212)]) (H := [(5, ⟨[(9, .slot 6)], []⟩)]) (.cons kon173 (.cons kon180 (.cons con212 .nil))) Tryz.func159 fun l ob rr hc hob => by
  unfold k159p at hc
  split at hc
  · rename_i a b c d n g
    cases hc
    have hs : spots n g := hob _ (by simp)
    refine ⟨[.agg [i64 a, i64 b], .agg [i64 c, i64 d], .iface 133 (.agg [.ro n 2 fun i => [i64 (gx g 0 i), i64 (gx g 1 i)]])], fun w I vs h => ?_, by kernel_rfl, vc159p a b c d n _ _ (fun i hi => (hs i hi).2) (hob _ (by simp)) (hob _ (by simp)) (hob _ (by simp)) (hob _ (by simp))⟩
    obtain ⟨x1, xs, rfl, p1, p2⟩ := h.inv
    obtain ⟨x2, ys, rfl, p3, p4⟩ := p2.inv
    exact .cons p1 (.cons p3 (Rs_one (Rs_if (Rs_poly hs)) p4))
  · cases hc
def k159 (l : List AV) : Option (List Prop × AV) := match l with
  | [_, _, .iface 128 _] => k159d l
  | [_, _, .iface 133 _] => k159p l
  | _ => none
theorem kon159 : ConOK Tryz.prog 159 k159 := fun l ob rr hc hob => by
  unfold k159 at hc
  split at hc
  · exact kon159d _ _ _ hc hob
  · exact kon159p _ _ _ hc hob
  · cases hc
end Go.Ax
end

section
/-
  The axis between forms.
-/
set_option linter.unusedVariables false
set_option linter.unusedSimpArgs false
set_option maxHeartbeats 4000000
set_option maxRecDepth 100000
namespace Go.Ax
open Go.Proofs
theorem aEq72 {a0 b0 : Bool} {a1 b1 : Int} {a2 b2 : Int} {a3 b3 : Int} {a4 b4 : Bool} : aEq Tryz.prog 72 (.agg [bo a0, i64 a1, i64 a2, i64 a3, bo a4]) (.agg [bo b0, i64 b1, i64 b2, i64 b3, bo b4]) = some ((a0 == b0) && ((a1 == b1) && ((a2 == b2) && (((a3 == b3) && ((a4 == b4) && true)) && true)))) := by kernel_rfl
theorem eq72 {xo yo : Operand} {neg : Bool} {a0 b0 : Bool} {a1 b1 : Int} {a2 b2 : Int} {a3 b3 : Int} {a4 b4 : Bool} : eqE Tryz.prog neg 72 xo yo (.agg [bo a0, i64 a1, i64 a2, i64 a3, bo a4]) (.agg [bo b0, i64 b1, i64 b2, i64 b3, bo b4]) = some ⟨[], .v (.bool (negV neg ((a0 == b0) && ((a1 == b1) && ((a2 == b2) && (((a3 == b3) && ((a4 == b4) && true)) && true)))))), .none⟩ := eqE_agg aEq72
attribute [go_sem] eq72
abbrev AxT := Int × Int × Nb
/-- The best of the edges of one form. -/
def axF (o : Int) (G : Nat → Nb) (s : AxT) : Nat → AxT
  | 0 => s
  | i + 1 => if (axF o G s i).2.1 < 0 ∨ 0 < cmpS (whV (G i).1) (whV (axF o G s i).2.2.1) then (o, (i : Int), G i) else axF o G s i
def ax0 : AxT := (0, -1, (0, false))
def axOK (s : AxT) : Prop := s = ax0 ∨ 0 ≤ s.2.1
def axC (q : Bool) (s : AxT) : List AV := [bo q, i64 s.1, i64 s.2.1, i64 s.2.2.1, bo s.2.2.2]
theorem axF_ok {o : Int} {G : Nat → Nb} {s : AxT} (h : axOK s) : ∀ n, axOK (axF o G s n)
  | 0 => h
  | n + 1 => by
    have ih := axF_ok (o := o) (G := G) h n
    unfold axF
    split
    · exact .inr (Int.natCast_nonneg n)
    · exact ih
theorem axOK_eq {s : AxT} (h : axOK s) : ((false == false) && ((s.1 == 0) && ((s.2.1 == -1) && (((s.2.2.1 == 0) && ((s.2.2.2 == false) && true)) && true)))) = decide (s.2.1 < 0) := by
  rcases h with h | h
  · rw [h]; rfl
  · rw [decide_eq_false (by omega)]
    have : (s.2.1 == -1) = false := by rw [beq_eq_false_iff_ne]; omega
    rw [this]; simp
/-- What is best after so many forms. -/
def axSt (n : Nat) (G : Nat → Nb) (m : Nat) (G' : Nat → Nb) : Nat → AxT
  | 0 => ax0
  | 1 => axF 0 G ax0 n
  | _ => axF 1 G' (axF 0 G ax0 n) m
/-- The gaps between edges and a polygon, a disc. -/
def gP (n : Nat) (X Y : Nat → Int) (m : Nat) (Z T : Nat → Int) (j : Nat) : Nb := mnN (fun l => hgt (X j) (Y j) (X (nxt n j)) (Y (nxt n j)) (Z l) (T l)) (m - 1)
def gD (n : Nat) (X Y : Nat → Int) (x y r : Int) (j : Nat) : Nb := nSub (hgt (X j) (Y j) (X (nxt n j)) (Y (nxt n j)) x y) (nRat r 256)
theorem gP_rg {n : Nat} {X Y : Nat → Int} {m : Nat} {Z T : Nat → Int} {j : Nat} : rg (gP n X Y m Z T j).1 := mnN_rg (fun _ => hgt_rg) _
theorem gD_rg {n : Nat} {X Y : Nat → Int} {x y r : Int} {j : Nat} : rg (gD n X Y x y r j).1 := nSub_rg
theorem axOK_not {s : AxT} (h : axOK s) (k : (false == false && (s.1 == 0 && (s.2.1 == -1 && (s.2.2.1 == 0 && s.2.2.2 == false)))) = false) : ¬ s.2.1 < 0 := by
  rcases h with h | h
  · rw [h] at k; exact absurd k (by decide)
  · omega
theorem axF_hit {o : Int} {G : Nat → Nb} {s : AxT} {j : Nat} (h : (axF o G s j).2.1 < 0 ∨ 0 < cmpS (whV (G j).1) (whV (axF o G s j).2.2.1)) : axF o G s (j + 1) = (o, (j : Int), G j) := by
  conv => lhs; unfold axF
  rw [if_pos h]
theorem axF_not {o : Int} {G : Nat → Nb} {s : AxT} {j : Nat} (h : ¬ ((axF o G s j).2.1 < 0 ∨ 0 < cmpS (whV (G j).1) (whV (axF o G s j).2.2.1))) : axF o G s (j + 1) = axF o G s j := by
  conv => lhs; unfold axF
  rw [if_neg h]
theorem vc94pp (n : Nat) (X Y : Nat → Int) (hX : ∀ i, i < n → inR (X i) ∧ inR (Y i)) (hn : n ≤ 1000) (n0 : 0 < n) (vX : ∀ i, i < n → validS (X i) (Y i) = true) (m : Nat) (Z T : Nat → Int) (hZ : ∀ i, i < m → inR (Z i) ∧ inR (T i)) (hm : m ≤ 1000) (m0 : 0 < m) (vZ : ∀ i, i < m → validS (Z i) (T i) = true) :
    fnVC Tryz.prog [(63, k63), (88, c88), (90, c90), (121, c121), (1000000 + 187, c187), (154, c154), (159, k159), (160, k160), (161, k161), (162, k162)] [(22, ⟨[(15, .slot 6)], []⟩)] Tryz.f94 [.iface 133 (.agg [.ro n 2 fun i => [i64 (X i), i64 (Y i)]]), .iface 133 (.agg [.ro m 2 fun i => [i64 (Z i), i64 (T i)]])] (· = .agg (axC (clrS n X Y m Z T || clrS m Z T n X Y) (axSt n (gP n X Y m Z T) m (gP m Z T n X Y) 2))) := by
  refine fnVC_go (rs := [.cell 4 72]) rfl rfl ?_
  simp only [go_sem, c121]
  have hg : spots n fun i => [i64 (X i), i64 (Y i)] := fun i hi => ⟨rfl, hX i hi⟩
  have hg' : spots m fun i => [i64 (Z i), i64 (T i)] := fun i hi => ⟨rfl, hZ i hi⟩
  generalize hS : axSt n (gP n X Y m Z T) m (gP m Z T n X Y) = S
  have s0 : S 0 = (0, -1, (0, false)) := by rw [← hS]; rfl
  have s1 : S 1 = axF 0 (gP n X Y m Z T) (S 0) n := by rw [← hS]; rfl
  have s2 : S 2 = axF 1 (gP m Z T n X Y) (S 1) m := by rw [← hS]; rfl
  have k0 : axOK (S 0) := .inl s0
  have k1 : axOK (S 1) := by rw [s1]; exact axF_ok k0 _
  refine loopC_go (fun (i : Nat) => i ≤ 2) (fun i => 2 - i) (fun i => [(26, i64 i)]) (fun i => [(5, fam1 72 5 (axC false (S i)) none)]) [9, 2, 0] [27, 28, 29, 30, 7, 8, 32, 33, 31, 34, 35, 9, 10, 36, 37, 38, 39, 40, 41, 42, 43, 11, 12, 44, 45, 46, 47, 13, 14, 48, 49, 50, 51, 15, 52, 53, 54, 55, 56, 57, 58, 59, 60, 61, 62, 63, 64, 65, 66, 67, 68, 26] 0 (by kernel_rfl) ?_ (Nat.zero_le _) ?_ ?_
  · intro x _; simp [goodNames, asg]
  · simp only [go_sem, s0, axC]
  intro i hi
  match i with
  | 0 =>
    simp only [go_sem, axC, c121]
    simp only [false_imp_iff, true_imp_iff, reduceCtorEq, true_and, and_true, Bool.false_eq_true]
    refine rangeC_go (fun (j : Nat) => j ≤ n) (fun j => j) (fun j => [(5, fam1 72 5 (axC false (axF 0 (gP n X Y m Z T) (S 0) j)) none), (37, fam1 3 1 [i64 j] none)]) [35, 24, 16, 9, 2, 0] [46, 47, 13, 14, 48, 49, 50, 51, 15, 52, 53, 54, 55, 56, 57, 58, 59, 60, 61, 62, 63, 64, 65, 66, 67] 0 0 (N := n) (sq := edgeE n fun i => [i64 (X i), i64 (Y i)]) (ob := [spots n fun i => [i64 (X i), i64 (Y i)], n ≤ 9223372036854775806]) rfl (owe2 hg (by omega)) (by kernel_rfl) rfl (fun i _ => ⟨rfl, rfl⟩) (Nat.zero_le _) rfl ⟨[], ?_, ?_, ?_⟩ ?_ ?_
    · simp only [go_sem, axF, axC]
    · simp only [go_sem]
    · simp [goodNames, asg]
    · intro j hj hlt
      simp only [go_sem, edgeE, k159, k159d, k159p, c88, axC]
      refine ⟨hg', hm, vX j hlt, vX _ (nxt_lt hlt), m0, fun z hz => ⟨fun h z1 hz1 => ⟨j + 1, by have : j < n := hlt; omega, rfl, [], ?_⟩, fun h z1 hz1 => ⟨j + 1, by have : j < n := hlt; omega, rfl, [], ?_⟩⟩⟩
      · have es : axF 0 (gP n X Y m Z T) (S 0) (j + 1) = (0, (j : Int), mnN (fun l => hgt (X j) (Y j) (X (nxt n j)) (Y (nxt n j)) (Z l) (T l)) (m - 1)) := axF_hit (h.imp (fun q => by have := q.2.2.1; simp at this; omega) (fun q => by rw [hz] at q; exact q))
        rw [wrap_in (by have : j < n := hlt; unfold inR; omega)] at hz1
        simp only [go_sem, es, hz1]
        simp [goodNames, asg]
      · have es : axF 0 (gP n X Y m Z T) (S 0) (j + 1) = axF 0 (gP n X Y m Z T) (S 0) j := axF_not (by
          rintro (q | q)
          · exact axOK_not (axF_ok k0 _) h.1 q
          · exact h.2 (by rw [hz]; exact q))
        rw [wrap_in (by have : j < n := hlt; unfold inR; omega)] at hz1
        simp only [go_sem, es, hz1]
        simp [goodNames, asg]
    · intro j hj he
      simp only [go_sem, axC]
      refine fun z hz => ⟨1, by omega, by omega, by rw [hz]; decide, ?_⟩
      rw [s1, he]
      exact ⟨rfl, rfl, rfl, rfl⟩
  | 1 =>
    simp only [go_sem, axC, c121]
    simp only [false_imp_iff, true_imp_iff, reduceCtorEq, true_and, and_true, Bool.false_eq_true]
    refine rangeC_go (fun (j : Nat) => j ≤ m) (fun j => j) (fun j => [(5, fam1 72 5 (axC false (axF 1 (gP m Z T n X Y) (S 1) j)) none), (37, fam1 3 1 [i64 j] none)]) [35, 24, 16, 9, 2, 0] [46, 47, 13, 14, 48, 49, 50, 51, 15, 52, 53, 54, 55, 56, 57, 58, 59, 60, 61, 62, 63, 64, 65, 66, 67] 0 0 (N := m) (sq := edgeE m fun i => [i64 (Z i), i64 (T i)]) (ob := [spots m fun i => [i64 (Z i), i64 (T i)], m ≤ 9223372036854775806]) rfl (owe2 hg' (by omega)) (by kernel_rfl) rfl (fun i _ => ⟨rfl, rfl⟩) (Nat.zero_le _) rfl ⟨[], ?_, ?_, ?_⟩ ?_ ?_
    · simp only [go_sem, axF, axC]
    · simp only [go_sem]
    · simp [goodNames, asg]
    · intro j hj hlt
      simp only [go_sem, edgeE, k159, k159d, k159p, c88, axC]
      refine ⟨hg, hn, vZ j hlt, vZ _ (nxt_lt hlt), n0, fun z hz => ⟨fun h z1 hz1 => ⟨j + 1, by have : j < m := hlt; omega, rfl, [], ?_⟩, fun h z1 hz1 => ⟨j + 1, by have : j < m := hlt; omega, rfl, [], ?_⟩⟩⟩
      · have es : axF 1 (gP m Z T n X Y) (S 1) (j + 1) = (1, (j : Int), mnN (fun l => hgt (Z j) (T j) (Z (nxt m j)) (T (nxt m j)) (X l) (Y l)) (n - 1)) := axF_hit (h.imp (fun q => by have := q.2.2.1; simp at this; omega) (fun q => by rw [hz] at q; exact q))
        rw [wrap_in (by have : j < m := hlt; unfold inR; omega)] at hz1
        simp only [go_sem, es, hz1]
        simp [goodNames, asg]
      · have es : axF 1 (gP m Z T n X Y) (S 1) (j + 1) = axF 1 (gP m Z T n X Y) (S 1) j := axF_not (by
          rintro (q | q)
          · exact axOK_not (axF_ok k1 _) h.1 q
          · exact h.2 (by rw [hz]; exact q))
        rw [wrap_in (by have : j < m := hlt; unfold inR; omega)] at hz1
        simp only [go_sem, es, hz1]
        simp [goodNames, asg]
    · intro j hj he
      simp only [go_sem, axC]
      refine fun z hz => ⟨2, by omega, by omega, by rw [hz]; decide, ?_⟩
      rw [s2, he]
      exact ⟨rfl, rfl, rfl, rfl⟩
  | 2 =>
    simp only [go_sem, axC, c90, c90f]
    simp only [false_imp_iff, true_imp_iff, reduceCtorEq, true_and, and_true, Bool.false_eq_true]
    exact fun z hz => ⟨hg, by omega, vX, hg', by omega, vZ, by rw [hz]; rfl⟩
  | q + 3 => omega
theorem vc94pd (n : Nat) (X Y : Nat → Int) (hX : ∀ i, i < n → inR (X i) ∧ inR (Y i)) (hn : n ≤ 1000) (n0 : 0 < n) (vX : ∀ i, i < n → validS (X i) (Y i) = true) (x' y' r' : Int) (v2 : validS x' y' = true) (h6 : inR r') :
    fnVC Tryz.prog [(63, k63), (88, c88), (90, c90), (121, c121), (1000000 + 187, c187), (154, c154), (159, k159), (160, k160), (161, k161), (162, k162)] [(22, ⟨[(15, .slot 6)], []⟩)] Tryz.f94 [.iface 133 (.agg [.ro n 2 fun i => [i64 (X i), i64 (Y i)]]), .iface 128 (.agg [i64 x', i64 y', i64 r'])] (· = .agg (axC (outS n X Y x' y' r') (axSt n (gD n X Y x' y' r') 0 (gD n X Y x' y' r') 2))) := by
  refine fnVC_go (rs := [.cell 4 72]) rfl rfl ?_
  simp only [go_sem, c121]
  have hg : spots n fun i => [i64 (X i), i64 (Y i)] := fun i hi => ⟨rfl, hX i hi⟩
  generalize hS : axSt n (gD n X Y x' y' r') 0 (gD n X Y x' y' r') = S
  have s0 : S 0 = (0, -1, (0, false)) := by rw [← hS]; rfl
  have s1 : S 1 = axF 0 (gD n X Y x' y' r') (S 0) n := by rw [← hS]; rfl
  have s2 : S 2 = S 1 := by rw [← hS]; rfl
  have k0 : axOK (S 0) := .inl s0
  have k1 : axOK (S 1) := by rw [s1]; exact axF_ok k0 _
  refine loopC_go (fun (i : Nat) => i ≤ 2) (fun i => 2 - i) (fun i => [(26, i64 i)]) (fun i => [(5, fam1 72 5 (axC false (S i)) none)]) [9, 2, 0] [27, 28, 29, 30, 7, 8, 32, 33, 31, 34, 35, 9, 10, 36, 37, 38, 39, 40, 41, 42, 43, 11, 12, 44, 45, 46, 47, 13, 14, 48, 49, 50, 51, 15, 52, 53, 54, 55, 56, 57, 58, 59, 60, 61, 62, 63, 64, 65, 66, 67, 68, 26] 0 (by kernel_rfl) ?_ (Nat.zero_le _) ?_ ?_
  · intro x _; simp [goodNames, asg]
  · simp only [go_sem, s0, axC]
  intro i hi
  match i with
  | 0 =>
    simp only [go_sem, axC, c121]
    simp only [false_imp_iff, true_imp_iff, reduceCtorEq, true_and, and_true, Bool.false_eq_true]
    refine rangeC_go (fun (j : Nat) => j ≤ n) (fun j => j) (fun j => [(5, fam1 72 5 (axC false (axF 0 (gD n X Y x' y' r') (S 0) j)) none), (37, fam1 3 1 [i64 j] none)]) [35, 24, 16, 9, 2, 0] [46, 47, 13, 14, 48, 49, 50, 51, 15, 52, 53, 54, 55, 56, 57, 58, 59, 60, 61, 62, 63, 64, 65, 66, 67] 0 0 (N := n) (sq := edgeE n fun i => [i64 (X i), i64 (Y i)]) (ob := [spots n fun i => [i64 (X i), i64 (Y i)], n ≤ 9223372036854775806]) rfl (owe2 hg (by omega)) (by kernel_rfl) rfl (fun i _ => ⟨rfl, rfl⟩) (Nat.zero_le _) rfl ⟨[], ?_, ?_, ?_⟩ ?_ ?_
    · simp only [go_sem, axF, axC]
    · simp only [go_sem]
    · simp [goodNames, asg]
    · intro j hj hlt
      simp only [go_sem, edgeE, k159, k159d, k159p, c88, axC]
      refine ⟨h6, vX j hlt, vX _ (nxt_lt hlt), fun z hz => ⟨fun h z1 hz1 => ⟨j + 1, by have : j < n := hlt; omega, rfl, [], ?_⟩, fun h z1 hz1 => ⟨j + 1, by have : j < n := hlt; omega, rfl, [], ?_⟩⟩⟩
      · have es : axF 0 (gD n X Y x' y' r') (S 0) (j + 1) = (0, (j : Int), nSub (hgt (X j) (Y j) (X (nxt n j)) (Y (nxt n j)) x' y') (nRat r' 256)) := axF_hit (h.imp (fun q => by have := q.2.2.1; simp at this; omega) (fun q => by rw [hz] at q; exact q))
        rw [wrap_in (by have : j < n := hlt; unfold inR; omega)] at hz1
        simp only [go_sem, es, hz1]
        simp [goodNames, asg]
      · have es : axF 0 (gD n X Y x' y' r') (S 0) (j + 1) = axF 0 (gD n X Y x' y' r') (S 0) j := axF_not (by
          rintro (q | q)
          · exact axOK_not (axF_ok k0 _) h.1 q
          · exact h.2 (by rw [hz]; exact q))
        rw [wrap_in (by have : j < n := hlt; unfold inR; omega)] at hz1
        simp only [go_sem, es, hz1]
        simp [goodNames, asg]
    · intro j hj he
      simp only [go_sem, axC]
      refine fun z hz => ⟨1, by omega, by omega, by rw [hz]; decide, ?_⟩
      rw [s1, he]
      exact ⟨rfl, rfl, rfl, rfl⟩
  | 1 =>
    simp only [go_sem, axC, c121]
    simp only [false_imp_iff, true_imp_iff, reduceCtorEq, true_and, and_true, Bool.false_eq_true]
    refine fun z hz => ⟨2, by omega, by omega, by rw [hz]; decide, ?_⟩
    rw [s2]
    exact ⟨rfl, rfl, rfl, rfl⟩
  | 2 =>
    simp only [go_sem, axC, c90, c90a]
    simp only [false_imp_iff, true_imp_iff, reduceCtorEq, true_and, and_true, Bool.false_eq_true]
    exact fun z hz => ⟨hg, by omega, vX, v2, by rw [hz]; rfl⟩
  | q + 3 => omega
theorem vc94dp (x y r : Int) (v1 : validS x y = true) (h3 : inR r) (m : Nat) (Z T : Nat → Int) (hZ : ∀ i, i < m → inR (Z i) ∧ inR (T i)) (hm : m ≤ 1000) (m0 : 0 < m) (vZ : ∀ i, i < m → validS (Z i) (T i) = true) :
    fnVC Tryz.prog [(63, k63), (88, c88), (90, c90), (121, c121), (1000000 + 187, c187), (154, c154), (159, k159), (160, k160), (161, k161), (162, k162)] [(22, ⟨[(15, .slot 6)], []⟩)] Tryz.f94 [.iface 128 (.agg [i64 x, i64 y, i64 r]), .iface 133 (.agg [.ro m 2 fun i => [i64 (Z i), i64 (T i)]])] (· = .agg (axC (outS m Z T x y r) (axSt 0 (gD m Z T x y r) m (gD m Z T x y r) 2))) := by
  refine fnVC_go (rs := [.cell 4 72]) rfl rfl ?_
  simp only [go_sem, c121]
  have hg' : spots m fun i => [i64 (Z i), i64 (T i)] := fun i hi => ⟨rfl, hZ i hi⟩
  generalize hS : axSt 0 (gD m Z T x y r) m (gD m Z T x y r) = S
  have s0 : S 0 = (0, -1, (0, false)) := by rw [← hS]; rfl
  have s1 : S 1 = S 0 := by rw [← hS]; rfl
  have s2 : S 2 = axF 1 (gD m Z T x y r) (S 1) m := by rw [← hS]; rfl
  have k0 : axOK (S 0) := .inl s0
  have k1 : axOK (S 1) := by rw [s1]; exact k0
  refine loopC_go (fun (i : Nat) => i ≤ 2) (fun i => 2 - i) (fun i => [(26, i64 i)]) (fun i => [(5, fam1 72 5 (axC false (S i)) none)]) [9, 2, 0] [27, 28, 29, 30, 7, 8, 32, 33, 31, 34, 35, 9, 10, 36, 37, 38, 39, 40, 41, 42, 43, 11, 12, 44, 45, 46, 47, 13, 14, 48, 49, 50, 51, 15, 52, 53, 54, 55, 56, 57, 58, 59, 60, 61, 62, 63, 64, 65, 66, 67, 68, 26] 0 (by kernel_rfl) ?_ (Nat.zero_le _) ?_ ?_
  · intro x _; simp [goodNames, asg]
  · simp only [go_sem, s0, axC]
  intro i hi
  match i with
  | 0 =>
    simp only [go_sem, axC, c121]
    simp only [false_imp_iff, true_imp_iff, reduceCtorEq, true_and, and_true, Bool.false_eq_true]
    refine fun z hz => ⟨1, by omega, by omega, by rw [hz]; decide, ?_⟩
    rw [s1]
    exact ⟨rfl, rfl, rfl, rfl⟩
  | 1 =>
    simp only [go_sem, axC, c121]
    simp only [false_imp_iff, true_imp_iff, reduceCtorEq, true_and, and_true, Bool.false_eq_true]
    refine rangeC_go (fun (j : Nat) => j ≤ m) (fun j => j) (fun j => [(5, fam1 72 5 (axC false (axF 1 (gD m Z T x y r) (S 1) j)) none), (37, fam1 3 1 [i64 j] none)]) [35, 24, 16, 9, 2, 0] [46, 47, 13, 14, 48, 49, 50, 51, 15, 52, 53, 54, 55, 56, 57, 58, 59, 60, 61, 62, 63, 64, 65, 66, 67] 0 0 (N := m) (sq := edgeE m fun i => [i64 (Z i), i64 (T i)]) (ob := [spots m fun i => [i64 (Z i), i64 (T i)], m ≤ 9223372036854775806]) rfl (owe2 hg' (by omega)) (by kernel_rfl) rfl (fun i _ => ⟨rfl, rfl⟩) (Nat.zero_le _) rfl ⟨[], ?_, ?_, ?_⟩ ?_ ?_
    · simp only [go_sem, axF, axC]
    · simp only [go_sem]
    · simp [goodNames, asg]
    · intro j hj hlt
      simp only [go_sem, edgeE, k159, k159d, k159p, c88, axC]
      refine ⟨h3, vZ j hlt, vZ _ (nxt_lt hlt), fun z hz => ⟨fun h z1 hz1 => ⟨j + 1, by have : j < m := hlt; omega, rfl, [], ?_⟩, fun h z1 hz1 => ⟨j + 1, by have : j < m := hlt; omega, rfl, [], ?_⟩⟩⟩
      · have es : axF 1 (gD m Z T x y r) (S 1) (j + 1) = (1, (j : Int), nSub (hgt (Z j) (T j) (Z (nxt m j)) (T (nxt m j)) x y) (nRat r 256)) := axF_hit (h.imp (fun q => by have := q.2.2.1; simp at this; omega) (fun q => by rw [hz] at q; exact q))
        rw [wrap_in (by have : j < m := hlt; unfold inR; omega)] at hz1
        simp only [go_sem, es, hz1]
        simp [goodNames, asg]
      · have es : axF 1 (gD m Z T x y r) (S 1) (j + 1) = axF 1 (gD m Z T x y r) (S 1) j := axF_not (by
          rintro (q | q)
          · exact axOK_not (axF_ok k1 _) h.1 q
          · exact h.2 (by rw [hz]; exact q))
        rw [wrap_in (by have : j < m := hlt; unfold inR; omega)] at hz1
        simp only [go_sem, es, hz1]
        simp [goodNames, asg]
    · intro j hj he
      simp only [go_sem, axC]
      refine fun z hz => ⟨2, by omega, by omega, by rw [hz]; decide, ?_⟩
      rw [s2, he]
      exact ⟨rfl, rfl, rfl, rfl⟩
  | 2 =>
    simp only [go_sem, axC, c90, c90e]
    simp only [false_imp_iff, true_imp_iff, reduceCtorEq, true_and, and_true, Bool.false_eq_true]
    exact fun z hz => ⟨hg', by omega, vZ, v1, by rw [hz]; rfl⟩
  | q + 3 => omega
theorem vc94dd (x y r x' y' r' : Int) :
    fnVC Tryz.prog [(63, k63), (88, c88), (90, c90), (121, c121), (1000000 + 187, c187), (154, c154), (159, k159), (160, k160), (161, k161), (162, k162)] [(22, ⟨[(15, .slot 6)], []⟩)] Tryz.f94 [.iface 128 (.agg [i64 x, i64 y, i64 r]), .iface 128 (.agg [i64 x', i64 y', i64 r'])] (· = .agg (axC (ddS x y r x' y' r') (0, -1, nSub (vLen (vLoc (mnW x x') (mnW y y'))) (nRat (IntKind.i64.wrap (r + r')) 256)))) := by
  refine fnVC_go (rs := [.cell 4 72]) rfl rfl ?_
  simp only [go_sem, c121]
  refine loopC_go (fun (i : Nat) => i ≤ 2) (fun i => 2 - i) (fun i => [(26, i64 i)]) (fun i => [(5, fam1 72 5 (axC false ax0) none)]) [9, 2, 0] [27, 28, 29, 30, 7, 8, 32, 33, 31, 34, 35, 9, 10, 36, 37, 38, 39, 40, 41, 42, 43, 11, 12, 44, 45, 46, 47, 13, 14, 48, 49, 50, 51, 15, 52, 53, 54, 55, 56, 57, 58, 59, 60, 61, 62, 63, 64, 65, 66, 67, 68, 26] 0 (by kernel_rfl) ?_ (Nat.zero_le _) ?_ ?_
  · intro x _; simp [goodNames, asg]
  · simp only [go_sem, ax0, axC]
  intro i hi
  match i with
  | 0 =>
    simp only [go_sem, axC, c121]
    simp only [false_imp_iff, true_imp_iff, reduceCtorEq, true_and, and_true, Bool.false_eq_true]
    exact fun z hz => ⟨1, by omega, by omega, by rw [hz]; decide⟩
  | 1 =>
    simp only [go_sem, axC, c121]
    simp only [false_imp_iff, true_imp_iff, reduceCtorEq, true_and, and_true, Bool.false_eq_true]
    exact fun z hz => ⟨2, by omega, by omega, by rw [hz]; decide⟩
  | 2 =>
    simp only [go_sem, axC, c90, c90d, c154, k63, k161, k162, k160, ax0]
    simp only [false_imp_iff, true_imp_iff, reduceCtorEq, true_and, and_true, Bool.false_eq_true]
    exact fun z hz z1 hz1 => ⟨by rw [hz]; exact wrap_inR _, by rw [hz1]; exact wrap_inR _, fun z2 hz2 => ⟨by rw [hz2]; exact wrap_inR _, fun z3 hz3 => by rw [hz, hz1, hz2, hz3]; rfl⟩⟩
  | q + 3 => omega
end Go.Ax
end

section
/-
  The axis between forms: the contracts.
-/
set_option linter.unusedVariables false
set_option linter.unusedSimpArgs false
set_option maxHeartbeats 4000000
set_option maxRecDepth 100000
namespace Go.Ax
open Go.Proofs
def axA (q : Bool) (s : AxT) : AV := .agg (axC q s)
theorem bnd_ax {q : Bool} {s : AxT} : bnd (axA q s) = .agg [bo q, i64 s.1, i64 s.2.1, i64 s.2.2.1, bo s.2.2.2] := (rfl)
theorem plain_ax {q : Bool} {s : AxT} : plain 3 (axA q s) = true := (rfl)
attribute [go_sem] bnd_ax plain_ax
def k94p : Con
  | [.iface 133 (.agg [.ro n 2 g]), .iface 133 (.agg [.ro m 2 g'])] => some ([spots n g, n ≤ 1000, 0 < n, ∀ i, i < n → validS (gx g 0 i) (gx g 1 i) = true, spots m g', m ≤ 1000, 0 < m, ∀ i, i < m → validS (gx g' 0 i) (gx g' 1 i) = true], axA (clrS n (gx g 0) (gx g 1) m (gx g' 0) (gx g' 1) || clrS m (gx g' 0) (gx g' 1) n (gx g 0) (gx g 1)) (axSt n (gP n (gx g 0) (gx g 1) m (gx g' 0) (gx g' 1)) m (gP m (gx g' 0) (gx g' 1) n (gx g 0) (gx g 1)) 2))
  | _ => none
theorem ctx94 : CtxOK Tryz.prog [(63, k63), (88, c88), (90, c90), (121, c121), (1000000 + 187, c187), (154, c154), (159, k159), (160, k160), (161, k161), (162, k162)] := .cons kon63 (.cons con88 (.cons con90 (.cons con121 (.seq seq187 (.cons con154 (.cons kon159 (.cons kon160 (.cons kon161 (.cons kon162 .nil)))))))))
theorem kon94p : ConOK Tryz.prog 94 k94p := ConOK.go (H := [(22, ⟨[(15, .slot 6)], []⟩)]) ctx94 Tryz.func94 fun l ob rr hc hob => by
  unfold k94p at hc
  split at hc
  · rename_i n g m g'
    cases hc
    have hs : spots n g := hob _ (by simp)
    have hs' : spots m g' := hob _ (by simp)
    exact ⟨[.iface 133 (.agg [.ro n 2 fun i => [i64 (gx g 0 i), i64 (gx g 1 i)]]), .iface 133 (.agg [.ro m 2 fun i => [i64 (gx g' 0 i), i64 (gx g' 1 i)]])], fun w I vs h => Rs_two (Rs_if (Rs_poly hs)) (Rs_if (Rs_poly hs')) h, by kernel_rfl, vc94pp n _ _ (fun i hi => (hs i hi).2) (hob _ (by simp)) (hob _ (by simp)) (hob _ (by simp)) m _ _ (fun i hi => (hs' i hi).2) (hob _ (by simp)) (hob _ (by simp)) (hob _ (by simp))⟩
  · cases hc
def k94q : Con
  | [.iface 133 (.agg [.ro n 2 g]), .iface 128 (.agg [.v (.int .i64 x), .v (.int .i64 y), .v (.int .i64 r)])] => some ([spots n g, n ≤ 1000, 0 < n, ∀ i, i < n → validS (gx g 0 i) (gx g 1 i) = true, validS x y = true, inR r], axA (outS n (gx g 0) (gx g 1) x y r) (axSt n (gD n (gx g 0) (gx g 1) x y r) 0 (gD n (gx g 0) (gx g 1) x y r) 2))
  | _ => none
theorem kon94q : ConOK Tryz.prog 94 k94q := ConOK.go (H := [(22, ⟨[(15, .slot 6)], []⟩)]) ctx94 Tryz.func94 fun l ob rr hc hob => by
  unfold k94q at hc
  split at hc
  · rename_i n g x y r
    cases hc
    have hs : spots n g := hob _ (by simp)
    exact ⟨[.iface 133 (.agg [.ro n 2 fun i => [i64 (gx g 0 i), i64 (gx g 1 i)]]), .iface 128 (.agg [i64 x, i64 y, i64 r])], fun w I vs h => Rs_two (Rs_if (Rs_poly hs)) (fun v h => h) h, by kernel_rfl, vc94pd n _ _ (fun i hi => (hs i hi).2) (hob _ (by simp)) (hob _ (by simp)) (hob _ (by simp)) x y r (hob _ (by simp)) (hob _ (by simp))⟩
  · cases hc
def k94r : Con
  | [.iface 128 (.agg [.v (.int .i64 x), .v (.int .i64 y), .v (.int .i64 r)]), .iface 133 (.agg [.ro n 2 g])] => some ([spots n g, n ≤ 1000, 0 < n, ∀ i, i < n → validS (gx g 0 i) (gx g 1 i) = true, validS x y = true, inR r], axA (outS n (gx g 0) (gx g 1) x y r) (axSt 0 (gD n (gx g 0) (gx g 1) x y r) n (gD n (gx g 0) (gx g 1) x y r) 2))
  | _ => none
theorem kon94r : ConOK Tryz.prog 94 k94r := ConOK.go (H := [(22, ⟨[(15, .slot 6)], []⟩)]) ctx94 Tryz.func94 fun l ob rr hc hob => by
  unfold k94r at hc
  split at hc
  · rename_i x y r n g
    cases hc
    have hs : spots n g := hob _ (by simp)
    exact ⟨[.iface 128 (.agg [i64 x, i64 y, i64 r]), .iface 133 (.agg [.ro n 2 fun i => [i64 (gx g 0 i), i64 (gx g 1 i)]])], fun w I vs h => Rs_two (fun v h => h) (Rs_if (Rs_poly hs)) h, by kernel_rfl, vc94dp x y r (hob _ (by simp)) (hob _ (by simp)) n _ _ (fun i hi => (hs i hi).2) (hob _ (by simp)) (hob _ (by simp)) (hob _ (by simp))⟩
  · cases hc
def k94d : Con
  | [.iface 128 (.agg [.v (.int .i64 x), .v (.int .i64 y), .v (.int .i64 r)]), .iface 128 (.agg [.v (.int .i64 a), .v (.int .i64 b), .v (.int .i64 s)])] => some ([], axA (ddS x y r a b s) (0, -1, nSub (vLen (vLoc (mnW x a) (mnW y b))) (nRat (IntKind.i64.wrap (r + s)) 256)))
  | _ => none
theorem kon94d : ConOK Tryz.prog 94 k94d := ConOK.go (H := [(22, ⟨[(15, .slot 6)], []⟩)]) ctx94 Tryz.func94 fun l ob rr hc hob => by
  unfold k94d at hc
  split at hc
  · rename_i x y r a b s
    cases hc
    exact ⟨_, fun w I vs h => h, by kernel_rfl, vc94dd x y r a b s⟩
  · cases hc
def k94 (l : List AV) : Option (List Prop × AV) := match l with
  | [.iface 133 _, .iface 128 _] => k94q l
  | [.iface 128 _, .iface 133 _] => k94r l
  | [.iface 128 _, .iface 128 _] => k94d l
  | [.iface 133 _, .iface 133 _] => k94p l
  | [.iface 128 _, .v .nilIface] => some ([False], axA false ax0)
  | [.iface 133 _, .v .nilIface] => some ([False], axA false ax0)
  | [.v .nilIface, .iface 128 _] => some ([False], axA false ax0)
  | [.v .nilIface, .iface 133 _] => some ([False], axA false ax0)
  | [.v .nilIface, .v .nilIface] => some ([False], axA false ax0)
  | _ => none
theorem kon94 : ConOK Tryz.prog 94 k94 := fun l ob rr hc hob => by
  unfold k94 at hc
  split at hc
  · exact kon94q _ _ _ hc hob
  · exact kon94r _ _ _ hc hob
  · exact kon94d _ _ _ hc hob
  · exact kon94p _ _ _ hc hob
  · cases hc; exact (hob False (by simp)).elim
  · cases hc; exact (hob False (by simp)).elim
  · cases hc; exact (hob False (by simp)).elim
  · cases hc; exact (hob False (by simp)).elim
  · cases hc; exact (hob False (by simp)).elim
  · cases hc
/-- The axis between two forms. -/
def axS (k x y r : Int) (n : Nat) (X Y : Nat → Int) (k' x' y' r' : Int) (m : Nat) (Z T : Nat → Int) : AxT :=
  if checkS k x y r n X Y = 0 ∧ checkS k' x' y' r' m Z T = 0 then
    (if k = 1 then (if k' = 1 then (0, -1, nSub (vLen (vLoc (mnW x x') (mnW y y'))) (nRat (IntKind.i64.wrap (r + r')) 256)) else axSt 0 (gD m Z T x y r) m (gD m Z T x y r) 2)
      else if k' = 1 then axSt n (gD n X Y x' y' r') 0 (gD n X Y x' y' r') 2 else axSt n (gP n X Y m Z T) m (gP m Z T n X Y) 2)
  else (0, 0, (0, false))
theorem fig_n {k x y r : Int} {n : Nat} {X Y : Nat → Int} (h : checkS k x y r n X Y = 0) (hk : ¬ k = 1) : 3 ≤ n ∧ n ≤ 8 := by
  have := (check_1 h).2.2.2.2 hk
  exact ⟨(convexS_iff.1 this.2.2).1, this.2.1⟩
theorem vc37 (k x y r : Int) (n : Nat) (g : Nat → List AV) (k' x' y' r' : Int) (m : Nat) (g' : Nat → List AV) (hg : spots n g) (hg' : spots m g') (hn : n ≤ 9223372036854775806) (hm : m ≤ 9223372036854775806) (h1 : inR x) (h2 : inR y) (h3 : inR r) (h4 : inR x') (h5 : inR y') (h6 : inR r') :
    fnVC Tryz.prog [(89, c89), (94, k94)] [] Tryz.f37 [formA k x y r n g, formA k' x' y' r' m g'] (· = axA (apS k x y r n (gx g 0) (gx g 1) k' x' y' r' m (gx g' 0) (gx g' 1)) (axS k x y r n (gx g 0) (gx g 1) k' x' y' r' m (gx g' 0) (gx g' 1))) := by
  refine fnVC_go (rs := [.cell 4 72]) rfl rfl ?_
  simp only [go_sem, c89, bothS, k94, k94p, k94q, k94r, k94d]
  refine ⟨fun hA => ⟨fun hk => ⟨fun hB => ⟨fun hk' => ?_, fun hk' => ?_⟩, fun hB => ?_⟩, fun hk => ⟨fun hB => ⟨fun hk' => ?_, fun hk' => ?_⟩, fun hB => ?_⟩⟩, fun hA => ⟨fun hB => ⟨fun hk' => ?_, fun hk' => ?_⟩, fun hB => ?_⟩⟩
  · exact fun z hz => ⟨hg, hg', hn, hm, h1, h2, h3, h4, h5, h6, fun h => (by rw [hz] at h; cases h), fun h => by have hAB := And.intro hA hB; simp only [apS, axS, if_pos hAB, if_pos hk, if_pos hk']; rfl⟩
  · have fB := fig_n hB
    exact fun z hz => ⟨hg, hg', hn, hm, h1, h2, h3, h4, h5, h6, fun h => (by rw [hz] at h; cases h), fun h => ⟨hg', (by have := fB hk'; omega), (by have := fB hk'; omega), (check_1 hB).2.2.1, (check_1 hA).2.1, h3, by have hAB := And.intro hA hB; simp only [apS, axS, if_pos hAB, if_pos hk, if_neg hk']; rfl⟩⟩
  · exact fun z hz => ⟨hg, hg', hn, hm, h1, h2, h3, h4, h5, h6, fun h => (by have hN : ¬ (checkS k x y r n (gx g 0) (gx g 1) = 0 ∧ checkS k' x' y' r' m (gx g' 0) (gx g' 1) = 0) := fun q => hB q.2; simp only [apS, axS, if_neg hN]; rfl), fun h => (by rw [hz] at h; cases h)⟩
  · have fA := fig_n hA
    exact fun z hz => ⟨hg, hg', hn, hm, h1, h2, h3, h4, h5, h6, fun h => (by rw [hz] at h; cases h), fun h => ⟨hg, (by have := fA hk; omega), (by have := fA hk; omega), (check_1 hA).2.2.1, (check_1 hB).2.1, h6, by have hAB := And.intro hA hB; simp only [apS, axS, if_pos hAB, if_neg hk, if_pos hk']; rfl⟩⟩
  · have fA := fig_n hA
    have fB := fig_n hB
    exact fun z hz => ⟨hg, hg', hn, hm, h1, h2, h3, h4, h5, h6, fun h => (by rw [hz] at h; cases h), fun h => ⟨hg, (by have := fA hk; omega), (by have := fA hk; omega), (check_1 hA).2.2.1, hg', (by have := fB hk'; omega), (by have := fB hk'; omega), (check_1 hB).2.2.1, by have hAB := And.intro hA hB; simp only [apS, axS, if_pos hAB, if_neg hk, if_neg hk']; rfl⟩⟩
  · exact fun z hz => ⟨hg, hg', hn, hm, h1, h2, h3, h4, h5, h6, fun h => (by have hN : ¬ (checkS k x y r n (gx g 0) (gx g 1) = 0 ∧ checkS k' x' y' r' m (gx g' 0) (gx g' 1) = 0) := fun q => hB q.2; simp only [apS, axS, if_neg hN]; rfl), fun h => (by rw [hz] at h; cases h)⟩
  · exact fun z hz => ⟨hg, hg', hn, hm, h1, h2, h3, h4, h5, h6, fun h => (by have hN : ¬ (checkS k x y r n (gx g 0) (gx g 1) = 0 ∧ checkS k' x' y' r' m (gx g' 0) (gx g' 1) = 0) := fun q => hA q.1; simp only [apS, axS, if_neg hN]; rfl), fun h => (by rw [hz] at h; cases h)⟩
  · exact fun z hz => ⟨hg, hg', hn, hm, h1, h2, h3, h4, h5, h6, fun h => (by have hN : ¬ (checkS k x y r n (gx g 0) (gx g 1) = 0 ∧ checkS k' x' y' r' m (gx g' 0) (gx g' 1) = 0) := fun q => hA q.1; simp only [apS, axS, if_neg hN]; rfl), fun h => (by rw [hz] at h; cases h)⟩
  · exact fun z hz => ⟨hg, hg', hn, hm, h1, h2, h3, h4, h5, h6, fun h => (by have hN : ¬ (checkS k x y r n (gx g 0) (gx g 1) = 0 ∧ checkS k' x' y' r' m (gx g' 0) (gx g' 1) = 0) := fun q => hA q.1; simp only [apS, axS, if_neg hN]; rfl), fun h => (by rw [hz] at h; cases h)⟩
def c37 : Con
  | [.agg [.v (.int .i64 k), .v (.int .i64 x), .v (.int .i64 y), .v (.int .i64 r), .ro n 2 g], .agg [.v (.int .i64 k'), .v (.int .i64 x'), .v (.int .i64 y'), .v (.int .i64 r'), .ro m 2 g']] => some ([spots n g, spots m g', n ≤ 9223372036854775806, m ≤ 9223372036854775806, inR x, inR y, inR r, inR x', inR y', inR r'],
      axA (apS k x y r n (gx g 0) (gx g 1) k' x' y' r' m (gx g' 0) (gx g' 1)) (axS k x y r n (gx g 0) (gx g 1) k' x' y' r' m (gx g' 0) (gx g' 1)))
  | _ => none
theorem con37 : ConOK Tryz.prog 37 c37 := ConOK.go (G := [(89, c89), (94, k94)]) (H := []) (.cons con89 (.cons kon94 .nil)) Tryz.func37 fun l ob rr hc hob => by
  unfold c37 at hc
  split at hc
  · rename_i k x y r n g k' x' y' r' m g'
    cases hc
    exact ⟨_, fun w I vs h => h, by kernel_rfl, vc37 k x y r n g k' x' y' r' m g' (hob _ (by simp)) (hob _ (by simp)) (hob _ (by simp)) (hob _ (by simp)) (hob _ (by simp)) (hob _ (by simp)) (hob _ (by simp)) (hob _ (by simp)) (hob _ (by simp)) (hob _ (by simp))⟩
  · cases hc
end Go.Ax
end

section
/-
  The axis between forms: the reference's.
-/
set_option linter.unusedVariables false
set_option linter.unusedSimpArgs false
set_option maxHeartbeats 4000000
set_option maxRecDepth 100000
namespace Go.Ax
open Go.Proofs
theorem vc38 (k x y r : Int) (n : Nat) (X Y : Nat → Int) (k' x' y' r' : Int) (m : Nat) (Z T : Nat → Int) (hX : ∀ i, i < n → inR (X i) ∧ inR (Y i)) (hZ : ∀ i, i < m → inR (Z i) ∧ inR (T i)) (hn : n ≤ 9223372036854775806) (hm : m ≤ 9223372036854775806) (h1 : inR x) (h2 : inR y) (h3 : inR r) (h4 : inR x') (h5 : inR y') (h6 : inR r') :
    fnVC Tryz.prog [(21, c20), (36, c35), (46, k46), (47, k47), (54, k54), (69, k69), (79, c79), (81, c81), (95, k95), (96, c96)] [(5, ⟨[(15, .slot 5)], []⟩), (10, ⟨[(4, .made 2), (5, .made 3)], [(1, [.made 2])]⟩), (12, ⟨[(2, .slot 7), (3, .slot 8)], [(1, [.slot 7])]⟩), (19, ⟨[(4, .slot 5), (6, .slot 5), (8, .slot 5)], [(2, [.slot 5])]⟩)] Tryz.f38 [formA k x y r n fun i => [i64 (X i), i64 (Y i)], formA k' x' y' r' m fun i => [i64 (Z i), i64 (T i)]] (· = axA (apS k x y r n X Y k' x' y' r' m Z T) (axS k x y r n X Y k' x' y' r' m Z T)) := by
  refine fnVC_go (rs := [.cell 4 72]) rfl rfl ?_
  have hg : spots n fun i => [i64 (X i), i64 (Y i)] := fun i hi => ⟨rfl, hX i hi⟩
  have hg' : spots m fun i => [i64 (Z i), i64 (T i)] := fun i hi => ⟨rfl, hZ i hi⟩
  have eX : gx (fun i => [i64 (X i), i64 (Y i)]) 0 = X := rfl
  have eY : gx (fun i => [i64 (X i), i64 (Y i)]) 1 = Y := rfl
  have eZ : gx (fun i => [i64 (Z i), i64 (T i)]) 0 = Z := rfl
  have eT : gx (fun i => [i64 (Z i), i64 (T i)]) 1 = T := rfl
  simp only [go_sem, c20, c35, c81, k69, k47, k54, k46, eX, eY, eZ, eT]
  intro c hc
  refine ⟨hg, hn, h1, h2, h3, fun c' hc' => ⟨fun _ => hg', fun _ => hm, fun _ => h4, fun _ => h5, fun _ => h6, fun h => ?_, fun h q hq => ⟨hg, hg', hn, hm, h1, h2, h3, h4, h5, h6, fun hk => ?_, fun hk => ?_⟩⟩⟩
  · have hN : ¬ (checkS k x y r n X Y = 0 ∧ checkS k' x' y' r' m Z T = 0) := fun q => by
      rw [hc, hc'] at h
      rcases h with h | h
      · exact (bne_iff_ne.1 h) q.1
      · exact (bne_iff_ne.1 h) q.2
    simp only [apS, axS, if_neg hN]; rfl
  · have hA : checkS k x y r n X Y = 0 := by rw [← hc]; exact bne_eq_false_iff_eq.1 h.1
    have hB : checkS k' x' y' r' m Z T = 0 := by rw [← hc']; exact bne_eq_false_iff_eq.1 h.2
    have hAB := And.intro hA hB
    have k1 : k = 1 := by simpa using hk.1
    have k2 : k' = 1 := by simpa using hk.2
    refine fun z hz z1 hz1 => ⟨by rw [hz]; exact wrap_inR _, by rw [hz1]; exact wrap_inR _, fun z2 hz2 => ⟨by rw [hz2]; exact wrap_inR _, ?_⟩⟩
    rw [hq, hz, hz1, hz2]
    simp only [axS, if_pos hAB, if_pos k1, if_pos k2]; rfl
  have hA : checkS k x y r n X Y = 0 := by rw [← hc]; exact bne_eq_false_iff_eq.1 h.1
  have hB : checkS k' x' y' r' m Z T = 0 := by rw [← hc']; exact bne_eq_false_iff_eq.1 h.2
  have hAB := And.intro hA hB
  have vX := (check_1 hA).2.2.1
  have vZ := (check_1 hB).2.2.1
  have nA : k = 1 → n = 0 := fun e => ((check_1 hA).2.2.2.1 e).2.2.2
  have nB : k' = 1 → m = 0 := fun e => ((check_1 hB).2.2.2.1 e).2.2.2
  have pA : ¬ k = 1 → 0 < n := fun e => by have := fig_n hA e; omega
  have pB : ¬ k' = 1 → 0 < m := fun e => by have := fig_n hB e; omega
  have hS : ∃ S : Nat → AxT, S 0 = (0, -1, (0, false)) ∧ S 1 = axF 0 (fun j => gapS (X j) (Y j) (X (nxt n j)) (Y (nxt n j)) k' x' y' r' m Z T) (S 0) n ∧ S 2 = axF 1 (fun j => gapS (Z j) (T j) (Z (nxt m j)) (T (nxt m j)) k x y r n X Y) (S 1) m ∧ axS k x y r n X Y k' x' y' r' m Z T = S 2 := by
    refine ⟨axSt n (fun j => gapS (X j) (Y j) (X (nxt n j)) (Y (nxt n j)) k' x' y' r' m Z T) m (fun j => gapS (Z j) (T j) (Z (nxt m j)) (T (nxt m j)) k x y r n X Y), rfl, rfl, rfl, ?_⟩
    unfold axS
    rw [if_pos hAB]
    by_cases e : k = 1
    · by_cases e' : k' = 1
      · rw [e, e'] at hk; cases hk
      · have hG : (fun j => gapS (Z j) (T j) (Z (nxt m j)) (T (nxt m j)) k x y r n X Y) = gD m Z T x y r := funext fun j => if_pos e
        rw [if_pos e, if_neg e', hG, nA e]
        rfl
    · by_cases e' : k' = 1
      · have hG : (fun j => gapS (X j) (Y j) (X (nxt n j)) (Y (nxt n j)) k' x' y' r' m Z T) = gD n X Y x' y' r' := funext fun j => if_pos e'
        rw [if_neg e, if_pos e', hG, nB e']
        rfl
      · have hG : (fun j => gapS (X j) (Y j) (X (nxt n j)) (Y (nxt n j)) k' x' y' r' m Z T) = gP n X Y m Z T := funext fun j => if_neg e'
        have hG' : (fun j => gapS (Z j) (T j) (Z (nxt m j)) (T (nxt m j)) k x y r n X Y) = gP m Z T n X Y := funext fun j => if_neg e
        rw [if_neg e, if_neg e', hG, hG']
  obtain ⟨S, s0, s1, s2, s3⟩ := hS
  rw [s3]
  have k0 : axOK (S 0) := .inl s0
  have k1 : axOK (S 1) := by rw [s1]; exact axF_ok k0 _
  refine loopC_go (fun (i : Nat) => i ≤ 2) (fun i => 2 - i) (fun i => [(6, i64 i)]) (fun i => [(15, fam1 72 5 (axC q (S i)) none)]) [2, 1, 0] [50, 51, 54, 55, 7, 8, 56, 57, 58, 59, 9, 60, 61, 62, 63, 64, 68, 69, 70, 67, 71, 72, 10, 11, 73, 74, 75, 76, 12, 77, 78, 79, 80, 81, 82, 83, 84, 85, 86, 87, 88, 89, 90, 91, 92, 65, 66, 9, 52, 53, 6] 0 (by kernel_rfl) ?_ (Nat.zero_le _) ?_ ?_
  · intro x _; simp [goodNames, asg]
  · simp only [go_sem, s0, axC]
  intro i hi
  match i with
  | 0 =>
    simp only [go_sem, axC]
    simp only [false_imp_iff, true_imp_iff, reduceCtorEq, true_and, and_true, Bool.false_eq_true]
    refine ⟨fun h => absurd h (by decide), fun _ => ?_⟩
    refine loopC_go (fun (j : Nat) => j ≤ n) (fun j => n - j) (fun j => [(9, i64 j)]) (fun j => [(15, fam1 72 5 (axC q (axF 0 (fun j => gapS (X j) (Y j) (X (nxt n j)) (Y (nxt n j)) k' x' y' r' m Z T) (S 0) j)) none)]) [31, 30, 2, 1, 0] [60, 61, 62, 63, 64, 68, 69, 70, 67, 71, 72, 10, 11, 73, 74, 75, 76, 12, 77, 78, 79, 80, 81, 82, 83, 84, 85, 86, 87, 88, 89, 90, 91, 92, 65, 66, 9] 0 (by kernel_rfl) ?_ (Nat.zero_le _) ?_ ?_
    · intro x _; simp [goodNames, asg]
    · simp only [go_sem, axF, axC]
    intro j hj
    simp only [go_sem, axC, c79, k95, c96]
    refine ⟨fun hin => ?_, fun hin z hz => ⟨1, by omega, by omega, by rw [hz]; decide, ?_⟩⟩
    · have hlt : j < n := by omega
      refine ⟨hg, by omega, hin, hn, hg', hm, h6, vX j hlt, vX _ (nxt_lt hlt), pB, fun z hz => ⟨fun h z1 hz1 => ⟨j + 1, by omega, by omega, by rw [hz1, wrap_in (by unfold inR; omega)]; rfl, ?_⟩, fun h z1 hz1 => ⟨j + 1, by omega, by omega, by rw [hz1, wrap_in (by unfold inR; omega)]; rfl, ?_⟩⟩⟩
      · rw [axF_hit (h.imp id (fun q => by rw [hz] at q; exact q))]
        exact ⟨rfl, rfl, rfl, rfl⟩
      · rw [axF_not (by
          rintro (q | q)
          · exact h.1 q
          · exact h.2 (by rw [hz]; exact q))]
        exact ⟨rfl, rfl, rfl, rfl⟩
    · rw [s1, show j = n by omega]
      exact ⟨rfl, rfl, rfl, rfl⟩
  | 1 =>
    simp only [go_sem, axC]
    simp only [false_imp_iff, true_imp_iff, reduceCtorEq, true_and, and_true, Bool.false_eq_true]
    refine ⟨fun _ => ?_, fun h => absurd h (by decide)⟩
    refine loopC_go (fun (j : Nat) => j ≤ m) (fun j => m - j) (fun j => [(9, i64 j)]) (fun j => [(15, fam1 72 5 (axC q (axF 1 (fun j => gapS (Z j) (T j) (Z (nxt m j)) (T (nxt m j)) k x y r n X Y) (S 1) j)) none)]) [31, 30, 2, 1, 0] [60, 61, 62, 63, 64, 68, 69, 70, 67, 71, 72, 10, 11, 73, 74, 75, 76, 12, 77, 78, 79, 80, 81, 82, 83, 84, 85, 86, 87, 88, 89, 90, 91, 92, 65, 66, 9] 0 (by kernel_rfl) ?_ (Nat.zero_le _) ?_ ?_
    · intro x _; simp [goodNames, asg]
    · simp only [go_sem, axF, axC]
    intro j hj
    simp only [go_sem, axC, c79, k95, c96]
    refine ⟨fun hin => ?_, fun hin z hz => ⟨2, by omega, by omega, by rw [hz]; decide, ?_⟩⟩
    · have hlt : j < m := by omega
      refine ⟨hg', by omega, hin, hm, hg, hn, h3, vZ j hlt, vZ _ (nxt_lt hlt), pA, fun z hz => ⟨fun h z1 hz1 => ⟨j + 1, by omega, by omega, by rw [hz1, wrap_in (by unfold inR; omega)]; rfl, ?_⟩, fun h z1 hz1 => ⟨j + 1, by omega, by omega, by rw [hz1, wrap_in (by unfold inR; omega)]; rfl, ?_⟩⟩⟩
      · rw [axF_hit (h.imp id (fun q => by rw [hz] at q; exact q))]
        exact ⟨rfl, rfl, rfl, rfl⟩
      · rw [axF_not (by
          rintro (q | q)
          · exact h.1 q
          · exact h.2 (by rw [hz]; exact q))]
        exact ⟨rfl, rfl, rfl, rfl⟩
    · rw [s2, show j = m by omega]
      exact ⟨rfl, rfl, rfl, rfl⟩
  | 2 =>
    simp only [go_sem, axC]
    simp only [false_imp_iff, true_imp_iff, reduceCtorEq, true_and, and_true, Bool.false_eq_true]
    rw [hq]; rfl
  | q + 3 => omega
theorem con38 : ConOK Tryz.prog 38 c37 := ConOK.go (G := [(21, c20), (36, c35), (46, k46), (47, k47), (54, k54), (69, k69), (79, c79), (81, c81), (95, k95), (96, c96)]) (H := [(5, ⟨[(15, .slot 5)], []⟩), (10, ⟨[(4, .made 2), (5, .made 3)], [(1, [.made 2])]⟩), (12, ⟨[(2, .slot 7), (3, .slot 8)], [(1, [.slot 7])]⟩), (19, ⟨[(4, .slot 5), (6, .slot 5), (8, .slot 5)], [(2, [.slot 5])]⟩)]) (.cons con21 (.cons con36 (.cons kon46 (.cons kon47 (.cons kon54 (.cons kon69 (.cons con79 (.cons con81 (.cons kon95 (.cons con96 .nil)))))))))) Tryz.func38 fun l ob rr hc hob => by
  unfold c37 at hc
  split at hc
  · rename_i k x y r n g k' x' y' r' m g'
    cases hc
    have hs : spots n g := hob _ (by simp)
    have hs' : spots m g' := hob _ (by simp)
    exact ⟨[formA k x y r n fun i => [i64 (gx g 0 i), i64 (gx g 1 i)], formA k' x' y' r' m fun i => [i64 (gx g' 0 i), i64 (gx g' 1 i)]], fun w I vs h => Rs_two (Rs_form hs) (Rs_form hs') h, by kernel_rfl, vc38 k x y r n _ _ k' x' y' r' m _ _ (fun i hi => (hs i hi).2) (fun i hi => (hs' i hi).2) (hob _ (by simp)) (hob _ (by simp)) (hob _ (by simp)) (hob _ (by simp)) (hob _ (by simp)) (hob _ (by simp)) (hob _ (by simp)) (hob _ (by simp))⟩
  · cases hc
theorem vc7 (k x y r : Int) (n : Nat) (X Y : Nat → Int) (k' x' y' r' : Int) (m : Nat) (Z T : Nat → Int) (hX : ∀ i, i < n → inR (X i) ∧ inR (Y i)) (h1 : inR x) (h2 : inR y) (h3 : inR r) (hZ : ∀ i, i < m → inR (Z i) ∧ inR (T i)) (h4 : inR x') (h5 : inR y') (h6 : inR r') :
    fnVC Tryz.prog [(13, c13), (14, c14), (15, c15), (19, c19), (35, c35), (36, c35), (37, c37), (38, c37)] [(3, ⟨[(6, .made 4), (7, .made 5)], []⟩)] Tryz.f7 [formA k x y r n fun i => [i64 (X i), i64 (Y i)], formA k' x' y' r' m fun i => [i64 (Z i), i64 (T i)]] (· = bo true) := by
  refine fnVC_go (rs := [.tmp 4]) rfl rfl ?_
  have hg : spots n fun i => [i64 (X i), i64 (Y i)] := fun i hi => ⟨rfl, hX i hi⟩
  have hg' : spots m fun i => [i64 (Z i), i64 (T i)] := fun i hi => ⟨rfl, hZ i hi⟩
  simp only [go_sem, c13, c14, c15, c19, c35, c37]
  intro z hz z1 hz1
  refine ⟨fun _ _ => trivial, fun h => ?_⟩
  have hn : n ≤ 12 := by have h := h.1; rw [hz] at h; have := of_decide_eq_true h; omega
  have hm : m ≤ 12 := by have h := h.2; rw [hz1] at h; have := of_decide_eq_true h; omega
  have n2 : n ≤ 1000 := by omega
  have n3 : n ≤ 9223372036854775806 := by omega
  have m2 : m ≤ 1000 := by omega
  have m3 : m ≤ 9223372036854775806 := by omega
  simp only [forall_eq, hg, hg', n2, n3, m2, m3, h1, h2, h3, h4, h5, h6, and_self, implies_true, true_and, beq_self_eq_true, sameF_self]
end Go.Ax
end

section
/-
  Plane geometry: what is inside a convex polygon is on no line's far side.
-/
set_option linter.unusedVariables false
set_option linter.unusedSimpArgs false
set_option maxHeartbeats 4000000
namespace Go.Ax
def crs (ax ay bx byy : Int) : Int := ax * byy - ay * bx
theorem crs_id {ax ay bx byy cx cy p q : Int} : (p * bx + q * byy) * crs ax ay cx cy = (p * cx + q * cy) * crs ax ay bx byy + (p * ax + q * ay) * crs bx byy cx cy := by
  unfold crs; grind
theorem crs_trans {ax ay bx byy cx cy p q : Int} (ha : p * ax + q * ay < 0) (hb : p * bx + q * byy < 0) (hc : p * cx + q * cy < 0) (h1 : 0 ≤ crs ax ay bx byy) (h2 : 0 ≤ crs bx byy cx cy) : 0 ≤ crs ax ay cx cy := by
  have e := @crs_id ax ay bx byy cx cy p q
  generalize crs ax ay bx byy = u at *
  generalize crs bx byy cx cy = v at *
  generalize crs ax ay cx cy = w at *
  generalize p * ax + q * ay = fa at *
  generalize p * bx + q * byy = fb at *
  generalize p * cx + q * cy = fc at *
  have k1 : fc * u ≤ 0 := Int.mul_nonpos_of_nonpos_of_nonneg (by omega) h1
  have k2 : fa * v ≤ 0 := Int.mul_nonpos_of_nonpos_of_nonneg (by omega) h2
  have k3 : fb * w ≤ 0 := by omega
  refine Int.not_lt.1 fun hw => ?_
  have : 0 < fb * w := Int.mul_pos_of_neg_of_neg hb hw
  omega
/-- Three that follow one another round: they lie on one line through the spot. -/
theorem crs_three {ax ay bx byy cx cy p q : Int} (ha : p * ax + q * ay < 0) (hb : p * bx + q * byy < 0) (hc : p * cx + q * cy < 0) (h1 : 0 ≤ crs ax ay bx byy) (h2 : 0 ≤ crs bx byy cx cy) (h3 : 0 ≤ crs cx cy ax ay) :
    crs ax ay bx byy + crs bx byy cx cy + crs cx cy ax ay = 0 := by
  have e := @crs_id ax ay bx byy cx cy p q
  have e4 : crs ax ay cx cy = -crs cx cy ax ay := by unfold crs; grind
  rw [e4] at e
  generalize crs ax ay bx byy = u at *
  generalize crs bx byy cx cy = v at *
  generalize crs cx cy ax ay = w at *
  generalize p * ax + q * ay = fa at *
  generalize p * bx + q * byy = fb at *
  generalize p * cx + q * cy = fc at *
  have k1 : fc * u ≤ 0 := Int.mul_nonpos_of_nonpos_of_nonneg (by omega) h1
  have k2 : fa * v ≤ 0 := Int.mul_nonpos_of_nonpos_of_nonneg (by omega) h2
  have k3 : fb * w ≤ 0 := Int.mul_nonpos_of_nonpos_of_nonneg (by omega) h3
  have e' : -(fb * w) = fc * u + fa * v := by rw [← e]; grind
  have z1 : fc * u = 0 := by omega
  have z2 : fa * v = 0 := by omega
  have z3 : fb * w = 0 := by omega
  have y1 : u = 0 := by rcases Int.mul_eq_zero.1 z1 with h | h <;> omega
  have y2 : v = 0 := by rcases Int.mul_eq_zero.1 z2 with h | h <;> omega
  have y3 : w = 0 := by rcases Int.mul_eq_zero.1 z3 with h | h <;> omega
  omega
/-- A row of such vectors. -/
theorem crs_chain {V W : Nat → Int} {p q : Int} {n : Nat} (hf : ∀ i, i < n → p * V i + q * W i < 0) (hs : ∀ i, i + 1 < n → 0 ≤ crs (V i) (W i) (V (i + 1)) (W (i + 1))) (i : Nat) : ∀ k, i + k + 1 < n → 0 ≤ crs (V i) (W i) (V (i + k + 1)) (W (i + k + 1))
  | 0, h => hs i h
  | k + 1, h => crs_trans (hf i (by omega)) (hf (i + k + 1) (by omega)) (hf (i + k + 2) (by omega)) (crs_chain hf hs i k (by omega)) (hs (i + k + 1) (by omega))
/-- The spot P/d, Q/d that has no edge of a convex polygon on its wrong side is, in each direction, not beyond all corners. -/
theorem inside_dir {n : Nat} {X Y : Nat → Int} {P Q d p q : Int} (hc : convexS n X Y = true) (hd : 0 < d)
    (hin : ∀ i, i < n → 0 ≤ (X (nxt n i) - X i) * (Q - d * Y i) - (Y (nxt n i) - Y i) * (P - d * X i)) : ∃ j, j < n ∧ p * P + q * Q ≤ p * (d * X j) + q * (d * Y j) := by
  obtain ⟨h3, _, hcv⟩ := convexS_iff.1 hc
  refine Classical.byContradiction fun hno => ?_
  have hf : ∀ i, i < n → p * (d * X i - P) + q * (d * Y i - Q) < 0 := fun i hi => by
    have : ¬ (p * P + q * Q ≤ p * (d * X i) + q * (d * Y i)) := fun h => hno ⟨i, hi, h⟩
    grind
  have hs : ∀ i, i < n → 0 ≤ crs (d * X i - P) (d * Y i - Q) (d * X (nxt n i) - P) (d * Y (nxt n i) - Q) := fun i hi => by
    have e : crs (d * X i - P) (d * Y i - Q) (d * X (nxt n i) - P) (d * Y (nxt n i) - Q) = d * ((X (nxt n i) - X i) * (Q - d * Y i) - (Y (nxt n i) - Y i) * (P - d * X i)) := by unfold crs; grind
    rw [e]
    exact Int.mul_nonneg (by omega) (hin i hi)
  have hs' : ∀ i, i + 1 < n → 0 ≤ crs (d * X i - P) (d * Y i - Q) (d * X (i + 1) - P) (d * Y (i + 1) - Q) := fun i hi => by
    have := hs i (by omega)
    rwa [show nxt n i = i + 1 by unfold nxt; rw [if_pos hi]] at this
  have hl := hs (n - 1) (by omega)
  rw [show nxt n (n - 1) = 0 by unfold nxt; rw [if_neg (by omega)]] at hl
  have h01 := hs' 0 (by omega)
  have h12 := hs' 1 (by omega)
  have h20 : 0 ≤ crs (d * X 2 - P) (d * Y 2 - Q) (d * X 0 - P) (d * Y 0 - Q) := by
    by_cases e : n = 3
    · subst e; exact hl
    · have hch := crs_chain (V := fun i => d * X i - P) (W := fun i => d * Y i - Q) hf hs' 2 (n - 4) (by omega)
      rw [show 2 + (n - 4) + 1 = n - 1 by omega] at hch
      exact crs_trans (hf 2 (by omega)) (hf (n - 1) (by omega)) (hf 0 (by omega)) hch hl
  have hz := crs_three (hf 0 (by omega)) (hf 1 (by omega)) (hf 2 (by omega)) h01 h12 h20
  have ht := hcv 0 (by omega) 2 (by omega) (by omega) (by unfold nxt; rw [if_pos (by omega)]; omega)
  rw [show nxt n 0 = 1 by unfold nxt; rw [if_pos (by omega)]] at ht
  have e : crs (d * X 0 - P) (d * Y 0 - Q) (d * X 1 - P) (d * Y 1 - Q) + crs (d * X 1 - P) (d * Y 1 - Q) (d * X 2 - P) (d * Y 2 - Q) + crs (d * X 2 - P) (d * Y 2 - Q) (d * X 0 - P) (d * Y 0 - Q) = d * d * turnS (X 0) (Y 0) (X 1) (Y 1) (X 2) (Y 2) := by unfold crs turnS; grind
  rw [e] at hz
  have : 0 < d * d * turnS (X 0) (Y 0) (X 1) (Y 1) (X 2) (Y 2) := Int.mul_pos (Int.mul_pos hd hd) ht
  omega
end Go.Ax
end

section
/-
  What a way meets of a polygon: the least and the greatest of the crossings.
-/
set_option linter.unusedVariables false
set_option linter.unusedSimpArgs false
set_option maxHeartbeats 4000000
namespace Go.Ax
/-- The crossings that enter are not beyond the best, those that leave not before. -/
def plBest (G H : Nat → Int) (i : Nat) (s : PS) : Prop :=
  0 < s.2.1.2 ∧ 0 < s.2.2.2 ∧ (∀ j, j < i → G j < 0 → 0 ≤ H j → -G j * s.2.1.2 ≤ s.2.1.1 * (H j - G j)) ∧ (∀ j, j < i → 0 ≤ G j → H j < 0 → s.2.2.1 * (G j - H j) ≤ G j * s.2.2.2)
theorem frac_trans {a b c d e f : Int} (hb : 0 < b) (hd : 0 < d) (hf : 0 < f) (h1 : a * d ≤ c * b) (h2 : c * f ≤ e * d) : a * f ≤ e * b := by
  have k1 : a * d * f ≤ c * b * f := Int.mul_le_mul_of_nonneg_right h1 (by omega)
  have k2 : c * f * b ≤ e * d * b := Int.mul_le_mul_of_nonneg_right h2 (by omega)
  have k3 : a * f * d ≤ e * b * d := by
    have e1 : a * f * d = a * d * f := by grind
    have e2 : c * b * f = c * f * b := by grind
    have e3 : e * b * d = e * d * b := by grind
    omega
  exact Int.le_of_mul_le_mul_right k3 hd
theorem plS_best {G H : Nat → Int} : ∀ i, (∀ j, j < i → ¬ (G j < 0 ∧ H j < 0)) → plBest G H i (plS G H i)
  | 0, _ => ⟨by show (0 : Int) < 1; omega, by show (0 : Int) < 1; omega, fun j hj => absurd hj (Nat.not_lt_zero j), fun j hj => absurd hj (Nat.not_lt_zero j)⟩
  | i + 1, h => by
    have ih := plS_best i fun j hj => h j (by omega)
    have hi := h i (by omega)
    generalize hs : plS G H i = s at ih
    obtain ⟨p1, p2, p3, p4⟩ := ih
    have e : plS G H (i + 1) = if G i < 0 then (if s.2.1.1 * (H i - G i) < -G i * s.2.1.2 then ((i : Int), (-G i, H i - G i), s.2.2) else s)
        else if H i < 0 then (if G i * s.2.2.2 < s.2.2.1 * (G i - H i) then (s.1, s.2.1, (G i, G i - H i)) else s) else s := by rw [← hs]; rfl
    rw [e]
    by_cases g : G i < 0
    · rw [if_pos g]
      have hH : 0 ≤ H i := by omega
      by_cases c : s.2.1.1 * (H i - G i) < -G i * s.2.1.2
      · rw [if_pos c]
        refine ⟨by show 0 < H i - G i; omega, p2, fun j hj g1 g2 => ?_, fun j hj g1 g2 => ?_⟩
        · show -G j * (H i - G i) ≤ -G i * (H j - G j)
          by_cases q : j = i
          · subst q; exact Int.le_refl _
          · exact frac_trans (by omega) p1 (by omega) (p3 j (by omega) g1 g2) (by omega)
        · by_cases q : j = i
          · subst q; omega
          · exact p4 j (by omega) g1 g2
      · rw [if_neg c]
        refine ⟨p1, p2, fun j hj g1 g2 => ?_, fun j hj g1 g2 => ?_⟩
        · by_cases q : j = i
          · subst q; omega
          · exact p3 j (by omega) g1 g2
        · by_cases q : j = i
          · subst q; omega
          · exact p4 j (by omega) g1 g2
    · rw [if_neg g]
      by_cases g' : H i < 0
      · rw [if_pos g']
        by_cases c : G i * s.2.2.2 < s.2.2.1 * (G i - H i)
        · rw [if_pos c]
          refine ⟨p1, by show 0 < G i - H i; omega, fun j hj g1 g2 => ?_, fun j hj g1 g2 => ?_⟩
          · by_cases q : j = i
            · subst q; omega
            · exact p3 j (by omega) g1 g2
          · show G i * (G j - H j) ≤ G j * (G i - H i)
            by_cases q : j = i
            · subst q; exact Int.le_refl _
            · exact frac_trans (by omega) p2 (by omega) (by omega) (p4 j (by omega) g1 g2)
        · rw [if_neg c]
          refine ⟨p1, p2, fun j hj g1 g2 => ?_, fun j hj g1 g2 => ?_⟩
          · by_cases q : j = i
            · subst q; omega
            · exact p3 j (by omega) g1 g2
          · by_cases q : j = i
            · subst q; omega
            · exact p4 j (by omega) g1 g2
      · rw [if_neg g']
        refine ⟨p1, p2, fun j hj g1 g2 => ?_, fun j hj g1 g2 => ?_⟩
        · by_cases q : j = i
          · subst q; omega
          · exact p3 j (by omega) g1 g2
        · by_cases q : j = i
          · subst q; omega
          · exact p4 j (by omega) g1 g2
end Go.Ax
end

section
/-
  A way that passes a spot of a box meets the box; what a way meets of a polygon is in it.
-/
set_option linter.unusedVariables false
set_option linter.unusedSimpArgs false
set_option maxHeartbeats 4000000
namespace Go.Ax
theorem way_box {a b c d : Int} (h1 : validS a b = true) (h2 : validS c d = true) : wayB a b c d 0 = min a c ∧ wayB a b c d 1 = min b d ∧ wayB a b c d 2 = max a c ∧ wayB a b c d 3 = max b d := by
  have k1 := validS_iff.1 h1
  have k2 := validS_iff.1 h2
  have e1 : checkBoxS a b a b = 0 := checkBoxS_iff.2 (by omega)
  have e2 : checkBoxS c d c d = 0 := checkBoxS_iff.2 (by omega)
  unfold wayB
  rw [wrap_in (x := a - 0) (by unfold inR; omega), wrap_in (x := b - 0) (by unfold inR; omega), wrap_in (x := a + 0) (by unfold inR; omega), wrap_in (x := b + 0) (by unfold inR; omega), wrap_in (x := c - 0) (by unfold inR; omega), wrap_in (x := d - 0) (by unfold inR; omega), wrap_in (x := c + 0) (by unfold inR; omega), wrap_in (x := d + 0) (by unfold inR; omega)]
  simp only [Int.sub_zero, Int.add_zero]
  unfold joinT
  simp only [if_pos (And.intro e1 e2), and_self]
theorem mul_between {x y t n e : Int} (hn : 0 ≤ n) (he : n ≤ e) (h0 : 0 < e) : e * min x y ≤ e * x + n * (y - x) ∧ e * x + n * (y - x) ≤ e * max x y := by
  by_cases h : x ≤ y
  · rw [Int.min_eq_left h, Int.max_eq_right h]
    have k1 : 0 ≤ n * (y - x) := Int.mul_nonneg hn (by omega)
    have k2 : n * (y - x) ≤ e * (y - x) := Int.mul_le_mul_of_nonneg_right he (by omega)
    have k3 : e * (y - x) = e * y - e * x := Int.mul_sub ..
    omega
  · rw [Int.min_eq_right (by omega), Int.max_eq_left (by omega)]
    have k1 : 0 ≤ n * (x - y) := Int.mul_nonneg hn (by omega)
    have k2 : n * (x - y) ≤ e * (x - y) := Int.mul_le_mul_of_nonneg_right he (by omega)
    have k3 : e * (x - y) = e * x - e * y := Int.mul_sub ..
    have k4 : n * (y - x) = -(n * (x - y)) := by rw [← Int.mul_neg]; congr 1; omega
    omega
theorem anyB_of {G : Nat → Bool} {n i : Nat} (hi : i < n) (h : G i = true) : anyB G n = true := anyB_iff.2 ⟨i, hi, h⟩
/-- The spot is at the part num/den of the way, and in the box. -/
theorem al_point {x0 y0 x1 y1 a b c d num den : Int} (h1 : validS a b = true) (h2 : validS c d = true) (hb : checkBoxS x0 y0 x1 y1 = 0) (hn : 0 ≤ num) (he : num ≤ den) (h0 : 0 < den)
    (b1 : den * x0 ≤ den * a + num * (c - a)) (b2 : den * a + num * (c - a) ≤ den * x1) (b3 : den * y0 ≤ den * b + num * (d - b)) (b4 : den * b + num * (d - b) ≤ den * y1) : alS x0 y0 x1 y1 a b c d = true := by
  have k1 := validS_iff.1 h1
  have k2 := validS_iff.1 h2
  obtain ⟨w0, w1, w2, w3⟩ := way_box h1 h2
  have mx := mul_between (x := a) (y := c) (t := 0) hn he h0
  have my := mul_between (x := b) (y := d) (t := 0) hn he h0
  have le : ∀ {u v : Int}, den * u ≤ den * v → u ≤ v := fun h => Int.le_of_mul_le_mul_left h h0
  have hm : meetsS x0 y0 x1 y1 (min a c) (min b d) (max a c) (max b d) = true := decide_eq_true ⟨hb, checkBoxS_iff.2 (by omega), le (Int.le_trans b1 mx.2), le (Int.le_trans mx.1 b2), le (Int.le_trans b3 my.2), le (Int.le_trans my.1 b4)⟩
  generalize hP : den * a + num * (c - a) = P at *
  generalize hQ : den * b + num * (d - b) = Q at *
  have hz : (c - a) * (Q - den * b) - (d - b) * (P - den * a) = 0 := by rw [← hP, ← hQ]; grind
  have f0 : crS a b c d x0 y0 x1 y1 0 = (c - a) * (y0 - b) - (d - b) * (x0 - a) := rfl
  have f1 : crS a b c d x0 y0 x1 y1 1 = (c - a) * (y1 - b) - (d - b) * (x0 - a) := rfl
  have f2 : crS a b c d x0 y0 x1 y1 2 = (c - a) * (y0 - b) - (d - b) * (x1 - a) := rfl
  have f3 : crS a b c d x0 y0 x1 y1 3 = (c - a) * (y1 - b) - (d - b) * (x1 - a) := rfl
  have lo : ∃ j, j < 4 ∧ crS a b c d x0 y0 x1 y1 j ≤ 0 := by
    by_cases s : 0 ≤ c - a
    · by_cases t : 0 ≤ d - b
      · refine ⟨2, by omega, ?_⟩
        rw [f2]
        have m1 : (c - a) * (den * y0) ≤ (c - a) * Q := Int.mul_le_mul_of_nonneg_left b3 s
        have m2 : (d - b) * P ≤ (d - b) * (den * x1) := Int.mul_le_mul_of_nonneg_left b2 t
        refine le ?_
        grind
      · refine ⟨0, by omega, ?_⟩
        rw [f0]
        have m1 : (c - a) * (den * y0) ≤ (c - a) * Q := Int.mul_le_mul_of_nonneg_left b3 s
        have m2 : (b - d) * (den * x0) ≤ (b - d) * P := Int.mul_le_mul_of_nonneg_left b1 (by omega)
        refine le ?_
        grind
    · by_cases t : 0 ≤ d - b
      · refine ⟨3, by omega, ?_⟩
        rw [f3]
        have m1 : (a - c) * Q ≤ (a - c) * (den * y1) := Int.mul_le_mul_of_nonneg_left b4 (by omega)
        have m2 : (d - b) * P ≤ (d - b) * (den * x1) := Int.mul_le_mul_of_nonneg_left b2 t
        refine le ?_
        grind
      · refine ⟨1, by omega, ?_⟩
        rw [f1]
        have m1 : (a - c) * Q ≤ (a - c) * (den * y1) := Int.mul_le_mul_of_nonneg_left b4 (by omega)
        have m2 : (b - d) * (den * x0) ≤ (b - d) * P := Int.mul_le_mul_of_nonneg_left b1 (by omega)
        refine le ?_
        grind
  have hi : ∃ j, j < 4 ∧ 0 ≤ crS a b c d x0 y0 x1 y1 j := by
    by_cases s : 0 ≤ c - a
    · by_cases t : 0 ≤ d - b
      · refine ⟨1, by omega, ?_⟩
        rw [f1]
        have m1 : (c - a) * Q ≤ (c - a) * (den * y1) := Int.mul_le_mul_of_nonneg_left b4 s
        have m2 : (d - b) * (den * x0) ≤ (d - b) * P := Int.mul_le_mul_of_nonneg_left b1 t
        refine le ?_
        grind
      · refine ⟨3, by omega, ?_⟩
        rw [f3]
        have m1 : (c - a) * Q ≤ (c - a) * (den * y1) := Int.mul_le_mul_of_nonneg_left b4 s
        have m2 : (b - d) * P ≤ (b - d) * (den * x1) := Int.mul_le_mul_of_nonneg_left b2 (by omega)
        refine le ?_
        grind
    · by_cases t : 0 ≤ d - b
      · refine ⟨0, by omega, ?_⟩
        rw [f0]
        have m1 : (a - c) * (den * y0) ≤ (a - c) * Q := Int.mul_le_mul_of_nonneg_left b3 (by omega)
        have m2 : (d - b) * (den * x0) ≤ (d - b) * P := Int.mul_le_mul_of_nonneg_left b1 t
        refine le ?_
        grind
      · refine ⟨2, by omega, ?_⟩
        rw [f2]
        have m1 : (a - c) * (den * y0) ≤ (a - c) * Q := Int.mul_le_mul_of_nonneg_left b3 (by omega)
        have m2 : (b - d) * P ≤ (b - d) * (den * x1) := Int.mul_le_mul_of_nonneg_left b2 (by omega)
        refine le ?_
        grind
  obtain ⟨i, i1, i2⟩ := lo
  obtain ⟨j, j1, j2⟩ := hi
  unfold alS
  rw [w0, w1, w2, w3, h1, h2, hm, anyB_of i1 (decide_eq_true i2), anyB_of j1 (decide_eq_true j2)]
  rfl
end Go.Ax
end

section
/-
  What a way meets of a polygon.
-/
set_option linter.unusedVariables false
set_option linter.unusedSimpArgs false
set_option maxHeartbeats 4000000
namespace Go.Ax
theorem pgT_step {n : Nat} {X Y : Nat → Int} {a b c d num den : Int} {i : Nat} :
    (X (nxt n i) - X i) * ((den * b + num * (d - b)) - den * Y i) - (Y (nxt n i) - Y i) * ((den * a + num * (c - a)) - den * X i) = den * pgT n X Y a b i + num * (pgT n X Y c d i - pgT n X Y a b i) := by
  unfold pgT turnS; grind
/-- The spot where the way enters has no edge on its wrong side. -/
theorem poly_in {n : Nat} {X Y : Nat → Int} {a b c d : Int} (hF : ∀ i, i < n → ¬ (pgT n X Y a b i < 0 ∧ pgT n X Y c d i < 0)) {s : PS} (hs : plS (pgT n X Y a b) (pgT n X Y c d) n = s) (h1 : ¬ s.1 < 0) (h2 : ¬ s.2.2.1 * s.2.1.2 < s.2.1.1 * s.2.2.2) :
    0 < s.2.1.1 ∧ s.2.1.1 ≤ s.2.1.2 ∧ ∀ i, i < n → 0 ≤ (X (nxt n i) - X i) * ((s.2.1.2 * b + s.2.1.1 * (d - b)) - s.2.1.2 * Y i) - (Y (nxt n i) - Y i) * ((s.2.1.2 * a + s.2.1.1 * (c - a)) - s.2.1.2 * X i) := by
  have ho := plS_ok n hF
  have hb := plS_best n hF
  rw [hs] at ho hb
  obtain ⟨p1, p2, p3, p4⟩ := hb
  have hj : ∃ j, j < n ∧ s.1 = (j : Int) ∧ pgT n X Y a b j < 0 ∧ 0 ≤ pgT n X Y c d j ∧ s.2.1 = (-pgT n X Y a b j, pgT n X Y c d j - pgT n X Y a b j) := by
    rcases ho.1 with h | h
    · omega
    · exact h
  obtain ⟨j, j1, j2, j3, j4, j5⟩ := hj
  have e1 : s.2.1.1 = -pgT n X Y a b j := by rw [j5]
  have e2 : s.2.1.2 = pgT n X Y c d j - pgT n X Y a b j := by rw [j5]
  have hle : s.2.1.1 ≤ s.2.1.2 := by omega
  refine ⟨by omega, hle, fun i hi => ?_⟩
  rw [pgT_step]
  have hi' := hF i hi
  have q3 := p3 i hi
  have q4 := p4 i hi
  generalize pgT n X Y a b i = G at *
  generalize pgT n X Y c d i = H at *
  have num0 : 0 < s.2.1.1 := by omega
  clear e1 e2 j5
  generalize s.2.1.1 = num at *
  generalize s.2.1.2 = den at *
  generalize s.2.2.1 = ln at *
  generalize s.2.2.2 = ld at *
  clear p3 p4 ho hs j2 j3 j4
  by_cases g : G < 0
  · have k := q3 g (by omega)
    have e : -G * den = -(den * G) := by grind
    omega
  · by_cases g' : H < 0
    · have k := q4 (by omega) g'
      have k2 : num * (G - H) ≤ G * den := frac_trans p1 p2 (by omega) (by omega) k
      have e : num * (H - G) = -(num * (G - H)) := by rw [← Int.mul_neg]; congr 1; omega
      have e3 : G * den = den * G := Int.mul_comm _ _
      omega
    · have k1 : 0 ≤ num * H := Int.mul_nonneg (by omega) (by omega)
      have k2 : num * G ≤ den * G := Int.mul_le_mul_of_nonneg_right hle (by omega)
      have e : num * (H - G) = num * H - num * G := Int.mul_sub ..
      omega
theorem mnS_le' {Z : Nat → Int} : ∀ {n j : Nat}, j < n → mnS Z n ≤ Z j
  | 0, j, h => absurd h (Nat.not_lt_zero j)
  | i + 1, j, h => by
    unfold mnS
    split
    · rename_i e; subst e
      rw [show j = 0 by omega]; exact Int.le_refl _
    · by_cases e : j = i
      · subst e; exact Int.min_le_right _ _
      · exact Int.le_trans (Int.min_le_left _ _) (mnS_le' (by omega))
theorem mxS_ge' {Z : Nat → Int} : ∀ {n j : Nat}, j < n → Z j ≤ mxS Z n
  | 0, j, h => absurd h (Nat.not_lt_zero j)
  | i + 1, j, h => by
    unfold mxS
    split
    · rename_i e; subst e
      rw [show j = 0 by omega]; exact Int.le_refl _
    · by_cases e : j = i
      · subst e; exact Int.le_max_right _ _
      · exact Int.le_trans (mxS_ge' (by omega)) (Int.le_max_left _ _)
theorem mnS_at {Z : Nat → Int} : ∀ {n : Nat}, 0 < n → ∃ j, j < n ∧ mnS Z n = Z j
  | i + 1, h => by
    unfold mnS
    split
    · exact ⟨0, by omega, rfl⟩
    · obtain ⟨j, j1, j2⟩ := mnS_at (Z := Z) (n := i) (by omega)
      by_cases e : mnS Z i ≤ Z i
      · exact ⟨j, by omega, by rw [Int.min_eq_left e, j2]⟩
      · exact ⟨i, by omega, by rw [Int.min_eq_right (by omega)]⟩
theorem mxS_at {Z : Nat → Int} : ∀ {n : Nat}, 0 < n → ∃ j, j < n ∧ mxS Z n = Z j
  | i + 1, h => by
    unfold mxS
    split
    · exact ⟨0, by omega, rfl⟩
    · obtain ⟨j, j1, j2⟩ := mxS_at (Z := Z) (n := i) (by omega)
      by_cases e : mxS Z i ≤ Z i
      · exact ⟨i, by omega, by rw [Int.max_eq_right e]⟩
      · exact ⟨j, by omega, by rw [Int.max_eq_left (by omega), j2]⟩
theorem bx_valid {n : Nat} {X Y : Nat → Int} (h0 : 0 < n) (hv : ∀ i, i < n → validS (X i) (Y i) = true) : checkBoxS (mnS X n) (mnS Y n) (mxS X n) (mxS Y n) = 0 := by
  obtain ⟨i, i1, i2⟩ := mnS_at (Z := X) h0
  obtain ⟨j, j1, j2⟩ := mnS_at (Z := Y) h0
  obtain ⟨k, k1, k2⟩ := mxS_at (Z := X) h0
  obtain ⟨l, l1, l2⟩ := mxS_at (Z := Y) h0
  have a1 := validS_iff.1 (hv i i1)
  have a2 := validS_iff.1 (hv j j1)
  have a3 := validS_iff.1 (hv k k1)
  have a4 := validS_iff.1 (hv l l1)
  have b1 := mxS_ge' (Z := X) i1
  have b2 := mxS_ge' (Z := Y) j1
  exact checkBoxS_iff.2 (by omega)
theorem plF_iff {n : Nat} {X Y : Nat → Int} {a b c d : Int} (h : ¬ plF n X Y a b c d = true) : ∀ i, i < n → ¬ (pgT n X Y a b i < 0 ∧ pgT n X Y c d i < 0) := fun i hi q => h (anyB_of hi (decide_eq_true q))
/-- What is met of a polygon: its box is met. -/
theorem poly_al {n : Nat} {X Y : Nat → Int} {a b c d : Int} (hc : convexS n X Y = true) (h1 : validS a b = true) (h2 : validS c d = true) (hh : (plH n X Y a b c d).1 = true) : alS (mnS X n) (mnS Y n) (mxS X n) (mxS Y n) a b c d = true := by
  obtain ⟨h3, hv, _⟩ := convexS_iff.1 hc
  unfold plH at hh
  split at hh
  · cases hh
  rename_i hF
  generalize hs : plS (pgT n X Y a b) (pgT n X Y c d) n = s at hh
  unfold plE at hh
  split at hh
  · cases hh
  rename_i hE
  obtain ⟨k1, k2, k3⟩ := poly_in (plF_iff hF) hs (fun q => hE (.inl q)) (fun q => hE (.inr q))
  have hd : 0 < s.2.1.2 := by omega
  have mul : ∀ {u v : Int}, u ≤ v → s.2.1.2 * u ≤ s.2.1.2 * v := fun q => Int.mul_le_mul_of_nonneg_left q (by omega)
  obtain ⟨i, i1, i2⟩ := inside_dir (p := -1) (q := 0) hc hd k3
  obtain ⟨j, j1, j2⟩ := inside_dir (p := 1) (q := 0) hc hd k3
  obtain ⟨k, kk1, kk2⟩ := inside_dir (p := 0) (q := -1) hc hd k3
  obtain ⟨l, l1, l2⟩ := inside_dir (p := 0) (q := 1) hc hd k3
  have m1 := mul (mnS_le' (Z := X) i1)
  have m2 := mul (mxS_ge' (Z := X) j1)
  have m3 := mul (mnS_le' (Z := Y) kk1)
  have m4 := mul (mxS_ge' (Z := Y) l1)
  exact al_point h1 h2 (bx_valid (by omega) hv) (by omega) k2 hd (by omega) (by omega) (by omega) (by omega)
/-- A way that begins off a polygon and ends in it meets it. -/
theorem plS_in {G H : Nat → Int} : ∀ i, (∀ j, j < i → 0 ≤ H j) → (plS G H i).2.2 = (1, 1) ∧ ((plS G H i).1 < 0 → (plS G H i).2.1 = (-1, 1) ∧ ∀ j, j < i → 0 ≤ G j)
  | 0, _ => ⟨rfl, fun _ => ⟨rfl, fun j hj => absurd hj (Nat.not_lt_zero j)⟩⟩
  | i + 1, h => by
    obtain ⟨p1, p2⟩ := plS_in (G := G) i fun j hj => h j (by omega)
    have hi := h i (by omega)
    generalize hs : plS G H i = s at p1 p2
    have e : plS G H (i + 1) = if G i < 0 then (if s.2.1.1 * (H i - G i) < -G i * s.2.1.2 then ((i : Int), (-G i, H i - G i), s.2.2) else s)
        else if H i < 0 then (if G i * s.2.2.2 < s.2.2.1 * (G i - H i) then (s.1, s.2.1, (G i, G i - H i)) else s) else s := by rw [← hs]; rfl
    rw [e]
    by_cases g : G i < 0
    · rw [if_pos g]
      by_cases c : s.2.1.1 * (H i - G i) < -G i * s.2.1.2
      · rw [if_pos c]
        exact ⟨p1, fun q => by dsimp only at q; omega⟩
      · rw [if_neg c]
        refine ⟨p1, fun q => ?_⟩
        obtain ⟨q1, q2⟩ := p2 q
        exfalso
        rw [q1] at c
        dsimp only at c
        omega
    · rw [if_neg g, if_neg (by omega)]
      refine ⟨p1, fun q => ?_⟩
      obtain ⟨q1, q2⟩ := p2 q
      exact ⟨q1, fun j hj => by
        by_cases e : j = i
        · subst e; omega
        · exact q2 j (by omega)⟩
theorem poly_ends {n : Nat} {X Y : Nat → Int} {a b c d : Int} (hf : inS n X Y a b = false) (ht : inS n X Y c d = true) : (plH n X Y a b c d).1 = true := by
  have hH : ∀ i, i < n → 0 ≤ pgT n X Y c d i := of_decide_eq_true ht
  have hG : ¬ ∀ i, i < n → 0 ≤ pgT n X Y a b i := of_decide_eq_false hf
  have hF : ∀ i, i < n → ¬ (pgT n X Y a b i < 0 ∧ pgT n X Y c d i < 0) := fun i hi q => by have := hH i hi; omega
  have nF : ¬ plF n X Y a b c d = true := fun q => by
    obtain ⟨i, i1, i2⟩ := anyB_iff.1 q
    exact hF i i1 (of_decide_eq_true i2)
  obtain ⟨p1, p2⟩ := plS_in (G := pgT n X Y a b) n hH
  have ho := (plS_ok n hF).1
  unfold plH
  rw [if_neg nF]
  generalize plS (pgT n X Y a b) (pgT n X Y c d) n = s at *
  have s0 : ¬ s.1 < 0 := fun q => hG (p2 q).2
  obtain ⟨j, j1, j2, j3, j4, j5⟩ : ∃ j, j < n ∧ s.1 = (j : Int) ∧ pgT n X Y a b j < 0 ∧ 0 ≤ pgT n X Y c d j ∧ s.2.1 = (-pgT n X Y a b j, pgT n X Y c d j - pgT n X Y a b j) := by
    rcases ho with h | h
    · omega
    · exact h
  have nE : ¬ (s.1 < 0 ∨ s.2.2.1 * s.2.1.2 < s.2.1.1 * s.2.2.2) := by
    rintro (q | q)
    · exact s0 q
    · rw [p1, j5] at q
      dsimp only at q
      omega
  unfold plE
  rw [if_neg nE]
  unfold plHit
  rw [if_neg s0]
theorem rat_01 {n e : Int} (h0 : 0 ≤ n) (h1 : n ≤ e) (h2 : 0 < e) (h3 : e ≤ 1000000000000000000) : 0 ≤ (nRat (-n) (-e)).1 ∧ (nRat (-n) (-e)).1 ≤ 4294967296 ∧ (nRat (-n) (-e)).2 = false := by
  have e1 : (-n * 4294967296).tdiv (-e) = n * 4294967296 / e := by
    rw [show -n * 4294967296 = -(n * 4294967296) by omega, Int.neg_tdiv_neg, Int.tdiv_eq_ediv_of_nonneg (by omega)]
  have k1 : 0 ≤ n * 4294967296 / e := Int.ediv_nonneg (by omega) (by omega)
  have k2 : n * 4294967296 / e ≤ 4294967296 := by
    refine Int.ediv_le_of_le_mul h2 ?_
    have := Int.mul_le_mul_of_nonneg_right h1 (show (0 : Int) ≤ 4294967296 by omega)
    have := Int.mul_comm e 4294967296
    omega
  unfold nRat raV raF
  rw [if_neg (by omega), if_neg (by omega), e1]
  generalize n * 4294967296 / e = v at *
  unfold ftV ftF
  dsimp only
  rw [if_neg (by omega), if_neg (by omega), decide_eq_false (by omega)]
  exact ⟨k1, k2, rfl⟩
/-- When. -/
theorem poly_T {n : Nat} {X Y : Nat → Int} {a b c d : Int} (hv : ∀ i, i < n → validS (X i) (Y i) = true) (h1 : validS a b = true) (h2 : validS c d = true) (hh : (plH n X Y a b c d).1 = true) :
    0 ≤ (plH n X Y a b c d).2.1.1 ∧ (plH n X Y a b c d).2.1.1 ≤ 4294967296 ∧ (plH n X Y a b c d).2.1.2 = false := by
  unfold plH at hh ⊢
  split at hh
  · cases hh
  rename_i hF
  rw [if_neg hF]
  generalize hs : plS (pgT n X Y a b) (pgT n X Y c d) n = s at hh ⊢
  unfold plE at hh ⊢
  split at hh
  · cases hh
  rename_i hE
  rw [if_neg hE]
  obtain ⟨k1, k2, _⟩ := poly_in (plF_iff hF) hs (fun q => hE (.inl q)) (fun q => hE (.inr q))
  have ho := (plS_ok n (plF_iff hF)).1
  rw [hs] at ho
  have hb : s.2.1.2 ≤ 1000000000000000000 := by
    rcases ho with h | ⟨j, j1, _, _, _, j5⟩
    · exact absurd (.inl (by omega)) hE
    · rw [j5]
      have b1 := turnS_bd (hv j j1) (hv _ (nxt_lt j1)) h1
      have b2 := turnS_bd (hv j j1) (hv _ (nxt_lt j1)) h2
      show pgT n X Y c d j - pgT n X Y a b j ≤ _
      unfold pgT
      omega
  unfold plHit
  rw [if_neg (fun q => hE (.inl q))]
  exact rat_01 (by omega) k2 (by omega) hb
end Go.Ax
end

section
/-
  What a way meets of a disc.
-/
set_option linter.unusedVariables false
set_option linter.unusedSimpArgs false
set_option maxHeartbeats 4000000
namespace Go.Ax
theorem sq_lt {u r : Int} (hr : 0 ≤ r) (h : r < u) : r * r < u * u := by
  have h1 : r * r ≤ r * u := Int.mul_le_mul_of_nonneg_left (by omega) hr
  have h2 : r * u < u * u := Int.mul_lt_mul_of_pos_right h (by omega)
  omega
theorem sq_le {u r : Int} (hr : 0 ≤ r) (h : u * u ≤ r * r) : -r ≤ u ∧ u ≤ r := by
  constructor
  · refine Int.not_lt.1 fun q => ?_
    have : r * r < (-u) * (-u) := sq_lt hr (by omega)
    rw [Int.neg_mul_neg] at this
    omega
  · refine Int.not_lt.1 fun q => ?_
    have : r * r < u * u := sq_lt hr q
    omega
theorem sq_two {u v r : Int} (hr : 0 ≤ r) (h : u * u + v * v ≤ r * r) : (-r ≤ u ∧ u ≤ r) ∧ -r ≤ v ∧ v ≤ r := by
  have h1 := sq0 u
  have h2 := sq0 v
  exact ⟨sq_le hr (by omega), sq_le hr (by omega)⟩
theorem disc_ends {x y r a b c d : Int} (h : dist2 x y c d ≤ r * r) : ¬ dmB x y r a b c d := fun q => q.1 h
theorem disc_al {x y r a b c d : Int} (h1 : validS a b = true) (h2 : validS c d = true) (hb : checkBoxS (x - r) (y - r) (x + r) (y + r) = 0) (hr : 0 ≤ r) (hh : ¬ dmB x y r a b c d) : alS (x - r) (y - r) (x + r) (y + r) a b c d = true := by
  by_cases ht : dist2 x y c d ≤ r * r
  · unfold dist2 at ht
    obtain ⟨⟨k1, k2⟩, k3, k4⟩ := sq_two hr ht
    exact al_point (num := 1) (den := 1) h1 h2 hb (by omega) (by omega) (by omega) (by omega) (by omega) (by omega) (by omega)
  · have hn : ¬ ((0 ≤ (a - x) * (c - a) + (b - y) * (d - b) ∨ (c - a) * (c - a) + (d - b) * (d - b) ≤ -((a - x) * (c - a) + (b - y) * (d - b))) ∨
        ((a - x) * (c - a) + (b - y) * (d - b)) * ((a - x) * (c - a) + (b - y) * (d - b)) < ((c - a) * (c - a) + (d - b) * (d - b)) * ((a - x) * (a - x) + (b - y) * (b - y) - r * r)) := fun q => hh ⟨ht, q⟩
    have n1 : ¬ (0 ≤ (a - x) * (c - a) + (b - y) * (d - b)) := fun q => hn (.inl (.inl q))
    have n2 : ¬ ((c - a) * (c - a) + (d - b) * (d - b) ≤ -((a - x) * (c - a) + (b - y) * (d - b))) := fun q => hn (.inl (.inr q))
    have n3 : ¬ (((a - x) * (c - a) + (b - y) * (d - b)) * ((a - x) * (c - a) + (b - y) * (d - b)) < ((c - a) * (c - a) + (d - b) * (d - b)) * ((a - x) * (a - x) + (b - y) * (b - y) - r * r)) := fun q => hn (.inr q)
    clear hn ht hh
    have hid : (((c - a) * (c - a) + (d - b) * (d - b)) * (a - x) + -((a - x) * (c - a) + (b - y) * (d - b)) * (c - a)) * (((c - a) * (c - a) + (d - b) * (d - b)) * (a - x) + -((a - x) * (c - a) + (b - y) * (d - b)) * (c - a)) +
        (((c - a) * (c - a) + (d - b) * (d - b)) * (b - y) + -((a - x) * (c - a) + (b - y) * (d - b)) * (d - b)) * (((c - a) * (c - a) + (d - b) * (d - b)) * (b - y) + -((a - x) * (c - a) + (b - y) * (d - b)) * (d - b)) =
        ((c - a) * (c - a) + (d - b) * (d - b)) * (((c - a) * (c - a) + (d - b) * (d - b)) * ((a - x) * (a - x) + (b - y) * (b - y)) - ((a - x) * (c - a) + (b - y) * (d - b)) * ((a - x) * (c - a) + (b - y) * (d - b))) := by grind
    generalize hD : (c - a) * (c - a) + (d - b) * (d - b) = den at *
    generalize hN : (a - x) * (c - a) + (b - y) * (d - b) = dt at *
    generalize hM : (a - x) * (a - x) + (b - y) * (b - y) = mm at *
    have dp : 0 < den := by omega
    have n4 : den * mm - dt * dt ≤ den * (r * r) := by
      have e : den * (mm - r * r) = den * mm - den * (r * r) := Int.mul_sub ..
      omega
    have n5 : den * (den * mm - dt * dt) ≤ (den * r) * (den * r) := by
      have e : (den * r) * (den * r) = den * (den * (r * r)) := by grind
      rw [e]
      exact Int.mul_le_mul_of_nonneg_left n4 (by omega)
    rw [← hid] at n5
    obtain ⟨⟨k1, k2⟩, k3, k4⟩ := sq_two (Int.mul_nonneg (by omega) hr) n5
    have e1 : den * (a - x) = den * a - den * x := Int.mul_sub ..
    have e2 : den * (b - y) = den * b - den * y := Int.mul_sub ..
    have e3 : den * (x - r) = den * x - den * r := Int.mul_sub ..
    have e4 : den * (x + r) = den * x + den * r := Int.mul_add ..
    have e5 : den * (y - r) = den * y - den * r := Int.mul_sub ..
    have e6 : den * (y + r) = den * y + den * r := Int.mul_add ..
    exact al_point (num := -dt) (den := den) h1 h2 hb (by omega) (by omega) dp (by omega) (by omega) (by omega) (by omega)
end Go.Ax
end

section
/-
  Numbers that are not flagged, and how great they are.
-/
set_option linter.unusedVariables false
set_option linter.unusedSimpArgs false
set_option maxHeartbeats 4000000
namespace Go.Ax
def gd (a : Nb) (B : Int) : Prop := a.2 = false ∧ -B ≤ a.1 ∧ a.1 ≤ B
theorem gd_wh {a : Nb} {B : Int} (h : gd a B) (hB : B ≤ 9223372036854775807) : whV a.1 = a.1 ∧ whF a.1 a.2 = false := by
  obtain ⟨h1, h2, h3⟩ := h
  have hr : rg a.1 := by unfold rg; omega
  exact ⟨whV_of hr, by rw [whF_of hr]; exact h1⟩
theorem ft_bd {v C : Int} (h : -C ≤ v ∧ v ≤ C) (hC : C ≤ 9223372036854775807) : ftV v = v ∧ ftF v = false := by
  unfold ftV ftF
  rw [if_neg (by omega), if_neg (by omega), decide_eq_false (by omega)]
  exact ⟨rfl, rfl⟩
theorem tdiv_bd {v C k : Int} (hk : 0 < k) (h : -(C * k) ≤ v ∧ v ≤ C * k) : -C ≤ v.tdiv k ∧ v.tdiv k ≤ C := by
  by_cases s : 0 ≤ v
  · rw [Int.tdiv_eq_ediv_of_nonneg s]
    have h1 : 0 ≤ v / k := Int.ediv_nonneg s (by omega)
    have h2 : v / k ≤ C := Int.ediv_le_of_le_mul hk h.2
    omega
  · have e : v.tdiv k = -((-v) / k) := by
      rw [← Int.tdiv_eq_ediv_of_nonneg (show 0 ≤ -v by omega), Int.neg_tdiv, Int.neg_neg]
    rw [e]
    have h1 : 0 ≤ (-v) / k := Int.ediv_nonneg (by omega) (by omega)
    have h2 : (-v) / k ≤ C := Int.ediv_le_of_le_mul hk (by omega)
    omega
theorem gd_mul {a b : Nb} {A B C : Int} (ha : gd a A) (hb : gd b B) (hA : 0 ≤ A) (lA : A ≤ 9223372036854775807) (lB : B ≤ 9223372036854775807) (h : A * B ≤ C * 4294967296) (lC : C ≤ 9223372036854775807) : gd (nMul a b) C := by
  obtain ⟨w1, w2⟩ := gd_wh ha lA
  obtain ⟨w3, w4⟩ := gd_wh hb lB
  have m := mul_bd hA ha.2 hb.2
  have t := tdiv_bd (v := a.1 * b.1) (C := C) (k := 4294967296) (by omega) (by omega)
  obtain ⟨f1, f2⟩ := ft_bd t lC
  unfold nMul
  rw [w1, w2, w3, w4, f1, f2]
  exact ⟨rfl, t⟩
theorem gd_dot {a b c d : Nb} {A B C D E : Int} (ha : gd a A) (hb : gd b B) (hc : gd c C) (hd : gd d D) (hA : 0 ≤ A) (hC : 0 ≤ C) (lA : A ≤ 9223372036854775807) (lB : B ≤ 9223372036854775807) (lC : C ≤ 9223372036854775807) (lD : D ≤ 9223372036854775807)
    (h : A * B + C * D ≤ E * 4294967296) (lE : E ≤ 9223372036854775807) : gd (nDot a b c d) E := by
  obtain ⟨w1, w2⟩ := gd_wh ha lA
  obtain ⟨w3, w4⟩ := gd_wh hb lB
  obtain ⟨w5, w6⟩ := gd_wh hc lC
  obtain ⟨w7, w8⟩ := gd_wh hd lD
  have m := mul_bd hA ha.2 hb.2
  have m2 := mul_bd hC hc.2 hd.2
  have t := tdiv_bd (v := a.1 * b.1 + c.1 * d.1) (C := E) (k := 4294967296) (by omega) (by omega)
  obtain ⟨f1, f2⟩ := ft_bd t lE
  unfold nDot
  rw [w1, w2, w3, w4, w5, w6, w7, w8, f1, f2]
  exact ⟨rfl, t⟩
theorem gd_sub {a b : Nb} {A B : Int} (ha : gd a A) (hb : gd b B) (hA : 0 ≤ A) (hB : 0 ≤ B) (l : A + B ≤ 9223372036854775807) : gd (nSub a b) (A + B) := by
  obtain ⟨w1, w2⟩ := gd_wh ha (by omega)
  obtain ⟨w3, w4⟩ := gd_wh hb (by omega)
  have t : -(A + B) ≤ a.1 - b.1 ∧ a.1 - b.1 ≤ A + B := by have := ha.2; have := hb.2; omega
  obtain ⟨f1, f2⟩ := ft_bd t l
  unfold nSub
  rw [w1, w2, w3, w4, f1, f2]
  exact ⟨rfl, t⟩
theorem gd_neg {a : Nb} {A : Int} (ha : gd a A) (l : A ≤ 9223372036854775807) : gd (nNeg a) A := by
  obtain ⟨w1, w2⟩ := gd_wh ha l
  unfold nNeg
  rw [w1, w2]
  exact ⟨rfl, by have := ha.2; dsimp only; omega⟩
theorem gd_rat {s S : Int} (h : -S ≤ s ∧ s ≤ S) (l : S ≤ 549755813887) : nRat s 256 = (s * 16777216, false) := by
  have e : (s * 4294967296).tdiv 256 = s * 16777216 := by
    rw [show s * 4294967296 = (s * 16777216) * 256 by omega, Int.mul_tdiv_cancel _ (by omega)]
  have t : -(S * 16777216) ≤ s * 16777216 ∧ s * 16777216 ≤ S * 16777216 := by omega
  obtain ⟨f1, f2⟩ := ft_bd t (by omega)
  unfold nRat raV raF
  rw [if_neg (by omega), if_neg (by omega), e, f1, f2]
  rfl
theorem gd_rat' {s S : Int} (h : -S ≤ s ∧ s ≤ S) (l : S ≤ 549755813887) : gd (nRat s 256) (S * 16777216) := by
  rw [gd_rat h l]
  exact ⟨rfl, by dsimp only; omega⟩
theorem gd_div {a b : Nb} {A C L : Int} (ha : gd a A) (lA : A ≤ 9223372036854775807) (hb : b.2 = false) (hL : 0 < L) (hb1 : L ≤ b.1) (hb2 : b.1 ≤ 9223372036854775807) (hC : 0 ≤ C) (h : A * 4294967296 ≤ C * L) (lC : C ≤ 9223372036854775807) : gd (nDiv a b) C := by
  obtain ⟨w1, w2⟩ := gd_wh ha lA
  obtain ⟨w3, w4⟩ := gd_wh (a := b) (B := 9223372036854775807) ⟨hb, by omega, hb2⟩ (by omega)
  have k : C * L ≤ C * b.1 := Int.mul_le_mul_of_nonneg_left hb1 hC
  have t := tdiv_bd (v := a.1 * 4294967296) (C := C) (k := b.1) (by omega) (by have := ha.2; omega)
  obtain ⟨f1, f2⟩ := ft_bd t lC
  unfold nDiv raV raF
  rw [w1, w2, w3, w4, if_neg (by omega), if_neg (by omega), f1, f2]
  exact ⟨rfl, t⟩
theorem isq_bd {n r : Nat} (hn : n < 340282366920938463463374607431768211456) (h : n ≤ r * r) : isq n ≤ r := by
  refine Nat.not_lt.1 fun q => ?_
  have := (isq_ok hn).1
  have := Nat.mul_le_mul q q
  have e : (r + 1) * (r + 1) = r * r + r + r + 1 := by rw [Nat.add_mul, Nat.mul_add]; omega
  have e2 : r.succ * r.succ = (r + 1) * (r + 1) := rfl
  omega
theorem isq_lo {n r : Nat} (hn : n < 340282366920938463463374607431768211456) (h : r * r ≤ n) : r ≤ isq n := by
  refine Nat.not_lt.1 fun q => ?_
  have := (isq_ok hn).2
  have := Nat.mul_le_mul q q
  have e2 : (isq n).succ * (isq n).succ = (isq n + 1) * (isq n + 1) := rfl
  omega
theorem gd_sqrt {a : Nb} {A : Int} {S : Nat} (ha : gd a A) (hA : 0 ≤ A) (lA : A ≤ 9223372036854775807) (h : A * 4294967296 ≤ (S : Int) * S) (lS : (S : Int) ≤ 9223372036854775807) : gd (nSq (nPos a)) S := by
  obtain ⟨w1, w2⟩ := gd_wh ha lA
  have hp : gd (nPos a) A := by
    unfold nPos
    rw [w1, w2]
    refine ⟨rfl, ?_⟩
    dsimp only
    have := ha.2
    split <;> omega
  have h0 : 0 ≤ (nPos a).1 := by
    unfold nPos
    rw [w1]
    dsimp only
    split <;> omega
  obtain ⟨w3, w4⟩ := gd_wh hp lA
  generalize nPos a = b at *
  have hb := hp.2
  have k : (b.1 * 4294967296).toNat ≤ S * S := by
    have : (((b.1 * 4294967296).toNat : Nat) : Int) = b.1 * 4294967296 := Int.toNat_of_nonneg (by omega)
    have e : ((S * S : Nat) : Int) = (S : Int) * S := Int.natCast_mul ..
    omega
  have kk : (b.1 * 4294967296).toNat < 340282366920938463463374607431768211456 := by omega
  have q := isq_bd kk k
  have t : -(S : Int) ≤ (isq (b.1 * 4294967296).toNat : Int) ∧ (isq (b.1 * 4294967296).toNat : Int) ≤ S := by omega
  obtain ⟨f1, f2⟩ := ft_bd t lS
  unfold nSq sqV sqF
  rw [w3, w4, if_neg (by omega), if_neg (by omega), f1, f2]
  exact ⟨rfl, t⟩
end Go.Ax
end

section
/-
  When a way meets a disc: it is no flagged number.
-/
set_option linter.unusedVariables false
set_option linter.unusedSimpArgs false
set_option maxHeartbeats 4000000
namespace Go.Ax
theorem hyp_ok {a b : Nb} {S : Int} (ha : gd a S) (hb : gd b S) (h0 : 0 ≤ S) (l : S ≤ 2305843009213693951) : (nHyp a b).2 = false ∧ a.1 ≤ (nHyp a b).1 ∧ -a.1 ≤ (nHyp a b).1 ∧ b.1 ≤ (nHyp a b).1 ∧ -b.1 ≤ (nHyp a b).1 ∧ (nHyp a b).1 ≤ 2 * S := by
  obtain ⟨w1, w2⟩ := gd_wh ha (by omega)
  obtain ⟨w3, w4⟩ := gd_wh hb (by omega)
  have m1 := mul_bd h0 ha.2 ha.2
  have m2 := mul_bd h0 hb.2 hb.2
  have s1 := sq0 a.1
  have s2 := sq0 b.1
  have lS : S * S ≤ 2305843009213693951 * 2305843009213693951 := by
    have h1 : S * S ≤ 2305843009213693951 * S := Int.mul_le_mul_of_nonneg_right l h0
    have h2 : 2305843009213693951 * S ≤ 2305843009213693951 * 2305843009213693951 := Int.mul_le_mul_of_nonneg_left l (by omega)
    omega
  have hN : (((a.1 * a.1 + b.1 * b.1).toNat : Nat) : Int) = a.1 * a.1 + b.1 * b.1 := Int.toNat_of_nonneg (by omega)
  have kk : (a.1 * a.1 + b.1 * b.1).toNat < 340282366920938463463374607431768211456 := by omega
  have up : isq (a.1 * a.1 + b.1 * b.1).toNat ≤ (2 * S).toNat := by
    refine isq_bd kk ?_
    have e1 : (((2 * S).toNat : Nat) : Int) = 2 * S := Int.toNat_of_nonneg (by omega)
    have e2 : (((2 * S).toNat * (2 * S).toNat : Nat) : Int) = (2 * S) * (2 * S) := by rw [Int.natCast_mul, e1]
    have e3 : (2 * S) * (2 * S) = 4 * (S * S) := by grind
    omega
  have lo : ∀ z : Int, z * z ≤ a.1 * a.1 + b.1 * b.1 → z ≤ (isq (a.1 * a.1 + b.1 * b.1).toNat : Int) := fun z hz => by
    by_cases hz0 : z ≤ 0
    · omega
    · have e1 : ((z.toNat : Nat) : Int) = z := Int.toNat_of_nonneg (by omega)
      have e2 : ((z.toNat * z.toNat : Nat) : Int) = z * z := by rw [Int.natCast_mul, e1]
      have := isq_lo (r := z.toNat) kk (by omega)
      omega
  have e1 : (-a.1) * (-a.1) = a.1 * a.1 := Int.neg_mul_neg ..
  have e2 : (-b.1) * (-b.1) = b.1 * b.1 := Int.neg_mul_neg ..
  have l1 := lo a.1 (by omega)
  have l2 := lo (-a.1) (by omega)
  have l3 := lo b.1 (by omega)
  have l4 := lo (-b.1) (by omega)
  unfold nHyp
  rw [w1, w2, w3, w4]
  generalize isq (a.1 * a.1 + b.1 * b.1).toNat = q at *
  obtain ⟨f1, f2⟩ := ft_bd (v := (q : Int)) (C := 2 * S) (by omega) (by omega)
  rw [f1, f2]
  exact ⟨rfl, l1, l2, l3, l4, by dsimp only; omega⟩
theorem gd_zero {B : Int} (h : 0 ≤ B) : gd (0, false) B := ⟨rfl, by dsimp only; omega⟩
theorem un_ok {x y S : Int} (hx : -S ≤ x ∧ x ≤ S) (hy : -S ≤ y ∧ y ≤ S) (h0 : 0 ≤ S) (l : S ≤ 70368744177664) : gd (unS x false y false).2.1 4294967296 ∧ gd (unS x false y false).2.2 4294967296 := by
  have hB : gd (unB x y).1 281474976710656 ∧ gd (unB x y).2 281474976710656 := by
    unfold unB
    split
    · rename_i h
      have h1 : -16777216 ≤ x ∧ x ≤ 16777216 := by have := h.1; unfold ab at this; split at this <;> omega
      have h2 : -16777216 ≤ y ∧ y ≤ 16777216 := by have := h.2; unfold ab at this; split at this <;> omega
      exact ⟨⟨rfl, by dsimp only; omega⟩, ⟨rfl, by dsimp only; omega⟩⟩
    · exact ⟨⟨rfl, by dsimp only; omega⟩, ⟨rfl, by dsimp only; omega⟩⟩
  obtain ⟨k1, k2, k3, k4, k5, k6⟩ := hyp_ok hB.1 hB.2 (by omega) (by omega)
  unfold unS
  split
  · exact ⟨gd_zero (by omega), gd_zero (by omega)⟩
  · split
    · exact ⟨gd_zero (by omega), gd_zero (by omega)⟩
    · rename_i hn
      have hne : (nHyp (unB x y).1 (unB x y).2).1 ≠ 0 := fun q => hn (.inr q)
      generalize nHyp (unB x y).1 (unB x y).2 = H at *
      have hH : 0 < H.1 := by omega
      refine ⟨gd_div (A := H.1) (L := H.1) ⟨hB.1.1, by omega⟩ (by omega) k1 hH (Int.le_refl _) (by omega) (by omega) (by omega) (by omega), gd_div (A := H.1) (L := H.1) ⟨hB.2.1, by omega⟩ (by omega) k1 hH (Int.le_refl _) (by omega) (by omega) (by omega) (by omega)⟩
/-- The time is none that is flagged, and it is one of the way's. -/
theorem dmT_ok {mx my sx sy r : Int} (h1 : -4194304 ≤ mx ∧ mx ≤ 4194304) (h2 : -4194304 ≤ my ∧ my ≤ 4194304) (h3 : -4194304 ≤ sx ∧ sx ≤ 4194304) (h4 : -4194304 ≤ sy ∧ sy ≤ 4194304) (h5 : -4194304 ≤ r ∧ r ≤ 4194304) (hs : sx ≠ 0 ∨ sy ≠ 0) :
    0 ≤ (dmT mx my sx sy r).1 ∧ (dmT mx my sx sy r).1 ≤ 4294967296 ∧ (dmT mx my sx sy r).2 = false := by
  have gx := gd_rat' h1 (by omega)
  have gy := gd_rat' h2 (by omega)
  have gr := gd_rat' h5 (by omega)
  have ga := gd_rat' h3 (by omega)
  have gb := gd_rat' h4 (by omega)
  have ex := gd_rat h3 (by omega)
  have ey := gd_rat h4 (by omega)
  have hu := un_ok (x := (nRat sx 256).1) (y := (nRat sy 256).1) (S := 70368744177664) (by have := ga.2; omega) (by have := gb.2; omega) (by omega) (by omega)
  obtain ⟨k1, k2, k3, k4, k5, k6⟩ := hyp_ok ga gb (by omega) (by omega)
  rw [← ga.1] at hu
  have ef : (nRat sy 256).2 = (nRat sx 256).2 := by rw [ga.1, gb.1]
  unfold dmT
  dsimp only
  rw [ef]
  generalize hU : (unS (nRat sx 256).1 (nRat sx 256).2 (nRat sy 256).1 (nRat sx 256).2).2 = u at *
  have lo : 16777216 ≤ (nHyp (nRat sx 256) (nRat sy 256)).1 := by
    rw [ex, ey] at k2 k3 k4 k5 ⊢
    dsimp only at k2 k3 k4 k5
    rcases hs with h | h <;> omega
  have up : (nHyp (nRat sx 256) (nRat sy 256)).1 ≤ 9223372036854775807 := by omega
  have hd := gd_dot (E := 140737488355328) hu.1 gy (gd_neg hu.2 (by omega)) gx (by omega) (by omega) (by omega) (by omega) (by omega) (by omega) (by omega) (by omega)
  have hh := gd_mul (C := 4611686018427387904) hd hd (by omega) (by omega) (by omega) (by omega) (by omega)
  have hrr := gd_mul (C := 1152921504606846976) gr gr (by omega) (by omega) (by omega) (by omega) (by omega)
  have hsub := gd_sub hrr hh (by omega) (by omega) (by omega)
  have hsq := gd_sqrt (S := 281474976710656) hsub (by omega) (by omega) (by omega) (by omega)
  have hdt := gd_neg (gd_dot (E := 140737488355328) hu.1 gx hu.2 gy (by omega) (by omega) (by omega) (by omega) (by omega) (by omega) (by omega) (by omega)) (by omega)
  have hnum := gd_sub hdt hsq (by omega) (by omega) (by omega)
  have hq := gd_div (C := 144115188075855872) hnum (by omega) k1 (L := 16777216) (by omega) lo up (by omega) (by omega) (by omega)
  obtain ⟨w1, w2⟩ := gd_wh hq (by omega)
  generalize nDiv (nSub (nNeg (nDot u.1 (nRat mx 256) u.2 (nRat my 256))) (nSq (nPos (nSub (nMul (nRat r 256) (nRat r 256)) (nMul (nDot u.1 (nRat my 256) (nNeg u.2) (nRat mx 256)) (nDot u.1 (nRat my 256) (nNeg u.2) (nRat mx 256))))))) (nHyp (nRat sx 256) (nRat sy 256)) = t at *
  unfold nCl
  have c1 : whV (nInt 1).1 = 4294967296 := by decide
  have c2 : whV 0 = 0 := by decide
  have c3 : whF (nInt 1).1 (nInt 1).2 = false := by decide
  have c4 : whF 0 false = false := by decide
  dsimp only
  rw [c1, c2, c3, c4, w1, w2]
  exact ⟨by omega, by omega, rfl⟩
end Go.Ax
end

section
/-
  Rays that begin or end in a form.
-/
set_option linter.unusedVariables false
set_option linter.unusedSimpArgs false
set_option maxHeartbeats 4000000
namespace Go.Ax
theorem cast_in {k x y r a b c d : Int} {n : Nat} {X Y : Nat → Int} (v1 : validS a b = true) (v2 : validS c d = true) (hc : checkS k x y r n X Y = 0) (hh : holdsS k x y r n X Y a b = true) : castS k x y r n X Y a b c d = (true, (0, false), ((0, false), (0, false))) := by
  unfold castS; rw [if_pos ⟨hc, v1, v2⟩, if_pos hh]
theorem pl_hit0 {n : Nat} {X Y : Nat → Int} {a b c d : Int} (h : (plH n X Y a b c d).1 = false) : plH n X Y a b c d = hit0 := by
  unfold plH at h ⊢
  split
  · rfl
  · rename_i h1
    rw [if_neg h1] at h
    unfold plE at h ⊢
    split
    · rfl
    · rename_i h2
      rw [if_neg h2] at h
      unfold plHit at h ⊢
      split
      · rfl
      · rename_i h3
        rw [if_neg h3] at h
        cases h
theorem cast_off {k x y r a b c d : Int} {n : Nat} {X Y : Nat → Int} (v1 : validS a b = true) (v2 : validS c d = true) (hh : ¬ (checkS k x y r n X Y = 0 ∧ holdsS k x y r n X Y a b = true)) (hi : (castS k x y r n X Y a b c d).1 = false) :
    castS k x y r n X Y a b c d = hit0 ∧ ¬ (checkS k x y r n X Y = 0 ∧ holdsS k x y r n X Y c d = true) := by
  by_cases hc : checkS k x y r n X Y = 0
  · have hh : ¬ holdsS k x y r n X Y a b = true := fun q => hh ⟨hc, q⟩
    unfold castS at hi ⊢
    rw [if_pos ⟨hc, v1, v2⟩, if_neg hh] at hi ⊢
    by_cases hk : k = 1
    · rw [if_pos hk] at hi ⊢
      unfold dmH at hi ⊢
      split
      · rename_i hb
        refine ⟨rfl, fun q => ?_⟩
        have q2 := q.2
        unfold holdsS at q2
        rw [if_pos hk] at q2
        exact disc_ends (of_decide_eq_true q2) hb
      · rename_i hb
        rw [if_neg hb] at hi
        cases hi
    · rw [if_neg hk] at hi ⊢
      refine ⟨pl_hit0 hi, fun q => ?_⟩
      have q2 := q.2
      unfold holdsS at q2 hh
      rw [if_neg hk] at q2 hh
      rw [poly_ends (by simpa using hh) q2] at hi
      cases hi
  · refine ⟨?_, fun q => hc q.1⟩
    unfold castS
    rw [if_neg (fun q => hc q.1)]
theorem cast_hit {k x y r a b c d : Int} {n : Nat} {X Y : Nat → Int} (v1 : validS a b = true) (v2 : validS c d = true) (hh : ¬ (checkS k x y r n X Y = 0 ∧ holdsS k x y r n X Y a b = true)) (hi : (castS k x y r n X Y a b c d).1 = true) :
    alS (boxS k x y r n X Y 0) (boxS k x y r n X Y 1) (boxS k x y r n X Y 2) (boxS k x y r n X Y 3) a b c d = true ∧ 0 ≤ (castS k x y r n X Y a b c d).2.1.1 ∧ (castS k x y r n X Y a b c d).2.1.1 ≤ 4294967296 ∧ (castS k x y r n X Y a b c d).2.1.2 = false := by
  by_cases hc : checkS k x y r n X Y = 0
  · have hh : ¬ holdsS k x y r n X Y a b = true := fun q => hh ⟨hc, q⟩
    have chk := check_1 hc
    unfold castS at hi ⊢
    rw [if_pos ⟨hc, v1, v2⟩, if_neg hh] at hi ⊢
    by_cases hk : k = 1
    · obtain ⟨r1, r2, r3, _⟩ := chk.2.2.2.1 hk
      rw [boxS_disc hc hk, boxS_disc hc hk, boxS_disc hc hk, boxS_disc hc hk]
      rw [if_pos hk] at hi ⊢
      unfold dmH at hi ⊢
      split at hi
      · cases hi
      · rename_i hb
        rw [if_neg hb]
        have k1 := validS_iff.1 v1
        have k2 := validS_iff.1 v2
        have k3 := validS_iff.1 chk.2.1
        refine ⟨disc_al v1 v2 r3 (by omega) hb, dmT_ok (by omega) (by omega) (by omega) (by omega) (by omega) ?_⟩
        refine Classical.byContradiction fun q => ?_
        have q1 : c - a = 0 := by omega
        have q2 : d - b = 0 := by omega
        apply hb
        unfold dmB
        rw [q1, q2]
        refine ⟨fun q3 => hh ?_, .inl (.inl (by simp))⟩
        unfold holdsS
        rw [if_pos hk]
        have ea : c = a := by omega
        have eb : d = b := by omega
        rw [ea, eb] at q3
        exact decide_eq_true q3
    · rw [boxS_poly hc hk, boxS_poly hc hk, boxS_poly hc hk, boxS_poly hc hk]
      rw [if_neg hk] at hi ⊢
      obtain ⟨_, _, hcv⟩ := chk.2.2.2.2 hk
      exact ⟨poly_al hcv v1 v2 hi, poly_T chk.2.2.1 v1 v2 hi⟩
  · unfold castS at hi
    rw [if_neg (fun q => hc q.1)] at hi
    cases hi
end Go.Ax
end

section
/-
  Rays that begin or end in a form, the law's body.
-/
set_option linter.unusedVariables false
set_option linter.unusedSimpArgs false
set_option maxHeartbeats 4000000
set_option maxRecDepth 100000
namespace Go.Ax
open Go.Proofs
theorem fig_n0 {k x y r : Int} {n : Nat} {X Y : Nat → Int} (h : checkS k x y r n X Y = 0) (hk : ¬ k = 1) : 3 ≤ n ∧ n ≤ 8 := by
  have := (check_1 h).2.2.2.2 hk
  exact ⟨(convexS_iff.1 this.2.2).1, this.2.1⟩
theorem boxS_inR {k x y r : Int} {n : Nat} {X Y : Nat → Int} : inR (boxS k x y r n X Y 0) ∧ inR (boxS k x y r n X Y 1) ∧ inR (boxS k x y r n X Y 2) ∧ inR (boxS k x y r n X Y 3) := by
  by_cases hc : checkS k x y r n X Y = 0
  · have hb : checkBoxS (boxS k x y r n X Y 0) (boxS k x y r n X Y 1) (boxS k x y r n X Y 2) (boxS k x y r n X Y 3) = 0 := by
      by_cases hk : k = 1
      · rw [boxS_disc hc hk, boxS_disc hc hk, boxS_disc hc hk, boxS_disc hc hk]
        exact ((check_1 hc).2.2.2.1 hk).2.2.1
      · rw [boxS_poly hc hk, boxS_poly hc hk, boxS_poly hc hk, boxS_poly hc hk]
        have := fig_n0 hc hk
        exact bx_valid (by omega) (check_1 hc).2.2.1
    have := checkBoxS_iff.1 hb
    unfold inR
    omega
  · rw [boxS_none hc, boxS_none hc, boxS_none hc, boxS_none hc]
    unfold inR
    omega
theorem vc9 (A B C X Y U : Int) (a b c d : Int) (hX : (inR A ∧ inR B ∧ inR C) ∧ inR X ∧ inR Y ∧ inR U) (h1 : inR a) (h2 : inR b) (h3 : inR c) (h4 : inR d) :
    fnVC Tryz.prog [(14, c14), (23, c23), (28, c28), (30, c30), (32, c32), (33, c33), (40, c40)] [] Tryz.f9 [.agg [i64 A, i64 B, i64 C, i64 X, i64 Y, i64 U], i64 a, i64 b, i64 c, i64 d] (· = bo true) := by
  refine fnVC_go (rs := [.tmp 10]) rfl rfl ?_
  obtain ⟨K, hK⟩ : ∃ K, foK A B C X Y U 12 = K := ⟨_, rfl⟩
  obtain ⟨V, hV⟩ : ∃ K, foX A B C X Y U 12 = K := ⟨_, rfl⟩
  obtain ⟨W, hW⟩ : ∃ K, foY A B C X Y U 12 = K := ⟨_, rfl⟩
  obtain ⟨R1, hR1⟩ : ∃ K, foR A B C X Y U 12 = K := ⟨_, rfl⟩
  obtain ⟨N, hN⟩ : ∃ K, foN A B C X Y U 12 = K := ⟨_, rfl⟩
  obtain ⟨P, hP⟩ : ∃ P : Nat → Int, ∀ j, foP A B C X Y U 12 j = P j := ⟨_, fun _ => rfl⟩
  obtain ⟨Q, hQ⟩ : ∃ P : Nat → Int, ∀ j, foQ A B C X Y U 12 j = P j := ⟨_, fun _ => rfl⟩
  simp only [go_sem, c14, c23, c28, c30, c32, c33, c40, hK, hV, hW, hR1, hN, hP, hQ]
  have eP : gx (fun i => [i64 (P i), i64 (Q i)]) 0 = P := rfl
  have eQ : gx (fun i => [i64 (P i), i64 (Q i)]) 1 = Q := rfl
  simp only [forall_eq, eP, eQ]
  have rr : ∀ v : Int, -6000 ≤ v.tmod 6001 ∧ v.tmod 6001 ≤ 6000 := fun v => by
    have h1 : v.tmod 6001 < 6001 := Int.tmod_lt_of_pos v (by omega)
    have h2 : -6001 < v.tmod 6001 := Int.lt_tmod_of_pos v (by omega)
    omega
  have ra := rr a
  have rb := rr b
  have rc := rr c
  have rd := rr d
  generalize a.tmod 6001 = p at *
  generalize b.tmod 6001 = q at *
  generalize c.tmod 6001 = u at *
  generalize d.tmod 6001 = v at *
  have v1 : validS p q = true := validS_iff.2 (by omega)
  have v2 : validS u v = true := validS_iff.2 (by omega)
  have hg : spots N fun i => [i64 (P i), i64 (Q i)] := fun l hl => ⟨rfl, by show inR (P l); rw [← hP l]; exact spV_inR, by show inR (Q l); rw [← hQ l]; exact spV_inR⟩
  have hn : N ≤ 9223372036854775806 := by rw [← hN]; exact Nat.le_trans plN_le (by omega)
  have i1 : inR V := by rw [← hV]; exact foX_inR
  have i2 : inR W := by rw [← hW]; exact foY_inR
  have i3 : inR R1 := by rw [← hR1]; exact foR_inR
  have ip : inR p := by unfold inR; omega
  have iq : inR q := by unfold inR; omega
  have iu : inR u := by unfold inR; omega
  have iv : inR v := by unfold inR; omega
  have c1 := cast_in (k := K) (x := V) (y := W) (r := R1) (n := N) (X := P) (Y := Q) v1 v2
  have c2 := cast_off (k := K) (x := V) (y := W) (r := R1) (n := N) (X := P) (Y := Q) v1 v2
  have c3 := cast_hit (k := K) (x := V) (y := W) (r := R1) (n := N) (X := P) (Y := Q) v1 v2
  obtain ⟨b0, b1, b2, b3⟩ := @boxS_inR K V W R1 N P Q
  rw [v1, v2]
  generalize castS K V W R1 N P Q p q u v = C at *
  refine ⟨hX.1.1, hX.1.2.1, hX.1.2.2, hX.2.1, hX.2.2.1, hX.2.2.2, hg, hn, i1, i2, i3, ip, iq, iu, iv, hg, hn, i1, i2, i3, ip, iq, fun h => ?_, fun h => ⟨fun h2 => ⟨fun _ => hg, fun _ => hn, fun _ => i1, fun _ => i2, fun _ => i3, fun _ => iu, fun _ => iv, ?_⟩, fun h2 => ?_⟩⟩
  · simp only [Bool.and_true, Bool.and_eq_true, decide_eq_true_eq] at h
    rw [c1 h.1 h.2]
    simp
  · have hh : ¬ (checkS K V W R1 N P Q = 0 ∧ holdsS K V W R1 N P Q p q = true) := fun w => by
      rw [decide_eq_true w.1, w.2] at h; cases h
    obtain ⟨k1, k2⟩ := c2 hh h2
    rw [k1]
    refine ⟨⟨by decide, ?_⟩, trivial⟩
    rw [Bool.and_true, Bool.and_eq_false_iff, decide_eq_false_iff_not]
    by_cases w : checkS K V W R1 N P Q = 0
    · exact .inr (by
        have : ¬ holdsS K V W R1 N P Q u v = true := fun z => k2 ⟨w, z⟩
        simpa using this)
    · exact .inl w
  · have hh : ¬ (checkS K V W R1 N P Q = 0 ∧ holdsS K V W R1 N P Q p q = true) := fun w => by
      rw [decide_eq_true w.1, w.2] at h; cases h
    obtain ⟨k1, k2, k3, k4⟩ := c3 hh h2
    exact ⟨hg, hn, i1, i2, i3, b0, b1, b2, b3, ip, iq, iu, iv, ⟨⟨⟨k1, k2⟩, k3⟩, k4⟩, trivial⟩
end Go.Ax
end
