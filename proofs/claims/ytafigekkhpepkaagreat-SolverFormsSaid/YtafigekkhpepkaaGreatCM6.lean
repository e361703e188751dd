/-
  Spots: sides, convex spots.
-/
import Derived.Test.YtafigekkhpepkaaGreatCM5
section
set_option linter.unusedVariables false
set_option linter.unusedSimpArgs false
set_option maxHeartbeats 1000000
set_option maxRecDepth 100000
namespace Go.Ax
open Go.Proofs

def c294 : Con
  | [.agg [.v (.int .i64 a), .v (.int .i64 b)], .agg [.v (.int .i64 c), .v (.int .i64 d)], .agg [.v (.int .i64 e), .v (.int .i64 f)]] => some ([], i64 (sideS a b c d e f))
  | _ => none
/-- As the reference turns. -/
theorem turn_wrap' {ax ay bx byy cx cy : Int} (ha : validS ax ay = true) (hb : validS bx byy = true) (hc : validS cx cy = true) :
    IntKind.i64.wrap (IntKind.i64.wrap (IntKind.i64.wrap (bx - ax) * IntKind.i64.wrap (cy - ay)) - IntKind.i64.wrap (IntKind.i64.wrap (byy - ay) * IntKind.i64.wrap (cx - ax))) = turnS ax ay bx byy cx cy := turn_wrap ha hb hc
theorem con294 : ConOK Tryz.prog 294 c294 := ConOK.of (G := [(262, c262), (296, c306), (268, c268)]) (H := []) (.cons con262 (.cons con296 (.cons con268 .nil))) Tryz.func294 fun l ob r hc hob => by
  unfold c294 at hc
  split at hc
  · rename_i a b c d e f
    cases hc
    refine ⟨by kernel_rfl, fnVC_go (rs := [.tmp 6]) rfl rfl ?_⟩
    simp only [go_sem, c262, c268, c306]
    intro z hz z1 hz1 z2 hz2
    subst hz hz1 hz2
    refine ⟨fun h => ?_, fun h x0 h0 x1 h1 x2 h2 x3 h3 t ht => ?_⟩
    · unfold sideS; rw [if_neg]; rintro ⟨k1, k2, k3⟩; rw [k1, k2, k3] at h; simp at h
    · have hv : validS a b = true ∧ validS c d = true ∧ validS e f = true := ⟨h.1.1, h.1.2, h.2⟩
      subst h0 h1 h2 h3
      rw [turn_wrap' hv.1 hv.2.1 hv.2.2] at ht
      refine ⟨fun k => ?_, fun k => ⟨fun k2 => ?_, fun k2 => ?_⟩⟩
      · unfold sideS; rw [if_pos hv, ← ht, if_pos k]
      · unfold sideS; rw [if_pos hv, ← ht, if_neg k, if_pos k2]
      · unfold sideS; rw [if_pos hv, ← ht, if_neg k, if_neg k2]
  · cases hc
def c302 : Con
  | [.agg [.ro n 2 g]] => some ([], .fn 305 [.rop [.ro n 2 g]])
  | _ => none
theorem con302 : ConOK Tryz.prog 302 c302 := ConOK.of (G := []) (H := []) .nil Tryz.func302 fun l ob r hc hob => by
  unfold c302 at hc
  split at hc
  · rename_i n g
    cases hc
    refine ⟨by kernel_rfl, fnVC_go (rs := [.tmp 2]) rfl rfl ?_⟩
    simp only [go_sem]
  · cases hc

theorem tmod_nxt {n i : Nat} (h : i < n) : Int.tmod ((i : Int) + 1) n = (nxt n i : Nat) := by
  unfold nxt
  by_cases e : i + 1 < n
  · rw [if_pos e, Int.tmod_eq_of_lt (by omega) (by omega)]; rfl
  · have : i + 1 = n := by omega
    rw [if_neg e, show (i : Int) + 1 = n by omega, Int.tmod_self]; rfl
/-- The spots are convex. -/
def convexS (n : Nat) (X Y : Nat → Int) : Bool := decide (3 ≤ n ∧ (∀ i, i < n → validS (X i) (Y i) = true) ∧ ∀ i, i < n → ∀ k, k < n → k ≠ i → k ≠ nxt n i → 0 < turnS (X i) (Y i) (X (nxt n i)) (Y (nxt n i)) (X k) (Y k))
theorem convexS_iff {n : Nat} {X Y : Nat → Int} : convexS n X Y = true ↔ 3 ≤ n ∧ (∀ i, i < n → validS (X i) (Y i) = true) ∧ ∀ i, i < n → ∀ k, k < n → k ≠ i → k ≠ nxt n i → 0 < turnS (X i) (Y i) (X (nxt n i)) (Y (nxt n i)) (X k) (Y k) := by unfold convexS; simp
def c293 : Con
  | [.ro n 2 g] => some ([spots n g, n ≤ 9223372036854775806], bo (convexS n (gx g 0) (gx g 1)))
  | _ => none
theorem vc293 (n : Nat) (X Y : Nat → Int) (hX : ∀ i, i < n → inR (X i) ∧ inR (Y i)) (hn : n ≤ 9223372036854775806) : fnVC Tryz.prog [(290, c290), (303, c303), (302, c302), (1000000 + 305, c305)] [] Tryz.f293 [.ro n 2 fun i => [i64 (X i), i64 (Y i)]] (· = bo (convexS n X Y)) := by
  refine fnVC_go (rs := [.cell 2 4]) rfl rfl ?_
  simp only [go_sem, c290, c302]
  intro z hz
  have hg : spots n fun i => [i64 (X i), i64 (Y i)] := fun i hi => ⟨rfl, hX i hi⟩
  have hzz : z = true ↔ ∀ i, i < n → validS (X i) (Y i) = true := by rw [hz]; exact fairS_iff
  refine ⟨fun _ => hg, fun _ => by omega, fun h => false_of fun hc => ?_, fun h => ?_⟩
  · have := convexS_iff.1 hc
    rcases h with h | h
    · omega
    · rw [hzz.2 this.2.1] at h; cases h
  have hv := hzz.1 h.2
  have h3 : 3 ≤ n := by omega
  let good : Nat → Prop := fun i => ∀ k, k < n → k ≠ i → k ≠ nxt n i → 0 < turnS (X i) (Y i) (X (nxt n i)) (Y (nxt n i)) (X k) (Y k)
  refine rangeC_go (fun (i : Nat) => i ≤ n ∧ ∀ j, j < i → good j) (fun i => i) (fun i => [(10, fam1 3 1 [i64 i] none)]) [1, 0] [19, 20, 4, 5, 21, 22, 23, 24, 25, 26, 27, 7, 6, 28, 29, 30, 31, 32, 33, 34, 35, 36, 37, 38, 39, 40, 41, 42, 43, 44, 45, 46, 47, 23, 48, 49] 0 0 (N := n) (sq := edgeE n fun i => [i64 (X i), i64 (Y i)]) (ob := [spots n fun i => [i64 (X i), i64 (Y i)], n ≤ 9223372036854775806]) rfl (by simp [hg, hn]) (by kernel_rfl) rfl (fun i _ => ⟨rfl, rfl⟩) ⟨Nat.zero_le _, fun j hj => by omega⟩ rfl ⟨[], ?_, ?_, ?_⟩ ?_ ?_
  · simp only [go_sem]
  · simp only [go_sem]
  · simp [goodNames, asg]
  · intro i hi hlt
    simp only [go_sem, edgeE]
    have hnl : nxt n i < n := nxt_lt hlt
    have hin : i < n := hlt
    refine loopC_go (fun (k : Nat) => k ≤ n ∧ ∀ q, q < k → q ≠ i → q ≠ nxt n i → 0 < turnS (X i) (Y i) (X (nxt n i)) (Y (nxt n i)) (X q) (Y q)) (fun k => n - k) (fun k => [(23, i64 k)]) (fun _ => []) [17, 15, 10, 1, 0] [24, 25, 26, 27, 7, 6, 28, 29, 30, 31, 32, 33, 34, 35, 36, 37, 38, 39, 40, 41, 42, 43, 44, 45, 46, 47, 23] 0 (by kernel_rfl) ?_ ⟨Nat.zero_le _, fun j hj => by omega⟩ ?_ ?_
    · intro x _; simp [goodNames]
    · simp only [go_sem]
    · intro k hk
      have hn0 : ((n : Int) = 0) = False := eq_false (by omega)
      simp only [go_sem, c303, hn0]
      have ei : IntKind.i64.wrap ((i : Int) + 1) = i + 1 := wrap_in (by unfold inR; omega)
      have ek : k < n → IntKind.i64.wrap ((k : Int) + 1) = k + 1 := fun h => wrap_in (by unfold inR; omega)
      have bn : ∀ x y : Nat, ((x : Int) != (y : Int)) = true ↔ x ≠ y := fun x y => by rw [bne_iff_ne]; omega
      refine ⟨fun hkn => ⟨by omega, hkn, fun z1 hz1 z2 hz2 t ht => ?_⟩, fun hkn z1 hz1 => ⟨i + 1, ⟨by omega, fun j hj => ?_⟩, rfl, [], ?_, ?_⟩⟩
      · rw [ei] at hz1
        rw [hz1, tmod_nxt hin] at hz2
        subst hz2
        have hkn' : k < n := by omega
        refine ⟨fun _ => hv i hin, fun _ => hv _ hnl, fun _ => hv k hkn', fun hb => false_of fun hc => ?_, fun hb z3 hz3 => ⟨k + 1, ⟨by omega, fun q hq h1 h2 => ?_⟩, by omega, ?_⟩⟩
        · have := (convexS_iff.1 hc).2.2 i hin k hkn' ((bn _ _).1 hb.1.1) ((bn _ _).1 hb.1.2)
          omega
        · by_cases e : q = k
          · subst e
            rw [(bn q i).2 h1, (bn q (nxt n i)).2 h2] at hb
            simp at hb
            omega
          · exact hk.2 q (by omega) h1 h2
        · rw [hz3, ek hkn']; omega
      · by_cases e : j = i
        · subst e
          intro q hq h1 h2
          exact hk.2 q (by omega) h1 h2
        · exact hi.2 j (by omega)
      · simp only [go_sem]
        rw [hz1, ei]; rfl
      · simp [goodNames, asg]
  · intro i hi he
    simp only [go_sem]
    refine (convexS_iff.2 ⟨h3, hv, fun j hj => ?_⟩).symm ▸ rfl
    exact hi.2 j (by omega)
theorem con293 : ConOK Tryz.prog 293 c293 := ConOK.go (G := [(290, c290), (303, c303), (302, c302), (1000000 + 305, c305)]) (H := []) (.cons con290 (.cons con303 (.cons con302 (.seq seq305 .nil)))) Tryz.func293 fun l ob r hc hob => by
  unfold c293 at hc
  split at hc
  · rename_i n g
    cases hc
    have hs : spots n g := hob _ (by simp)
    refine ⟨[.ro n 2 fun i => [i64 (gx g 0 i), i64 (gx g 1 i)]], fun w I vs h => Rs_one (fun v => ro_alike fun i hi => (hs i hi).1) h, by kernel_rfl, vc293 n _ _ (fun i hi => (hs i hi).2) (hob _ (by simp))⟩
  · cases hc
end Go.Ax
end

section
/-
  Spots: what the reference says; copies of spots.
-/
set_option linter.unusedVariables false
set_option linter.unusedSimpArgs false
set_option maxHeartbeats 1000000
set_option maxRecDepth 100000
namespace Go.Ax
open Go.Proofs

theorem vc264 (n : Nat) (X Y : Nat → Int) (hX : ∀ i, i < n → inR (X i) ∧ inR (Y i)) (hn : n ≤ 9223372036854775806) : fnVC Tryz.prog [(294, c294), (262, c262)] [] Tryz.f264 [.ro n 2 fun i => [i64 (X i), i64 (Y i)]] (· = bo (convexS n X Y)) := by
  refine fnVC_go (rs := [.tmp 2]) rfl rfl ?_
  simp only [go_sem]
  refine ⟨fun h => false_of fun hc => ?_, fun h => ?_⟩
  · have := convexS_iff.1 hc
    omega
  have h3 : 3 ≤ n := by omega
  let good : Nat → Prop := fun i => ∀ k, k < n → k ≠ i → k ≠ nxt n i → 0 < turnS (X i) (Y i) (X (nxt n i)) (Y (nxt n i)) (X k) (Y k)
  refine loopC_go (fun (i : Nat) => i ≤ n ∧ (0 < i → ∀ k, k < n → validS (X k) (Y k) = true) ∧ ∀ j, j < i → good j) (fun i => n - i) (fun i => [(3, i64 i)]) (fun _ => []) [] [9, 10, 11, 12, 15, 16, 17, 18, 19, 4, 5, 20, 21, 22, 23, 26, 27, 28, 29, 30, 31, 32, 33, 34, 35, 36, 37, 38, 39, 40, 41, 42, 43, 44, 45, 46, 47, 48, 49, 50, 51, 52, 53, 54, 55, 56, 57, 2, 24, 25, 5, 13, 14, 3] 0 (by kernel_rfl) ?_ ⟨Nat.zero_le _, fun h => by omega, fun j hj => by omega⟩ ?_ ?_
  · intro x _; simp [goodNames]
  · simp only [go_sem]
  · intro i hi
    have hn0 : ((n : Int) = 0) = False := eq_false (by omega)
    simp only [go_sem, hn0]
    refine ⟨fun hin z hz z1 hz1 => ?_, fun hin => (convexS_iff.2 ⟨h3, hi.2.1 (by omega), fun j hj => hi.2.2 j (by omega)⟩).symm⟩
    have hin : i < n := by omega
    have ei : IntKind.i64.wrap ((i : Int) + 1) = i + 1 := wrap_in (by unfold inR; omega)
    rw [ei] at hz
    rw [hz, tmod_nxt hin] at hz1
    have hnl : nxt n i < n := nxt_lt hin
    subst hz1
    refine loopC_go (fun (k : Nat) => k ≤ n ∧ ∀ q, q < k → validS (X q) (Y q) = true ∧ (q ≠ i → q ≠ nxt n i → 0 < turnS (X i) (Y i) (X (nxt n i)) (Y (nxt n i)) (X q) (Y q))) (fun k => n - k) (fun k => [(5, i64 k)]) (fun _ => []) [] [20, 21, 22, 23, 26, 27, 28, 29, 30, 31, 32, 33, 34, 35, 36, 37, 38, 39, 40, 41, 42, 43, 44, 45, 46, 47, 48, 49, 50, 51, 52, 53, 54, 55, 56, 57, 2, 24, 25, 5] 0 (by kernel_rfl) ?_ ⟨Nat.zero_le _, fun j hj => by omega⟩ ?_ ?_
    · intro x _; simp [goodNames]
    · simp only [go_sem]
    · intro k hk
      simp only [go_sem, c294, c262]
      have bn : ∀ x y : Nat, ((x : Int) != (y : Int)) = true ↔ x ≠ y := fun x y => by rw [bne_iff_ne]; omega
      refine ⟨fun hkn => ⟨by omega, hkn, fun z1 hz1 => ⟨fun h1 h2 => ⟨h1, h2⟩, fun _ => by omega, fun _ => by omega, fun _ => by omega, fun _ => by omega, fun _ => by omega, fun _ => by omega, fun t ht => ⟨fun h1 h2 => ⟨h1, h2⟩, fun hb => false_of fun hc => ?_, fun hb z3 hz3 => ⟨k + 1, ⟨by omega, fun q hq => ?_⟩, by omega, ?_⟩⟩⟩⟩, fun hkn z1 hz1 => ⟨i + 1, ⟨by omega, fun _ q hq => (hk.2 q (by omega)).1, fun j hj => ?_⟩, by omega, ?_⟩⟩
      · have hkn' : k < n := by omega
        obtain ⟨_, k2, k3⟩ := convexS_iff.1 hc
        rcases hb with hb | hb
        · rw [hb, k2 k hkn'] at hz1; cases hz1
        · have hp := k3 i hin k hkn' ((bn _ _).1 hb.1.1) ((bn _ _).1 hb.1.2)
          have : t = 1 := by rw [ht]; unfold sideS; rw [if_pos ⟨k2 i hin, k2 _ hnl, k2 k hkn'⟩, if_pos hp]
          omega
      · by_cases e : q = k
        · subst e
          rw [← hz1]
          refine ⟨hb.1, fun h1 h2 => ?_⟩
          have hb2 := hb.2
          rw [(bn q i).2 h1, (bn q (nxt n i)).2 h2] at hb2
          simp at hb2
          rw [ht] at hb2
          unfold sideS at hb2
          split at hb2
          · split at hb2
            · assumption
            · split at hb2 <;> omega
          · omega
        · exact hk.2 q (by omega)
      · rw [hz3, wrap_in (by unfold inR; omega)]; rfl
      · by_cases e : j = i
        · subst e
          intro q hq h1 h2
          exact (hk.2 q (by omega)).2 h1 h2
        · exact hi.2.2 j (by omega)
      · rw [hz1, ei]; rfl
theorem con264 : ConOK Tryz.prog 264 c293 := ConOK.go (G := [(294, c294), (262, c262)]) (H := []) (.cons con294 (.cons con262 .nil)) Tryz.func264 fun l ob r hc hob => by
  unfold c293 at hc
  split at hc
  · rename_i n g
    cases hc
    have hs : spots n g := hob _ (by simp)
    refine ⟨[.ro n 2 fun i => [i64 (gx g 0 i), i64 (gx g 1 i)]], fun w I vs h => Rs_one (fun v => ro_alike fun i hi => (hs i hi).1) h, by kernel_rfl, vc264 n _ _ (fun i hi => (hs i hi).2) (hob _ (by simp))⟩
  · cases hc

/-! ### Copies -/
def c112 : Con
  | [.ro n 2 g] => some ([spots n g, n ≤ 1000], .ro n 2 fun i => [i64 (gx g 0 i), i64 (gx g 1 i)])
  | _ => none
theorem vc112 (n : Nat) (X Y : Nat → Int) (hn : n ≤ 1000) : fnVC Tryz.prog [] [] Tryz.f112 [.ro n 2 fun i => [i64 (X i), i64 (Y i)]] (· = .ro n 2 fun i => [i64 (X i), i64 (Y i)]) := by
  refine fnVC_go (rs := [.tmp 2]) rfl rfl ?_
  simp only [go_sem]
  refine loopN_go (fun (i : Nat) => i ≤ n) (fun i => n - i) (fun i => [(4, i64 i), (3, .own 3 0 i 2)]) (fun i => [(3, famN i 2 101 (fun k => [i64 (X k), i64 (Y k)]) none)]) [] [5, 6, 7, 8, 11, 12, 13, 14, 15, 16, 17, 3, 9, 10, 4] 1 0 (by kernel_rfl) (Nat.zero_le _) ⟨[(3, none)], ?_, ?_, ?_, ?_⟩ ?_
  · simp only [go_sem]
  · simp only [go_sem]
  · simp only [go_sem]
  · exact goodNames_one (k := 0) (by decide) (fun z h => by cases h)
  intro i hi
  simp only [go_sem]
  refine ⟨fun hlt => ⟨by omega, hlt, ?_, by omega, fun z hz => ⟨i + 1, by omega, by omega, [(3, some 14)], ⟨?_, by rw [fit1_named (r := 0)]; exact ⟨by omega, rfl⟩⟩, ?_, goodNames_one (k := 0) (by decide) (fun z h => by cases h; decide)⟩⟩, fun hge => ?_⟩
  · rw [show bytesT Tryz.prog 101 = 16 by kernel_rfl]; omega
  · rw [wrap_i64] at hz; omega
  · rw [fitRows_some]
    simp only [go_sem]
    intro k hk
    by_cases e : k < i
    · rw [if_pos e]; simp only [go_sem]
    · have e : k = i := by omega
      subst e
      rw [if_neg (by omega), Nat.sub_self]
      simp only [Nat.zero_mul, go_sem]
  · have e : i = n := by omega
    subst e; rfl
theorem con112 : ConOK Tryz.prog 112 c112 := ConOK.go (G := []) (H := []) .nil Tryz.func112 fun l ob r hc hob => by
  unfold c112 at hc
  split at hc
  · rename_i n g
    cases hc
    have hs : spots n g := hob _ (by simp)
    refine ⟨[.ro n 2 fun i => [i64 (gx g 0 i), i64 (gx g 1 i)]], fun w I vs h => Rs_one (fun v => ro_alike fun i hi => (hs i hi).1) h, by kernel_rfl, vc112 n _ _ (hob _ (by simp))⟩
  · cases hc
def c147 : Con
  | [.ro n 2 g, .ro m 2 g'] => some ([spots n g, spots m g', n ≤ 9223372036854775806, m ≤ 9223372036854775806], bo (decide (n = m ∧ ∀ i, i < n → gx g 0 i = gx g' 0 i ∧ gx g 1 i = gx g' 1 i)))
  | _ => none
theorem vc147 (n m : Nat) (X Y Z T : Nat → Int) (hn : n ≤ 9223372036854775806) : fnVC Tryz.prog [] [] Tryz.f147 [.ro n 2 fun i => [i64 (X i), i64 (Y i)], .ro m 2 fun i => [i64 (Z i), i64 (T i)]] (· = bo (decide (n = m ∧ ∀ i, i < n → X i = Z i ∧ Y i = T i))) := by
  refine fnVC_go (rs := [.tmp 4]) rfl rfl ?_
  simp only [go_sem]
  refine ⟨fun h => ?_, fun h => ?_⟩
  · refine (decide_eq_false fun hc => ?_).symm
    rw [bne_iff_ne] at h; omega
  refine loopC_go (fun (i : Nat) => i ≤ n ∧ ∀ j, j < i → X j = Z j ∧ Y j = T j) (fun i => n - i) (fun i => [(5, i64 i)]) (fun _ => []) [] [11, 12, 13, 14, 17, 18, 19, 20, 21, 22, 23, 24, 25, 4, 15, 16, 5] 0 (by kernel_rfl) ?_ ⟨Nat.zero_le _, fun j hj => by omega⟩ ?_ ?_
  · intro x _; simp [goodNames]
  · simp only [go_sem]
  · intro i hi
    simp only [go_sem]
    have hnm : n = m := by
      have : ¬ ((n : Int) != m) = true := by rw [h]; simp
      rw [bne_iff_ne] at this; omega
    subst hnm
    refine ⟨fun hin => ⟨by omega, hin, by omega, hin, fun hb => ?_, fun hb z hz => ⟨i + 1, ⟨by omega, fun j hj => ?_⟩, by omega, ?_⟩⟩, fun hin => ?_⟩
    · refine (decide_eq_false fun hc => ?_).symm
      have := hc.2 i (by omega)
      rw [this.1, this.2] at hb
      simp at hb
    · by_cases e : j = i
      · subst e; exact ⟨by simpa using hb.1, by simpa using hb.2⟩
      · exact hi.2 j (by omega)
    · rw [hz, wrap_in (by unfold inR; omega)]; rfl
    · exact (decide_eq_true ⟨rfl, fun j hj => hi.2 j (by omega)⟩).symm
theorem con147 : ConOK Tryz.prog 147 c147 := ConOK.go (G := []) (H := []) .nil Tryz.func147 fun l ob r hc hob => by
  unfold c147 at hc
  split at hc
  · rename_i n g m g'
    cases hc
    have hs : spots n g := hob _ (by simp)
    have hs' : spots m g' := hob _ (by simp)
    refine ⟨[.ro n 2 fun i => [i64 (gx g 0 i), i64 (gx g 1 i)], .ro m 2 fun i => [i64 (gx g' 0 i), i64 (gx g' 1 i)]], fun w I vs h => ?_, by kernel_rfl, vc147 n m _ _ _ _ (hob _ (by simp))⟩
    obtain ⟨x, xs, rfl, h1, h2⟩ := h.inv
    exact .cons (ro_alike (fun i hi => (hs i hi).1) h1) (Rs_one (fun v => ro_alike fun i hi => (hs' i hi).1) h2)
  · cases hc
end Go.Ax
end

section
/-
  Forms: what is valid; copies; which spots a form has.
-/
set_option linter.unusedVariables false
set_option linter.unusedSimpArgs false
set_option maxHeartbeats 1000000
set_option maxRecDepth 100000
namespace Go.Ax
open Go.Proofs

/-- A form: its kind, its center, its radius, its corners. -/
abbrev formA (k x y r : Int) (n : Nat) (g : Nat → List AV) : AV := .agg [i64 k, i64 x, i64 y, i64 r, .ro n 2 g]
theorem Rs_form {w : World} {ρ : Env} {k x y r : Int} {n : Nat} {g : Nat → List AV} (hs : spots n g) (v : Value) (h : R w ρ (formA k x y r n g) v) : R w ρ (formA k x y r n fun i => [i64 (gx g 0 i), i64 (gx g 1 i)]) v := by
  cases h with
  | agg hl hh =>
    refine .agg hl fun i a z h1 h2 => ?_
    match i with
    | 0 => exact hh 0 a z h1 h2
    | 1 => exact hh 1 a z h1 h2
    | 2 => exact hh 2 a z h1 h2
    | 3 => exact hh 3 a z h1 h2
    | 4 =>
      simp at h1; subst h1
      exact ro_alike (fun i hi => (hs i hi).1) (hh 4 _ z rfl h2)
    | j + 5 => simp at h1
theorem Rs_poly {w : World} {ρ : Env} {n : Nat} {g : Nat → List AV} (hs : spots n g) (v : Value) (h : R w ρ (.agg [.ro n 2 g]) v) : R w ρ (.agg [.ro n 2 fun i => [i64 (gx g 0 i), i64 (gx g 1 i)]]) v := by
  cases h with
  | agg hl hh =>
    refine .agg hl fun i a z h1 h2 => ?_
    match i with
    | 0 =>
      simp at h1; subst h1
      exact ro_alike (fun i hi => (hs i hi).1) (hh 0 _ z rfl h2)
    | j + 1 => simp at h1
theorem Rs_two {w : World} {ρ : Env} {a a' b b' : AV} {vs : List Value} (h : ∀ v, R w ρ a v → R w ρ a' v) (k : ∀ v, R w ρ b v → R w ρ b' v) (hR : Rs w ρ [a, b] vs) : Rs w ρ [a', b'] vs := by
  obtain ⟨x, xs, rfl, h1, h2⟩ := hR.inv
  exact .cons (h x h1) (Rs_one k h2)

/-- The forms are equal. -/
def sameF (k x y r : Int) (n : Nat) (g : Nat → List AV) (k' x' y' r' : Int) (n' : Nat) (g' : Nat → List AV) : Bool :=
  (k == k') && (x == x' && y == y') && (r == r') && decide (n = n' ∧ ∀ i, i < n → gx g 0 i = gx g' 0 i ∧ gx g 1 i = gx g' 1 i)
def c63 : Con
  | [.agg [.v (.int .i64 k), .v (.int .i64 x), .v (.int .i64 y), .v (.int .i64 r), .ro n 2 g], .agg [.v (.int .i64 k'), .v (.int .i64 x'), .v (.int .i64 y'), .v (.int .i64 r'), .ro n' 2 g']] => some ([spots n g, spots n' g', n ≤ 9223372036854775806, n' ≤ 9223372036854775806], bo (sameF k x y r n g k' x' y' r' n' g'))
  | _ => none
theorem con63 : ConOK Tryz.prog 63 c63 := ConOK.of (G := [(147, c147)]) (H := []) (.cons con147 .nil) Tryz.func63 fun l ob r hc hob => by
  unfold c63 at hc
  split at hc
  · rename_i k x y r n g k' x' y' r' n' g'
    cases hc
    have hs : spots n g := hob _ (by simp)
    have hs' : spots n' g' := hob _ (by simp)
    have hn : n ≤ 9223372036854775806 := hob _ (by simp)
    have hn' : n' ≤ 9223372036854775806 := hob _ (by simp)
    refine ⟨by kernel_rfl, fnVC_go (rs := [.tmp 4]) rfl rfl ?_⟩
    simp only [go_sem, c147]
    intro z hz
    refine ⟨fun _ => hs, fun _ => hs', fun _ => hn, fun _ => hn', ?_⟩
    rw [hz]; rfl
  · cases hc
theorem con216 : ConOK Tryz.prog 216 c292 := ConOK.of (G := []) (H := []) .nil Tryz.func216 fun l ob r hc hob => by
  unfold c292 at hc
  split at hc
  · cases hc
    refine ⟨by kernel_rfl, fnVC_go (rs := [.cell 4 108]) rfl rfl ?_⟩
    simp only [go_sem]
    intro z h z1 h1 z2 h2 z3 h3
    subst h h1 h2 h3
    rfl
  · cases hc

theorem wrap_inR (x : Int) : inR (IntKind.i64.wrap x) := by rw [wrap_i64]; unfold inR; omega
theorem fair1 {a b : Int} {g : Nat → List AV} (h0 : g 0 = [i64 a, i64 b]) : fairS 1 (gx g 0) (gx g 1) = validS a b := by
  rw [Bool.eq_iff_iff, fairS_iff]
  constructor
  · intro h
    have k0 := h 0 (by omega)
    simp only [gx, h0, gi_0, gi_1] at k0
    exact k0
  · intro h i hi
    have : i = 0 := by omega
    subst this
    simp only [gx, h0, gi_0, gi_1]; exact h
theorem spots1 {a b : Int} {g : Nat → List AV} (h0 : g 0 = [i64 a, i64 b]) (ha : inR a) (hb : inR b) : spots 1 g := by
  intro i hi
  have : i = 0 := by omega
  subst this
  simp only [gx, h0, gi_0, gi_1]; exact ⟨trivial, ha, hb⟩
/-- The error of a form. -/
def checkS (k x y r : Int) (n : Nat) (X Y : Nat → Int) : Int :=
  if k ≠ 1 ∧ k ≠ 2 then 8
  else if ¬ (validS x y = true ∧ ∀ i, i < n → validS (X i) (Y i) = true) then 3
  else if k = 1 then (if 1 ≤ r ∧ (2097152 < r ∨ checkBoxS (x - r) (y - r) (x + r) (y + r) ≠ 0) then 3 else if r < 1 ∨ 0 < n then 5 else 0)
  else if r ≠ 0 ∨ 8 < n ∨ convexS n X Y = false then 5 else 0
instance {n : Nat} {X Y : Nat → Int} : Decidable (∀ i, i < n → validS (X i) (Y i) = true) := inferInstance
def c261 : Con
  | [.agg [.v (.int .i64 k), .v (.int .i64 x), .v (.int .i64 y), .v (.int .i64 r), .ro n 2 g]] => some ([spots n g, n ≤ 9223372036854775806, inR x, inR y, inR r], i64 (checkS k x y r n (gx g 0) (gx g 1)))
  | _ => none
theorem con261 : ConOK Tryz.prog 261 c261 := ConOK.of (G := [(291, c291), (293, c293), (290, c290), (292, c292)]) (H := []) (.cons con291 (.cons con293 (.cons con290 (.cons con292 .nil)))) Tryz.func261 fun l ob r hc hob => by
  unfold c261 at hc
  split at hc
  · rename_i k x y r n g
    cases hc
    have hs : spots n g := hob _ (by simp)
    have hn : n ≤ 9223372036854775806 := hob _ (by simp)
    have hx : inR x := hob _ (by simp)
    have hy : inR y := hob _ (by simp)
    have hr : inR r := hob _ (by simp)
    refine ⟨by kernel_rfl, fnVC_go (rs := [.tmp 2]) rfl rfl ?_⟩
    simp only [go_sem, c291, c293, c290, c292]
    have hfa : fairS 1 (gx (rowsOf 2 [AV.v (Value.int IntKind.i64 x), AV.v (Value.int IntKind.i64 y)]) 0) (gx (rowsOf 2 [AV.v (Value.int IntKind.i64 x), AV.v (Value.int IntKind.i64 y)]) 1) = validS x y := fair1 rfl
    have hsp : spots 1 (rowsOf 2 [AV.v (Value.int IntKind.i64 x), AV.v (Value.int IntKind.i64 y)]) := spots1 rfl hx hy
    rw [hfa]
    refine ⟨fun h => ?_, fun h z hz => ⟨hsp, fun z1 hz1 => ⟨fun _ => hs, fun _ => by omega, fun h3 => ?_, fun h3 z2 hz2 => ⟨fun _ => wrap_inR _, fun _ => wrap_inR _, fun _ => wrap_inR _, fun _ => wrap_inR _, fun a b => ⟨a, b⟩, fun h4 => ?_, fun h4 => ⟨fun a b => ⟨a, b⟩, fun h5 => ?_, fun h5 => ⟨fun a b => ⟨a, b⟩, fun z3 hz3 => ⟨fun _ => hs, fun _ => hn, fun a b => ⟨a, b⟩, fun h6 => ?_, fun h6 => ?_⟩⟩⟩⟩⟩⟩⟩
    · have h1 : k ≠ 1 ∧ k ≠ 2 := by simpa using h
      unfold checkS; rw [if_pos h1]
    · have h1 : ¬ (k ≠ 1 ∧ k ≠ 2) := by simp at h; omega
      have h2 : ¬ (validS x y = true ∧ ∀ i, i < n → validS (gx g 0 i) (gx g 1 i) = true) := by
        rintro ⟨v1, v2⟩
        rw [← fairS_iff] at v2
        rw [v1] at hz; rw [v2] at hz1
        simp [hz, hz1] at h3
      unfold checkS; rw [if_neg h1, if_pos h2]
    all_goals
      have h1 : ¬ (k ≠ 1 ∧ k ≠ 2) := by simp at h; omega
      have v1 : validS x y = true := by rw [← hz]; exact h3.1
      have v2 : ∀ i, i < n → validS (gx g 0 i) (gx g 1 i) = true := by rw [← fairS_iff, ← hz1]; exact h3.2
      have v3 := validS_iff.1 v1
      have h2 : ¬ ¬ (validS x y = true ∧ ∀ i, i < n → validS (gx g 0 i) (gx g 1 i) = true) := fun hn => hn ⟨v1, v2⟩
      have hb : 0 < r → ¬ 2097152 < r → z2 = checkBoxS (x - r) (y - r) (x + r) (y + r) := fun a b => by
        rw [hz2, wrap_in (x := x - r) (by unfold inR; omega), wrap_in (x := y - r) (by unfold inR; omega), wrap_in (x := x + r) (by unfold inR; omega), wrap_in (x := y + r) (by unfold inR; omega)]
      unfold checkS
      rw [if_neg h1, if_neg h2]
    · simp only [beq_iff_eq, bne_iff_ne, ne_eq] at h4
      rw [if_pos h4.1.1, if_pos]
      refine ⟨by omega, ?_⟩
      by_cases hr2 : 2097152 < r
      · exact .inl hr2
      · rw [← hb h4.1.2 hr2]; exact .inr (h4.2.resolve_left hr2)
    all_goals
      have h4' : k = 1 → ¬ (1 ≤ r ∧ (2097152 < r ∨ checkBoxS (x - r) (y - r) (x + r) (y + r) ≠ 0)) := by
        rintro hk ⟨a, b⟩
        have a' : 0 < r := by omega
        simp only [hk, beq_self_eq_true, Bool.true_and, a', decide_true, Bool.or_eq_false_iff, decide_eq_false_iff_not, bne_eq_false_iff_eq] at h4
        rw [← hb a' h4.1] at b
        rcases b with b | b
        · exact h4.1 b
        · exact b h4.2
    · have hk : k = 1 := by simpa using h5.1
      rw [if_pos hk, if_neg (h4' hk), if_pos (by have := h5.2; omega)]
    · have hk : k ≠ 1 := by simpa using h6.1
      rw [if_neg hk, if_pos]
      rw [← hz3]
      have := h6.2
      simp only [bne_iff_ne] at this
      rcases this with (a | a) | a
      · exact .inl a
      · exact .inr (.inl (by omega))
      · exact .inr (.inr a)
    · by_cases hk : k = 1
      · simp only [hk, beq_self_eq_true, Bool.true_and, Bool.or_eq_false_iff, decide_eq_false_iff_not] at h5
        rw [if_pos hk, if_neg (h4' hk), if_neg (by omega)]
      · have hk' : (k == 1) = false := by simpa using hk
        rw [if_neg hk, if_neg]
        rw [← hz3]
        simp only [hk', Bool.not_false, Bool.true_and, Bool.or_eq_false_iff, bne_eq_false_iff_eq, decide_eq_false_iff_not, Bool.not_eq_false'] at h6
        rintro (a | a | a)
        · exact a h6.1.1
        · exact h6.1.2 (by omega)
        · rw [h6.2] at a; cases a
  · cases hc
end Go.Ax
end

section
/-
  Forms: the reference's check; which spots a form has.
-/
set_option linter.unusedVariables false
set_option linter.unusedSimpArgs false
set_option maxHeartbeats 1000000
set_option maxRecDepth 100000
namespace Go.Ax
open Go.Proofs

theorem vc215 (k x y r : Int) (n : Nat) (X Y : Nat → Int) (hX : ∀ i, i < n → inR (X i) ∧ inR (Y i)) (hn : n ≤ 9223372036854775806) (hx : inR x) (hy : inR y) (hr : inR r) : fnVC Tryz.prog [(263, c263), (264, c293), (262, c262), (216, c292)] [] Tryz.f215 [formA k x y r n fun i => [i64 (X i), i64 (Y i)]] (· = i64 (checkS k x y r n X Y)) := by
  refine fnVC_go (rs := [.tmp 2]) rfl rfl ?_
  simp only [go_sem, c262]
  refine ⟨fun h => ?_, fun h z hz => ⟨fun h3 => ?_, fun h3 => ?_⟩⟩
  · have h1 : k ≠ 1 ∧ k ≠ 2 := by simpa using h
    unfold checkS; rw [if_pos h1]
  · have h1 : ¬ (k ≠ 1 ∧ k ≠ 2) := by simp at h; omega
    unfold checkS; rw [if_neg h1, if_pos]
    rintro ⟨v1, v2⟩
    rw [v1] at hz; rw [hz] at h3; cases h3
  have h1 : ¬ (k ≠ 1 ∧ k ≠ 2) := by simp at h; omega
  have v1 : validS x y = true := by rw [← hz]; exact h3
  refine loopC_go (fun (i : Nat) => i ≤ n ∧ ∀ j, j < i → validS (X j) (Y j) = true) (fun i => n - i) (fun i => [(3, i64 i)]) (fun _ => []) [0] [16, 17, 18, 19, 20, 23, 24, 25, 26, 27, 28, 29, 2, 21, 22, 3] 0 (by kernel_rfl) ?_ ⟨Nat.zero_le _, fun j hj => by omega⟩ ?_ ?_
  · intro x _; simp [goodNames]
  · simp only [go_sem]
  · intro i hi
    simp only [go_sem, c263, c293, c262, c292]
    refine ⟨fun hin => ⟨by omega, hin, fun z1 hz1 => ⟨fun h4 => ?_, fun h4 z2 hz2 => ⟨i + 1, ⟨by omega, fun j hj => ?_⟩, by omega, ?_⟩⟩⟩, fun hin => ?_⟩
    · unfold checkS; rw [if_neg h1, if_pos]
      rintro ⟨_, v2⟩
      rw [v2 i (by omega)] at hz1; rw [hz1] at h4; cases h4
    · by_cases e : j = i
      · subst e; rw [← hz1]; exact h4
      · exact hi.2 j (by omega)
    · rw [hz2, wrap_in (by unfold inR; omega)]; rfl
    have v2 : ∀ i, i < n → validS (X i) (Y i) = true := fun j hj => hi.2 j (by omega)
    have v3 := validS_iff.1 v1
    have h2 : ¬ ¬ (validS x y = true ∧ ∀ i, i < n → validS (X i) (Y i) = true) := fun hn => hn ⟨v1, v2⟩
    have hg : spots n fun i => [i64 (X i), i64 (Y i)] := fun i hi => ⟨rfl, hX i hi⟩
    have ec : convexS n (gx (fun i => [i64 (X i), i64 (Y i)]) 0) (gx (fun i => [i64 (X i), i64 (Y i)]) 1) = convexS n X Y := rfl
    rw [ec]
    have e0 : checkS k x y r n X Y = if k = 1 then (if 1 ≤ r ∧ (2097152 < r ∨ checkBoxS (x - r) (y - r) (x + r) (y + r) ≠ 0) then 3 else if r < 1 ∨ 0 < n then 5 else 0)
        else if r ≠ 0 ∨ 8 < n ∨ convexS n X Y = false then 5 else 0 := by unfold checkS; rw [if_neg h1, if_neg h2]
    rw [e0]
    refine ⟨fun hk z2 hz2 => ⟨fun a b => ⟨a, b⟩, fun h4 => ?_, fun h4 => ?_⟩, fun hk z2 hz2 => ⟨fun _ => hg, fun _ => hn, fun h4 => ?_, fun h4 => ?_⟩⟩
    · have hb : 0 < r → ¬ 2097152 < r → z2 = checkBoxS (x - r) (y - r) (x + r) (y + r) := fun a b => by
        rw [hz2, wrap_in (x := x - r) (by unfold inR; omega), wrap_in (x := y - r) (by unfold inR; omega), wrap_in (x := x + r) (by unfold inR; omega), wrap_in (x := y + r) (by unfold inR; omega)]
      rw [if_pos (by simpa using hk), if_pos]
      refine ⟨h4.1, ?_⟩
      by_cases hr2 : 2097152 < r
      · exact .inl hr2
      · rw [← hb (by omega) hr2]; exact .inr (by simpa using h4.2.resolve_left hr2)
    · have hb : 0 < r → ¬ 2097152 < r → z2 = checkBoxS (x - r) (y - r) (x + r) (y + r) := fun a b => by
        rw [hz2, wrap_in (x := x - r) (by unfold inR; omega), wrap_in (x := y - r) (by unfold inR; omega), wrap_in (x := x + r) (by unfold inR; omega), wrap_in (x := y + r) (by unfold inR; omega)]
      have h4' : ¬ (1 ≤ r ∧ (2097152 < r ∨ checkBoxS (x - r) (y - r) (x + r) (y + r) ≠ 0)) := by
        rintro ⟨a, b⟩
        simp only [a, decide_true, Bool.true_and, Bool.or_eq_false_iff, decide_eq_false_iff_not, bne_eq_false_iff_eq] at h4
        rw [← hb (by omega) h4.1] at b
        rcases b with b | b
        · exact h4.1 b
        · exact b h4.2
      rw [if_pos (by simpa using hk), if_neg h4']
      refine ⟨fun h5 => ?_, fun h5 => ?_⟩
      · rw [if_pos (by omega)]
      · rw [if_neg (by omega)]
    · rw [if_neg (by simpa using hk), if_pos]
      rw [← hz2]
      simp only [bne_iff_ne] at h4
      rcases h4 with ((a | a) | a) | a
      · exact .inl a
      · refine .inr (.inr (Bool.eq_false_iff.2 fun hc => ?_))
        rw [hz2] at hc
        have := (convexS_iff.1 hc).1
        omega
      · exact .inr (.inl (by omega))
      · exact .inr (.inr a)
    · rw [if_neg (by simpa using hk), if_neg]
      rw [← hz2]
      simp only [bne_eq_false_iff_eq] at h4
      rintro (a | a | a)
      · exact a h4.1.1.1
      · exact h4.1.2 (by omega)
      · rw [h4.2] at a; cases a
theorem con215 : ConOK Tryz.prog 215 c261 := ConOK.go (G := [(263, c263), (264, c293), (262, c262), (216, c292)]) (H := []) (.cons con263 (.cons con264 (.cons con262 (.cons con216 .nil)))) Tryz.func215 fun l ob rr hc hob => by
  unfold c261 at hc
  split at hc
  · rename_i k x y r n g
    cases hc
    have hs : spots n g := hob _ (by simp)
    exact ⟨[formA k x y r n fun i => [i64 (gx g 0 i), i64 (gx g 1 i)]], fun w I vs h => Rs_one (Rs_form hs) h, by kernel_rfl, vc215 k x y r n _ _ (fun i hi => (hs i hi).2) (hob _ (by simp)) (hob _ (by simp)) (hob _ (by simp)) (hob _ (by simp))⟩
  · cases hc

/-- A valid form ars a figure. -/
def figA (k x y r : Int) (n : Nat) (g : Nat → List AV) : AV := if k = 1 then .iface 247 (.agg [i64 x, i64 y, i64 r]) else .iface 249 (.agg [.ro n 2 g])
theorem figA_eq {k x y r : Int} {n : Nat} {g : Nat → List AV} : figA k x y r n g = if k = 1 then .iface 247 (.agg [i64 x, i64 y, i64 r]) else .iface 249 (.agg [.ro n 2 g]) := (rfl)
def c214 : Con
  | [.agg [.v (.int .i64 k), .v (.int .i64 x), .v (.int .i64 y), .v (.int .i64 r), .ro n 2 g]] => some ([spots n g, n ≤ 9223372036854775806, inR x, inR y, inR r], if checkS k x y r n (gx g 0) (gx g 1) = 0 then (if k = 1 then .iface 247 (.agg [i64 x, i64 y, i64 r]) else .iface 249 (.agg [.ro n 2 g])) else .v .nilIface)
  | _ => none
theorem con214 : ConOK Tryz.prog 214 c214 := ConOK.of (G := [(261, c261)]) (H := []) (.cons con261 .nil) Tryz.func214 fun l ob rr hc hob => by
  unfold c214 at hc
  split at hc
  · rename_i k x y r n g
    cases hc
    have hs : spots n g := hob _ (by simp)
    have hn : n ≤ 9223372036854775806 := hob _ (by simp)
    have hx : inR x := hob _ (by simp)
    have hy : inR y := hob _ (by simp)
    have hr : inR r := hob _ (by simp)
    refine ⟨by kernel_rfl, fnVC_go (rs := [.tmp 2]) rfl rfl ?_⟩
    simp only [go_sem, c261]
    intro z hz
    refine ⟨hs, hn, hx, hy, hr, fun h => ?_, fun h => ⟨fun h2 => ?_, fun h2 => ?_⟩⟩
    · rw [if_neg]; rw [← hz]; simpa using h
    · rw [if_pos (by rw [← hz]; simpa using h), if_pos (by simpa using h2)]
    · rw [if_pos (by rw [← hz]; simpa using h), if_neg (by simpa using h2)]
  · cases hc

/-! ### Which spots a form has -/
def dist2 (x y px py : Int) : Int := (px - x) * (px - x) + (py - y) * (py - y)
theorem sq0 (a : Int) : 0 ≤ a * a := by rw [← Int.natAbs_mul_self]; exact Int.natCast_nonneg _
theorem dist2_bd {x y px py : Int} (h1 : validS x y = true) (h2 : validS px py = true) : 0 ≤ (px - x) * (px - x) ∧ (px - x) * (px - x) ≤ 17592186044416 ∧ 0 ≤ (py - y) * (py - y) ∧ (py - y) * (py - y) ≤ 17592186044416 ∧ sm (px - x) ∧ sm (py - y) := by
  rw [validS_iff] at h1 h2
  have a1 : sm (px - x) := by unfold sm; omega
  have a2 : sm (py - y) := by unfold sm; omega
  have b1 := sm_mul a1 a1
  have b2 := sm_mul a2 a2
  have c1 : 0 ≤ (px - x) * (px - x) := sq0 _
  have c2 : 0 ≤ (py - y) * (py - y) := sq0 _
  exact ⟨c1, b1.2, c2, b2.2, a1, a2⟩
theorem dist2_wrap {x y px py : Int} (h1 : validS x y = true) (h2 : validS px py = true) :
    IntKind.i64.wrap (IntKind.i64.wrap (IntKind.i64.wrap (px - x) * IntKind.i64.wrap (px - x)) + IntKind.i64.wrap (IntKind.i64.wrap (py - y) * IntKind.i64.wrap (py - y))) = dist2 x y px py := by
  obtain ⟨c1, b1, c2, b2, a1, a2⟩ := dist2_bd h1 h2
  unfold sm at a1 a2
  rw [wrap_in (x := px - x) (by unfold inR; omega), wrap_in (x := py - y) (by unfold inR; omega), wrap_in (x := (px - x) * (px - x)) (by unfold inR; omega), wrap_in (x := (py - y) * (py - y)) (by unfold inR; omega), wrap_in (by unfold inR; omega)]
  rfl
theorem sq_wrap {r : Int} (h : sm r) : IntKind.i64.wrap (r * r) = r * r := by
  have := sm_mul h h
  exact wrap_in (by unfold inR; omega)
def c325 : Con
  | [.agg [.v (.int .i64 x), .v (.int .i64 y), .v (.int .i64 r)], .agg [.v (.int .i64 px), .v (.int .i64 py)]] => some ([validS x y = true, validS px py = true, sm r], bo (decide (dist2 x y px py ≤ r * r)))
  | _ => none
/-- The spot is on no edge's right. -/
def inS (n : Nat) (X Y : Nat → Int) (px py : Int) : Bool := decide (∀ i, i < n → 0 ≤ turnS (X i) (Y i) (X (nxt n i)) (Y (nxt n i)) px py)
theorem inS_iff {n : Nat} {X Y : Nat → Int} {px py : Int} : inS n X Y px py = true ↔ ∀ i, i < n → 0 ≤ turnS (X i) (Y i) (X (nxt n i)) (Y (nxt n i)) px py := by unfold inS; simp
def c328 : Con
  | [.agg [.ro n 2 g], .agg [.v (.int .i64 px), .v (.int .i64 py)]] => some ([spots n g, n ≤ 9223372036854775806, ∀ i, i < n → validS (gx g 0 i) (gx g 1 i) = true, validS px py = true], bo (inS n (gx g 0) (gx g 1) px py))
  | _ => none
/-- The form has the spot. -/
def holdsS (k x y r : Int) (n : Nat) (X Y : Nat → Int) (px py : Int) : Bool := if k = 1 then decide (dist2 x y px py ≤ r * r) else inS n X Y px py
theorem check_1 {k x y r : Int} {n : Nat} {X Y : Nat → Int} (h : checkS k x y r n X Y = 0) : (k = 1 ∨ k = 2) ∧ validS x y = true ∧ (∀ i, i < n → validS (X i) (Y i) = true) ∧ (k = 1 → 1 ≤ r ∧ r ≤ 2097152 ∧ checkBoxS (x - r) (y - r) (x + r) (y + r) = 0 ∧ n = 0) ∧ (k ≠ 1 → r = 0 ∧ n ≤ 8 ∧ convexS n X Y = true) := by
  unfold checkS at h
  split at h
  · omega
  · split at h
    · omega
    · rename_i h1 h2
      have h2 : validS x y = true ∧ ∀ i, i < n → validS (X i) (Y i) = true := Decidable.of_not_not h2
      split at h
      · rename_i h3
        split at h
        · omega
        · rename_i h4
          split at h
          · omega
          · rename_i h5
            refine ⟨.inl h3, h2.1, h2.2, fun _ => ⟨by omega, by omega, ?_, by omega⟩, fun h => absurd h3 h⟩
            by_cases e : checkBoxS (x - r) (y - r) (x + r) (y + r) = 0
            · exact e
            · exact absurd ⟨by omega, .inr e⟩ h4
      · rename_i h3
        split at h
        · omega
        · rename_i h5
          refine ⟨by omega, h2.1, h2.2, fun h => absurd h h3, fun _ => ⟨by omega, by omega, ?_⟩⟩
          cases hc : convexS n X Y
          · exact absurd (.inr (.inr hc)) h5
          · rfl
def c272 : Con
  | [.agg [.v (.int .i64 k), .v (.int .i64 x), .v (.int .i64 y), .v (.int .i64 r), .ro n 2 g], .agg [.v (.int .i64 px), .v (.int .i64 py)]] => some ([spots n g, n ≤ 9223372036854775806, checkS k x y r n (gx g 0) (gx g 1) = 0, validS px py = true], bo (holdsS k x y r n (gx g 0) (gx g 1) px py))
  | _ => none
end Go.Ax
end

section
/-
  Forms: their boxes; the law of spots in forms.
-/
set_option linter.unusedVariables false
set_option linter.unusedSimpArgs false
set_option maxHeartbeats 2000000
set_option maxRecDepth 100000
namespace Go.Ax
open Go.Proofs

def c324 : Con
  | [.agg [.v (.int .i64 x), .v (.int .i64 y), .v (.int .i64 r)]] => some ([], .agg [i64 (IntKind.i64.wrap (x - r)), i64 (IntKind.i64.wrap (y - r)), i64 (IntKind.i64.wrap (x + r)), i64 (IntKind.i64.wrap (y + r))])
  | _ => none
theorem con324 : ConOK Tryz.prog 324 c324 := ConOK.of (G := [(292, c292)]) (H := []) (.cons con292 .nil) Tryz.func324 fun l ob r hc hob => by
  unfold c324 at hc
  split at hc
  · cases hc
    refine ⟨by kernel_rfl, fnVC_go (rs := [.cell 2 108]) rfl rfl ?_⟩
    simp only [go_sem, c292]
    intro z h z1 h1 z2 h2 z3 h3
    subst h h1 h2 h3
    rfl
  · cases hc
/-- The box of some spots. -/
def bxS (n : Nat) (X Y : Nat → Int) : Nat → Int
  | 0 => mnS X n
  | 1 => mnS Y n
  | 2 => mxS X n
  | _ => mxS Y n
/-- The first i values. -/
def upto (i : Nat) (Z : Nat → Int) (j : Nat) : Int := if j < i then Z j else 0
theorem upto_zero {Z : Nat → Int} {j : Nat} : upto 0 Z j = 0 := by unfold upto; rw [if_neg (by omega)]
theorem upto_self {i : Nat} {Z : Nat → Int} : upto (i + 1) Z i = Z i := by unfold upto; rw [if_pos (by omega)]
theorem upto_lt {i j : Nat} {Z : Nat → Int} (h : j < i) : upto i Z j = Z j := by unfold upto; rw [if_pos h]
theorem upto_ne {i j : Nat} {Z : Nat → Int} (h : j ≠ i) : upto (i + 1) Z j = upto i Z j := by
  unfold upto
  by_cases e : j < i
  · rw [if_pos e, if_pos (by omega)]
  · rw [if_neg e, if_neg (by omega)]
theorem mnS_upto {Z : Nat → Int} : ∀ {n m : Nat}, n ≤ m → mnS (upto m Z) n = mnS Z n
  | 0, m, _ => rfl
  | n + 1, m, h => by
    simp only [mnS]
    rw [mnS_upto (Z := Z) (n := n) (by omega), upto_lt (i := m) (j := n) (by omega), upto_lt (i := m) (j := 0) (by omega)]
theorem mxS_upto {Z : Nat → Int} : ∀ {n m : Nat}, n ≤ m → mxS (upto m Z) n = mxS Z n
  | 0, m, _ => rfl
  | n + 1, m, h => by
    simp only [mxS]
    rw [mxS_upto (Z := Z) (n := n) (by omega), upto_lt (i := m) (j := n) (by omega), upto_lt (i := m) (j := 0) (by omega)]
def c327 : Con
  | [.agg [.ro n 2 g]] => some ([spots n g, n ≤ 1000, ∀ i, i < n → validS (gx g 0 i) (gx g 1 i) = true], .agg [i64 (bxS n (gx g 0) (gx g 1) 0), i64 (bxS n (gx g 0) (gx g 1) 1), i64 (bxS n (gx g 0) (gx g 1) 2), i64 (bxS n (gx g 0) (gx g 1) 3)])
  | _ => none
theorem vc327 (n : Nat) (X Y : Nat → Int) (hX : ∀ i, i < n → inR (X i) ∧ inR (Y i)) (hn : n ≤ 1000) (hv : ∀ i, i < n → validS (X i) (Y i) = true) : fnVC Tryz.prog [(330, c330), (292, c292)] [] Tryz.f327 [.agg [.ro n 2 fun i => [i64 (X i), i64 (Y i)]]] (· = .agg [i64 (bxS n X Y 0), i64 (bxS n X Y 1), i64 (bxS n X Y 2), i64 (bxS n X Y 3)]) := by
  refine fnVC_go (rs := [.cell 2 108]) rfl rfl ?_
  simp only [go_sem]
  refine ⟨by omega, by omega, by rw [show bytesT Tryz.prog 108 = 32 by kernel_rfl]; omega, ?_⟩
  refine loopC_go (fun (i : Nat) => i ≤ n) (fun i => n - i) (fun i => [(13, i64 i)]) (fun i => [(5, famN n 4 108 (fun j => [i64 (upto i X j), i64 (upto i Y j), i64 (upto i X j), i64 (upto i Y j)]) none)]) [1, 0] [14, 15, 16, 17, 5, 4, 18, 19, 20, 21, 22, 23, 13] 0 (by kernel_rfl) ?_ (Nat.zero_le _) ?_ ?_
  · intro x _; simp [goodNames, asg]
  · simp only [go_sem, upto_zero, implies_true]
  · intro i hi
    simp only [go_sem, c330, c292]
    refine ⟨fun hin => ?_, fun hin => ?_⟩
    · have hin' : i < n := by omega
      have v := validS_iff.1 (hv i hin')
      refine ⟨by omega, hin, fun z hz z1 hz1 z2 hz2 z3 hz3 => ⟨by omega, hin, hin', fun z4 hz4 => ⟨i + 1, by omega, by omega, ?_, fun j hj => ?_⟩⟩⟩
      · rw [hz4, wrap_in (by unfold inR; omega)]; rfl
      · rw [wrap_in (by unfold inR; omega)] at hz hz1 hz2 hz3
        by_cases e : j = i
        · subst e
          rw [if_pos rfl]
          simp only [go_sem, upto_self]
          omega
        · rw [if_neg e]
          have : ∀ Z, upto (i + 1) Z j = upto i Z j := fun Z => upto_ne e
          simp only [go_sem, this]
    · have e : i = n := by omega
      subst e
      have ok : okB i (upto i X) (upto i Y) (upto i X) (upto i Y) := fun j hj => by
        rw [upto_lt hj, upto_lt hj]
        have v := validS_iff.1 (hv j hj)
        unfold checkBoxS
        rw [if_pos ⟨hv j hj, hv j hj⟩, if_neg (by omega)]
      have hb : boxes i (fun j => [i64 (upto i X j), i64 (upto i Y j), i64 (upto i X j), i64 (upto i Y j)]) := fun j hj => by
        simp only [gx, gi_0, gi_1, gi_2, gi_3, upto_lt hj]
        exact ⟨trivial, (hX j hj).1, (hX j hj).2, (hX j hj).1, (hX j hj).2⟩
      obtain ⟨j1, j2, j3, j4⟩ := joinS_ok ok
      intro z hz z1 hz1 z2 hz2 z3 hz3
      have hz : z = joinS i (upto i X) (upto i Y) (upto i X) (upto i Y) 0 := hz
      have hz1 : z1 = joinS i (upto i X) (upto i Y) (upto i X) (upto i Y) 1 := hz1
      have hz2 : z2 = joinS i (upto i X) (upto i Y) (upto i X) (upto i Y) 2 := hz2
      have hz3 : z3 = joinS i (upto i X) (upto i Y) (upto i X) (upto i Y) 3 := hz3
      rw [j1, mnS_upto (Nat.le_refl _)] at hz
      rw [j2, mnS_upto (Nat.le_refl _)] at hz1
      rw [j3, mxS_upto (Nat.le_refl _)] at hz2
      rw [j4, mxS_upto (Nat.le_refl _)] at hz3
      subst hz hz1 hz2 hz3
      exact ⟨hb, by omega, rfl⟩
theorem con327 : ConOK Tryz.prog 327 c327 := ConOK.go (G := [(330, c330), (292, c292)]) (H := []) (.cons con330 (.cons con292 .nil)) Tryz.func327 fun l ob r hc hob => by
  unfold c327 at hc
  split at hc
  · rename_i n g
    cases hc
    have hs : spots n g := hob _ (by simp)
    exact ⟨[.agg [.ro n 2 fun i => [i64 (gx g 0 i), i64 (gx g 1 i)]]], fun w I vs h => Rs_one (Rs_poly hs) h, by kernel_rfl, vc327 n _ _ (fun i hi => (hs i hi).2) (hob _ (by simp)) (hob _ (by simp))⟩
  · cases hc

/-- The box of a form. -/
def boxS (k x y r : Int) (n : Nat) (X Y : Nat → Int) (q : Nat) : Int :=
  if checkS k x y r n X Y = 0 then (if k = 1 then (match q with
    | 0 => x - r
    | 1 => y - r
    | 2 => x + r
    | _ => y + r) else bxS n X Y q) else 0
def c148 : Con
  | [.agg [.v (.int .i64 k), .v (.int .i64 x), .v (.int .i64 y), .v (.int .i64 r), .ro n 2 g]] => some ([spots n g, n ≤ 9223372036854775806, inR x, inR y, inR r], .agg [i64 (boxS k x y r n (gx g 0) (gx g 1) 0), i64 (boxS k x y r n (gx g 0) (gx g 1) 1), i64 (boxS k x y r n (gx g 0) (gx g 1) 2), i64 (boxS k x y r n (gx g 0) (gx g 1) 3)])
  | _ => none
theorem boxS_disc {k x y r : Int} {n : Nat} {X Y : Nat → Int} {q : Nat} (hc : checkS k x y r n X Y = 0) (hk : k = 1) : boxS k x y r n X Y q = match q with
    | 0 => x - r
    | 1 => y - r
    | 2 => x + r
    | _ => y + r := by unfold boxS; rw [if_pos hc, if_pos hk]
theorem boxS_poly {k x y r : Int} {n : Nat} {X Y : Nat → Int} {q : Nat} (hc : checkS k x y r n X Y = 0) (hk : k ≠ 1) : boxS k x y r n X Y q = bxS n X Y q := by unfold boxS; rw [if_pos hc, if_neg hk]
theorem boxS_none {k x y r : Int} {n : Nat} {X Y : Nat → Int} {q : Nat} (hc : ¬ checkS k x y r n X Y = 0) : boxS k x y r n X Y q = 0 := by unfold boxS; rw [if_neg hc]
theorem con148 : ConOK Tryz.prog 148 c148 := ConOK.of (G := [(214, c214), (327, c327), (324, c324)]) (H := []) (.cons con214 (.cons con327 (.cons con324 .nil))) Tryz.func148 fun l ob rr hc hob => by
  unfold c148 at hc
  split at hc
  · rename_i k x y r n g
    cases hc
    have hs : spots n g := hob _ (by simp)
    have hn : n ≤ 9223372036854775806 := hob _ (by simp)
    have hx : inR x := hob _ (by simp)
    have hy : inR y := hob _ (by simp)
    have hr : inR r := hob _ (by simp)
    refine ⟨by kernel_rfl, fnVC_go (rs := [.cell 2 108]) rfl rfl ?_⟩
    simp only [go_sem, c214, c327, c324]
    refine ⟨fun hc => ?_, fun hc => ⟨hs, hn, hx, hy, hr, fun h => h.elim, fun _ => by simp only [boxS_none hc]⟩⟩
    obtain ⟨hk, v1, v2, h1, h2⟩ := check_1 hc
    refine ⟨fun hk1 => ⟨hs, hn, hx, hy, hr, fun _ z hz z1 hz1 z2 hz2 z3 hz3 => ?_, fun h => by cases h⟩, fun hk1 => ⟨hs, hn, hx, hy, hr, fun _ z hz z1 hz1 z2 hz2 z3 hz3 => ⟨hs, by have := h2 hk1; omega, v2, ?_⟩, fun h => by cases h⟩⟩
    · have h1 := h1 hk1
      have v := validS_iff.1 v1
      rw [wrap_in (by unfold inR; omega)] at hz hz1 hz2 hz3
      simp only [boxS_disc hc hk1]
      rw [hz, hz1, hz2, hz3]
    · simp only [boxS_poly hc hk1]
      rw [hz, hz1, hz2, hz3]
  · cases hc
theorem mn_bd {Z : Nat → Int} {B : Int} : ∀ {i : Nat}, (∀ j, j < i → -B ≤ Z j ∧ Z j ≤ B) → 1 ≤ i → -B ≤ mnS Z i ∧ mnS Z i ≤ mxS Z i ∧ mxS Z i ≤ B
  | 0, _, h => by omega
  | i + 1, h, _ => by
    have h0 := h 0 (by omega)
    have hi := h i (by omega)
    simp only [mnS, mxS]
    by_cases e : i = 0
    · rw [if_pos e, if_pos e]; omega
    · rw [if_neg e, if_neg e]
      have := mn_bd (Z := Z) (B := B) (i := i) (fun j hj => h j (by omega)) (by omega)
      omega
theorem sameF_self {k x y r : Int} {n : Nat} {g : Nat → List AV} : sameF k x y r n g k x y r n g = true := by unfold sameF; simp
end Go.Ax
end

section
/-
  Sums of vectors, the reference's.
-/
set_option linter.unusedVariables false
set_option linter.unusedSimpArgs false
set_option maxHeartbeats 4000000
set_option maxRecDepth 100000
namespace Go.Ax
open Go.Proofs
/-! ### Rows that have names, several -/
section
variable {N M q : Nat} {σ : Names} {m rows : Mem} {x : Fam} {a b : AV} {n sz f k r : Nat} {ty : TypeId} {get : Nat → List AV}
def emptyF (x : Fam) : Prop := ∀ f, (x f).n = 0 ∧ (x f).g = none
def fitQ (N M : Nat) (σ : Names) (m : Mem) (x : Fam) : Option Nat → Prop
  | some k => fitF N M σ x (look m k)
  | none => emptyF x
theorem fitRows_z : fitRows N M σ m [] = True := (rfl)
theorem fitRows_c : fitRows N M σ m ((q, x) :: rows) = (fitQ N M σ m x (asg σ q) ∧ fitRows N M σ m rows) := by
  show ((match asg σ q with
    | some k => ∃ y, look m k = some y ∧ ∀ f, fitRow N M σ (x f) (y f)
    | none => ∀ f, (x f).n = 0 ∧ (x f).g = none) ∧ _) = _
  unfold fitQ fitF emptyF
  cases asg σ q with
  | none => rfl
  | some k => cases h : look m k <;> simp [h]
theorem fitQ_some : fitQ N M σ m x (some k) = fitF N M σ x (look m k) := (rfl)
theorem fitQ_none : fitQ N M σ m x none = emptyF x := (rfl)
theorem emptyF_N : emptyF (famN n sz ty get none) = (n = 0) := by
  unfold emptyF
  apply propext
  constructor
  · intro h; have := (h 0).1; simpa [famN] using this
  · intro h f
    subst h
    unfold famN
    split <;> exact ⟨rfl, rfl⟩
def ownA (f n sz : Nat) (a : AV) : Option Nat → Prop
  | some k => a = .own k f n sz
  | none => n = 0 ∧ a = .v (.slice none 0 0)
theorem fit1_ownA : fit1 N M σ (.own q f n sz) a = (q < M ∧ ownA f n sz a (asg σ q)) := by
  simp only [fit1, ownA]
  cases asg σ q <;> rfl
theorem ownA_some : ownA f n sz (.own r f k sz) (some r) = (k = n) := by simp [ownA]
theorem ownA_none : ownA f n sz (.v (.slice none 0 0)) none = (n = 0) := by simp [ownA]
theorem asg_z : asg [] r = some r := (rfl)
theorem asg_c {y : Option Nat} : asg ((k, y) :: σ) r = if k = r then y else asg σ r := (rfl)
end
attribute [go_sem] fitRows_z fitRows_c fitQ_some fitQ_none emptyF_N fit1_ownA ownA_some ownA_none asg_z asg_c
def c86 : Con
  | [.ro n 4 g] => some ([vecs n g, n ≤ 1000], ve (su1 n (gx g 0) (gb g 1)) (su1 n (gx g 2) (gb g 3)))
  | _ => none
theorem vc86 (n : Nat) (X Y : Nat → Int) (E F : Nat → Bool) (hX : ∀ i, i < n → inR (X i) ∧ inR (Y i)) (hn : n ≤ 1000) : fnVC Tryz.prog [(159, c159)] [(5, ⟨[(7, .slot 3)], [(13, [.slot 3]), (14, [.slot 3])]⟩)] Tryz.f86 [.ro n 4 fun i => [i64 (X i), bo (E i), i64 (Y i), bo (F i)]] (· = ve (su1 n X E) (su1 n Y F)) := by
  refine fnVC_go (rs := [.cell 2 26]) rfl rfl ?_
  simp only [go_sem]
  refine loopN_go (fun (i : Nat) => i ≤ n) (fun i => n - i) (fun i => [(5, i64 i), (3, .own 4 0 i 2), (4, .own 5 0 i 2)]) (fun i => [(4, famN i 2 24 (fun k => [i64 (X k), bo (E k)]) none), (5, famN i 2 24 (fun k => [i64 (Y k), bo (F k)]) none)]) [0] [6, 7, 8, 9, 12, 13, 14, 15, 16, 17, 18, 19, 20, 21, 22, 23, 24, 25, 26, 27, 3, 4, 10, 11, 5] 2 0 (by kernel_rfl) (Nat.zero_le _) ⟨[(4, none), (5, none)], ?_, ?_, ?_, ?_⟩ ?_
  · simp only [go_sem]
  · simp only [go_sem]
  · simp only [go_sem]
  · simp [goodNames, asg]
  intro i hi
  simp only [go_sem, c159]
  have hb : bytesT Tryz.prog 24 = 16 := by kernel_rfl
  rw [hb]
  refine ⟨fun h => ⟨by omega, h, by omega, by omega, by omega, h, by omega, by omega, fun z hz => ⟨i + 1, by omega, by omega, [(4, some 17), (5, some 25)], ?_⟩⟩, fun h => ?_⟩
  · simp only [go_sem]
    refine ⟨by rw [hz, wrap_in (by unfold inR; omega)]; rfl, ⟨fun k hk => ?_, fun k hk => ?_⟩, by simp [goodNames, asg]⟩
    · by_cases e : k < i
      · rw [if_pos e]; simp only [go_sem]
      · have e : k = i := by omega
        subst e
        rw [if_neg (by omega), Nat.sub_self]
        simp only [Nat.zero_mul, go_sem]
    · by_cases e : k < i
      · rw [if_pos e]; simp only [go_sem]
      · have e : k = i := by omega
        subst e
        rw [if_neg (by omega), Nat.sub_self]
        simp only [Nat.zero_mul, go_sem]
  · have e : i = n := by omega
    subst e
    have hx : ∀ j, j < i → (fun j => [i64 (X j), bo (E j)]) j = [i64 (X j), bo (E j)] := fun j hj => rfl
    have hy : ∀ j, j < i → (fun j => [i64 (Y j), bo (F j)]) j = [i64 (Y j), bo (F j)] := fun j hj => rfl
    obtain ⟨e1, e2⟩ := wvS_up hx
    obtain ⟨e3, e4⟩ := wvS_up hy
    simp only [forall_eq, e1, e2, e3, e4]
    exact ⟨nums_up hx fun j hj => (hX j hj).1, hn, nums_up hy fun j hj => (hX j hj).2, hn, rfl⟩
theorem con86 : ConOK Tryz.prog 86 c86 := ConOK.go (G := [(159, c159)]) (H := [(5, ⟨[(7, .slot 3)], [(13, [.slot 3]), (14, [.slot 3])]⟩)]) (.cons con159 .nil) Tryz.func86 fun l ob r hc hob => by
  unfold c86 at hc
  split at hc
  · rename_i n g
    cases hc
    have hs : vecs n g := hob _ (by simp)
    exact ⟨[.ro n 4 fun i => [i64 (gx g 0 i), bo (gb g 1 i), i64 (gx g 2 i), bo (gb g 3 i)]], fun w I vs h => Rs_one (fun v => ro_alike fun i hi => (hs i hi).1) h, by kernel_rfl, vc86 n _ _ _ _ (fun i hi => (hs i hi).2) (hob _ (by simp))⟩
  · cases hc
end Go.Ax
end

section
/-
  Rays.
-/
set_option linter.unusedVariables false
set_option linter.unusedSimpArgs false
set_option maxHeartbeats 4000000
set_option maxRecDepth 100000
namespace Go.Ax
open Go.Proofs
def nSq (a : Nb) : Nb := (sqV (whV a.1), sqF (whV a.1) (whF a.1 a.2))
def nCl (x l h : Nb) : Nb := (max (whV l.1) (min (whV x.1) (whV h.1)), whF l.1 l.2 || (whF x.1 x.2 || whF h.1 h.2))
theorem su_rows {a b c d : Int} {e f p q : Bool} : su1 2 (gx (rowsOf 4 [i64 a, bo e, i64 b, bo f, i64 c, bo p, i64 d, bo q]) 0) (gb (rowsOf 4 [i64 a, bo e, i64 b, bo f, i64 c, bo p, i64 d, bo q]) 1) = nAdd (a, e) (c, p) := su2x rfl rfl
theorem su_rows2 {a b c d : Int} {e f p q : Bool} : su1 2 (gx (rowsOf 4 [i64 a, bo e, i64 b, bo f, i64 c, bo p, i64 d, bo q]) 2) (gb (rowsOf 4 [i64 a, bo e, i64 b, bo f, i64 c, bo p, i64 d, bo q]) 3) = nAdd (b, f) (d, q) := su2y rfl rfl
theorem sqV_rg {v : Int} : rg (sqV v) := by
  unfold sqV; split
  · unfold rg; omega
  · exact ftV_rg _
theorem inR_neg {v : Int} (h : inR v) : inR (-whV v) := by have := whV_rg h; unfold rg at this; unfold inR; omega
theorem nPos_rg {a : Nb} (h : inR a.1) : rg (nPos a).1 := by
  have := whV_rg h
  unfold nPos rg at *; dsimp only; split <;> omega
theorem inR_cl {v : Int} (h : inR v) : inR (max (whV 0) (min (whV v) (whV (nInt 1).1))) := by
  have h1 := whV_rg h
  have h2 : rg (whV (nInt 1).1) := whV_rg (rg_inR nInt_rg)
  have h3 : whV 0 = 0 := by decide
  rw [h3]
  unfold rg at *; unfold inR; omega
/-- A disc's hit: is it, when, in which direction. -/
def dmT (mx my sx sy r : Int) : Nb :=
  let u := (unS (nRat sx 256).1 (nRat sx 256).2 (nRat sy 256).1 (nRat sy 256).2).2
  let h := nDot u.1 (nRat my 256) (nNeg u.2) (nRat mx 256)
  let s := nSq (nPos (nSub (nMul (nRat r 256) (nRat r 256)) (nMul h h)))
  nCl (nDiv (nSub (nNeg (nDot u.1 (nRat mx 256) u.2 (nRat my 256))) s) (nHyp (nRat sx 256) (nRat sy 256))) (0, false) (nInt 1)
def dmN (mx my sx sy r : Int) : Nb × Nb :=
  let t := dmT mx my sx sy r
  let a := nAdd (nRat mx 256) (nMul (nRat sx 256) t)
  let b := nAdd (nRat my 256) (nMul (nRat sy 256) t)
  (unS a.1 a.2 b.1 b.2).2
def dmB (x y r fx fy tx ty : Int) : Prop := ¬ dist2 x y tx ty ≤ r * r ∧ ((0 ≤ (fx - x) * (tx - fx) + (fy - y) * (ty - fy) ∨ (tx - fx) * (tx - fx) + (ty - fy) * (ty - fy) ≤ -((fx - x) * (tx - fx) + (fy - y) * (ty - fy))) ∨
  ((fx - x) * (tx - fx) + (fy - y) * (ty - fy)) * ((fx - x) * (tx - fx) + (fy - y) * (ty - fy)) < ((tx - fx) * (tx - fx) + (ty - fy) * (ty - fy)) * ((fx - x) * (fx - x) + (fy - y) * (fy - y) - r * r))
end Go.Ax
end

section
/-
  Numbers and vectors ars they are computed with: contracts whose results are whole numbers and whole vectors; the reference's vectors.
-/
set_option linter.unusedVariables false
set_option linter.unusedSimpArgs false
set_option maxHeartbeats 4000000
set_option maxRecDepth 100000
namespace Go.Ax
open Go.Proofs
abbrev V2 := Nb × Nb
def nbA (a : Nb) : AV := .agg [i64 a.1, bo a.2]
def veA (a : V2) : AV := .agg [i64 a.1.1, bo a.1.2, i64 a.2.1, bo a.2.2]
def unA (u : Bool × V2) : AV := .tup [.agg [i64 u.2.1.1, bo u.2.1.2, i64 u.2.2.1, bo u.2.2.2], bo u.1]
theorem bnd_nb {a : Nb} : bnd (nbA a) = .agg [i64 a.1, bo a.2] := (rfl)
theorem bnd_ve {a : V2} : bnd (veA a) = .agg [i64 a.1.1, bo a.1.2, i64 a.2.1, bo a.2.2] := (rfl)
theorem bnd_un {u : Bool × V2} : bnd (unA u) = .tup [.agg [i64 u.2.1.1, bo u.2.1.2, i64 u.2.2.1, bo u.2.2.2], bo u.1] := (rfl)
theorem plain_nb {a : Nb} : plain 3 (nbA a) = true := (rfl)
theorem plain_ve {a : V2} : plain 3 (veA a) = true := (rfl)
theorem plain_un {u : Bool × V2} : plain 3 (unA u) = true := (rfl)
theorem etaN {a : Nb} : (a.1, a.2) = a := (rfl)
theorem etaV {a : V2} : (a.1, a.2) = a := (rfl)
theorem gx_rows1 {a b : Int} {e f : Bool} : gx (rowsOf 2 [i64 a, bo e, i64 b, bo f]) 0 0 = a := (rfl)
theorem gx_rows2 {a b : Int} {e f : Bool} : gx (rowsOf 2 [i64 a, bo e, i64 b, bo f]) 0 1 = b := (rfl)
theorem gb_rows1 {a b : Int} {e f : Bool} : gb (rowsOf 2 [i64 a, bo e, i64 b, bo f]) 1 0 = e := (rfl)
theorem gb_rows2 {a b : Int} {e f : Bool} : gb (rowsOf 2 [i64 a, bo e, i64 b, bo f]) 1 1 = f := (rfl)
section
variable {a b c d : Int} {e f p q : Bool}
theorem gx4_1 : gx (rowsOf 4 [i64 a, bo e, i64 b, bo f, i64 c, bo p, i64 d, bo q]) 0 0 = a := (rfl)
theorem gx4_2 : gx (rowsOf 4 [i64 a, bo e, i64 b, bo f, i64 c, bo p, i64 d, bo q]) 2 0 = b := (rfl)
theorem gx4_3 : gx (rowsOf 4 [i64 a, bo e, i64 b, bo f, i64 c, bo p, i64 d, bo q]) 0 1 = c := (rfl)
theorem gx4_4 : gx (rowsOf 4 [i64 a, bo e, i64 b, bo f, i64 c, bo p, i64 d, bo q]) 2 1 = d := (rfl)
theorem gb4_1 : gb (rowsOf 4 [i64 a, bo e, i64 b, bo f, i64 c, bo p, i64 d, bo q]) 1 0 = e := (rfl)
theorem gb4_2 : gb (rowsOf 4 [i64 a, bo e, i64 b, bo f, i64 c, bo p, i64 d, bo q]) 3 0 = f := (rfl)
theorem gb4_3 : gb (rowsOf 4 [i64 a, bo e, i64 b, bo f, i64 c, bo p, i64 d, bo q]) 1 1 = p := (rfl)
theorem gb4_4 : gb (rowsOf 4 [i64 a, bo e, i64 b, bo f, i64 c, bo p, i64 d, bo q]) 3 1 = q := (rfl)
theorem vecs_rows : vecs 2 (rowsOf 4 [i64 a, bo e, i64 b, bo f, i64 c, bo p, i64 d, bo q]) = (inR a ∧ inR b ∧ inR c ∧ inR d) := by
  apply propext
  constructor
  · intro h; exact ⟨(h 0 (by omega)).2.1, (h 0 (by omega)).2.2, (h 1 (by omega)).2.1, (h 1 (by omega)).2.2⟩
  · rintro ⟨h1, h2, h3, h4⟩; exact vecs2 rfl rfl h1 h2 h3 h4
theorem nums_rows : nums 2 (rowsOf 2 [i64 a, bo e, i64 b, bo f]) = (inR a ∧ inR b) := by
  apply propext
  constructor
  · intro h; exact ⟨(h 0 (by omega)).2, (h 1 (by omega)).2⟩
  · rintro ⟨h1, h2⟩; exact nums2 rfl rfl h1 h2
theorem vecs_row1 : vecs 1 (rowsOf 4 [i64 a, bo e, i64 b, bo f]) = (inR a ∧ inR b) := by
  apply propext
  constructor
  · intro h; exact ⟨(h 0 (by omega)).2.1, (h 0 (by omega)).2.2⟩
  · rintro ⟨h1, h2⟩; exact vecs1 rfl h1 h2
theorem nums_row1 : nums 1 (rowsOf 2 [i64 a, bo e]) = inR a := by
  apply propext
  constructor
  · intro h; exact (h 0 (by omega)).2
  · intro h; exact nums1 rfl h
end
def nAbs (a : Nb) : Nb := (ab (whV a.1), whF a.1 a.2)
def nMx (a b : Nb) : Nb := (if whV a.1 < whV b.1 then whV b.1 else whV a.1, whF a.1 a.2 || whF b.1 b.2)
def nMn (a b : Nb) : Nb := (if whV b.1 < whV a.1 then whV b.1 else whV a.1, whF a.1 a.2 || whF b.1 b.2)
def vLoc (x y : Int) : V2 := (nRat x 256, nRat y 256)
def vAdd (a b : V2) : V2 := (nAdd a.1 b.1, nAdd a.2 b.2)
def vSub (a b : V2) : V2 := (nSub a.1 b.1, nSub a.2 b.2)
def vScale (v : V2) (k : Nb) : V2 := (nMul v.1 k, nMul v.2 k)
def vDot (a b : V2) : Nb := nDot a.1 b.1 a.2 b.2
def vCross (a b : V2) : Nb := nDot a.1 b.2 (nNeg a.2) b.1
def vLen (a : V2) : Nb := nHyp a.1 a.2
def vOf (x y : Int) : V2 := (nInt x, nInt y)
def vUnit (v : V2) : Bool × V2 := unS v.1.1 v.1.2 v.2.1 v.2.2
def vApply (r v : V2) : V2 := (nDot r.1 v.1 (nNeg r.2) v.2, nDot r.2 v.1 r.1 v.2)
def vNorm (a b c d : Int) : V2 := (vUnit (vOf (d - b) (-(c - a)))).2
theorem inR_of {x : Int} (h : rg x) : inR x = True := eq_true (rg_inR h)
section
variable {a b c d : Nb} {u v : V2} {x y : Int}
theorem iMul : inR (nMul a b).1 = True := inR_of nMul_rg
theorem iDiv : inR (nDiv a b).1 = True := inR_of nDiv_rg
theorem iInt : inR (nInt x).1 = True := inR_of nInt_rg
theorem iAdd : inR (nAdd a b).1 = True := inR_of nAdd_rg
theorem iSub : inR (nSub a b).1 = True := inR_of nSub_rg
theorem iRat : inR (nRat x y).1 = True := inR_of nRat_rg
theorem iDot : inR (nDot a b c d).1 = True := inR_of nDot_rg
theorem iHyp : inR (nHyp a b).1 = True := inR_of nHyp_rg
theorem iSq : inR (nSq a).1 = True := inR_of sqV_rg
theorem iNeg (h : inR a.1) : inR (nNeg a).1 = True := inR_of (nNeg_rg h)
theorem iPos (h : inR a.1) : inR (nPos a).1 = True := inR_of (nPos_rg h)
theorem iAbs (h : inR a.1) : inR (nAbs a).1 = True := by
  refine inR_of ?_
  have := whV_rg h
  unfold nAbs ab rg at *; dsimp only; split <;> omega
theorem iMx (h : inR a.1) (k : inR b.1) : inR (nMx a b).1 = True := by
  refine inR_of ?_
  have h1 := whV_rg h
  have h2 := whV_rg k
  unfold nMx rg at *; dsimp only; split <;> omega
theorem iMn (h : inR a.1) (k : inR b.1) : inR (nMn a b).1 = True := by
  refine inR_of ?_
  have h1 := whV_rg h
  have h2 := whV_rg k
  unfold nMn rg at *; dsimp only; split <;> omega
theorem iCl (h : inR a.1) (k : inR b.1) (l : inR c.1) : inR (nCl a b c).1 = True := by
  refine inR_of ?_
  have h1 := whV_rg h
  have h2 := whV_rg k
  have h3 := whV_rg l
  unfold nCl rg at *; dsimp only; omega
theorem iLoc1 : inR (vLoc x y).1.1 = True := iRat
theorem iLoc2 : inR (vLoc x y).2.1 = True := iRat
theorem iVAdd1 : inR (vAdd u v).1.1 = True := iAdd
theorem iVAdd2 : inR (vAdd u v).2.1 = True := iAdd
theorem iVSub1 : inR (vSub u v).1.1 = True := iSub
theorem iVSub2 : inR (vSub u v).2.1 = True := iSub
theorem iScale1 : inR (vScale u a).1.1 = True := iMul
theorem iScale2 : inR (vScale u a).2.1 = True := iMul
theorem iVDot : inR (vDot u v).1 = True := iDot
theorem iVCross : inR (vCross u v).1 = True := iDot
theorem iLen : inR (vLen u).1 = True := iHyp
theorem iOf1 : inR (vOf x y).1.1 = True := iInt
theorem iOf2 : inR (vOf x y).2.1 = True := iInt
theorem iUnit1 : inR (vUnit u).2.1.1 = True := inR_of unS_rg.1
theorem iUnit2 : inR (vUnit u).2.2.1 = True := inR_of unS_rg.2
theorem iApply1 : inR (vApply u v).1.1 = True := iDot
theorem iApply2 : inR (vApply u v).2.1 = True := iDot
theorem iNorm1 {z t : Int} : inR (vNorm x y z t).1.1 = True := iUnit1
theorem iNorm2 {z t : Int} : inR (vNorm x y z t).2.1 = True := iUnit2
theorem inR_0 : inR 0 = True := eq_true (by unfold inR; omega)
theorem inR_1 : inR 1 = True := eq_true (by unfold inR; omega)
theorem inR_2 : inR 2 = True := eq_true (by unfold inR; omega)
theorem inR_m1 : inR (-1) = True := eq_true (by unfold inR; omega)
theorem inR_256 : inR 256 = True := eq_true (by unfold inR; omega)
theorem inR_one : inR 4294967296 = True := eq_true (by unfold inR; omega)
end
attribute [go_sem] bnd_nb bnd_ve bnd_un plain_nb plain_ve plain_un etaN etaV gx_rows1 gx_rows2 gb_rows1 gb_rows2 gx4_1 gx4_2 gx4_3 gx4_4 gb4_1 gb4_2 gb4_3 gb4_4 vecs_rows nums_rows vecs_row1 nums_row1
attribute [go_sem] iMul iDiv iInt iAdd iSub iRat iDot iHyp iSq iNeg iPos iAbs iMx iMn iCl iLoc1 iLoc2 iVAdd1 iVAdd2 iVSub1 iVSub2 iScale1 iScale2 iVDot iVCross iLen iOf1 iOf2 iUnit1 iUnit2 iApply1 iApply2 iNorm1 iNorm2 inR_0 inR_1 inR_2 inR_m1 inR_256 inR_one

/-! ### The contracts so far, once more -/
def k127 : Con
  | [.v (.int .i64 n)] => some ([inR n], nbA (nInt n))
  | _ => none
theorem kon127 : ConOK Tryz.prog 178 k127 := (show c178 = k127 by kernel_rfl) ▸ con178
def k50 : Con
  | [.v (.int .i64 n)] => some ([inR n], nbA (nInt n))
  | _ => none
theorem kon50 : ConOK Tryz.prog 143 k50 := (show c143 = k50 by kernel_rfl) ▸ con143
def k179 : Con
  | [.agg [.v (.int .i64 v), .v (.bool f)]] => some ([inR v], nbA (nNeg (v, f)))
  | _ => none
theorem kon179 : ConOK Tryz.prog 164 k179 := (show c164 = k179 by kernel_rfl) ▸ con164
def k111 : Con
  | [.agg [.v (.int .i64 v), .v (.bool f)]] => some ([inR v], nbA (nNeg (v, f)))
  | _ => none
theorem kon111 : ConOK Tryz.prog 92 k111 := (show c92 = k111 by kernel_rfl) ▸ con92
def k126 : Con
  | [.agg [.v (.int .i64 v), .v (.bool f)]] => some ([inR v], nbA (nAbs (v, f)))
  | _ => none
theorem kon126 : ConOK Tryz.prog 130 k126 := (show c130 = k126 by kernel_rfl) ▸ con130
def k45 : Con
  | [.agg [.v (.int .i64 v), .v (.bool f)]] => some ([inR v], nbA (nAbs (v, f)))
  | _ => none
theorem kon45 : ConOK Tryz.prog 30 k45 := (show c30 = k45 by kernel_rfl) ▸ con30
def k129 : Con
  | [.agg [.v (.int .i64 v), .v (.bool f)], .agg [.v (.int .i64 u), .v (.bool e)]] => some ([inR v, inR u], nbA (nMul (v, f) (u, e)))
  | _ => none
theorem kon129 : ConOK Tryz.prog 125 k129 := (show c125 = k129 by kernel_rfl) ▸ con125
def k52 : Con
  | [.agg [.v (.int .i64 v), .v (.bool f)], .agg [.v (.int .i64 u), .v (.bool e)]] => some ([inR v, inR u], nbA (nMul (v, f) (u, e)))
  | _ => none
theorem kon52 : ConOK Tryz.prog 27 k52 := (show c27 = k52 by kernel_rfl) ▸ con27
def k125 : Con
  | [.agg [.v (.int .i64 v), .v (.bool f)], .agg [.v (.int .i64 u), .v (.bool e)], .agg [.v (.int .i64 x), .v (.bool p)], .agg [.v (.int .i64 y), .v (.bool q)]] => some ([inR v, inR u, inR x, inR y], nbA (nDot (v, f) (u, e) (x, p) (y, q)))
  | _ => none
theorem kon125 : ConOK Tryz.prog 238 k125 := (show c238 = k125 by kernel_rfl) ▸ con238
def k136 : Con
  | [.agg [.v (.int .i64 v), .v (.bool f)], .agg [.v (.int .i64 u), .v (.bool e)], .agg [.v (.int .i64 x), .v (.bool p)], .agg [.v (.int .i64 y), .v (.bool q)]] => some ([inR v, inR u, inR x, inR y], nbA (nDot (v, f) (u, e) (x, p) (y, q)))
  | _ => none
theorem kon136 : ConOK Tryz.prog 111 k136 := (show c111 = k136 by kernel_rfl) ▸ con111
def k160 : Con
  | [.agg [.v (.int .i64 v), .v (.bool f)], .agg [.v (.int .i64 u), .v (.bool e)]] => some ([inR v, inR u], nbA (nSub (v, f) (u, e)))
  | _ => none
theorem kon160 : ConOK Tryz.prog 154 k160 := (show c154 = k160 by kernel_rfl) ▸ con154
def k46 : Con
  | [.agg [.v (.int .i64 v), .v (.bool f)], .agg [.v (.int .i64 u), .v (.bool e)]] => some ([inR v, inR u], nbA (nSub (v, f) (u, e)))
  | _ => none
theorem kon46 : ConOK Tryz.prog 81 k46 := (show c81 = k46 by kernel_rfl) ▸ con81
def k208 : Con
  | [.agg [.v (.int .i64 v), .v (.bool f)], .agg [.v (.int .i64 u), .v (.bool e)]] => some ([inR v, inR u], nbA (nAdd (v, f) (u, e)))
  | _ => none
theorem kon208 : ConOK Tryz.prog 79 k208 := (show c79 = k208 by kernel_rfl) ▸ con79
def k132 : Con
  | [.v (.int .i64 a), .v (.int .i64 b)] => some ([inR a, inR b], nbA (nRat a b))
  | _ => none
theorem kon132 : ConOK Tryz.prog 132 k132 := (show c132 = k132 by kernel_rfl) ▸ con132
def k54 : Con
  | [.v (.int .i64 a), .v (.int .i64 b)] => some ([inR a, inR b], nbA (nRat a b))
  | _ => none
theorem kon54 : ConOK Tryz.prog 28 k54 := (show c28 = k54 by kernel_rfl) ▸ con28
def k168 : Con
  | [.agg [.v (.int .i64 v), .v (.bool f)], .agg [.v (.int .i64 u), .v (.bool e)]] => some ([inR v, inR u], nbA (nDiv (v, f) (u, e)))
  | _ => none
theorem kon168 : ConOK Tryz.prog 155 k168 := (show c155 = k168 by kernel_rfl) ▸ con155
def k144 : Con
  | [.agg [.v (.int .i64 v), .v (.bool f)], .agg [.v (.int .i64 u), .v (.bool e)]] => some ([inR v, inR u], nbA (nDiv (v, f) (u, e)))
  | _ => none
theorem kon144 : ConOK Tryz.prog 80 k144 := (show c80 = k144 by kernel_rfl) ▸ con80
def k251 : Con
  | [.agg [.v (.int .i64 v), .v (.bool f)]] => some ([inR v], nbA (nSq (v, f)))
  | _ => none
def k142 : Con
  | [.agg [.v (.int .i64 v), .v (.bool f)]] => some ([inR v], nbA (nSq (v, f)))
  | _ => none
def k213 : Con
  | [.agg [.v (.int .i64 v), .v (.bool f)], .agg [.v (.int .i64 u), .v (.bool e)]] => some ([inR v, inR u], nbA (nHyp (v, f) (u, e)))
  | _ => none
theorem kon213 : ConOK Tryz.prog 242 k213 := (show c242 = k213 by kernel_rfl) ▸ con242
def k112 : Con
  | [.agg [.v (.int .i64 v), .v (.bool f)], .agg [.v (.int .i64 u), .v (.bool e)]] => some ([inR v, inR u], nbA (nHyp (v, f) (u, e)))
  | _ => none
theorem kon112 : ConOK Tryz.prog 200 k112 := (show c200 = k112 by kernel_rfl) ▸ con200
def k171 : Con
  | [.agg [.v (.int .i64 x), .v (.bool f)], .agg [.v (.int .i64 l), .v (.bool p)], .agg [.v (.int .i64 h), .v (.bool q)]] => some ([inR x, inR l, inR h], nbA (nCl (x, f) (l, p) (h, q)))
  | _ => none
theorem kon171 : ConOK Tryz.prog 163 k171 := (show c163 = k171 by kernel_rfl) ▸ con163
def k146 : Con
  | [.agg [.v (.int .i64 x), .v (.bool f)], .agg [.v (.int .i64 l), .v (.bool p)], .agg [.v (.int .i64 h), .v (.bool q)]] => some ([inR x, inR l, inR h], nbA (nCl (x, f) (l, p) (h, q)))
  | _ => none
theorem kon146 : ConOK Tryz.prog 95 k146 := (show c95 = k146 by kernel_rfl) ▸ con95
def k167 : Con
  | [.agg [.v (.int .i64 x), .v (.bool f)]] => some ([inR x], nbA (nPos (x, f)))
  | _ => none
def k63 : Con
  | [.agg [.v (.int .i64 x), .v (.int .i64 y)]] => some ([inR x, inR y], veA (vLoc x y))
  | _ => none
theorem kon63 : ConOK Tryz.prog 208 k63 := (show c208 = k63 by kernel_rfl) ▸ con208
def k69 : Con
  | [.agg [.v (.int .i64 x), .v (.int .i64 y)]] => some ([inR x, inR y], veA (vLoc x y))
  | _ => none
theorem kon69 : ConOK Tryz.prog 213 k69 := (show c213 = k69 by kernel_rfl) ▸ con213
def k162 : Con
  | [.v (.int .i64 x)] => some ([inR x], nbA (nRat x 256))
  | _ => none
def k161 : Con
  | [.agg [.v (.int .i64 x), .v (.bool e), .v (.int .i64 y), .v (.bool f)]] => some ([inR x, inR y], nbA (vLen ((x, e), (y, f))))
  | _ => none
theorem kon161 : ConOK Tryz.prog 251 k161 := (show c251 = k161 by kernel_rfl) ▸ con251
def k169 : Con
  | [.agg [.v (.int .i64 x), .v (.bool e), .v (.int .i64 y), .v (.bool f)], .agg [.v (.int .i64 k), .v (.bool g)]] => some ([inR x, inR y, inR k], veA (vScale ((x, e), (y, f)) (k, g)))
  | _ => none
theorem kon169 : ConOK Tryz.prog 122 k169 := (show c122 = k169 by kernel_rfl) ▸ con122
def k178 : Con
  | [.agg [.v (.int .i64 x), .v (.bool e), .v (.int .i64 y), .v (.bool f)], .agg [.v (.int .i64 z), .v (.bool g), .v (.int .i64 t), .v (.bool h)]] => some ([inR x, inR y, inR z, inR t], nbA (vDot ((x, e), (y, f)) ((z, g), (t, h))))
  | _ => none
theorem kon178 : ConOK Tryz.prog 219 k178 := (show c219 = k178 by kernel_rfl) ▸ con219
def k250 : Con
  | [.agg [.v (.int .i64 x), .v (.bool e), .v (.int .i64 y), .v (.bool f)], .agg [.v (.int .i64 z), .v (.bool g), .v (.int .i64 t), .v (.bool h)]] => some ([inR x, inR y, inR z, inR t], nbA (vCross ((x, e), (y, f)) ((z, g), (t, h))))
  | _ => none
theorem kon250 : ConOK Tryz.prog 174 k250 := (show c174 = k250 by kernel_rfl) ▸ con174
def k166 : Con
  | [.v (.int .i64 x), .v (.int .i64 y)] => some ([inR x, inR y], veA (vOf x y))
  | _ => none
def k176 : Con
  | [.agg [.v (.int .i64 x), .v (.int .i64 y)]] => some ([inR x, inR y], veA (vOf x y))
  | _ => none
def k165 : Con
  | [.agg [.v (.int .i64 x), .v (.bool e), .v (.int .i64 y), .v (.bool f)]] => some ([inR x, inR y], unA (vUnit ((x, e), (y, f))))
  | _ => none
theorem kon165 : ConOK Tryz.prog 250 k165 := (show c250 = k165 by kernel_rfl) ▸ con250
def k173 : Con
  | [.agg [.v (.int .i64 a), .v (.int .i64 b)], .agg [.v (.int .i64 c), .v (.int .i64 d)]] => some ([validS a b = true, validS c d = true], veA (vNorm a b c d))
  | _ => none
def k139 : Con
  | [.agg [.v (.int .i64 x), .v (.bool e), .v (.int .i64 y), .v (.bool f)], .agg [.v (.int .i64 z), .v (.bool g), .v (.int .i64 t), .v (.bool h)]] => some ([inR x, inR y, inR z, inR t], veA (vApply ((x, e), (y, f)) ((z, g), (t, h))))
  | _ => none
theorem kon139 : ConOK Tryz.prog 198 k139 := (show c198 = k139 by kernel_rfl) ▸ con198

theorem owe2 {p q : Prop} (h1 : p) (h2 : q) : ∀ x ∈ [p, q], x := List.forall_mem_cons.2 ⟨h1, List.forall_mem_cons.2 ⟨h2, fun _ h => (List.not_mem_nil h).elim⟩⟩
def vTwo (g : Nat → List AV) : AV := veA (vAdd ((gx g 0 0, gb g 1 0), (gx g 2 0, gb g 3 0)) ((gx g 0 1, gb g 1 1), (gx g 2 1, gb g 3 1)))
theorem vecs_at {g : Nat → List AV} (h : vecs 2 g) : g 0 = [i64 (gx g 0 0), bo (gb g 1 0), i64 (gx g 2 0), bo (gb g 3 0)] ∧ g 1 = [i64 (gx g 0 1), bo (gb g 1 1), i64 (gx g 2 1), bo (gb g 3 1)] := ⟨(h 0 (by omega)).1, (h 1 (by omega)).1⟩
theorem two_eq {g : Nat → List AV} (h : vecs 2 g) : ve (su1 2 (gx g 0) (gb g 1)) (su1 2 (gx g 2) (gb g 3)) = vTwo g := by
  obtain ⟨h0, h1⟩ := vecs_at h
  rw [su2x h0 h1, su2y h0 h1]; rfl
def k130 : Con
  | [.ro 2 4 g] => some ([vecs 2 g], veA (vAdd ((gx g 0 0, gb g 1 0), (gx g 2 0, gb g 3 0)) ((gx g 0 1, gb g 1 1), (gx g 2 1, gb g 3 1))))
  | _ => none
theorem kon130 : ConOK Tryz.prog 121 k130 := fun l ob r hc hob => by
  unfold k130 at hc
  split at hc
  · rename_i g
    cases hc
    have h : vecs 2 g := hob _ (by simp)
    have := con121 [.ro 2 4 g] _ _ rfl (owe2 h (by omega))
    rw [two_eq h] at this
    exact this
  · cases hc
def k138 : Con
  | [.ro 2 4 g] => some ([vecs 2 g], veA (vAdd ((gx g 0 0, gb g 1 0), (gx g 2 0, gb g 3 0)) ((gx g 0 1, gb g 1 1), (gx g 2 1, gb g 3 1))))
  | _ => none
theorem kon138 : ConOK Tryz.prog 86 k138 := fun l ob r hc hob => by
  unfold k138 at hc
  split at hc
  · rename_i g
    cases hc
    have h : vecs 2 g := hob _ (by simp)
    have := con86 [.ro 2 4 g] _ _ rfl (owe2 h (by omega))
    rw [two_eq h] at this
    exact this
  · cases hc
theorem nums_at {g : Nat → List AV} (h : nums 2 g) : g 0 = [i64 (gx g 0 0), bo (gb g 1 0)] ∧ g 1 = [i64 (gx g 0 1), bo (gb g 1 1)] := ⟨(h 0 (by omega)).1, (h 1 (by omega)).1⟩
theorem mx_eq {g : Nat → List AV} (h : nums 2 g) : moS (-1) 2 g = nbA (nMx (gx g 0 0, gb g 1 0) (gx g 0 1, gb g 1 1)) := by
  obtain ⟨h0, h1⟩ := nums_at h
  unfold nbA nMx
  have e := (sum2 h0 h1).2
  have m := mo2 (o := -1) h0 h1
  have e1 : ((-1 : Int) = 1) = False := by decide
  simp only [e1, false_and, false_or, eq_self, true_and] at m
  show AV.agg [i64 (moV (-1) 2 g), bo (wfS 2 g)] = _
  rw [m, e]
theorem mn_eq {g : Nat → List AV} (h : nums 2 g) : moS 1 2 g = nbA (nMn (gx g 0 0, gb g 1 0) (gx g 0 1, gb g 1 1)) := by
  obtain ⟨h0, h1⟩ := nums_at h
  unfold nbA nMn
  have e := (sum2 h0 h1).2
  have m := mo2 (o := 1) h0 h1
  have e1 : ((1 : Int) = -1) = False := by decide
  simp only [e1, false_and, or_false, eq_self, true_and] at m
  show AV.agg [i64 (moV 1 2 g), bo (wfS 2 g)] = _
  rw [m, e]
def k143 : Con
  | [.ro 2 2 g] => some ([nums 2 g], nbA (nMx (gx g 0 0, gb g 1 0) (gx g 0 1, gb g 1 1)))
  | _ => none
theorem kon143 : ConOK Tryz.prog 78 k143 := fun l ob r hc hob => by
  unfold k143 at hc
  split at hc
  · rename_i g
    cases hc
    have h : nums 2 g := hob _ (by simp)
    have := con78 [.ro 2 2 g] _ _ rfl (owe2 h (by omega))
    rw [mx_eq h] at this
    exact this
  · cases hc
def k163 : Con
  | [.ro 2 2 g] => some ([nums 2 g], nbA (nMn (gx g 0 0, gb g 1 0) (gx g 0 1, gb g 1 1)))
  | _ => none
theorem kon163 : ConOK Tryz.prog 165 k163 := fun l ob r hc hob => by
  unfold k163 at hc
  split at hc
  · rename_i g
    cases hc
    have h : nums 2 g := hob _ (by simp)
    have := con165 [.ro 2 2 g] _ _ rfl (owe2 h (by omega))
    rw [mn_eq h] at this
    exact this
  · cases hc
def k214 : Con
  | [.ro 2 2 g] => some ([nums 2 g], nbA (nMx (gx g 0 0, gb g 1 0) (gx g 0 1, gb g 1 1)))
  | _ => none
theorem kon214 : ConOK Tryz.prog 129 k214 := fun l ob r hc hob => by
  unfold k214 at hc
  split at hc
  · rename_i g
    cases hc
    have h : nums 2 g := hob _ (by simp)
    have := con129 [.ro 2 2 g] _ _ rfl (owe2 h (by omega))
    rw [mx_eq h] at this
    exact this
  · cases hc
def k212 : Con
  | [.ro 2 2 g] => some ([nums 2 g], nbA (nMn (gx g 0 0, gb g 1 0) (gx g 0 1, gb g 1 1)))
  | _ => none
theorem kon212 : ConOK Tryz.prog 220 k212 := fun l ob r hc hob => by
  unfold k212 at hc
  split at hc
  · rename_i g
    cases hc
    have h : nums 2 g := hob _ (by simp)
    have := con220 [.ro 2 2 g] _ _ rfl (owe2 h (by omega))
    rw [mn_eq h] at this
    exact this
  · cases hc
theorem nPos_eq {a : Nb} : nMx (0, false) a = nPos a := by
  have c1 : whV 0 = 0 := by decide
  have c2 : whF 0 false = false := by decide
  unfold nMx nPos
  dsimp only
  rw [c1, c2, Bool.false_or]
attribute [go_sem] nPos_eq
/-! ### The reference's vectors -/
def k47 : Con
  | [.agg [.v (.int .i64 x), .v (.bool e), .v (.int .i64 y), .v (.bool f)]] => some ([inR x, inR y], nbA (vLen ((x, e), (y, f))))
  | _ => none
theorem kon47 : ConOK Tryz.prog 142 k47 := ConOK.of (G := [(200, k112)]) (H := []) (.cons kon112 .nil) Tryz.func142 fun l ob r hc hob => by
  unfold k47 at hc
  split at hc
  · rename_i x e y f
    cases hc
    have h_0 : inR x := hob _ (by simp)
    have h_1 : inR y := hob _ (by simp)
    refine ⟨by kernel_rfl, fnVC_go (rs := [.cell 2 24]) rfl rfl ?_⟩
    simp only [go_sem, k112, h_0, h_1]
    rfl
  · cases hc
def k145 : Con
  | [.agg [.v (.int .i64 x), .v (.bool e), .v (.int .i64 y), .v (.bool f)], .agg [.v (.int .i64 z), .v (.bool g), .v (.int .i64 t), .v (.bool h)]] => some ([inR x, inR y, inR z, inR t], nbA (vDot ((x, e), (y, f)) ((z, g), (t, h))))
  | _ => none
theorem kon145 : ConOK Tryz.prog 34 k145 := ConOK.of (G := [(111, k136)]) (H := []) (.cons kon136 .nil) Tryz.func34 fun l ob r hc hob => by
  unfold k145 at hc
  split at hc
  · rename_i x e y f z g t h
    cases hc
    have h_0 : inR x := hob _ (by simp)
    have h_1 : inR y := hob _ (by simp)
    have h_2 : inR z := hob _ (by simp)
    have h_3 : inR t := hob _ (by simp)
    refine ⟨by kernel_rfl, fnVC_go (rs := [.cell 4 24]) rfl rfl ?_⟩
    simp only [go_sem, k136, h_0, h_1, h_2, h_3]
    rfl
  · cases hc
def k141 : Con
  | [.agg [.v (.int .i64 x), .v (.bool e), .v (.int .i64 y), .v (.bool f)], .agg [.v (.int .i64 z), .v (.bool g), .v (.int .i64 t), .v (.bool h)]] => some ([inR x, inR y, inR z, inR t], nbA (vCross ((x, e), (y, f)) ((z, g), (t, h))))
  | _ => none
theorem kon141 : ConOK Tryz.prog 119 k141 := ConOK.of (G := [(111, k136), (92, k111)]) (H := [(1, ⟨[(10, .slot 4)], []⟩)]) (.cons kon136 (.cons kon111 .nil)) Tryz.func119 fun l ob r hc hob => by
  unfold k141 at hc
  split at hc
  · rename_i x e y f z g t h
    cases hc
    have h_0 : inR x := hob _ (by simp)
    have h_1 : inR y := hob _ (by simp)
    have h_2 : inR z := hob _ (by simp)
    have h_3 : inR t := hob _ (by simp)
    refine ⟨by kernel_rfl, fnVC_go (rs := [.cell 4 24]) rfl rfl ?_⟩
    simp only [go_sem, k136, k111, h_0, h_1, h_2, h_3]
    rfl
  · cases hc
def k147 : Con
  | [.agg [.v (.int .i64 x), .v (.bool e), .v (.int .i64 y), .v (.bool f)], .agg [.v (.int .i64 k), .v (.bool g)]] => some ([inR x, inR y, inR k], veA (vScale ((x, e), (y, f)) (k, g)))
  | _ => none
theorem kon147 : ConOK Tryz.prog 85 k147 := ConOK.of (G := [(27, k52)]) (H := [(1, ⟨[(9, .slot 4)], []⟩)]) (.cons kon52 .nil) Tryz.func85 fun l ob r hc hob => by
  unfold k147 at hc
  split at hc
  · rename_i x e y f k g
    cases hc
    have h_0 : inR x := hob _ (by simp)
    have h_1 : inR y := hob _ (by simp)
    have h_2 : inR k := hob _ (by simp)
    refine ⟨by kernel_rfl, fnVC_go (rs := [.cell 4 26]) rfl rfl ?_⟩
    simp only [go_sem, k52, h_0, h_1, h_2]
    rfl
  · cases hc
def k149 : Con
  | [.agg [.v (.int .i64 x), .v (.int .i64 y)]] => some ([inR x, inR y], veA (vOf x y))
  | _ => none
theorem kon149 : ConOK Tryz.prog 276 k149 := ConOK.of (G := [(143, k50)]) (H := [(1, ⟨[(7, .slot 2)], []⟩)]) (.cons kon50 .nil) Tryz.func276 fun l ob r hc hob => by
  unfold k149 at hc
  split at hc
  · rename_i x y
    cases hc
    have h_0 : inR x := hob _ (by simp)
    have h_1 : inR y := hob _ (by simp)
    refine ⟨by kernel_rfl, fnVC_go (rs := [.cell 2 26]) rfl rfl ?_⟩
    simp only [go_sem, k50, h_0, h_1]
    rfl
  · cases hc
def k181 : Con
  | [.agg [.v (.int .i64 x), .v (.bool e), .v (.int .i64 y), .v (.bool f)], .agg [.v (.int .i64 z), .v (.bool g), .v (.int .i64 t), .v (.bool h)]] => some ([inR x, inR y, inR z, inR t], veA (vSub ((x, e), (y, f)) ((z, g), (t, h))))
  | _ => none
theorem kon181 : ConOK Tryz.prog 32 k181 := ConOK.of (G := [(81, k46)]) (H := [(1, ⟨[(11, .slot 4)], []⟩)]) (.cons kon46 .nil) Tryz.func32 fun l ob r hc hob => by
  unfold k181 at hc
  split at hc
  · rename_i x e y f z g t h
    cases hc
    have h_0 : inR x := hob _ (by simp)
    have h_1 : inR y := hob _ (by simp)
    have h_2 : inR z := hob _ (by simp)
    have h_3 : inR t := hob _ (by simp)
    refine ⟨by kernel_rfl, fnVC_go (rs := [.cell 4 26]) rfl rfl ?_⟩
    simp only [go_sem, k46, h_0, h_1, h_2, h_3]
    rfl
  · cases hc
def k172 : Con
  | [.agg [.v (.int .i64 x), .v (.bool e), .v (.int .i64 y), .v (.bool f)], .agg [.v (.int .i64 z), .v (.bool g), .v (.int .i64 t), .v (.bool h)]] => some ([inR x, inR y, inR z, inR t], veA (vSub ((x, e), (y, f)) ((z, g), (t, h))))
  | _ => none
theorem kon172 : ConOK Tryz.prog 157 k172 := ConOK.of (G := [(154, k160)]) (H := [(1, ⟨[(11, .slot 4)], []⟩)]) (.cons kon160 .nil) Tryz.func157 fun l ob r hc hob => by
  unfold k172 at hc
  split at hc
  · rename_i x e y f z g t h
    cases hc
    have h_0 : inR x := hob _ (by simp)
    have h_1 : inR y := hob _ (by simp)
    have h_2 : inR z := hob _ (by simp)
    have h_3 : inR t := hob _ (by simp)
    refine ⟨by kernel_rfl, fnVC_go (rs := [.cell 4 26]) rfl rfl ?_⟩
    simp only [go_sem, k160, h_0, h_1, h_2, h_3]
    rfl
  · cases hc
end Go.Ax
end

section
/-
  The reference's directions and normals.
-/
set_option linter.unusedVariables false
set_option linter.unusedSimpArgs false
set_option maxHeartbeats 4000000
set_option maxRecDepth 100000
namespace Go.Ax
open Go.Proofs
def c199 : Con
  | [.ro n 4 g] => some ([vecs n g, n ≤ 1000], bo (vfS n g))
  | _ => none
theorem vc199 (n : Nat) (X Y : Nat → Int) (E F : Nat → Bool) (hX : ∀ i, i < n → inR (X i) ∧ inR (Y i)) (hn : n ≤ 1000) : fnVC Tryz.prog [(253, c253)] [] Tryz.f199 [.ro n 4 fun i => [i64 (X i), bo (E i), i64 (Y i), bo (F i)]] (· = bo (anyB (fun i => whF (X i) (E i) || whF (Y i) (F i)) n)) := by
  refine fnVC_go (rs := [.tmp 2]) rfl rfl ?_
  simp only [go_sem]
  refine loopC_go (fun (i : Nat) => i ≤ n ∧ ∀ j, j < i → (whF (X j) (E j) || whF (Y j) (F j)) = false) (fun i => n - i) (fun i => [(3, i64 i)]) (fun _ => []) [] [4, 5, 6, 7, 10, 11, 12, 13, 14, 15, 16, 17, 18, 19, 20, 21, 22, 23, 2, 8, 9, 3] 0 (by kernel_rfl) ?_ ⟨Nat.zero_le _, fun j hj => by omega⟩ ?_ ?_
  · intro x _; simp [goodNames]
  · simp only [go_sem]
  · intro i hi
    simp only [go_sem, c253]
    refine ⟨fun h => ⟨by omega, h, fun z hz => ⟨(hX i (by omega)).1, fun _ => by omega, fun _ => h, fun z1 hz1 => ⟨fun _ => (hX i (by omega)).2, fun hb => ?_, fun hb z2 hz2 => ⟨i + 1, ⟨by omega, fun j hj => ?_⟩, by omega, ?_⟩⟩⟩⟩, fun h => ?_⟩
    · have : anyB (fun i => whF (X i) (E i) || whF (Y i) (F i)) n = true := anyB_iff.2 ⟨i, by omega, by rw [← hz, ← hz1]; simpa using hb⟩
      rw [this]
    · by_cases e : j = i
      · subst e
        rw [← hz, ← hz1]
        simpa using hb
      · simpa using hi.2 j (by omega)
    · rw [hz2, wrap_in (by unfold inR; omega)]; rfl
    · have : anyB (fun i => whF (X i) (E i) || whF (Y i) (F i)) n = false := by
        rw [Bool.eq_false_iff]
        intro hc
        obtain ⟨j, h1, h2⟩ := anyB_iff.1 hc
        rw [hi.2 j (by omega)] at h2; cases h2
      rw [this]
theorem con199 : ConOK Tryz.prog 199 c199 := ConOK.go (G := [(253, c253)]) (H := []) (.cons con253 .nil) Tryz.func199 fun l ob r hc hob => by
  unfold c199 at hc
  split at hc
  · rename_i n g
    cases hc
    have hs : vecs n g := hob _ (by simp)
    exact ⟨[.ro n 4 fun i => [i64 (gx g 0 i), bo (gb g 1 i), i64 (gx g 2 i), bo (gb g 3 i)]], fun w I vs h => Rs_one (fun v => ro_alike fun i hi => (hs i hi).1) h, by kernel_rfl, vc199 n _ _ _ _ (fun i hi => (hs i hi).2) (hob _ (by simp))⟩
  · cases hc
def k140 : Con
  | [.agg [.v (.int .i64 x), .v (.bool e), .v (.int .i64 y), .v (.bool f)]] => some ([inR x, inR y], unA (vUnit ((x, e), (y, f))))
  | _ => none
theorem kon140 : ConOK Tryz.prog 141 k140 := ConOK.of (G := [(199, c199), (30, k45), (197, c197), (142, k47), (80, k144)]) (H := [(5, ⟨[(11, .slot 4)], []⟩), (9, ⟨[(9, .slot 2)], []⟩)]) (.cons con199 (.cons kon45 (.cons con197 (.cons kon47 (.cons kon144 .nil))))) Tryz.func141 fun l ob r hc hob => by
  unfold k140 at hc
  split at hc
  · rename_i x e y f
    cases hc
    have h_0 : inR x := hob _ (by simp)
    have h_1 : inR y := hob _ (by simp)
    refine ⟨by kernel_rfl, fnVC_go (rs := [.cell 2 26, .tmp 3]) rfl rfl ?_⟩
    simp only [go_sem, c199, k45, c197, k47, k144, h_0, h_1]
    have eU : vUnit ((x, e), y, f) = unS x e y f := rfl
    have eab : ∀ (v : Int) (g : Bool), whF v g = false → (nAbs (v, g)).1 = ab v := fun v g h => by
      obtain ⟨h1, _⟩ := wh_split h
      show ab (whV v) = _
      unfold whV; rw [if_neg h1]
    rw [eU]
    intro z hz
    rw [vf1 rfl] at hz
    refine ⟨fun ht => ?_, fun ht => ⟨fun _ => trivial, ?_, ?_⟩⟩
    · rw [unS_none (by rw [hz] at ht; simpa using ht)]; rfl
    · intro hs z1 hz1 z2 hz2 z3 hz3 z4 hz4 z5 hz5 z6 hz6
      have ht2 : whF x e = false ∧ whF y f = false := by rw [hz] at ht; simpa using ht
      have ht : ¬ (whF x e = true ∨ whF y f = true) := by rw [ht2.1, ht2.2]; simp
      rw [eab x e ht2.1, eab y f ht2.2] at hs
      have hxb : -16777216 < x ∧ x < 16777216 := by unfold ab at hs; have := hs.1; split at this <;> omega
      have hyb : -16777216 < y ∧ y < 16777216 := by unfold ab at hs; have := hs.2; split at this <;> omega
      have hb : unB x y = ((x * 16777216, false), (y * 16777216, false)) := by unfold unB; rw [if_pos hs]
      rw [wrap_in (x := x * 16777216) (by unfold inR; omega)] at hz1
      rw [wrap_in (x := y * 16777216) (by unfold inR; omega)] at hz4
      have w1 : z2 = x * 16777216 := by rw [hz2, hz1]; unfold whV; rw [if_neg (by omega)]
      have w2 : z3 = false := by rw [hz3, hz1]; unfold whF; rw [decide_eq_false (by omega)]; rfl
      have w3 : z5 = y * 16777216 := by rw [hz5, hz4]; unfold whV; rw [if_neg (by omega)]
      have w4 : z6 = false := by rw [hz6, hz4]; unfold whF; rw [decide_eq_false (by omega)]; rfl
      rw [w1, w2, w3, w4]
      refine ⟨by unfold inR; omega, by unfold inR; omega, fun h => ?_, fun h => ⟨by unfold inR; omega, by unfold inR; omega, ?_⟩⟩
      · rw [unS_nul ht hb (by simpa [vLen] using h)]; rfl
      · rw [unS_some ht hb (by simpa [vLen] using h)]; rfl
    · intro hs
      have ht2 : whF x e = false ∧ whF y f = false := by rw [hz] at ht; simpa using ht
      have ht : ¬ (whF x e = true ∨ whF y f = true) := by rw [ht2.1, ht2.2]; simp
      rw [eab x e ht2.1, eab y f ht2.2] at hs
      have hb : unB x y = ((x, false), (y, false)) := by unfold unB; rw [if_neg (by simpa using hs)]
      obtain ⟨_, rfl⟩ := wh_split ht2.1
      obtain ⟨_, rfl⟩ := wh_split ht2.2
      refine ⟨fun h => ?_, fun h => ?_⟩
      · rw [unS_nul ht hb (by simpa [vLen] using h)]; rfl
      · rw [unS_some ht hb (by simpa [vLen] using h)]; rfl
  · cases hc
def k83 : Con
  | [.agg [.v (.int .i64 a), .v (.int .i64 b)], .agg [.v (.int .i64 c), .v (.int .i64 d)]] => some ([validS a b = true, validS c d = true], veA (vNorm a b c d))
  | _ => none
theorem kon83 : ConOK Tryz.prog 274 k83 := ConOK.of (G := [(276, k149), (141, k140)]) (H := []) (.cons kon149 (.cons kon140 .nil)) Tryz.func274 fun l ob r hc hob => by
  unfold k83 at hc
  split at hc
  · rename_i a b c d
    cases hc
    have h_0 : validS a b = true := hob _ (by simp)
    have h_1 : validS c d = true := hob _ (by simp)
    refine ⟨by kernel_rfl, fnVC_go (rs := [.cell 4 26]) rfl rfl ?_⟩
    simp only [go_sem, k149, k140]
    have v1 := validS_iff.1 h_0
    have v2 := validS_iff.1 h_1
    simp only [forall_eq]
    rw [wrap_in (x := d - b) (by unfold inR; omega), wrap_in (x := a - c) (by unfold inR; omega), show a - c = -(c - a) by omega]
    exact ⟨by unfold inR; omega, by unfold inR; omega, rfl⟩
  · cases hc
end Go.Ax
end
