/-
  Spots: sides, convex spots.
-/
import Derived.Test.YtdebekhncimenaaAxZ5
set_option linter.unusedVariables false
set_option linter.unusedSimpArgs false
set_option maxHeartbeats 1000000
set_option maxRecDepth 100000
namespace Go.Ax
open Go.Proofs

def c24 : Con
  | [.agg [.v (.int .i64 a), .v (.int .i64 b)], .agg [.v (.int .i64 c), .v (.int .i64 d)], .agg [.v (.int .i64 e), .v (.int .i64 f)]] => some ([], i64 (sideS a b c d e f))
  | _ => none
/-- As the reference turns. -/
theorem turn_wrap' {ax ay bx byy cx cy : Int} (ha : validS ax ay = true) (hb : validS bx byy = true) (hc : validS cx cy = true) :
    IntKind.i64.wrap (IntKind.i64.wrap (IntKind.i64.wrap (bx - ax) * IntKind.i64.wrap (cy - ay)) - IntKind.i64.wrap (IntKind.i64.wrap (byy - ay) * IntKind.i64.wrap (cx - ax))) = turnS ax ay bx byy cx cy := turn_wrap ha hb hc
theorem con24 : ConOK Try.prog 24 c24 := ConOK.of (G := [(40, c40), (43, c55), (44, c44)]) (H := []) (.cons con40 (.cons con43 (.cons con44 .nil))) Try.func24 fun l ob r hc hob => by
  unfold c24 at hc
  split at hc
  · rename_i a b c d e f
    cases hc
    refine ⟨by kernel_rfl, fnVC_go (rs := [.tmp 6]) rfl rfl ?_⟩
    simp only [go_sem, c40, c44, c55]
    intro z hz z1 hz1 z2 hz2
    subst hz hz1 hz2
    refine ⟨fun h => ?_, fun h x0 h0 x1 h1 x2 h2 x3 h3 t ht => ?_⟩
    · unfold sideS; rw [if_neg]; rintro ⟨k1, k2, k3⟩; rw [k1, k2, k3] at h; simp at h
    · have hv : validS a b = true ∧ validS c d = true ∧ validS e f = true := ⟨h.1.1, h.1.2, h.2⟩
      subst h0 h1 h2 h3
      rw [turn_wrap' hv.1 hv.2.1 hv.2.2] at ht
      refine ⟨fun k => ?_, fun k => ⟨fun k2 => ?_, fun k2 => ?_⟩⟩
      · unfold sideS; rw [if_pos hv, ← ht, if_pos k]
      · unfold sideS; rw [if_pos hv, ← ht, if_neg k, if_pos k2]
      · unfold sideS; rw [if_pos hv, ← ht, if_neg k, if_neg k2]
  · cases hc
def c45 : Con
  | [.agg [.ro n 2 g]] => some ([], .fn 57 [.rop [.ro n 2 g]])
  | _ => none
theorem con45 : ConOK Try.prog 45 c45 := ConOK.of (G := []) (H := []) .nil Try.func45 fun l ob r hc hob => by
  unfold c45 at hc
  split at hc
  · rename_i n g
    cases hc
    refine ⟨by kernel_rfl, fnVC_go (rs := [.tmp 2]) rfl rfl ?_⟩
    simp only [go_sem]
  · cases hc

theorem tmod_nxt {n i : Nat} (h : i < n) : Int.tmod ((i : Int) + 1) n = (nxt n i : Nat) := by
  unfold nxt
  by_cases e : i + 1 < n
  · rw [if_pos e, Int.tmod_eq_of_lt (by omega) (by omega)]; rfl
  · have : i + 1 = n := by omega
    rw [if_neg e, show (i : Int) + 1 = n by omega, Int.tmod_self]; rfl
/-- The spots are convex. -/
def convexS (n : Nat) (X Y : Nat → Int) : Bool := decide (3 ≤ n ∧ (∀ i, i < n → validS (X i) (Y i) = true) ∧ ∀ i, i < n → ∀ k, k < n → k ≠ i → k ≠ nxt n i → 0 < turnS (X i) (Y i) (X (nxt n i)) (Y (nxt n i)) (X k) (Y k))
theorem convexS_iff {n : Nat} {X Y : Nat → Int} : convexS n X Y = true ↔ 3 ≤ n ∧ (∀ i, i < n → validS (X i) (Y i) = true) ∧ ∀ i, i < n → ∀ k, k < n → k ≠ i → k ≠ nxt n i → 0 < turnS (X i) (Y i) (X (nxt n i)) (Y (nxt n i)) (X k) (Y k) := by unfold convexS; simp
def c25 : Con
  | [.ro n 2 g] => some ([spots n g, n ≤ 9223372036854775806], bo (convexS n (gx g 0) (gx g 1)))
  | _ => none
theorem vc25 (n : Nat) (X Y : Nat → Int) (hX : ∀ i, i < n → inR (X i) ∧ inR (Y i)) (hn : n ≤ 9223372036854775806) : fnVC Try.prog [(39, c39), (42, c42), (45, c45), (1000000 + 57, c57)] [] Try.f25 [.ro n 2 fun i => [i64 (X i), i64 (Y i)]] (· = bo (convexS n X Y)) := by
  refine fnVC_go (rs := [.cell 2 4]) rfl rfl ?_
  simp only [go_sem, c39, c45]
  intro z hz
  have hg : spots n fun i => [i64 (X i), i64 (Y i)] := fun i hi => ⟨rfl, hX i hi⟩
  have hzz : z = true ↔ ∀ i, i < n → validS (X i) (Y i) = true := by rw [hz]; exact fairS_iff
  refine ⟨fun _ => hg, fun _ => by omega, fun h => false_of fun hc => ?_, fun h => ?_⟩
  · have := convexS_iff.1 hc
    rcases h with h | h
    · omega
    · rw [hzz.2 this.2.1] at h; cases h
  have hv := hzz.1 h.2
  have h3 : 3 ≤ n := by omega
  let good : Nat → Prop := fun i => ∀ k, k < n → k ≠ i → k ≠ nxt n i → 0 < turnS (X i) (Y i) (X (nxt n i)) (Y (nxt n i)) (X k) (Y k)
  refine rangeC_go (fun (i : Nat) => i ≤ n ∧ ∀ j, j < i → good j) (fun i => i) (fun i => [(10, fam1 3 1 [i64 i] none)]) [1, 0] [19, 20, 4, 5, 21, 22, 23, 24, 25, 26, 27, 7, 6, 28, 29, 30, 31, 32, 33, 34, 35, 36, 37, 38, 39, 40, 41, 42, 43, 44, 45, 46, 47, 23, 48, 49] 0 0 (N := n) (sq := edgeE n fun i => [i64 (X i), i64 (Y i)]) (ob := [spots n fun i => [i64 (X i), i64 (Y i)], n ≤ 9223372036854775806]) rfl (by simp [hg, hn]) (by kernel_rfl) rfl (fun i _ => ⟨rfl, rfl⟩) ⟨Nat.zero_le _, fun j hj => by omega⟩ rfl ⟨[], ?_, ?_, ?_⟩ ?_ ?_
  · simp only [go_sem]
  · simp only [go_sem]
  · simp [goodNames, asg]
  · intro i hi hlt
    simp only [go_sem, edgeE]
    have hnl : nxt n i < n := nxt_lt hlt
    have hin : i < n := hlt
    refine loopC_go (fun (k : Nat) => k ≤ n ∧ ∀ q, q < k → q ≠ i → q ≠ nxt n i → 0 < turnS (X i) (Y i) (X (nxt n i)) (Y (nxt n i)) (X q) (Y q)) (fun k => n - k) (fun k => [(23, i64 k)]) (fun _ => []) [17, 15, 10, 1, 0] [24, 25, 26, 27, 7, 6, 28, 29, 30, 31, 32, 33, 34, 35, 36, 37, 38, 39, 40, 41, 42, 43, 44, 45, 46, 47, 23] 0 (by kernel_rfl) ?_ ⟨Nat.zero_le _, fun j hj => by omega⟩ ?_ ?_
    · intro x _; simp [goodNames]
    · simp only [go_sem]
    · intro k hk
      have hn0 : ((n : Int) = 0) = False := eq_false (by omega)
      simp only [go_sem, c42, hn0]
      have ei : IntKind.i64.wrap ((i : Int) + 1) = i + 1 := wrap_in (by unfold inR; omega)
      have ek : k < n → IntKind.i64.wrap ((k : Int) + 1) = k + 1 := fun h => wrap_in (by unfold inR; omega)
      have bn : ∀ x y : Nat, ((x : Int) != (y : Int)) = true ↔ x ≠ y := fun x y => by rw [bne_iff_ne]; omega
      refine ⟨fun hkn => ⟨by omega, hkn, fun z1 hz1 z2 hz2 t ht => ?_⟩, fun hkn z1 hz1 => ⟨i + 1, ⟨by omega, fun j hj => ?_⟩, rfl, [], ?_, ?_⟩⟩
      · rw [ei] at hz1
        rw [hz1, tmod_nxt hin] at hz2
        subst hz2
        have hkn' : k < n := by omega
        refine ⟨fun _ => hv i hin, fun _ => hv _ hnl, fun _ => hv k hkn', fun hb => false_of fun hc => ?_, fun hb z3 hz3 => ⟨k + 1, ⟨by omega, fun q hq h1 h2 => ?_⟩, by omega, ?_⟩⟩
        · have := (convexS_iff.1 hc).2.2 i hin k hkn' ((bn _ _).1 hb.1.1) ((bn _ _).1 hb.1.2)
          omega
        · by_cases e : q = k
          · subst e
            rw [(bn q i).2 h1, (bn q (nxt n i)).2 h2] at hb
            simp at hb
            omega
          · exact hk.2 q (by omega) h1 h2
        · rw [hz3, ek hkn']; omega
      · by_cases e : j = i
        · subst e
          intro q hq h1 h2
          exact hk.2 q (by omega) h1 h2
        · exact hi.2 j (by omega)
      · simp only [go_sem]
        rw [hz1, ei]; rfl
      · simp [goodNames, asg]
  · intro i hi he
    simp only [go_sem]
    refine (convexS_iff.2 ⟨h3, hv, fun j hj => ?_⟩).symm ▸ rfl
    exact hi.2 j (by omega)
theorem con25 : ConOK Try.prog 25 c25 := ConOK.go (G := [(39, c39), (42, c42), (45, c45), (1000000 + 57, c57)]) (H := []) (.cons con39 (.cons con42 (.cons con45 (.seq seq57 .nil)))) Try.func25 fun l ob r hc hob => by
  unfold c25 at hc
  split at hc
  · rename_i n g
    cases hc
    have hs : spots n g := hob _ (by simp)
    refine ⟨[.ro n 2 fun i => [i64 (gx g 0 i), i64 (gx g 1 i)]], fun w I vs h => Rs_one (fun v => ro_alike fun i hi => (hs i hi).1) h, by kernel_rfl, vc25 n _ _ (fun i hi => (hs i hi).2) (hob _ (by simp))⟩
  · cases hc
end Go.Ax
