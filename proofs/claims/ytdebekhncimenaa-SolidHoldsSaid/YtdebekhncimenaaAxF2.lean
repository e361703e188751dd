/-
  Forms: the reference's check; which spots a form has.
-/
import Derived.Test.YtdebekhncimenaaAxF1
set_option linter.unusedVariables false
set_option linter.unusedSimpArgs false
set_option maxHeartbeats 1000000
set_option maxRecDepth 100000
namespace Go.Ax
open Go.Proofs

theorem vc47 (k x y r : Int) (n : Nat) (X Y : Nat → Int) (hX : ∀ i, i < n → inR (X i) ∧ inR (Y i)) (hn : n ≤ 9223372036854775806) (hx : inR x) (hy : inR y) (hr : inR r) : fnVC Try.prog [(11, c11), (26, c25), (40, c40), (49, c41)] [] Try.f47 [formA k x y r n fun i => [i64 (X i), i64 (Y i)]] (· = i64 (checkS k x y r n X Y)) := by
  refine fnVC_go (rs := [.tmp 2]) rfl rfl ?_
  simp only [go_sem, c40]
  refine ⟨fun h => ?_, fun h z hz => ⟨fun h3 => ?_, fun h3 => ?_⟩⟩
  · have h1 : k ≠ 1 ∧ k ≠ 2 := by simpa using h
    unfold checkS; rw [if_pos h1]
  · have h1 : ¬ (k ≠ 1 ∧ k ≠ 2) := by simp at h; omega
    unfold checkS; rw [if_neg h1, if_pos]
    rintro ⟨v1, v2⟩
    rw [v1] at hz; rw [hz] at h3; cases h3
  have h1 : ¬ (k ≠ 1 ∧ k ≠ 2) := by simp at h; omega
  have v1 : validS x y = true := by rw [← hz]; exact h3
  refine loopC_go (fun (i : Nat) => i ≤ n ∧ ∀ j, j < i → validS (X j) (Y j) = true) (fun i => n - i) (fun i => [(3, i64 i)]) (fun _ => []) [0] [16, 17, 18, 19, 20, 23, 24, 25, 26, 27, 28, 29, 2, 21, 22, 3] 0 (by kernel_rfl) ?_ ⟨Nat.zero_le _, fun j hj => by omega⟩ ?_ ?_
  · intro x _; simp [goodNames]
  · simp only [go_sem]
  · intro i hi
    simp only [go_sem, c11, c25, c40, c41]
    refine ⟨fun hin => ⟨by omega, hin, fun z1 hz1 => ⟨fun h4 => ?_, fun h4 z2 hz2 => ⟨i + 1, ⟨by omega, fun j hj => ?_⟩, by omega, ?_⟩⟩⟩, fun hin => ?_⟩
    · unfold checkS; rw [if_neg h1, if_pos]
      rintro ⟨_, v2⟩
      rw [v2 i (by omega)] at hz1; rw [hz1] at h4; cases h4
    · by_cases e : j = i
      · subst e; rw [← hz1]; exact h4
      · exact hi.2 j (by omega)
    · rw [hz2, wrap_in (by unfold inR; omega)]; rfl
    have v2 : ∀ i, i < n → validS (X i) (Y i) = true := fun j hj => hi.2 j (by omega)
    have v3 := validS_iff.1 v1
    have h2 : ¬ ¬ (validS x y = true ∧ ∀ i, i < n → validS (X i) (Y i) = true) := fun hn => hn ⟨v1, v2⟩
    have hg : spots n fun i => [i64 (X i), i64 (Y i)] := fun i hi => ⟨rfl, hX i hi⟩
    have ec : convexS n (gx (fun i => [i64 (X i), i64 (Y i)]) 0) (gx (fun i => [i64 (X i), i64 (Y i)]) 1) = convexS n X Y := rfl
    rw [ec]
    have e0 : checkS k x y r n X Y = if k = 1 then (if 1 ≤ r ∧ (2097152 < r ∨ checkBoxS (x - r) (y - r) (x + r) (y + r) ≠ 0) then 3 else if r < 1 ∨ 0 < n then 5 else 0)
        else if r ≠ 0 ∨ 8 < n ∨ convexS n X Y = false then 5 else 0 := by unfold checkS; rw [if_neg h1, if_neg h2]
    rw [e0]
    refine ⟨fun hk z2 hz2 => ⟨fun a b => ⟨a, b⟩, fun h4 => ?_, fun h4 => ?_⟩, fun hk z2 hz2 => ⟨fun _ => hg, fun _ => hn, fun h4 => ?_, fun h4 => ?_⟩⟩
    · have hb : 0 < r → ¬ 2097152 < r → z2 = checkBoxS (x - r) (y - r) (x + r) (y + r) := fun a b => by
        rw [hz2, wrap_in (x := x - r) (by unfold inR; omega), wrap_in (x := y - r) (by unfold inR; omega), wrap_in (x := x + r) (by unfold inR; omega), wrap_in (x := y + r) (by unfold inR; omega)]
      rw [if_pos (by simpa using hk), if_pos]
      refine ⟨h4.1, ?_⟩
      by_cases hr2 : 2097152 < r
      · exact .inl hr2
      · rw [← hb (by omega) hr2]; exact .inr (by simpa using h4.2.resolve_left hr2)
    · have hb : 0 < r → ¬ 2097152 < r → z2 = checkBoxS (x - r) (y - r) (x + r) (y + r) := fun a b => by
        rw [hz2, wrap_in (x := x - r) (by unfold inR; omega), wrap_in (x := y - r) (by unfold inR; omega), wrap_in (x := x + r) (by unfold inR; omega), wrap_in (x := y + r) (by unfold inR; omega)]
      have h4' : ¬ (1 ≤ r ∧ (2097152 < r ∨ checkBoxS (x - r) (y - r) (x + r) (y + r) ≠ 0)) := by
        rintro ⟨a, b⟩
        simp only [a, decide_true, Bool.true_and, Bool.or_eq_false_iff, decide_eq_false_iff_not, bne_eq_false_iff_eq] at h4
        rw [← hb (by omega) h4.1] at b
        rcases b with b | b
        · exact h4.1 b
        · exact b h4.2
      rw [if_pos (by simpa using hk), if_neg h4']
      refine ⟨fun h5 => ?_, fun h5 => ?_⟩
      · rw [if_pos (by omega)]
      · rw [if_neg (by omega)]
    · rw [if_neg (by simpa using hk), if_pos]
      rw [← hz2]
      simp only [bne_iff_ne] at h4
      rcases h4 with ((a | a) | a) | a
      · exact .inl a
      · refine .inr (.inr (Bool.eq_false_iff.2 fun hc => ?_))
        rw [hz2] at hc
        have := (convexS_iff.1 hc).1
        omega
      · exact .inr (.inl (by omega))
      · exact .inr (.inr a)
    · rw [if_neg (by simpa using hk), if_neg]
      rw [← hz2]
      simp only [bne_eq_false_iff_eq] at h4
      rintro (a | a | a)
      · exact a h4.1.1.1
      · exact h4.1.2 (by omega)
      · rw [h4.2] at a; cases a
theorem con47 : ConOK Try.prog 47 c58 := ConOK.go (G := [(11, c11), (26, c25), (40, c40), (49, c41)]) (H := []) (.cons con11 (.cons con26 (.cons con40 (.cons con49 .nil)))) Try.func47 fun l ob rr hc hob => by
  unfold c58 at hc
  split at hc
  · rename_i k x y r n g
    cases hc
    have hs : spots n g := hob _ (by simp)
    exact ⟨[formA k x y r n fun i => [i64 (gx g 0 i), i64 (gx g 1 i)]], fun w I vs h => Rs_one (Rs_form hs) h, by kernel_rfl, vc47 k x y r n _ _ (fun i hi => (hs i hi).2) (hob _ (by simp)) (hob _ (by simp)) (hob _ (by simp)) (hob _ (by simp))⟩
  · cases hc

/-- A valid form as a figure. -/
def figA (k x y r : Int) (n : Nat) (g : Nat → List AV) : AV := if k = 1 then .iface 92 (.agg [i64 x, i64 y, i64 r]) else .iface 66 (.agg [.ro n 2 g])
theorem figA_eq {k x y r : Int} {n : Nat} {g : Nat → List AV} : figA k x y r n g = if k = 1 then .iface 92 (.agg [i64 x, i64 y, i64 r]) else .iface 66 (.agg [.ro n 2 g]) := (rfl)
def c46 : Con
  | [.agg [.v (.int .i64 k), .v (.int .i64 x), .v (.int .i64 y), .v (.int .i64 r), .ro n 2 g]] => some ([spots n g, n ≤ 9223372036854775806, inR x, inR y, inR r], if checkS k x y r n (gx g 0) (gx g 1) = 0 then (if k = 1 then .iface 92 (.agg [i64 x, i64 y, i64 r]) else .iface 66 (.agg [.ro n 2 g])) else .v .nilIface)
  | _ => none
theorem con46 : ConOK Try.prog 46 c46 := ConOK.of (G := [(58, c58)]) (H := []) (.cons con58 .nil) Try.func46 fun l ob rr hc hob => by
  unfold c46 at hc
  split at hc
  · rename_i k x y r n g
    cases hc
    have hs : spots n g := hob _ (by simp)
    have hn : n ≤ 9223372036854775806 := hob _ (by simp)
    have hx : inR x := hob _ (by simp)
    have hy : inR y := hob _ (by simp)
    have hr : inR r := hob _ (by simp)
    refine ⟨by kernel_rfl, fnVC_go (rs := [.tmp 2]) rfl rfl ?_⟩
    simp only [go_sem, c58]
    intro z hz
    refine ⟨hs, hn, hx, hy, hr, fun h => ?_, fun h => ⟨fun h2 => ?_, fun h2 => ?_⟩⟩
    · rw [if_neg]; rw [← hz]; simpa using h
    · rw [if_pos (by rw [← hz]; simpa using h), if_pos (by simpa using h2)]
    · rw [if_pos (by rw [← hz]; simpa using h), if_neg (by simpa using h2)]
  · cases hc

/-! ### Which spots a form has -/
def dist2 (x y px py : Int) : Int := (px - x) * (px - x) + (py - y) * (py - y)
theorem sq0 (a : Int) : 0 ≤ a * a := by rw [← Int.natAbs_mul_self]; exact Int.natCast_nonneg _
theorem dist2_bd {x y px py : Int} (h1 : validS x y = true) (h2 : validS px py = true) : 0 ≤ (px - x) * (px - x) ∧ (px - x) * (px - x) ≤ 17592186044416 ∧ 0 ≤ (py - y) * (py - y) ∧ (py - y) * (py - y) ≤ 17592186044416 ∧ sm (px - x) ∧ sm (py - y) := by
  rw [validS_iff] at h1 h2
  have a1 : sm (px - x) := by unfold sm; omega
  have a2 : sm (py - y) := by unfold sm; omega
  have b1 := sm_mul a1 a1
  have b2 := sm_mul a2 a2
  have c1 : 0 ≤ (px - x) * (px - x) := sq0 _
  have c2 : 0 ≤ (py - y) * (py - y) := sq0 _
  exact ⟨c1, b1.2, c2, b2.2, a1, a2⟩
theorem dist2_wrap {x y px py : Int} (h1 : validS x y = true) (h2 : validS px py = true) :
    IntKind.i64.wrap (IntKind.i64.wrap (IntKind.i64.wrap (px - x) * IntKind.i64.wrap (px - x)) + IntKind.i64.wrap (IntKind.i64.wrap (py - y) * IntKind.i64.wrap (py - y))) = dist2 x y px py := by
  obtain ⟨c1, b1, c2, b2, a1, a2⟩ := dist2_bd h1 h2
  unfold sm at a1 a2
  rw [wrap_in (x := px - x) (by unfold inR; omega), wrap_in (x := py - y) (by unfold inR; omega), wrap_in (x := (px - x) * (px - x)) (by unfold inR; omega), wrap_in (x := (py - y) * (py - y)) (by unfold inR; omega), wrap_in (by unfold inR; omega)]
  rfl
theorem sq_wrap {r : Int} (h : sm r) : IntKind.i64.wrap (r * r) = r * r := by
  have := sm_mul h h
  exact wrap_in (by unfold inR; omega)
def c139 : Con
  | [.agg [.v (.int .i64 x), .v (.int .i64 y), .v (.int .i64 r)], .agg [.v (.int .i64 px), .v (.int .i64 py)]] => some ([validS x y = true, validS px py = true, sm r], bo (decide (dist2 x y px py ≤ r * r)))
  | _ => none
theorem con139 : ConOK Try.prog 139 c139 := ConOK.of (G := [(56, c56), (69, c69)]) (H := []) (.cons con56 (.cons con69 .nil)) Try.func139 fun l ob rr hc hob => by
  unfold c139 at hc
  split at hc
  · rename_i x y r px py
    cases hc
    have h1 : validS x y = true := hob _ (by simp)
    have h2 : validS px py = true := hob _ (by simp)
    have h3 : sm r := hob _ (by simp)
    refine ⟨by kernel_rfl, fnVC_go (rs := [.tmp 4]) rfl rfl ?_⟩
    simp only [go_sem, c56, c69]
    intro z hz z1 hz1 z2 hz2 z3 hz3
    subst hz hz1
    rw [hz2, hz3, dist2_wrap h1 h2, sq_wrap h3]
  · cases hc
/-- The spot is on no edge's right. -/
def inS (n : Nat) (X Y : Nat → Int) (px py : Int) : Bool := decide (∀ i, i < n → 0 ≤ turnS (X i) (Y i) (X (nxt n i)) (Y (nxt n i)) px py)
theorem inS_iff {n : Nat} {X Y : Nat → Int} {px py : Int} : inS n X Y px py = true ↔ ∀ i, i < n → 0 ≤ turnS (X i) (Y i) (X (nxt n i)) (Y (nxt n i)) px py := by unfold inS; simp
def c70 : Con
  | [.agg [.ro n 2 g], .agg [.v (.int .i64 px), .v (.int .i64 py)]] => some ([spots n g, n ≤ 9223372036854775806, ∀ i, i < n → validS (gx g 0 i) (gx g 1 i) = true, validS px py = true], bo (inS n (gx g 0) (gx g 1) px py))
  | _ => none
theorem vc70 (n : Nat) (X Y : Nat → Int) (px py : Int) (hX : ∀ i, i < n → inR (X i) ∧ inR (Y i)) (hn : n ≤ 9223372036854775806) (hv : ∀ i, i < n → validS (X i) (Y i) = true) (hp : validS px py = true) : fnVC Try.prog [(42, c42), (45, c45), (1000000 + 57, c57)] [] Try.f70 [.agg [.ro n 2 fun i => [i64 (X i), i64 (Y i)]], .agg [i64 px, i64 py]] (· = bo (inS n X Y px py)) := by
  refine fnVC_go (rs := [.cell 4 4]) rfl rfl ?_
  simp only [go_sem, c45]
  have hg : spots n fun i => [i64 (X i), i64 (Y i)] := fun i hi => ⟨rfl, hX i hi⟩
  refine rangeC_go (fun (i : Nat) => i ≤ n ∧ ∀ j, j < i → 0 ≤ turnS (X j) (Y j) (X (nxt n j)) (Y (nxt n j)) px py) (fun i => i) (fun _ => []) [2, 1, 0] [9, 10, 5, 6, 11, 12, 13, 14, 15] 0 0 (N := n) (sq := edgeE n fun i => [i64 (X i), i64 (Y i)]) (ob := [spots n fun i => [i64 (X i), i64 (Y i)], n ≤ 9223372036854775806]) rfl (by simp [hg, hn]) (by kernel_rfl) rfl (fun i _ => ⟨rfl, rfl⟩) ⟨Nat.zero_le _, fun j hj => by omega⟩ rfl ⟨[], ?_, ?_, ?_⟩ ?_ ?_
  · simp only [go_sem]
  · simp only [go_sem]
  · simp [goodNames, asg]
  · intro i hi hlt
    simp only [go_sem, edgeE, c42]
    refine fun z hz => ⟨hv i hlt, hv _ (nxt_lt hlt), hp, fun h => false_of fun hc => ?_, fun h => ⟨i + 1, ⟨by have : i < n := hlt; omega, fun j hj => ?_⟩, rfl, [], ?_⟩⟩
    · have := inS_iff.1 hc i hlt; omega
    · by_cases e : j = i
      · subst e; omega
      · exact hi.2 j (by omega)
    · simp [goodNames]
  · intro i hi he
    simp only [go_sem]
    exact (inS_iff.2 fun j hj => hi.2 j (by omega)).symm
theorem con70 : ConOK Try.prog 70 c70 := ConOK.go (G := [(42, c42), (45, c45), (1000000 + 57, c57)]) (H := []) (.cons con42 (.cons con45 (.seq seq57 .nil))) Try.func70 fun l ob rr hc hob => by
  unfold c70 at hc
  split at hc
  · rename_i n g px py
    cases hc
    have hs : spots n g := hob _ (by simp)
    refine ⟨[.agg [.ro n 2 fun i => [i64 (gx g 0 i), i64 (gx g 1 i)]], .agg [i64 px, i64 py]], fun w I vs h => Rs_two (Rs_poly hs) (fun v h => h) h, by kernel_rfl, vc70 n _ _ px py (fun i hi => (hs i hi).2) (hob _ (by simp)) (hob _ (by simp)) (hob _ (by simp))⟩
  · cases hc
/-- The form has the spot. -/
def holdsS (k x y r : Int) (n : Nat) (X Y : Nat → Int) (px py : Int) : Bool := if k = 1 then decide (dist2 x y px py ≤ r * r) else inS n X Y px py
theorem check_1 {k x y r : Int} {n : Nat} {X Y : Nat → Int} (h : checkS k x y r n X Y = 0) : (k = 1 ∨ k = 2) ∧ validS x y = true ∧ (∀ i, i < n → validS (X i) (Y i) = true) ∧ (k = 1 → 1 ≤ r ∧ r ≤ 2097152 ∧ checkBoxS (x - r) (y - r) (x + r) (y + r) = 0 ∧ n = 0) ∧ (k ≠ 1 → r = 0 ∧ n ≤ 8 ∧ convexS n X Y = true) := by
  unfold checkS at h
  split at h
  · omega
  · split at h
    · omega
    · rename_i h1 h2
      have h2 : validS x y = true ∧ ∀ i, i < n → validS (X i) (Y i) = true := Decidable.of_not_not h2
      split at h
      · rename_i h3
        split at h
        · omega
        · rename_i h4
          split at h
          · omega
          · rename_i h5
            refine ⟨.inl h3, h2.1, h2.2, fun _ => ⟨by omega, by omega, ?_, by omega⟩, fun h => absurd h3 h⟩
            by_cases e : checkBoxS (x - r) (y - r) (x + r) (y + r) = 0
            · exact e
            · exact absurd ⟨by omega, .inr e⟩ h4
      · rename_i h3
        split at h
        · omega
        · rename_i h5
          refine ⟨by omega, h2.1, h2.2, fun h => absurd h h3, fun _ => ⟨by omega, by omega, ?_⟩⟩
          cases hc : convexS n X Y
          · exact absurd (.inr (.inr hc)) h5
          · rfl
def c30 : Con
  | [.agg [.v (.int .i64 k), .v (.int .i64 x), .v (.int .i64 y), .v (.int .i64 r), .ro n 2 g], .agg [.v (.int .i64 px), .v (.int .i64 py)]] => some ([spots n g, n ≤ 9223372036854775806, inR x, inR y, inR r, inR px, inR py], bo (decide (checkS k x y r n (gx g 0) (gx g 1) = 0) && validS px py && holdsS k x y r n (gx g 0) (gx g 1) px py))
  | _ => none
theorem con30 : ConOK Try.prog 30 c30 := ConOK.of (G := [(39, c39), (46, c46), (70, c70), (139, c139)]) (H := []) (.cons con39 (.cons con46 (.cons con70 (.cons con139 .nil)))) Try.func30 fun l ob rr hc hob => by
  unfold c30 at hc
  split at hc
  · rename_i k x y r n g px py
    cases hc
    have hs : spots n g := hob _ (by simp)
    have hn : n ≤ 9223372036854775806 := hob _ (by simp)
    have hx : inR x := hob _ (by simp)
    have hy : inR y := hob _ (by simp)
    have hr : inR r := hob _ (by simp)
    have hpx : inR px := hob _ (by simp)
    have hpy : inR py := hob _ (by simp)
    refine ⟨by kernel_rfl, fnVC_go (rs := [.tmp 4]) rfl rfl ?_⟩
    simp only [go_sem, c39, c46, c70, c139]
    have hfa : fairS 1 (gx (rowsOf 2 [AV.v (Value.int IntKind.i64 px), AV.v (Value.int IntKind.i64 py)]) 0) (gx (rowsOf 2 [AV.v (Value.int IntKind.i64 px), AV.v (Value.int IntKind.i64 py)]) 1) = validS px py := fair1 rfl
    have hsp : spots 1 (rowsOf 2 [AV.v (Value.int IntKind.i64 px), AV.v (Value.int IntKind.i64 py)]) := spots1 rfl hpx hpy
    rw [hfa]
    refine ⟨fun hc => ?_, fun hc => ?_⟩
    · obtain ⟨hk, v1, v2, h1, h2⟩ := check_1 hc
      refine ⟨fun hk1 => ⟨hs, hn, hx, hy, hr, fun z hz => ⟨fun _ => hsp, fun z1 hz1 => ⟨fun _ => v1, fun h => by rw [← hz]; exact h, fun _ => by have := h1 hk1; unfold sm; omega, ?_⟩⟩⟩,
        fun hk1 => ⟨hs, hn, hx, hy, hr, fun z hz => ⟨fun _ => hsp, fun z1 hz1 => ⟨fun _ => hs, fun _ => hn, fun _ => v2, fun h => by rw [← hz]; exact h, ?_⟩⟩⟩⟩
      · rw [hz, hz1]; unfold holdsS; rw [if_pos hk1, decide_eq_true hc]; rfl
      · rw [hz, hz1]; unfold holdsS; rw [if_neg hk1, decide_eq_true hc]; rfl
    · rw [decide_eq_false hc]
      refine ⟨hs, hn, hx, hy, hr, fun z hz => ⟨fun h => h.elim, fun h => h.elim, ?_⟩⟩
      simp
  · cases hc
theorem vc48 (k x y r : Int) (n : Nat) (X Y : Nat → Int) (px py : Int) (hc : checkS k x y r n X Y = 0) (hp : validS px py = true) (hn : n ≤ 9223372036854775806) : fnVC Try.prog [(24, c24), (44, c44), (59, c69)] [] Try.f48 [formA k x y r n fun i => [i64 (X i), i64 (Y i)], .agg [i64 px, i64 py]] (· = bo (holdsS k x y r n X Y px py)) := by
  refine fnVC_go (rs := [.tmp 4]) rfl rfl ?_
  simp only [go_sem, c44, c69]
  obtain ⟨hk, v1, v2, h1, h2⟩ := check_1 hc
  refine ⟨fun hk1 z hz z1 hz1 z2 hz2 z3 hz3 => ?_, fun hk1 => ?_⟩
  · have hk1 : k = 1 := by simpa using hk1
    subst hz hz1
    rw [hz2, hz3, dist2_wrap v1 hp, sq_wrap (by have := h1 hk1; unfold sm; omega)]
    unfold holdsS; rw [if_pos hk1]
  have hk1 : k ≠ 1 := by simpa using hk1
  have h3 := (convexS_iff.1 (h2 hk1).2.2).1
  have eh : holdsS k x y r n X Y px py = inS n X Y px py := by unfold holdsS; rw [if_neg hk1]
  rw [eh]
  refine loopC_go (fun (i : Nat) => i ≤ n ∧ ∀ j, j < i → 0 ≤ turnS (X j) (Y j) (X (nxt n j)) (Y (nxt n j)) px py) (fun i => n - i) (fun i => [(6, i64 i)]) (fun _ => []) [1, 0] [23, 24, 25, 26, 27, 30, 31, 32, 33, 34, 35, 36, 37, 38, 39, 40, 41, 42, 43, 44, 45, 46, 47, 4, 28, 29, 6] 0 (by kernel_rfl) ?_ ⟨Nat.zero_le _, fun j hj => by omega⟩ ?_ ?_
  · intro x _; simp [goodNames]
  · simp only [go_sem]
  · intro i hi
    have hn0 : ((n : Int) = 0) = False := eq_false (by omega)
    simp only [go_sem, hn0, c24]
    have ei : i < n → IntKind.i64.wrap ((i : Int) + 1) = i + 1 := fun h => wrap_in (by unfold inR; omega)
    refine ⟨fun hin => ?_, fun hin => (inS_iff.2 fun j hj => hi.2 j (by omega)).symm⟩
    have hin' : i < n := by omega
    refine ⟨by omega, hin, fun z hz z1 hz1 => ?_⟩
    rw [hz, ei hin', tmod_nxt hin'] at hz1
    have hnl := nxt_lt hin'
    subst hz1
    have es : sideS (X i) (Y i) (X (nxt n i)) (Y (nxt n i)) px py < 0 ↔ turnS (X i) (Y i) (X (nxt n i)) (Y (nxt n i)) px py < 0 := by
      unfold sideS
      rw [if_pos ⟨v2 i hin', v2 _ hnl, hp⟩]
      split
      · omega
      · split <;> omega
    refine ⟨by omega, by omega, fun z2 hz2 => ?_⟩
    simp only [Int.toNat_natCast] at hz2
    refine ⟨fun h => false_of fun hc => ?_, fun h z3 hz3 => ⟨i + 1, ⟨by omega, fun j hj => ?_⟩, by omega, ?_⟩⟩
    · have := inS_iff.1 hc i hin'
      rw [hz2] at h
      have := es.1 h
      omega
    · by_cases e : j = i
      · subst e
        rw [hz2] at h
        have : ¬ turnS (X j) (Y j) (X (nxt n j)) (Y (nxt n j)) px py < 0 := fun a => h (es.2 a)
        omega
      · exact hi.2 j (by omega)
    · rw [hz3, ei hin']; rfl
def c48 : Con
  | [.agg [.v (.int .i64 k), .v (.int .i64 x), .v (.int .i64 y), .v (.int .i64 r), .ro n 2 g], .agg [.v (.int .i64 px), .v (.int .i64 py)]] => some ([spots n g, n ≤ 9223372036854775806, checkS k x y r n (gx g 0) (gx g 1) = 0, validS px py = true], bo (holdsS k x y r n (gx g 0) (gx g 1) px py))
  | _ => none
theorem con48 : ConOK Try.prog 48 c48 := ConOK.go (G := [(24, c24), (44, c44), (59, c69)]) (H := []) (.cons con24 (.cons con44 (.cons con59 .nil))) Try.func48 fun l ob rr hc hob => by
  unfold c48 at hc
  split at hc
  · rename_i k x y r n g px py
    cases hc
    have hs : spots n g := hob _ (by simp)
    exact ⟨[formA k x y r n fun i => [i64 (gx g 0 i), i64 (gx g 1 i)], .agg [i64 px, i64 py]], fun w I vs h => Rs_two (Rs_form hs) (fun v h => h) h, by kernel_rfl, vc48 k x y r n _ _ px py (hob _ (by simp)) (hob _ (by simp)) (hob _ (by simp))⟩
  · cases hc
theorem con31 : ConOK Try.prog 31 c30 := ConOK.of (G := [(40, c40), (47, c58), (48, c48)]) (H := []) (.cons con40 (.cons con47 (.cons con48 .nil))) Try.func31 fun l ob rr hc hob => by
  unfold c30 at hc
  split at hc
  · rename_i k x y r n g px py
    cases hc
    have hs : spots n g := hob _ (by simp)
    have hn : n ≤ 9223372036854775806 := hob _ (by simp)
    have hx : inR x := hob _ (by simp)
    have hy : inR y := hob _ (by simp)
    have hr : inR r := hob _ (by simp)
    refine ⟨by kernel_rfl, fnVC_go (rs := [.tmp 4]) rfl rfl ?_⟩
    simp only [go_sem, c40, c58, c48]
    intro z hz
    refine ⟨hs, hn, hx, hy, hr, fun z1 hz1 z2 hz2 => ⟨fun _ => hs, fun _ => hn, fun h => by rw [← hz]; simpa using h.1, fun h => by rw [← hz1]; exact h.2, ?_⟩⟩
    rw [hz1, hz2, hz]
    congr 2
  · cases hc
end Go.Ax
